/- Merged texts: part 9. No conditions of their own. -/
import Derived.Test.YtdcccmadhipinaaGreatG8
namespace Go.Proofs.YtdcccmadhipinaaGreat
variable {A1 A10 A12 A13 A14 A15 A16 A2 A3 A4 A5 A6 A8 A9:Option Addr} {B1 B2 B6 B7 B9 M11 M3 M7 M8 c1 c10 c12 c13 c14 c15 c16 c2 c3 c4 c5 c6 c8 c9 n1 n10 n12 n13 n14 n15 n16 n2 n3 n4 n5 n6 n8 n9:Nat}
open Go.RowKit Asn
set_option maxRecDepth 20000
def zo (N:Nat)(p7:Int):Option (Int×Bool):=
 bif decide (4294967294<p7) then (some (0,false)) else (some (p7,true))
def ts (N:Nat)(a0:ByteArray):Nat→Int→Int→Option (Int×Bool)
 |0,_,_=>none
 |m8+1,p9,p10=>bif decide (p10<(a0.size:Int)) then ((KW a0 p10).bind fun x12=>(bif decide (x12<48) then (some true) else ((KW a0 p10).bind fun x14=>some (decide (57<x14)))).bind fun b13=>bif b13 then (some (0,false)) else (bi (in64 (10*p9)) ((KW a0 p10).bind fun x17=>bi (in64 ((10*p9)+(IntKind.i64.wrap (IntKind.u8.wrap (x17 - 48))))) (bi (in64 (p10+1)) ((ts N a0 m8) ((10*p9)+(IntKind.i64.wrap (IntKind.u8.wrap (x17 - 48)))) (p10+1)))))) else (zo N p9)
def Bl (N:Nat)(a0:ByteArray):Option (Int×Bool):=
 (bif a0.toList==(⟨#[]⟩:ByteArray).toList then (some true) else (some (decide (10<(a0.size:Int))))).bind fun b1=>(bif b1 then (some true) else ((KW a0 0).bind fun x3=>(bif decide (x3=48) then (some (decide (1<(a0.size:Int)))) else (some false)).bind fun b4=>some b4)).bind fun b2=>bif b2 then (some (0,false)) else (ts N a0 N 0 0)
set_option maxHeartbeats 4000000 in
theorem FL {N:Nat}{a0:ByteArray}{r:(Int×Bool)}(h:Bl N a0=some r):Okc Tryz.prog 187 [.string a0] ([]) (fun u post=>u=.tuple #[iV r.1,.bool r.2]∧post=[]):=by
 refine bp Tryz.func187 J J ?_;simp only [aP];refine Y ?_;refine ax ?_;refine Y ?_;refine gE (zF J J) ?_;refine Y ?_;obtain ⟨b1,hb1,h⟩:=aa h;refine aO 4 12 b1 ?_ ?_
 ·clear h;refine aN 8 J (fun g1=> ?_) (fun g1=> ?_)
  ·have h:=ag g1 hb1;refine Y ?_;obtain rfl:=aq h;exact ae sA (cS [] 0)
  have h:=ah g1 hb1;refine Y ?_;refine o8 (zH J t5) J (eS g1 J) J ?_;refine Y ?_;obtain rfl:=aq h;exact ae sA (cS [] 0)
 refine Y ?_;obtain ⟨b2,hb2,h⟩:=aa h;refine aO 9 22 b2 ?_ ?_
 ·clear h;refine aN 13 J (fun g2=> ?_) (fun g2=> ?_)
  ·have h:=ag g2 hb2;refine Y ?_;obtain rfl:=aq h;exact ae sA (cS [] 0)
  have h:=ah g2 hb2;refine Y ?_;obtain ⟨x3,hx3,h⟩:=aa h;refine o8 (wz J J t5 hx3) J (eS g2 J) J ?_;refine Y ?_;obtain ⟨b4,hb4,h⟩:=aa h;refine aO 4 21 b4 ?_ ?_
  ·clear h;refine aN 17 J (fun g4=> ?_) (fun g4=> ?_)
   ·have h:=ag g4 hb4;refine Y ?_;refine o8 (zH J t5) J (bU g4 J) J ?_;refine Y ?_;obtain rfl:=aq h;exact ae sA (cS [] 0)
   have h:=ah g4 hb4;refine Y ?_;obtain rfl:=aq h;exact ae sA (cS [] 0)
  refine Y ?_;obtain rfl:=aq h;exact ae sA (cS [] 0)
 refine Y ?_;refine au J (fun g5=> ?_) (fun g5=> ?_)
 ·replace h:=ag g5 h;refine Y ?_;obtain rfl:=aq h;exact nN J J J (cS [] 0) ⟨J,J⟩
 replace h:=ah g5 h;refine Y ?_;refine aM (fun s L=> ∃p7,zo N p7=some r∧s=[(2,iV 0),(3,.bool false),(4,iV p7)]∧L=[]) ?_ ?_
 ·refine Y ?_;refine gE (zH J t5) ?_;refine Y ?_;refine bv (fun m s L=> ∃p9 p10,ts N a0 m p9 p10=some r∧s=[(0,.string a0),(2,iV 0),(3,.bool false),(4,iV p9),(24,iV (a0.size:Int)),(25,iV p10)]∧L=[]) N _ _ ⟨0,0,h,J,J⟩ sA (cS [] 0) ?_;rintro (_|m8) _ _ ⟨p9,p10,h,rfl,rfl⟩
  ·exact aG h
  rw [ts.eq_2] at h;refine Y ?_;refine ax ?_;refine au J (fun g11=> ?_) (fun g11=> ?_)
  ·replace h:=ag g11 h;refine Y ?_;refine ax ?_;refine Y ?_;refine ax ?_;refine Y ?_;obtain ⟨x12,hx12,h⟩:=aa h;refine gE (wz J J t5 hx12) ?_;refine Y ?_;obtain ⟨b13,hb13,h⟩:=aa h;refine aO 5 37 b13 ?_ ?_
   ·clear h;refine aN 32 J (fun g13=> ?_) (fun g13=> ?_)
    ·have h:=ag g13 hb13;refine Y ?_;obtain rfl:=aq h;exact ae sA (cS [] 0)
    have h:=ah g13 hb13;refine Y ?_;obtain ⟨x14,hx14,h⟩:=aa h;refine o8 (wz J J t5 hx14) J (eS g13 J) J ?_;refine Y ?_;obtain rfl:=aq h;exact ae sA (cS [] 0)
   refine Y ?_;refine au J (fun g15=> ?_) (fun g15=> ?_)
   ·replace h:=ag g15 h;refine Y ?_;obtain rfl:=aq h;exact nN J J J (cS [] 0) ⟨J,J⟩
   replace h:=ah g15 h;refine Y ?_;obtain ⟨q16,h⟩:=ap h;refine gE (rZ J J q16.1 q16.2) ?_;refine Y ?_;obtain ⟨x17,hx17,h⟩:=aa h;refine gE (wz J J t5 hx17) ?_;refine gE (Ou J J) ?_;refine gE (Mw J J hP) ?_;obtain ⟨q18,h⟩:=ap h;refine gE (aW J J q18.1 q18.2) ?_;refine Y ?_;obtain ⟨q19,h⟩:=ap h;refine gE (aW J J q19.1 q19.2) ?_;refine Y ?_;exact ⟨m8,_,_,Tk _,⟨(10*p9)+(IntKind.i64.wrap (IntKind.u8.wrap (x17 - 48))),p10+1,h,J,J⟩,sA,cS [] 0⟩
  replace h:=ah g11 h;refine Y ?_;exact ⟨_,_,⟨p9,h,J,J⟩,sA,cS [] 0⟩
 rintro _ _ ⟨p7,h,rfl,rfl⟩;refine ax ?_;refine Y ?_;refine au J (fun g20=> ?_) (fun g20=> ?_)
 ·replace h:=ag g20 h;refine Y ?_;obtain rfl:=aq h;exact nN J J J (cS [] 0) ⟨J,J⟩
 replace h:=ah g20 h;refine Y ?_;obtain rfl:=aq h;exact nN J J J (cS [] 0) ⟨J,J⟩
theorem Dg {r:(Int×Bool)}: ∀v post,((fun (u:Value) (post:List Chunk)=>u=.tuple #[iV r.1,.bool r.2]∧post=[])) v post→ ∀c∈post,ce c:=by
 rintro _ _ ⟨rfl,rfl⟩;exact ac
def Bk (N:Nat)(a0:SN):Option Bool:=
 bif decide (a0.Kind=0) then ((bif a0.S.toList==(⟨#[]⟩:ByteArray).toList then (some (decide (0≤a0.N))) else (some false)).bind fun b3=>(bif b3 then (some (decide (a0.N≤4294967294))) else (some false)).bind fun b4=>some b4) else (bif decide (a0.Kind=1) then ((Bl N a0.S).bind fun y6=>(bif decide (a0.N=0) then (some (decide ((a0.S.size:Int)≤65536))) else (some false)).bind fun b7=>(bif b7 then (some (!y6.2)) else (some false)).bind fun b8=>some b8) else (bif decide (a0.Kind=2) then ((bif a0.S.toList==(⟨#[]⟩:ByteArray).toList then (some (decide (1≤a0.N))) else (some false)).bind fun b10=>some b10) else (some false)))
set_option maxHeartbeats 4000000 in
theorem FK {N:Nat}{a0:SN}{r:Bool}(h:Bk N a0=some r):Okc Tryz.prog 153 [(G4 a0)] ([]) (fun u post=>u=.bool r∧post=[]):=by
 refine bp Tryz.func153 J J ?_;simp only [aP];refine Y ?_;refine gD (bn J J) ?_;rintro _ _ ⟨B1,rfl,rfl⟩;refine Y ?_;refine ax ?_;refine Y ?_;refine au J (fun g2=> ?_) (fun g2=> ?_)
 ·replace h:=ag g2 h;refine Y ?_;refine gE (zF J J) ?_;refine Y ?_;obtain ⟨b3,hb3,h⟩:=aa h;refine aO 4 16 b3 ?_ ?_
  ·clear h;refine aN 12 J (fun g3=> ?_) (fun g3=> ?_)
   ·have h:=ag g3 hb3;refine Y ?_;obtain rfl:=aq h;exact ae sA (cS [0] 1)
   have h:=ah g3 hb3;refine Y ?_;obtain rfl:=aq h;exact ae sA (cS [0] 1)
  refine Y ?_;obtain ⟨b4,hb4,h⟩:=aa h;refine aO 4 21 b4 ?_ ?_
  ·clear h;refine aN 17 J (fun g4=> ?_) (fun g4=> ?_)
   ·have h:=ag g4 hb4;refine Y ?_;obtain rfl:=aq h;exact ae sA (cS [0] 1)
   have h:=ah g4 hb4;refine Y ?_;obtain rfl:=aq h;exact ae sA (cS [0] 1)
  refine Y ?_;obtain rfl:=aq h;exact aL J J (cS [] 1) ⟨J,J⟩
 replace h:=ah g2 h;refine Y ?_;refine au J (fun g5=> ?_) (fun g5=> ?_)
 ·replace h:=ag g5 h;refine Y ?_;obtain ⟨y6,hy6,h⟩:=aa h;refine gD (ai (FL hy6) OG J (ac) Dg) ?_;rintro _ _ ⟨_,⟨rfl,rfl⟩,rfl⟩;refine Y ?_;obtain ⟨b7,hb7,h⟩:=aa h;refine aO 5 38 b7 ?_ ?_
  ·clear h;refine aN 33 J (fun g7=> ?_) (fun g7=> ?_)
   ·have h:=ag g7 hb7;refine Y ?_;refine o8 (zH J t5) J (bU g7 J) J ?_;refine Y ?_;obtain rfl:=aq h;exact ae sA (cS [0] 1)
   have h:=ah g7 hb7;refine Y ?_;obtain rfl:=aq h;exact ae sA (cS [0] 1)
  refine Y ?_;obtain ⟨b8,hb8,h⟩:=aa h;refine aO 3 42 b8 ?_ ?_
  ·clear h;refine aN 39 J (fun g8=> ?_) (fun g8=> ?_)
   ·have h:=ag g8 hb8;refine Y ?_;obtain rfl:=aq h;exact ae sA (cS [0] 1)
   have h:=ah g8 hb8;refine Y ?_;obtain rfl:=aq h;exact ae sA (cS [0] 1)
  refine Y ?_;obtain rfl:=aq h;exact aL J J (cS [] 1) ⟨J,J⟩
 replace h:=ah g5 h;refine Y ?_;refine au J (fun g9=> ?_) (fun g9=> ?_)
 ·replace h:=ag g9 h;refine Y ?_;refine gE (zF J J) ?_;refine Y ?_;obtain ⟨b10,hb10,h⟩:=aa h;refine aO 4 52 b10 ?_ ?_
  ·clear h;refine aN 48 J (fun g10=> ?_) (fun g10=> ?_)
   ·have h:=ag g10 hb10;refine Y ?_;obtain rfl:=aq h;exact ae sA (cS [0] 1)
   have h:=ah g10 hb10;refine Y ?_;obtain rfl:=aq h;exact ae sA (cS [0] 1)
  refine Y ?_;obtain rfl:=aq h;exact aL J J (cS [] 1) ⟨J,J⟩
 replace h:=ah g9 h;refine Y ?_;obtain rfl:=aq h;exact aL J J (cS [] 1) ⟨J,J⟩
theorem Df {r:Bool}: ∀v post,((fun (u:Value) (post:List Chunk)=>u=.bool r∧post=[])) v post→ ∀c∈post,ce c:=by
 rintro _ _ ⟨rfl,rfl⟩;exact ac
def AT (N:Nat)(a0:Int):Option Bool:=
 (bif decide (0≤a0) then (some (decide (a0≤15))) else (some false)).bind fun b1=>(bif b1 then (some (!decide (JU .i64 a0 9=9))) else (some false)).bind fun b2=>some b2
theorem Fi {N:Nat}{a0:Int}{r:Bool}(h:AT N a0=some r):Okc Tryz.prog 154 [iV a0] ([]) (fun u post=>u=.bool r∧post=[]):=by
 refine bp Tryz.func154 J J ?_;simp only [aP];refine Y ?_;obtain ⟨b1,hb1,h⟩:=aa h;refine aO 3 8 b1 ?_ ?_
 ·clear h;refine aN 5 J (fun g1=> ?_) (fun g1=> ?_)
  ·have h:=ag g1 hb1;refine Y ?_;obtain rfl:=aq h;exact ae sA (cS [] 0)
  have h:=ah g1 hb1;refine Y ?_;obtain rfl:=aq h;exact ae sA (cS [] 0)
 refine Y ?_;obtain ⟨b2,hb2,h⟩:=aa h;refine aO 4 13 b2 ?_ ?_
 ·clear h;refine aN 9 J (fun g2=> ?_) (fun g2=> ?_)
  ·have h:=ag g2 hb2;refine Y ?_;refine o8 (Io J J) J (bU g2 J) J ?_;refine Y ?_;obtain rfl:=aq h;exact ae sA (cS [] 0)
  have h:=ah g2 hb2;refine Y ?_;obtain rfl:=aq h;exact ae sA (cS [] 0)
 refine Y ?_;obtain rfl:=aq h;exact aL J J (cS [] 0) ⟨J,J⟩
theorem Cs {r:Bool}: ∀v post,((fun (u:Value) (post:List Chunk)=>u=.bool r∧post=[])) v post→ ∀c∈post,ce c:=by
 rintro _ _ ⟨rfl,rfl⟩;exact ac
def pA (N:Nat)(a0:Tb)(a1:Int)(a2:SN)(a3:Int):Option Int:=
 (ku N a0 a1).bind fun y5=>bif !y5 then (some 2) else ((Bk N a2).bind fun y7=>(bif !y7 then (some true) else ((AT N a3).bind fun y9=>some (!y9))).bind fun b8=>bif b8 then (some 1) else (some 0))
theorem uE {N:Nat}{a0:Tb}{a1:Int}{a2:SN}{a3:Int}{r:Int}(h:pA N a0 a1 a2 a3=some r):Okc Tryz.prog 114 [pV B1 0,iV a1,(G4 a2),iV a3] ([aR B1 118 [U A2 n2 c2,.map (some M3)],ij dx (U A2 n2 c2) a0.shapes_,fh bd gc M3 a0.next_]) (fun u post=>u=iV r∧post=[]):=by
 refine bp Tryz.func114 J J ?_;simp only [aP];refine Y ?_;refine gD (bn J J) ?_;rintro _ _ ⟨B4,rfl,rfl⟩;refine Y ?_;refine ax ?_;refine Y ?_;refine gE (cT J Tryz.underlying72) ?_;refine Y ?_;refine dE J ?_;refine Y ?_;obtain ⟨y5,hy5,h⟩:=aa h;refine gD (ai (mm hy5) F7 J (hJ (ab (i:=1) J J) (hJ (ab (i:=2) J J) (hJ (ab (i:=3) J J) ac))) kJ) ?_;rintro _ _ ⟨_,⟨rfl,rfl⟩,rfl⟩;refine Y ?_;refine au J (fun g6=> ?_) (fun g6=> ?_)
 ·replace h:=ag g6 h;refine Y ?_;obtain rfl:=aq h;exact aL J J (cS [] 4) ⟨J,J⟩
 replace h:=ah g6 h;refine Y ?_;refine gR (aD (us:=zp a2) 0 J J zW J) ?_;obtain ⟨y7,hy7,h⟩:=aa h;refine gD (ai (FK hy7) OX J (ac) Df) ?_;rintro _ _ ⟨_,⟨rfl,rfl⟩,rfl⟩;refine Y ?_;obtain ⟨b8,hb8,h⟩:=aa h;refine aO 4 25 b8 ?_ ?_
 ·clear h;refine aN 21 J (fun g8=> ?_) (fun g8=> ?_)
  ·have h:=ag g8 hb8;refine Y ?_;obtain rfl:=aq h;exact ae sA (cS [0,1,2,3] 4)
  have h:=ah g8 hb8;refine Y ?_;obtain ⟨y9,hy9,h⟩:=aa h;refine dn (ai (Fi hy9) OW J (ac) Cs) J (eS g8 J) J ?_;rintro _ _ ⟨_,⟨rfl,rfl⟩,rfl⟩;refine Y ?_;obtain rfl:=aq h;exact ae sA (cS [0,1,2,3] 4)
 refine Y ?_;refine au J (fun g10=> ?_) (fun g10=> ?_)
 ·replace h:=ag g10 h;refine Y ?_;obtain rfl:=aq h;exact aL J J (cS [] 4) ⟨J,J⟩
 replace h:=ah g10 h;refine Y ?_;obtain rfl:=aq h;exact aL J J (cS [] 4) ⟨J,J⟩
theorem sY {r:Int}: ∀v post,((fun (u:Value) (post:List Chunk)=>u=iV r∧post=[])) v post→ ∀c∈post,ce c:=by
 rintro _ _ ⟨rfl,rfl⟩;exact ac
def pB (N:Nat):Option (Int×Int×Bool):=
 some (0,0,false)
def kK (N:Nat)(a0:Tb)(a2:SN):Nat→Int→Int→Int→ByteArray→Int→Int→Option (Int×Int×Bool)
 |0,_,_,_,_,_,_=>none
 |m10+1,p12,p13,p14,p15,p16,p17=>bif decide (0<p17) then (bif decide ((⟨p13,p14,p15⟩:SN)=a2) then (bi (in64 (p17 - 1)) (some (p17 - 1,p16,true))) else ((aF a0.shapes_ p12).bind fun x22=>(kK N a0 a2 m10) x22.Up x22.Key.Kind x22.Key.N x22.Key.S x22.Attrs x22.Len)) else (pB N)
def ql (N:Nat)(a0:Tb)(a1:Int)(a2:SN):Option (Int×Int×Bool):=
 (ku N a0 a1).bind fun y5=>bif !y5 then (some (0,0,false)) else ((aF a0.shapes_ a1).bind fun x8=>kK N a0 a2 N x8.Up x8.Key.Kind x8.Key.N x8.Key.S x8.Attrs x8.Len)
set_option maxHeartbeats 4000000 in
theorem wO {N:Nat}{a0:Tb}{a1:Int}{a2:SN}{r:(Int×Int×Bool)}(h:ql N a0 a1 a2=some r):Okc Tryz.prog 115 [pV B1 0,iV a1,(G4 a2)] ([aR B1 118 [U A2 n2 c2,.map (some M3)],ij dx (U A2 n2 c2) a0.shapes_,fh bd gc M3 a0.next_]) (fun u post=>u=.tuple #[iV r.1,iV r.2.1,.bool r.2.2]∧post=[]):=by
 refine bp Tryz.func115 J J ?_;simp only [aP];refine Y ?_;refine gD (bn J J) ?_;rintro _ _ ⟨B4,rfl,rfl⟩;refine Y ?_;refine ax ?_;refine Y ?_;obtain ⟨y5,hy5,h⟩:=aa h;refine gD (ai (mm hy5) F7 J (hJ (ab (i:=1) J J) (hJ (ab (i:=2) J J) (hJ (ab (i:=3) J J) ac))) kJ) ?_;rintro _ _ ⟨_,⟨rfl,rfl⟩,rfl⟩;refine Y ?_;refine au J (fun g6=> ?_) (fun g6=> ?_)
 ·replace h:=ag g6 h;refine Y ?_;obtain rfl:=aq h;exact Jm J J J J (cS [] 4) ⟨J,J⟩
 replace h:=ah g6 h;refine Y ?_;refine aM (fun s L=>pB N=some r∧s=[(6,iV 0),(7,iV 0),(8,.bool false)]∧L=[]) ?_ ?_
 ·refine Y ?_;refine gR (ba 1 J J vd J) ?_;refine Y ?_;obtain ⟨x8,hx8,h⟩:=aa h;obtain ⟨lx8,ux8,hx8⟩:=aA hx8;refine gR (aX 2 J av J J SL jH lx8 ux8) ?_;refine gR (bG (us:=jP x8) 2 J av J hx8 yj (fun _ _ _ h=>by rw [show _=_ from h];rfl)) ?_;refine gD (aE ym J) ?_;rintro _ _ ⟨B9,rfl,rfl⟩;refine gO (ao (us:=jP x8) (cs':=jP x8) 0 J J J J jH J J J) ?_;rintro _ _ rfl;refine Y ?_;refine bv (fun m s L=> ∃p12 p13 p14 p15 p16 p17 B11,kK N a0 a2 m p12 p13 p14 p15 p16 p17=some r∧s=[(0,pV B1 0),(5,pV B4 0),(6,iV 0),(7,iV 0),(8,.bool false),(9,pV B11 0)]∧L=[am B11 114 [iV p12,iV p13,iV p14,.string p15,iV p16,iV p17],ij dx (U A2 n2 c2) a0.shapes_,fh bd gc M3 a0.next_,aR B1 118 [U A2 n2 c2,.map (some M3)],am B4 82 (zp a2)]) N _ _ ⟨x8.Up,x8.Key.Kind,x8.Key.N,x8.Key.S,x8.Attrs,x8.Len,B9,h,J,J⟩ sA (cS [0,3,4,2,1] 5) ?_;rintro (_|m10) _ _ ⟨p12,p13,p14,p15,p16,p17,B11,h,rfl,rfl⟩
  ·exact aG h
  rw [kK.eq_2] at h;refine ax ?_;refine Y ?_;refine au J (fun g18=> ?_) (fun g18=> ?_)
  ·replace h:=ag g18 h;refine Y ?_;refine ax ?_;refine Y ?_;refine gR (aD (us:=[iV p13,iV p14,.string p15]) 0 J J zW J) ?_;refine gR (aD (us:=zp a2) 4 J J zW J) ?_;refine gE (Mo (x:=(⟨p13,p14,p15⟩:SN)) (y:=a2) J J) ?_;refine Y ?_;refine au J (fun g19=> ?_) (fun g19=> ?_)
   ·replace h:=ag g19 h;refine ax ?_;refine bN I _ (aj _) ?_;refine zE 0 J (bz J Dy) ?_;refine zR 1 J (aJ 0 J J dy J) ?_;obtain ⟨q20,h⟩:=ap h;refine zE 2 J (lK J J q20.1 q20.2) ?_;refine zE 3 J (bz J vF) ?_;refine zR 4 J (aJ 0 J J dy J) ?_;refine zE 5 J (aC J) ?_;refine zE 6 J (aC J) ?_;refine zE 7 J (aC J) ?_;refine aZ I ?_;refine Y ?_;obtain rfl:=aq h;exact Jm J J J J (cS [] 5) ⟨J,J⟩
   replace h:=ah g19 h;refine Y ?_;refine ax ?_;refine Y ?_;refine gR (aD (us:=[iV p12,iV p13,iV p14,.string p15,iV p16,iV p17]) 0 J J yj J) ?_;refine Y ?_;refine gD (aE ym J) ?_;rintro _ _ ⟨B21,rfl,rfl⟩;refine gO (ao (us:=[iV p12,iV p13,iV p14,.string p15,iV p16,iV p17]) (cs':=[iV p12,iV p13,iV p14,.string p15,iV p16,iV p17]) 0 J J J J jH J J J) ?_;rintro _ _ rfl;refine Y ?_;refine bN I _ (aj _) ?_;refine zE 0 J (aw J) ?_;refine zE 1 J (aB J) ?_;refine zE 2 J (dK J sO) ?_;refine zR 3 J (ba 4 J J vd J) ?_;refine zE 4 J (dK J He) ?_;refine zR 5 J (aJ 0 J J dy J) ?_;obtain ⟨x22,hx22,h⟩:=aa h;obtain ⟨lx22,ux22,hx22⟩:=aA hx22;refine zR 6 J (aX 2 J av J J SL jH lx22 ux22) ?_;refine zR 7 J (bG (us:=jP x22) 2 J av J hx22 yj (fun _ _ _ h=>by rw [show _=_ from h];rfl)) ?_;refine pU 8 J I I (ao (us:=jP x22) (cs':=jP x22) 0 J J J J jH J J J) ?_;rintro _ _ rfl;refine aZ I ?_;refine fb ?_;exact ⟨m10,_,_,Tk _,⟨x22.Up,x22.Key.Kind,x22.Key.N,x22.Key.S,x22.Attrs,x22.Len,B21,h,J,J⟩,sA,cS [0,2,3,4,5] 6⟩
  replace h:=ah g18 h;refine Y ?_;exact ⟨_,_,⟨h,J,J⟩,sA,cS [] 5⟩
 rintro _ _ ⟨h,rfl,rfl⟩;refine Y ?_;obtain rfl:=aq h;exact Jm J J J J (cS [] 0) ⟨J,J⟩
theorem ut {r:(Int×Int×Bool)}: ∀v post,((fun (u:Value) (post:List Chunk)=>u=.tuple #[iV r.1,iV r.2.1,.bool r.2.2]∧post=[])) v post→ ∀c∈post,ce c:=by
 rintro _ _ ⟨rfl,rfl⟩;exact ac
def sk (N:Nat)(a0:Tb)(a1:Int):Option (SU×Bool):=
 (ku N a0 a1).bind fun y5=>bif !y5 then (some ((⟨0,(⟨0,0,⟨#[]⟩⟩:SN),0,0⟩:SU),false)) else ((aF a0.shapes_ a1).bind fun x7=>some (x7,true))
theorem yx {N:Nat}{a0:Tb}{a1:Int}{r:(SU×Bool)}(h:sk N a0 a1=some r):Okc Tryz.prog 155 [pV B1 0,iV a1] ([aR B1 118 [U A2 n2 c2,.map (some M3)],ij dx (U A2 n2 c2) a0.shapes_,fh bd gc M3 a0.next_]) (fun u post=>u=.tuple #[(FS r.1),.bool r.2]∧post=[]):=by
 refine bp Tryz.func155 J J ?_;simp only [aP];refine Y ?_;refine gD (aE ym J) ?_;rintro _ _ ⟨B4,rfl,rfl⟩;refine Y ?_;refine ax ?_;refine Y ?_;obtain ⟨y5,hy5,h⟩:=aa h;refine gD (ai (mm hy5) F7 J (hJ (ab (i:=1) J J) (hJ (ab (i:=2) J J) (hJ (ab (i:=3) J J) ac))) kJ) ?_;rintro _ _ ⟨_,⟨rfl,rfl⟩,rfl⟩;refine Y ?_;refine au J (fun g6=> ?_) (fun g6=> ?_)
 ·replace h:=ag g6 h;refine Y ?_;refine gE (bo J (Nh)) ?_;refine gO (ao (us:=[iV 0,iV 0,iV 0,.string (⟨#[]⟩),iV 0,iV 0]) (cs':=[iV 0,iV 0,iV 0,.string (⟨#[]⟩),iV 0,iV 0]) 0 J J J J jH J J J) ?_;rintro _ _ rfl;refine Y ?_;obtain rfl:=aq h;exact db (rs:=[.cell 4 114,.tmp 5]) (vs:=[.agg #[iV 0,iV 0,iV 0,.string (⟨#[]⟩),iV 0,iV 0],.bool false]) J (.cons (bT 0 J J yj) (.cons (dr J) .nil)) J (cS [] 4) ⟨J,J⟩
 replace h:=ah g6 h;refine Y ?_;refine gR (ba 1 J J vd J) ?_;refine Y ?_;obtain ⟨x7,hx7,h⟩:=aa h;obtain ⟨lx7,ux7,hx7⟩:=aA hx7;refine gR (aX 2 J av J J SL jH lx7 ux7) ?_;refine gR (bG (us:=jP x7) 2 J av J hx7 yj (fun _ _ _ h=>by rw [show _=_ from h];rfl)) ?_;refine gO (ao (us:=jP x7) (cs':=jP x7) 0 J J J J jH J J J) ?_;rintro _ _ rfl;refine Y ?_;obtain rfl:=aq h;exact db (rs:=[.cell 4 114,.tmp 5]) (vs:=[(FS x7),.bool true]) J (.cons (bT 0 J J yj) (.cons (dr J) .nil)) J (cS [] 4) ⟨J,J⟩
theorem wP {r:(SU×Bool)}: ∀v post,((fun (u:Value) (post:List Chunk)=>u=.tuple #[(FS r.1),.bool r.2]∧post=[])) v post→ ∀c∈post,ce c:=by
 rintro _ _ ⟨rfl,rfl⟩;exact ac
def rj (N:Nat)(a0:Tb)(a1:Int):Option Int:=
 (sk N a0 a1).bind fun y4=>some y4.1.Len
theorem xL {N:Nat}{a0:Tb}{a1:Int}{r:Int}(h:rj N a0 a1=some r):Okc Tryz.prog 116 [pV B1 0,iV a1] ([aR B1 118 [U A2 n2 c2,.map (some M3)],ij dx (U A2 n2 c2) a0.shapes_,fh bd gc M3 a0.next_]) (fun u post=>u=iV r∧post=[]):=by
 refine bp Tryz.func116 J J ?_;simp only [aP];refine Y ?_;obtain ⟨y4,hy4,h⟩:=aa h;refine gD (ai (yx hy4) OV J (hJ (ab (i:=0) J J) (hJ (ab (i:=1) J J) (hJ (ab (i:=2) J J) ac))) wP) ?_;rintro _ _ ⟨_,⟨rfl,rfl⟩,rfl⟩;refine Y ?_;refine gD (aE ym J) ?_;rintro _ _ ⟨B5,rfl,rfl⟩;refine gO (ao (us:=jP y4.1) (cs':=jP y4.1) 0 J J J J jH J J J) ?_;rintro _ _ rfl;refine Y ?_;obtain rfl:=aq h;exact aL J J (cS [] 4) ⟨J,J⟩
theorem uF {r:Int}: ∀v post,((fun (u:Value) (post:List Chunk)=>u=iV r∧post=[])) v post→ ∀c∈post,ce c:=by
 rintro _ _ ⟨rfl,rfl⟩;exact ac
def pz (N:Nat)(p20:Int)(p21:(List SU))(p22:(List (SM×Int))):Option (Int×Int×Tb):=
 some (p20,0,(⟨p21,p22⟩:Tb))
def lC (N:Nat)(p7:(List SU)):Nat→Int→Int→(List SU)→(List (SM×Int))→Option (Int×Int×Tb)
 |0,_,_,_,_=>none
 |m23+1,p24,p25,p26,p27=>bif decide (p25<(p7.length:Int)) then ((aF p7 p25).bind fun x29=>(aF p26 p24).bind fun x31=>bi (in64 (x31.Len+1)) (bi (bQ (p26.length+([(⟨p24,x29.Key,x29.Attrs,x31.Len+1⟩:SU)]:List SU).length)) (bi (in64 (((p26++([(⟨p24,x29.Key,x29.Attrs,x31.Len+1⟩:SU)]:List SU)).length:Int) - 1)) (bi (in64 (p25+1)) ((lC N p7 m23) (((p26++([(⟨p24,x29.Key,x29.Attrs,x31.Len+1⟩:SU)]:List SU)).length:Int) - 1) (p25+1) (p26++([(⟨p24,x29.Key,x29.Attrs,x31.Len+1⟩:SU)]:List SU)) (um p27 (⟨p24,x29.Key,x29.Attrs⟩:SM) (p26.length:Int))))))) else (pz N p24 p26 p27)
def ml (N:Nat)(a0:Tb)(p6:Int)(p7:(List SU)):Option (Int×Int×Tb):=
 bi (in64 (1073741824 - (a0.shapes_.length:Int))) (bif decide (1073741824 - (a0.shapes_.length:Int)<(p7.length:Int)) then (some (0,5,a0)) else (lC N p7 N p6 0 a0.shapes_ a0.next_))
def mj (N:Nat)(a0:Tb):Nat→Int→(List SU)→Option (Int×Int×Tb)
 |0,_,_=>none
 |m8+1,p9,p10=>bif decide (0<(p10.length:Int)) then ((aF p10 0).bind fun x12=>(aF p10 0).bind fun x13=>bif !((lk a0.next_ (⟨p9,x12.Key,x13.Attrs⟩:SM)).isSome) then (ml N a0 p9 p10) else (bi ((0:Int)≤1∧(1:Int).toNat≤p10.length∧p10.length≤p10.length) ((mj N a0 m8) ((lk a0.next_ (⟨p9,x12.Key,x13.Attrs⟩:SM)).getD 0) ((p10.drop ((1:Int).toNat)).take (p10.length - (1:Int).toNat))))) else (ml N a0 p9 p10)
def ri (N:Nat)(a0:Tb)(a1:Int)(a2:(List SU)):Option (Int×Int×Tb):=
 mj N a0 N a1 a2
set_option maxHeartbeats 4000000 in
theorem xK {N:Nat}{a0:Tb}{a1:Int}{a2:(List SU)}{r:(Int×Int×Tb)}(h:ri N a0 a1 a2=some r):Okc Tryz.prog 117 [pV B1 0,iV a1,U A4 n4 c4] ([ij dx (U A4 n4 c4) a2,am B1 118 [U A2 n2 c2,.map (some M3)],lH A2 n2 c2 a0.shapes_,aK bd gc M3 a0.next_]) (fun u post=> ∃A0 n0 c0 M1,u=.tuple #[iV r.1,iV r.2.1]∧post=[am B1 118 [U A0 n0 c0,.map (some M1)],lH A0 n0 c0 r.2.2.shapes_,aK bd gc M1 r.2.2.next_]):=by
 refine bp Tryz.func117 J J ?_;simp only [aP];refine Y ?_;refine aM (fun s L=> ∃p6 p7 A7 n7 c7,ml N a0 p6 p7=some r∧s=[(0,pV B1 0),(6,iV 0),(7,iV 0),(8,iV p6),(9,U A7 n7 c7)]∧L=[ij dx (U A7 n7 c7) p7,lH A2 n2 c2 a0.shapes_,aK bd gc M3 a0.next_,am B1 118 [U A2 n2 c2,.map (some M3)]]) ?_ ?_
 ·refine iK ?_;refine bv (fun m s L=> ∃p9 p10 A10 n10 c10,mj N a0 m p9 p10=some r∧s=[(0,pV B1 0),(6,iV 0),(7,iV 0),(8,iV p9),(9,U A10 n10 c10)]∧L=[ij dx (U A10 n10 c10) p10,lH A2 n2 c2 a0.shapes_,aK bd gc M3 a0.next_,am B1 118 [U A2 n2 c2,.map (some M3)]]) N _ _ ⟨a1,a2,A4,n4,c4,h,J,J⟩ sA (cS [0,2,3,1] 4) ?_;rintro (_|m8) _ _ ⟨p9,p10,A10,n10,c10,h,rfl,rfl⟩
  ·exact aG h
  rw [mj.eq_2] at h;refine ax ?_;refine Y ?_;refine gR (aU 0 J av J SL) ?_;refine Y ?_;refine au J (fun g11=> ?_) (fun g11=> ?_)
  ·replace h:=ag g11 h;refine Y ?_;refine ax ?_;refine bN I _ (aj _) ?_;refine zE 0 J (aw J) ?_;refine zE 1 J (aB J) ?_;refine zE 2 J (bz J Dx) ?_;refine zR 3 J (aJ 3 J J Ia J) ?_;refine zE 4 J (aw J) ?_;refine zE 5 J (aw J) ?_;obtain ⟨x12,hx12,h⟩:=aa h;obtain ⟨lx12,ux12,hx12⟩:=aA hx12;refine zR 6 J (aX 0 J av J J SL jH lx12 ux12) ?_;refine zR 7 J (AX 0 J av J (fE lx12 ux12) zC) ?_;refine zR 8 J (bG (us:=zp x12.Key) 0 J av J hx12 zW (fun _ _ _ h=>by rw [show _=_ from h];rfl)) ?_;refine zE 9 J (aw J) ?_;obtain ⟨x13,hx13,h⟩:=aa h;obtain ⟨lx13,ux13,hx13⟩:=aA hx13;refine zR 10 J (aX 0 J av J J SL jH lx13 ux13) ?_;refine zR 11 J (AX 0 J av J (fE lx13 ux13) vF) ?_;refine zR 12 J (bH (u:=iV x13.Attrs) 0 J av J hx13 dy (fun _ _ _ h=>by rw [show _=_ from h];rfl)) ?_;refine zE 13 J (bo J (xz _ _ _ _ _)) ?_;refine zR 14 J (qv (a:=(⟨p9,x12.Key,x13.Attrs⟩:SM)) (z:=0) 2 J tq J J Tryz.underlying116 Dh Gj) ?_;refine zE 15 J (aw J) ?_;refine zE 16 J (ay J J) ?_;refine zE 17 J (ay J J) ?_;refine zE 18 J (aC J) ?_;refine zE 19 J (aC J) ?_;refine aZ I ?_;refine fb ?_;refine ax ?_;refine Y ?_;refine au J (fun g14=> ?_) (fun g14=> ?_)
   ·replace h:=ag g14 h;refine Y ?_;refine RM J ?_;refine Y ?_;exact ⟨_,_,⟨p9,p10,A10,n10,c10,h,J,J⟩,sA,cS [0,1,2,3] 4⟩
   replace h:=ah g14 h;refine Y ?_;refine bN I _ (aj _) ?_;refine zE 0 J (aw J) ?_;refine zE 1 J (aw J) ?_;obtain ⟨q15,h⟩:=ap h;refine AN 0 J (l:=(1:Int).toNat) (h:=p10.length) q15.2.1 q15.2.2 ?_;rintro A16 n16 c16 e16;refine zR 2 J (yI 1 J e16 J SL jH J (by rw [Int.toNat_of_nonneg q15.1];rfl) q15.2.1) ?_;refine zE 3 J (aC J) ?_;refine zE 4 J (aC J) ?_;refine aZ I ?_;refine Y ?_;exact ⟨m8,_,_,Tk _,⟨(lk a0.next_ (⟨p9,x12.Key,x13.Attrs⟩:SM)).getD 0,(p10.drop ((1:Int).toNat)).take (p10.length - (1:Int).toNat),A16,n16,c16,h,J,J⟩,sA,cS [0,2,3,4] 5⟩
  replace h:=ah g11 h;refine Y ?_;exact ⟨_,_,⟨p9,p10,A10,n10,c10,h,J,J⟩,sA,cS [0,1,2,3] 4⟩
 rintro _ _ ⟨p6,p7,A7,n7,c7,h,rfl,rfl⟩;refine ax ?_;refine Y ?_;refine gR (aU 0 J av J SL) ?_;refine Y ?_;refine gR (aU 1 J aH J SL) ?_;obtain ⟨q17,h⟩:=ap h;refine gE (lK J J q17.1 q17.2) ?_;refine Y ?_;refine au J (fun g18=> ?_) (fun g18=> ?_)
 ·replace h:=ag g18 h;refine Y ?_;obtain rfl:=aq h;exact nN J J J (cS [3,1,2] 4) ⟨_,_,_,_,J,J⟩
 replace h:=ah g18 h;refine Y ?_;refine aM (fun s L=> ∃p20 p21 p22 A21 n21 c21,pz N p20 p21 p22=some r∧s=[(6,iV 0),(7,iV 0),(8,iV p20)]∧L=[lH A21 n21 c21 p21,aK bd gc M3 p22,am B1 118 [U A21 n21 c21,.map (some M3)]]) ?_ ?_
 ·refine Y ?_;refine gR (aU 0 J av J SL) ?_;refine Y ?_;refine bv (fun m s L=> ∃p24 p25 p26 p27 A26 n26 c26,lC N p7 m p24 p25 p26 p27=some r∧s=[(0,pV B1 0),(6,iV 0),(7,iV 0),(8,iV p24),(51,U A7 n7 c7),(52,iV (p7.length:Int)),(53,iV p25)]∧L=[ij dx (U A7 n7 c7) p7,lH A26 n26 c26 p26,aK bd gc M3 p27,am B1 118 [U A26 n26 c26,.map (some M3)]]) N _ _ ⟨p6,0,a0.shapes_,a0.next_,A2,n2,c2,h,J,J⟩ sA (cS [0,1,2,3] 4) ?_;rintro (_|m23) _ _ ⟨p24,p25,p26,p27,A26,n26,c26,h,rfl,rfl⟩
  ·exact aG h
  rw [lC.eq_2] at h;refine Y ?_;refine ax ?_;refine au J (fun g28=> ?_) (fun g28=> ?_)
  ·replace h:=ag g28 h;refine Y ?_;refine ax ?_;refine Y ?_;obtain ⟨x29,hx29,h⟩:=aa h;obtain ⟨lx29,ux29,hx29⟩:=aA hx29;refine gR (aX 0 J av J J SL jH lx29 ux29) ?_;refine gR (bG (us:=jP x29) 0 J av J hx29 yj (fun _ _ _ h=>by rw [show _=_ from h];rfl)) ?_;refine gD (aE ym J) ?_;rintro _ _ ⟨B30,rfl,rfl⟩;refine gO (ao (us:=jP x29) (cs':=jP x29) 0 J J J J jH J J J) ?_;rintro _ _ rfl;refine Y ?_;refine ax ?_;refine bN I _ (aj _) ?_;refine zE 0 J (aw J) ?_;refine zE 1 J (aB J) ?_;refine zE 2 J (bz J Dx) ?_;refine zR 3 J (aJ 4 J J Ia J) ?_;refine zE 4 J (aw J) ?_;refine zE 5 J (bz J zC) ?_;refine zR 6 J (aD (us:=zp x29.Key) 0 J J zW J) ?_;refine zE 7 J (bz J vF) ?_;refine zR 8 J (aJ 0 J J dy J) ?_;refine zE 9 J (bo J (xz _ _ _ _ _)) ?_;refine zE 10 J (aw J) ?_;refine zE 11 J (aB J) ?_;refine zE 12 J (dK J sO) ?_;refine zR 13 J (aJ 4 J J vd J) ?_;refine zR 14 J (aU 2 J aH J SL) ?_;refine pU 15 J I I (gw (a:=(⟨p24,x29.Key,x29.Attrs⟩:SM)) (b:=(p26.length:Int)) 3 J J J J Tryz.underlying116 Dh) ?_;rintro _ _ rfl;refine aZ I ?_;refine fb ?_;refine ax ?_;obtain ⟨x31,hx31,h⟩:=aa h;obtain ⟨lx31,ux31,hx31⟩:=aA hx31;obtain ⟨q32,h⟩:=ap h;refine ik (t:=[(0,pV B1 0),(6,iV 0),(7,iV 0),(8,iV p24),(13,pV B30 0),(51,U A7 n7 c7),(52,iV (p7.length:Int)),(53,iV p25)]) ?_ mN (aj _)
   refine jS I 21 [0] [0,4,20] [72,73,74,75,76,77,78,79,80,81,82,83,84,85,86,87,88,89,90,91,92] [[],[],[1],[2],[3],[],[],[6],[],[8],[],[10],[11],[12],[],[13,14],[15],[16],[17],[5,7,9,18],[19]] [aV (pV B1 0),
aV (pV B1 0),
aV (pV B1 0),
aV (pV B1 0),
aV (U A26 n26 c26),
aV (iV p24),
aV (pV B30 1),
aV ((G4 x29.Key)),
aV (pV B30 4),
aV (iV x29.Attrs),
aV (pV B1 0),
aV (pV B1 0),
aV (pV B1 0),
aV (U A26 n26 c26),
aV (iV p24),
aV (fw (U A26 n26 c26) p24.toNat 6 0),
aV (fw (U A26 n26 c26) p24.toNat 6 5),
aV (iV x31.Len),
aV (iV (x31.Len+1)),
aV (.agg #[iV p24,iV x29.Key.Kind,iV x29.Key.N,.string x29.Key.S,iV x29.Attrs,iV (x31.Len+1)]),
aX3 (fun (A34:Option Addr) (n34 c34:Nat)=> U A34 n34 c34) (fun A34 n34 c34=> [lH A34 n34 c34 ([(⟨p24,x29.Key,x29.Attrs,x31.Len+1⟩:SU)]:List SU)])] [] (aj _) (wl rfl mr) I rfl rfl ?_ ?_ ?_
   ·refine wk J ?_ ?_
    ·exact E8 (aw J) J (bq J (aj _))
    exact mq
   ·refine ak J ?_ ?_
    ·refine vW (bJ (R:=dx) (vss:=[[iV p24,iV x29.Key.Kind,iV x29.Key.N,.string x29.Key.S,iV x29.Attrs,iV (x31.Len+1)]]) (xs:=[(⟨p24,x29.Key,x29.Attrs,x31.Len+1⟩:SU)]) J (AJ _ _ _ _ _ _) J J (fun _ _ hr=> .cons J All2.nil)) J ?_;rintro _ _ ⟨A33,n33,c33,rfl,rfl⟩;exact DC A33 n33 c33 (aj _)
    refine ak J ?_ ?_
    ·exact cF (bo J (BK _ _ _ _ _ _)) J (bq J (aj _))
    refine ak J ?_ ?_
    ·exact cF (aW J J q32.1 q32.2) J (bq J (aj _))
    refine ak J ?_ ?_
    ·exact fi (bH (u:=iV x31.Len) 2 J aH J hx31 dy (fun _ _ _ h=>by rw [show _=_ from h];rfl)) J (bq J (aj _))
    refine ak J ?_ ?_
    ·exact fi (AX 2 J aH J (fE lx31 ux31) Dy) J (bq J (aj _))
    refine ak J ?_ ?_
    ·exact fi (aX 2 J aH J J SL jH lx31 ux31) J (bq J (aj _))
    refine ak J ?_ ?_
    ·exact cF (aw J) J (bq J (aj _))
    refine ak J ?_ ?_
    ·exact fi (aJ 4 J J vd J) J (bq J (aj _))
    refine ak J ?_ ?_
    ·exact cF (dK J sO) J (bq J (aj _))
    refine ak J ?_ ?_
    ·exact cF (aB J) J (bq J (aj _))
    refine ak J ?_ ?_
    ·exact cF (aw J) J (bq J (aj _))
    refine ak J ?_ ?_
    ·exact fi (aJ 0 J J dy J) J (bq J (aj _))
    refine ak J ?_ ?_
    ·exact cF (bz J vF) J (bq J (aj _))
    refine ak J ?_ ?_
    ·exact fi (aD (us:=zp x29.Key) 0 J J zW J) J (bq J (aj _))
    refine ak J ?_ ?_
    ·exact cF (bz J zC) J (bq J (aj _))
    refine ak J ?_ ?_
    ·exact cF (aw J) J (bq J (aj _))
    refine ak J ?_ ?_
    ·exact fi (aJ 4 J J vd J) J (bq J (aj _))
    refine ak J ?_ ?_
    ·exact cF (dK J sO) J (bq J (aj _))
    refine ak J ?_ ?_
    ·exact cF (aB J) J (bq J (aj _))
    refine ak J ?_ ?_
    ·exact cF (aw J) J (bq J (aj _))
    refine ak J ?_ ?_
    ·exact cF (aw J) J (bq J (aj _))
    exact fo
   intro A34 n34 c34;refine nP (t:=[(72,pV B1 0),(76,U A26 n26 c26),(92,U A34 n34 c34),(0,pV B1 0),(6,iV 0),(7,iV 0),(8,iV p24),(13,pV B30 0),(51,U A7 n7 c7),(52,iV (p7.length:Int)),(53,iV p25)]) (L':=[lH A34 n34 c34 ([(⟨p24,x29.Key,x29.Attrs,x31.Len+1⟩:SU)]:List SU),am B30 114 (jP x29),ij dx (U A7 n7 c7) p7,lH A26 n26 c26 p26,aK bd gc M3 (um p27 (⟨p24,x29.Key,x29.Attrs⟩:SM) (p26.length:Int)),am B1 118 [U A26 n26 c26,.map (some M3)]]) ?_ mN (aj _);obtain ⟨q35,h⟩:=ap h;refine pH 21 J I (bK 3 0 J J aH J J SL QL J J q35) J J J ?_;rintro _ _ ⟨A36,n36,c36,rfl,rfl⟩;refine AO 22 J I (aB J) J J J ?_;refine AO 23 J I (dK J sO) J J J ?_;refine Bu 24 J I (ao (us:=[U A36 n36 c36]) (cs':=[U A36 n36 c36,.map (some M3)]) 5 J J J J NM J J J) J J ?_;rintro _ _ rfl;refine EF ?_;refine mB I ?_;refine Y ?_;refine gR (aU 3 J aH J SL) ?_;obtain ⟨q37,h⟩:=ap h;refine gE (lK J J q37.1 q37.2) ?_;refine Y ?_;obtain ⟨q38,h⟩:=ap h;refine gE (aW J J q38.1 q38.2) ?_;refine Y ?_;exact ⟨m23,_,_,Tk _,⟨((p26++([(⟨p24,x29.Key,x29.Attrs,x31.Len+1⟩:SU)]:List SU)).length:Int) - 1,p25+1,p26++([(⟨p24,x29.Key,x29.Attrs,x31.Len+1⟩:SU)]:List SU),um p27 (⟨p24,x29.Key,x29.Attrs⟩:SM) (p26.length:Int),A36,n36,c36,h,J,J⟩,sA,cS [2,3,4,5] 6⟩
  replace h:=ah g28 h;refine Y ?_;exact ⟨_,_,⟨p24,p26,p27,A26,n26,c26,h,J,J⟩,sA,cS [1,2,3] 4⟩
 rintro _ _ ⟨p20,p21,p22,A21,n21,c21,h,rfl,rfl⟩;refine Y ?_;obtain rfl:=aq h;exact nN J J J (cS [2,0,1] 3) ⟨_,_,_,_,J,J⟩
def qk (N:Nat)(a0:Tb)(a1:Int)(a2:SN)(a3:Int):Option (Int×Int×Tb):=
 (pA N a0 a1 a2 a3).bind fun y5=>bif !decide (y5=0) then (some (0,y5,a0)) else ((ql N a0 a1 a2).bind fun y7=>bif y7.2.2 then (some (0,4,a0)) else ((rj N a0 a1).bind fun y9=>bif decide (1024≤y9) then (some (0,9,a0)) else ((ri N a0 a1 ([(⟨0,a2,a3,0⟩:SU)]:List SU)).bind fun y12=>some (y12.1,y12.2.1,y12.2.2))))
set_option maxHeartbeats 4000000 in
theorem wN {N:Nat}{a0:Tb}{a1:Int}{a2:SN}{a3:Int}{r:(Int×Int×Tb)}(h:qk N a0 a1 a2 a3=some r):Okc Tryz.prog 80 [pV B1 0,iV a1,(G4 a2),iV a3] ([am B1 118 [U A2 n2 c2,.map (some M3)],lH A2 n2 c2 a0.shapes_,aK bd gc M3 a0.next_]) (fun u post=> ∃A0 n0 c0 M1,u=.tuple #[iV r.1,iV r.2.1]∧post=[am B1 118 [U A0 n0 c0,.map (some M1)],lH A0 n0 c0 r.2.2.shapes_,aK bd gc M1 r.2.2.next_]):=by
 refine bp Tryz.func80 J J ?_;simp only [aP];refine Y ?_;refine gD (bn J J) ?_;rintro _ _ ⟨B4,rfl,rfl⟩;refine Y ?_;refine ax ?_;refine Y ?_;refine gR (aD (us:=zp a2) 0 J J zW J) ?_;refine Y ?_;obtain ⟨y5,hy5,h⟩:=aa h;refine gD (ai (uE hy5) Pd J (hJ (az (i:=1) J) (hJ (ad (i:=2) J) (hJ (bc (i:=3) J) ac))) sY) ?_;rintro _ _ ⟨_,⟨rfl,rfl⟩,rfl⟩;refine Y ?_;refine au J (fun g6=> ?_) (fun g6=> ?_)
 ·replace h:=ag g6 h;refine Y ?_;obtain rfl:=aq h;exact nN J J J (cS [1,2,3] 4) ⟨_,_,_,_,J,J⟩
 replace h:=ah g6 h;refine Y ?_;refine ax ?_;refine Y ?_;refine gR (aD (us:=zp a2) 0 J J zW J) ?_;obtain ⟨y7,hy7,h⟩:=aa h;refine gD (ai (wO hy7) Pc J (hJ (az (i:=1) J) (hJ (ad (i:=2) J) (hJ (bc (i:=3) J) ac))) ut) ?_;rintro _ _ ⟨_,⟨rfl,rfl⟩,rfl⟩;refine Y ?_;refine au J (fun g8=> ?_) (fun g8=> ?_)
 ·replace h:=ag g8 h;refine Y ?_;obtain rfl:=aq h;exact nN J J J (cS [1,2,3] 4) ⟨_,_,_,_,J,J⟩
 replace h:=ah g8 h;refine Y ?_;refine ax ?_;refine Y ?_;obtain ⟨y9,hy9,h⟩:=aa h;refine gD (ai (xL hy9) Pb J (hJ (az (i:=1) J) (hJ (ad (i:=2) J) (hJ (bc (i:=3) J) ac))) uF) ?_;rintro _ _ ⟨_,⟨rfl,rfl⟩,rfl⟩;refine Y ?_;refine au J (fun g10=> ?_) (fun g10=> ?_)
 ·replace h:=ag g10 h;refine Y ?_;obtain rfl:=aq h;exact nN J J J (cS [1,2,3] 4) ⟨_,_,_,_,J,J⟩
 replace h:=ah g10 h;refine Y ?_;refine gR (aD (us:=zp a2) 0 J J zW J) ?_;refine Y ?_;refine gE (bo J (Hz _ _ _ _)) ?_;refine gD (bJ (R:=dx) (vss:=[[iV 0,iV a2.Kind,iV a2.N,.string a2.S,iV a3,iV 0]]) (xs:=[(⟨0,a2,a3,0⟩:SU)]) J (AJ _ _ _ _ _ _) J J (fun _ _ hr=> .cons J All2.nil)) ?_;rintro _ _ ⟨A11,n11,c11,rfl,rfl⟩;refine wb (cV 0 J) ?_;obtain ⟨y12,hy12,h⟩:=aa h;refine gD (aT (xK hy12) Pa J (aI [0] [2,3,4] [0,1] 5 J)) ?_;rintro _ _ ⟨_,⟨A13,n13,c13,M14,rfl,rfl⟩,rfl⟩;refine Y ?_;obtain rfl:=aq h;exact nN J J J (cS [0,1,2] 5) ⟨_,_,_,_,J,J⟩
def kO (N:Nat)(a0:Te):Option SZ:=
 some (⟨6,2,(⟨0,0,⟨#[]⟩⟩:SR)⟩:SZ)
theorem nL {N:Nat}{a0:Te}{r:SZ}(h:kO N a0=some r):Okc Tryz.prog 11 [pV B1 0] ([aR B1 79 (oY a0 B2 B9 A12 n12 c12 A13 n13 c13 A14 n14 c14),aR B2 99 [U A3 n3 c3,U A4 n4 c4,U A5 n5 c5,U A6 n6 c6,pV B7 0],bB A3 n3 c3 a0.heap_.m_.Young,bB A4 n4 c4 a0.heap_.m_.Old,bE A5 n5 c5 a0.heap_.roots_,bE A6 n6 c6 a0.heap_.pending_,aR B7 147 [.map (some M8)],fh bR cG M8 a0.heap_.set_.at_,aR B9 118 [U A10 n10 c10,.map (some M11)],ij dx (U A10 n10 c10) a0.shapes_.shapes_,fh bd gc M11 a0.shapes_.next_,ij nX (U A12 n12 c12) a0.symbols_,ij i6 (U A13 n13 c13) a0.events_,ij nX (U A14 n14 c14) a0.out_]) (fun u post=>u=(G5 r)∧post=[]):=by
 refine bp Tryz.func11 J J ?_;simp only [aP];refine Y ?_;refine gD (aE HH J) ?_;rintro _ _ ⟨B15,rfl,rfl⟩;refine Y ?_;refine ax ?_;refine Y ?_;refine gE (cT J z0) ?_;refine Y ?_;refine dE J ?_;refine Y ?_;refine gE (bo J (ID _ _)) ?_;refine gO (ao (us:=[iV 6,iV 2,iV 0,iV 0,.string (⟨#[]⟩)]) (cs':=[iV 6,iV 2,iV 0,iV 0,.string (⟨#[]⟩)]) 0 J J J J Cr J J J) ?_;rintro _ _ rfl;refine Y ?_;obtain rfl:=aq h;exact db (rs:=[.cell 2 34]) (vs:=[.agg #[iV 6,iV 2,iV 0,iV 0,.string (⟨#[]⟩)]]) J (.cons (bT 0 J J JY) .nil) J (cS [] 15) ⟨J,J⟩
theorem mF {r:SZ}: ∀v post,((fun (u:Value) (post:List Chunk)=>u=(G5 r)∧post=[])) v post→ ∀c∈post,ce c:=by
 rintro _ _ ⟨rfl,rfl⟩;exact ac
def qq (N:Nat)(a0:Te)(a1:Ta):Option (SR×Bool×Te):=
 bif decide (a0.config_.Made≤a0.spent_.made_) then (some ((⟨0,0,⟨#[]⟩⟩:SR),false,a0)) else ((fs N a0.heap_ a1).bind fun y20=>bif !decide (y20.2.1=0) then (some ((⟨0,0,⟨#[]⟩⟩:SR),false,(⟨a0.spent_,a0.config_,(),y20.2.2,a0.shapes_,a0.symbols_,a0.epoch_,a0.serial_,a0.sleepers_,a0.events_,a0.out_⟩:Te))) else (bi (in64 (a0.spent_.made_+1)) (some ((⟨7,y20.1,⟨#[]⟩⟩:SR),true,(⟨(⟨a0.spent_.steps_,a0.spent_.made_+1,a0.spent_.calls_⟩:ST),a0.config_,(),y20.2.2,a0.shapes_,a0.symbols_,a0.epoch_,a0.serial_,a0.sleepers_,a0.events_,a0.out_⟩:Te)))))
set_option maxHeartbeats 4000000 in
theorem gl {N:Nat}{a0:Te}{a1:Ta}{r:(SR×Bool×Te)}(h:qq N a0 a1=some r):Okc Tryz.prog 61 [pV B1 0,.agg #[iV a1.Kind,iV a1.Shape,iV a1.Flags,iV a1.Age,U A15 n15 c15,U A16 n16 c16]] ([bE A15 n15 c15 a1.Slots,bE A16 n16 c16 a1.More,am B1 79 (oY a0 B2 B9 A12 n12 c12 A13 n13 c13 A14 n14 c14),am B2 99 [U A3 n3 c3,U A4 n4 c4,U A5 n5 c5,U A6 n6 c6,pV B7 0],bS A3 n3 c3 a0.heap_.m_.Young,bS A4 n4 c4 a0.heap_.m_.Old,bf A5 n5 c5 a0.heap_.roots_,bf A6 n6 c6 a0.heap_.pending_,am B7 147 [.map (some M8)],aK bR cG M8 a0.heap_.set_.at_,am B9 118 [U A10 n10 c10,.map (some M11)],lH A10 n10 c10 a0.shapes_.shapes_,aK bd gc M11 a0.shapes_.next_,fv A12 n12 c12 a0.symbols_,nv A13 n13 c13 a0.events_,fv A14 n14 c14 a0.out_]) (fun u post=> ∃A0 n0 c0 A1 n1 c1 A2 n2 c2 A3 n3 c3 M4 A5 n5 c5 M6 A7 n7 c7 A8 n8 c8 A9 n9 c9,u=.tuple #[.agg #[iV r.1.Kind,iV r.1.N,.string r.1.S],.bool r.2.1]∧post=[am B1 79 (oY r.2.2 B2 B9 A7 n7 c7 A8 n8 c8 A9 n9 c9),am B2 99 [U A0 n0 c0,U A1 n1 c1,U A2 n2 c2,U A3 n3 c3,pV B7 0],bS A0 n0 c0 r.2.2.heap_.m_.Young,bS A1 n1 c1 r.2.2.heap_.m_.Old,bf A2 n2 c2 r.2.2.heap_.roots_,bf A3 n3 c3 r.2.2.heap_.pending_,am B7 147 [.map (some M4)],aK bR cG M4 r.2.2.heap_.set_.at_,am B9 118 [U A5 n5 c5,.map (some M6)],lH A5 n5 c5 r.2.2.shapes_.shapes_,aK bd gc M6 r.2.2.shapes_.next_,fv A7 n7 c7 r.2.2.symbols_,nv A8 n8 c8 r.2.2.events_,fv A9 n9 c9 r.2.2.out_]):=by
 refine bp Tryz.func61 J J ?_;simp only [aP];refine Y ?_;refine gD (bn J J) ?_;rintro _ _ ⟨B17,rfl,rfl⟩;refine gD (aE d7 J) ?_;rintro _ _ ⟨B18,rfl,rfl⟩;refine Y ?_;refine ax ?_;refine ax ?_;refine bN I _ (aj _) ?_;refine zE 0 J (aw J) ?_;refine zE 1 J (cT J z0) ?_;refine zE 2 J (aw J) ?_;refine zE 3 J (aw J) ?_;refine zE 4 J (aB J) ?_;refine zE 5 J (dK J FX) ?_;refine zE 6 J (bz J Jg) ?_;refine zR 7 J (aJ 4 J J dy J) ?_;refine zE 8 J (aw J) ?_;refine zE 9 J (aB J) ?_;refine zE 10 J (bz J FW) ?_;refine zE 11 J (bz J Jj) ?_;refine zR 12 J (aJ 4 J J dy J) ?_;refine zE 13 J (Mu J J) ?_;refine zE 14 J (wA J J) ?_;refine aZ I ?_;refine fb ?_;refine au J (fun g19=> ?_) (fun g19=> ?_)
 ·replace h:=ag g19 h;refine Y ?_;refine gE (bo J (wF)) ?_;refine gO (ao (us:=[iV 0,iV 0,.string (⟨#[]⟩)]) (cs':=[iV 0,iV 0,.string (⟨#[]⟩)]) 0 J J J J aS J J J) ?_;rintro _ _ rfl;refine Y ?_;obtain rfl:=aq h;exact db (rs:=[.cell 4 23,.tmp 5]) (vs:=[.agg #[iV 0,iV 0,.string (⟨#[]⟩)],.bool false]) J (.cons (bT 0 J J bV) (.cons (dr J) .nil)) J (cS [4,5,6,7,8,9,10,11,12,13,14,15,16,17] 18) ⟨_,_,_,_,_,_,_,_,_,_,_,_,_,_,_,_,_,_,_,_,_,_,_,_,_,_,J,J⟩
 replace h:=ah g19 h;refine Y ?_;refine ax ?_;refine bN I ([am B18 23 [iV 0,iV 0,.string (⟨#[]⟩)],am B17 42 [iV a1.Kind,iV a1.Shape,iV a1.Flags,iV a1.Age,U A15 n15 c15,U A16 n16 c16],bE A15 n15 c15 a1.Slots,bE A16 n16 c16 a1.More,am B1 79 (oY a0 B2 B9 A12 n12 c12 A13 n13 c13 A14 n14 c14),am B9 118 [U A10 n10 c10,.map (some M11)],lH A10 n10 c10 a0.shapes_.shapes_,aK bd gc M11 a0.shapes_.next_,fv A12 n12 c12 a0.symbols_,nv A13 n13 c13 a0.events_,fv A14 n14 c14 a0.out_]) (cS [0,1,2,3,4,12,13,14,15,16,17] 18) ?_;refine zE 0 J (aw J) ?_;refine zE 1 J (aB J) ?_;refine zE 2 J (bz J kB) ?_;refine zR 3 J (aJ 4 J J iZ J) ?_;refine zR 4 J (aD (us:=[iV a1.Kind,iV a1.Shape,iV a1.Flags,iV a1.Age,U A15 n15 c15,U A16 n16 c16]) 1 J J bA J) ?_;obtain ⟨y20,hy20,h⟩:=aa h;refine zD 5 J (aT (ny hy20) Iw J (aI [2,3] [5,6,7,8,9,10,11] [0,1,2,3,4,12,13,14,15,16,17] 18 J)) ?_;rintro _ _ ⟨_,⟨A21,n21,c21,A22,n22,c22,A23,n23,c23,A24,n24,c24,M25,rfl,rfl⟩,rfl⟩;refine be (cS [7,8,9,10,11,12,13,14,15,16,17] 18) ?_;refine bu ?_;refine zE 6 J (aw J) ?_;refine zE 7 J (ay J J) ?_;refine zE 8 J (ay J J) ?_;refine zE 9 J (aC J) ?_;refine zE 10 J (aC J) ?_;refine aZ I ?_;refine fb ?_;refine ax ?_;refine Y ?_;refine au J (fun g26=> ?_) (fun g26=> ?_)
 ·replace h:=ag g26 h;refine Y ?_;refine gE (bo J (wF)) ?_;refine gO (ao (us:=[iV 0,iV 0,.string (⟨#[]⟩)]) (cs':=[iV 0,iV 0,.string (⟨#[]⟩)]) 7 J J J J aS J J J) ?_;rintro _ _ rfl;refine Y ?_;obtain rfl:=aq h;exact db (rs:=[.cell 4 23,.tmp 5]) (vs:=[.agg #[iV 0,iV 0,.string (⟨#[]⟩)],.bool false]) J (.cons (bT 7 J J bV) (.cons (dr J) .nil)) J (cS [11,0,1,2,3,4,5,6,12,13,14,15,16,17] 18) ⟨_,_,_,_,_,_,_,_,_,_,_,_,_,_,_,_,_,_,_,_,_,_,_,_,_,_,J,J⟩
 replace h:=ah g26 h;refine Y ?_;refine gR (aJ 11 J J dy J) ?_;obtain ⟨q27,h⟩:=ap h;refine gE (aW J J q27.1 q27.2) ?_;refine Y ?_;refine gO (ao (us:=[iV (a0.spent_.made_+1)]) (cs':=[iV a0.spent_.steps_,iV (a0.spent_.made_+1),iV a0.spent_.calls_,iV a0.config_.Way,iV a0.config_.Steps,iV a0.config_.Calls,iV a0.config_.Made,iV a0.config_.Young,iV a0.config_.Full,iV a0.config_.Sites,.nilIface,pV B2 0,pV B9 0,U A12 n12 c12,iV a0.epoch_,iV a0.serial_,iV a0.sleepers_,U A13 n13 c13,U A14 n14 c14]) 11 J J J J dP J J J) ?_;rintro _ _ rfl;refine cp ?_;refine Y ?_;refine gE (bo J (tL _ _)) ?_;refine gO (ao (us:=[iV 7,iV y20.1,.string (⟨#[]⟩)]) (cs':=[iV 7,iV y20.1,.string (⟨#[]⟩)]) 7 J J J J aS J J J) ?_;rintro _ _ rfl;refine Y ?_;obtain rfl:=aq h;exact db (rs:=[.cell 4 23,.tmp 5]) (vs:=[.agg #[iV 7,iV y20.1,.string (⟨#[]⟩)],.bool true]) J (.cons (bT 7 J J bV) (.cons (dr J) .nil)) J (cS [11,0,1,2,3,4,5,6,12,13,14,15,16,17] 18) ⟨_,_,_,_,_,_,_,_,_,_,_,_,_,_,_,_,_,_,_,_,_,_,_,_,_,_,J,J⟩
def nK (N:Nat)(p48:Int)(p49:Int)(p50:ByteArray)(p51:Bool)(p52:Int)(p53:Int)(p54:Int)(p55:Int)(p56:Int)(p57:Int)(p58:Int)(p59:Int)(p60:Int)(p61:Int)(p62:(List ByteArray))(p63:Int)(p64:Int)(p65:Int)(p66:(List SX))(p67:(List ByteArray))(p68:(List Ta))(p69:(List Ta))(p70:(List SR))(p71:(List SR))(p72:(List SU))(p73:(List (SM×Int)))(p74:(List (Int×Bool))):Option (SZ×Te):=
 bif !p51 then ((kO N (⟨(⟨p52,p53,p54⟩:ST),(⟨p55,p56,p57,p58,p59,p60,p61⟩:SY),(),(⟨(⟨p68,p69⟩:SP),p70,p71,(⟨p74⟩:SW)⟩:SS),(⟨p72,p73⟩:Tb),p62,p63,p64,p65,p66,p67⟩:Te)).bind fun y91=>some (y91,(⟨(⟨p52,p53,p54⟩:ST),(⟨p55,p56,p57,p58,p59,p60,p61⟩:SY),(),(⟨(⟨p68,p69⟩:SP),p70,p71,(⟨p74⟩:SW)⟩:SS),(⟨p72,p73⟩:Tb),p62,p63,p64,p65,p66,p67⟩:Te))) else (some ((⟨1,0,(⟨p48,p49,p50⟩:SR)⟩:SZ),(⟨(⟨p52,p53,p54⟩:ST),(⟨p55,p56,p57,p58,p59,p60,p61⟩:SY),(),(⟨(⟨p68,p69⟩:SP),p70,p71,(⟨p74⟩:SW)⟩:SS),(⟨p72,p73⟩:Tb),p62,p63,p64,p65,p66,p67⟩:Te)))
def kk (N:Nat)(a2:Int)(y23:(Te))(p35:Int):Option (SZ×Te):=
 (qk N y23.shapes_ 0 (⟨1,0,(⟨#[109,101,115,115,97,103,101]⟩:ByteArray)⟩:SN) 5).bind fun y39=>bif !decide (y39.2.1=0) then ((kO N (⟨y23.spent_,y23.config_,(),y23.heap_,y39.2.2,y23.symbols_,y23.epoch_,y23.serial_,y23.sleepers_,y23.events_,y23.out_⟩:Te)).bind fun y43=>some (y43,(⟨y23.spent_,y23.config_,(),y23.heap_,y39.2.2,y23.symbols_,y23.epoch_,y23.serial_,y23.sleepers_,y23.events_,y23.out_⟩:Te))) else ((r8 N a2).bind fun y44=>(bX N y23.heap_ p35).bind fun y75=>(qq N (⟨y23.spent_,y23.config_,(),y23.heap_,y39.2.2,y23.symbols_,y23.epoch_,y23.serial_,y23.sleepers_,y23.events_,y23.out_⟩:Te) (⟨1,y39.1,9,0,([y75,(⟨5,0,y44⟩:SR)]:List SR),[]⟩:Ta)).bind fun y77=>nK N y77.1.Kind y77.1.N y77.1.S y77.2.1 y77.2.2.spent_.steps_ y77.2.2.spent_.made_ y77.2.2.spent_.calls_ y77.2.2.config_.Way y77.2.2.config_.Steps y77.2.2.config_.Calls y77.2.2.config_.Made y77.2.2.config_.Young y77.2.2.config_.Full y77.2.2.config_.Sites y77.2.2.symbols_ y77.2.2.epoch_ y77.2.2.serial_ y77.2.2.sleepers_ y77.2.2.events_ y77.2.2.out_ y77.2.2.heap_.m_.Young y77.2.2.heap_.m_.Old y77.2.2.heap_.roots_ y77.2.2.heap_.pending_ y77.2.2.shapes_.shapes_ y77.2.2.shapes_.next_ y77.2.2.heap_.set_.at_)
def kl (N:Nat)(a1:Int)(a2:Int)(a0:Te)(p18:ByteArray):Option (SZ×Te):=
 (rp N a0 (⟨10,(⟨0,0,⟨#[]⟩⟩:SN),p18⟩:SX)).bind fun y23=>(bif decide (0≤a1) then (some (decide (a1≤3))) else (some false)).bind fun b36=>bif b36 then (bi (in64 (5+a1)) (kk N a2 y23 (5+a1))) else (kk N a2 y23 5)
def pD (N:Nat)(a0:Te)(a1:Int)(a2:Int):Option (SZ×Te):=
 (ui N a1).bind fun y16=>bif !decide (a2=0) then ((r8 N a2).bind fun y20=>bi ((⟨#[58,32]⟩:ByteArray).size+y20.size≤9223372036854775807) (bi (y16.size+((⟨#[58,32]⟩:ByteArray)++y20).size≤9223372036854775807) (kl N a1 a2 a0 (y16++((⟨#[58,32]⟩:ByteArray)++y20))))) else (kl N a1 a2 a0 y16)
set_option maxHeartbeats 4000000 in
theorem uL {N:Nat}{a0:Te}{a1:Int}{a2:Int}{r:(SZ×Te)}(h:pD N a0 a1 a2=some r):Okc Tryz.prog 41 [pV B1 0,iV a1,iV a2] ([am B1 79 (oY a0 B2 B9 A12 n12 c12 A13 n13 c13 A14 n14 c14),am B2 99 [U A3 n3 c3,U A4 n4 c4,U A5 n5 c5,U A6 n6 c6,pV B7 0],bS A3 n3 c3 a0.heap_.m_.Young,bS A4 n4 c4 a0.heap_.m_.Old,bf A5 n5 c5 a0.heap_.roots_,bf A6 n6 c6 a0.heap_.pending_,am B7 147 [.map (some M8)],aK bR cG M8 a0.heap_.set_.at_,am B9 118 [U A10 n10 c10,.map (some M11)],lH A10 n10 c10 a0.shapes_.shapes_,aK bd gc M11 a0.shapes_.next_,fv A12 n12 c12 a0.symbols_,nv A13 n13 c13 a0.events_,fv A14 n14 c14 a0.out_]) (fun u post=> ∃A0 n0 c0 A1 n1 c1 A2 n2 c2 A3 n3 c3 M4 A5 n5 c5 M6 A7 n7 c7 A8 n8 c8 A9 n9 c9,u=(G5 r.1)∧post=[am B1 79 (oY r.2 B2 B9 A7 n7 c7 A8 n8 c8 A9 n9 c9),am B2 99 [U A0 n0 c0,U A1 n1 c1,U A2 n2 c2,U A3 n3 c3,pV B7 0],bS A0 n0 c0 r.2.heap_.m_.Young,bS A1 n1 c1 r.2.heap_.m_.Old,bf A2 n2 c2 r.2.heap_.roots_,bf A3 n3 c3 r.2.heap_.pending_,am B7 147 [.map (some M4)],aK bR cG M4 r.2.heap_.set_.at_,am B9 118 [U A5 n5 c5,.map (some M6)],lH A5 n5 c5 r.2.shapes_.shapes_,aK bd gc M6 r.2.shapes_.next_,fv A7 n7 c7 r.2.symbols_,nv A8 n8 c8 r.2.events_,fv A9 n9 c9 r.2.out_]):=by
 refine bp Tryz.func41 J J ?_;simp only [aP];refine Y ?_;refine gD (aE HH J) ?_;rintro _ _ ⟨B15,rfl,rfl⟩;refine Y ?_;refine ax ?_;refine Y ?_;refine gE (cT J z0) ?_;refine Y ?_;refine dE J ?_;refine Y ?_;obtain ⟨y16,hy16,h⟩:=aa h;refine gD (ai (AF hy16) P7 J (ac) yd) ?_;rintro _ _ ⟨_,⟨rfl,rfl⟩,rfl⟩;refine Y ?_;refine aM (fun s L=> ∃p18,kl N a1 a2 a0 p18=some r∧s=[(0,pV B1 0),(1,iV a1),(2,iV a2),(6,pV B15 0),(7,.string p18)]∧L=[fv A12 n12 c12 a0.symbols_,nv A13 n13 c13 a0.events_,fv A14 n14 c14 a0.out_,am B1 79 (oY a0 B2 B9 A12 n12 c12 A13 n13 c13 A14 n14 c14),am B15 34 [iV 0,iV 0,iV 0,iV 0,.string (⟨#[]⟩)],bS A3 n3 c3 a0.heap_.m_.Young,bS A4 n4 c4 a0.heap_.m_.Old,bf A5 n5 c5 a0.heap_.roots_,bf A6 n6 c6 a0.heap_.pending_,am B2 99 [U A3 n3 c3,U A4 n4 c4,U A5 n5 c5,U A6 n6 c6,pV B7 0],lH A10 n10 c10 a0.shapes_.shapes_,aK bd gc M11 a0.shapes_.next_,am B9 118 [U A10 n10 c10,.map (some M11)],aK bR cG M8 a0.heap_.set_.at_,am B7 147 [.map (some M8)]]) ?_ ?_
 ·refine Y ?_;refine au J (fun g19=> ?_) (fun g19=> ?_)
  ·replace h:=ag g19 h;refine Y ?_;obtain ⟨y20,hy20,h⟩:=aa h;refine gD (ai (vJ hy20) MO J (ac) sQ) ?_;rintro _ _ ⟨_,⟨rfl,rfl⟩,rfl⟩;obtain ⟨q21,h⟩:=ap h;refine gE (EP J J q21) ?_;obtain ⟨q22,h⟩:=ap h;refine gE (EP J J q22) ?_;refine Y ?_;exact ⟨_,_,⟨y16++((⟨#[58,32]⟩:ByteArray)++y20),h,J,J⟩,sA,cS [12,13,14,1,0,3,4,5,6,2,10,11,9,8,7] 15⟩
  replace h:=ah g19 h;refine Y ?_;exact ⟨_,_,⟨y16,h,J,J⟩,sA,cS [12,13,14,1,0,3,4,5,6,2,10,11,9,8,7] 15⟩
 rintro _ _ ⟨p18,h,rfl,rfl⟩;refine Y ?_;refine gE (bo J (Iz _ _)) ?_;obtain ⟨y23,hy23,h⟩:=aa h;refine gD (aT (xQ hy23) P6 J (aI [] [3,9,5,6,7,8,14,13,12,10,11,0,1,2] [4] 15 J)) ?_;rintro _ _ ⟨_,⟨A24,n24,c24,A25,n25,c25,A26,n26,c26,A27,n27,c27,M28,A29,n29,c29,M30,A31,n31,c31,A32,n32,c32,A33,n33,c33,rfl,rfl⟩,rfl⟩;refine cp ?_;refine Y ?_;refine aM (fun s L=> ∃p35,kk N a2 y23 p35=some r∧s=[(0,pV B1 0),(2,iV a2),(6,pV B15 0),(8,iV p35)]∧L=[fv A31 n31 c31 y23.symbols_,nv A32 n32 c32 y23.events_,fv A33 n33 c33 y23.out_,am B1 79 (oY y23 B2 B9 A31 n31 c31 A32 n32 c32 A33 n33 c33),am B15 34 [iV 0,iV 0,iV 0,iV 0,.string (⟨#[]⟩)],bS A24 n24 c24 y23.heap_.m_.Young,bS A25 n25 c25 y23.heap_.m_.Old,bf A26 n26 c26 y23.heap_.roots_,bf A27 n27 c27 y23.heap_.pending_,am B2 99 [U A24 n24 c24,U A25 n25 c25,U A26 n26 c26,U A27 n27 c27,pV B7 0],lH A29 n29 c29 y23.shapes_.shapes_,aK bd gc M30 y23.shapes_.next_,am B9 118 [U A29 n29 c29,.map (some M30)],aK bR cG M28 y23.heap_.set_.at_,am B7 147 [.map (some M28)]]) ?_ ?_
 ·refine Y ?_;obtain ⟨b36,hb36,h⟩:=aa h;refine aO 3 35 b36 ?_ ?_
  ·clear h;refine aN 32 J (fun g36=> ?_) (fun g36=> ?_)
   ·have h:=ag g36 hb36;refine Y ?_;obtain rfl:=aq h;exact ae sA (cS [0,1,2,3,4,5,6,7,8,9,10,11,12,13,14] 15)
   have h:=ah g36 hb36;refine Y ?_;obtain rfl:=aq h;exact ae sA (cS [0,1,2,3,4,5,6,7,8,9,10,11,12,13,14] 15)
  refine Y ?_;refine au J (fun g37=> ?_) (fun g37=> ?_)
  ·replace h:=ag g37 h;refine Y ?_;obtain ⟨q38,h⟩:=ap h;refine gE (aW J J q38.1 q38.2) ?_;refine Y ?_;exact ⟨_,_,⟨5+a1,h,J,J⟩,sA,cS [11,12,13,0,14,2,3,4,5,1,9,10,8,7,6] 15⟩
  replace h:=ah g37 h;refine Y ?_;exact ⟨_,_,⟨5,h,J,J⟩,sA,cS [11,12,13,0,14,2,3,4,5,1,9,10,8,7,6] 15⟩
 rintro _ _ ⟨p35,h,rfl,rfl⟩;refine Y ?_;refine gE (bo J (IA _ _)) ?_;obtain ⟨y39,hy39,h⟩:=aa h;refine gD (aT (wN hy39) P5 J (aI [] [12,10,11] [0,1,2,3,4,5,6,7,8,9,13,14] 15 J)) ?_;rintro _ _ ⟨_,⟨A40,n40,c40,M41,rfl,rfl⟩,rfl⟩;refine cp ?_;refine Y ?_;refine ax ?_;refine Y ?_;refine au J (fun g42=> ?_) (fun g42=> ?_)
 ·replace h:=ag g42 h;refine Y ?_;obtain ⟨y43,hy43,h⟩:=aa h;refine gD (ai (nL hy43) MY J (hJ (az (i:=6) J) (hJ (az (i:=12) J) (hJ (ad (i:=8) J) (hJ (ad (i:=9) J) (hJ (ad (i:=10) J) (hJ (ad (i:=11) J) (hJ (az (i:=14) J) (hJ (bc (i:=13) J) (hJ (az (i:=0) J) (hJ (ad (i:=1) J) (hJ (bc (i:=2) J) (hJ (ad (i:=3) J) (hJ (ad (i:=4) J) (hJ (ad (i:=5) J) ac)))))))))))))) mF) ?_;rintro _ _ ⟨_,⟨rfl,rfl⟩,rfl⟩;refine gO (ao (us:=EN y43) (cs':=EN y43) 7 J J J J Cr J J J) ?_;rintro _ _ rfl;refine cp ?_;refine Y ?_;obtain rfl:=aq h;exact db (rs:=[.cell 6 34]) (vs:=[(G5 y43)]) J (.cons (bT 7 J J JY) .nil) J (cS [6,12,8,9,10,11,14,13,0,1,2,3,4,5] 15) ⟨_,_,_,_,_,_,_,_,_,_,_,_,_,_,_,_,_,_,_,_,_,_,_,_,_,_,J,J⟩
 replace h:=ah g42 h;refine Y ?_;obtain ⟨y44,hy44,h⟩:=aa h;refine gD (ai (vJ hy44) MO J (ac) sQ) ?_;rintro _ _ ⟨_,⟨rfl,rfl⟩,rfl⟩;refine gE (bo J (IE _ _)) ?_;refine gD (aE d7 J) ?_;rintro _ _ ⟨B45,rfl,rfl⟩;refine gO (ao (us:=[iV 5,iV 0,.string y44]) (cs':=[iV 5,iV 0,.string y44]) 0 J J J J aS J J J) ?_;rintro _ _ rfl;refine cp ?_;refine Y ?_;refine aM (fun s L=> ∃p48 p49 p50 p51 p52 p53 p54 p55 p56 p57 p58 p59 p60 p61 p62 p63 p64 p65 p66 p67 p68 p69 p70 p71 p72 p73 p74 B47 A62 n62 c62 A66 n66 c66 A67 n67 c67 A68 n68 c68 A69 n69 c69 A70 n70 c70 A71 n71 c71 A72 n72 c72 M73 M74,nK N p48 p49 p50 p51 p52 p53 p54 p55 p56 p57 p58 p59 p60 p61 p62 p63 p64 p65 p66 p67 p68 p69 p70 p71 p72 p73 p74=some r∧s=[(0,pV B1 0),(6,pV B15 0),(12,pV B47 0),(13,.bool p51)]∧L=[am B47 23 [iV p48,iV p49,.string p50],fv A62 n62 c62 p62,nv A66 n66 c66 p66,fv A67 n67 c67 p67,am B1 79 [iV p52,iV p53,iV p54,iV p55,iV p56,iV p57,iV p58,iV p59,iV p60,iV p61,.nilIface,pV B2 0,pV B9 0,U A62 n62 c62,iV p63,iV p64,iV p65,U A66 n66 c66,U A67 n67 c67],am B15 34 [iV 0,iV 0,iV 0,iV 0,.string (⟨#[]⟩)],bS A68 n68 c68 p68,bS A69 n69 c69 p69,bf A70 n70 c70 p70,bf A71 n71 c71 p71,am B2 99 [U A68 n68 c68,U A69 n69 c69,U A70 n70 c70,U A71 n71 c71,pV B7 0],lH A72 n72 c72 p72,aK bd gc M73 p73,am B9 118 [U A72 n72 c72,.map (some M73)],aK bR cG M74 p74,am B7 147 [.map (some M74)]]) ?_ ?_
 ·refine bN I ([am B45 23 [iV 5,iV 0,.string y44],am B15 34 [iV 0,iV 0,iV 0,iV 0,.string (⟨#[]⟩)]]) (cS [0,8] 16) ?_;refine zE 0 J (aw J) ?_;refine zE 1 J (aw J) ?_;refine zE 2 J (aw J) ?_;refine zE 3 J (aB J) ?_;refine zE 4 J (bz J kB) ?_;refine zE 6 J (aw J) ?_;refine zR 8 J (aD (us:=[iV 5,iV 0,.string y44]) 0 J J bV J) ?_;refine lM 5 15 I ?_ ?_
  ·refine cg J (xr (aJ 7 J J iZ J)) J J J ?_;rintro _ _ ⟨rfl,rfl⟩;refine be (cS [0,8] 16) ?_;refine lM 7 15 I ?_ ?_
   ·obtain ⟨y75,hy75,h⟩:=aa h;refine cg J (ai (cU hy75) sb J (hJ (az (i:=13) J) (hJ (ad (i:=9) J) (hJ (ad (i:=10) J) (hJ (ad (i:=11) J) (hJ (ad (i:=12) J) (hJ (az (i:=15) J) (hJ (bc (i:=14) J) ac))))))) cz) J J J ?_;rintro _ _ ⟨_,⟨rfl,rfl⟩,rfl⟩;refine be (cS [0,8] 16) ?_;refine lM 9 15 I ?_ ?_
    ·refine cg J (bJ (R:=bj) (vss:=[[iV y75.Kind,iV y75.N,.string y75.S],[iV 5,iV 0,.string y44]]) (xs:=[y75,(⟨5,0,y44⟩:SR)]) J (vT _ _ _ _ _ _) J J (fun _ _ hr=> .cons J (.cons J All2.nil))) J J J ?_;rintro _ _ ⟨A76,n76,c76,rfl,rfl⟩;refine be (cS [1,9] 17) ?_;refine zE 10 J (bo J (nH _ _ _ _ _ _)) ?_;refine lM 11 15 I ?_ ?_
     ·refine rf (cV 0 J) (cS [1,9] 17) ?_;refine Lg ?_;obtain ⟨y77,hy77,h⟩:=aa h;refine rf (jR bj _) (cS [2,10] 18) ?_;refine cg J (aT (gl hy77) DJ J (aI [1,0] [9,15,11,12,13,14,17,16,3,4,5,6,7,8] [0,1,2,10] 18 J)) J J J ?_;rintro _ _ ⟨_,⟨A78,n78,c78,A79,n79,c79,A80,n80,c80,A81,n81,c81,M82,A83,n83,c83,M84,A85,n85,c85,A86,n86,c86,A87,n87,c87,rfl,rfl⟩,rfl⟩;refine be (cS [16,17] 18) ?_;refine bu ?_;refine zE 12 J (aw J) ?_;refine zE 13 J (ay J J) ?_;refine zE 14 J (ay J J) ?_;refine zD 15 J (aE d7 J) ?_;rintro _ _ ⟨B89,rfl,rfl⟩;refine be (cS [17,18] 19) ?_;refine zO 16 J (ao (us:=[iV y77.1.Kind,iV y77.1.N,.string y77.1.S]) (cs':=[iV y77.1.Kind,iV y77.1.N,.string y77.1.S]) 0 J J J J aS J J J) ?_;rintro _ _ rfl;refine be (cS [17,18] 19) ?_;refine bu ?_;refine zE 17 J (aC J) ?_;refine aZ I ?_;refine fb ?_
      exact ⟨_,_,⟨y77.1.Kind,y77.1.N,y77.1.S,y77.2.1,y77.2.2.spent_.steps_,y77.2.2.spent_.made_,y77.2.2.spent_.calls_,y77.2.2.config_.Way,y77.2.2.config_.Steps,y77.2.2.config_.Calls,y77.2.2.config_.Made,y77.2.2.config_.Young,y77.2.2.config_.Full,y77.2.2.config_.Sites,y77.2.2.symbols_,y77.2.2.epoch_,y77.2.2.serial_,y77.2.2.sleepers_,y77.2.2.events_,y77.2.2.out_,y77.2.2.heap_.m_.Young,y77.2.2.heap_.m_.Old,y77.2.2.heap_.roots_,y77.2.2.heap_.pending_,y77.2.2.shapes_.shapes_,y77.2.2.shapes_.next_,y77.2.2.heap_.set_.at_,B89,A85,n85,c85,A86,n86,c86,A87,n87,c87,A78,n78,c78,A79,n79,c79,A80,n80,c80,A81,n81,c81,A83,n83,c83,M84,M82,h,J,J⟩,sA,cS [0,12,13,14,1,18,3,4,5,6,2,10,11,9,8,7] 19⟩
     refine cg J (aE d7 J) J J J ?_;rintro _ _ ⟨B77,rfl,rfl⟩;refine be (cS [2,10] 18) ?_;refine lb (cV 1 J) (cS [2,10] 18) ?_;refine bu ?_;obtain ⟨y78,hy78,h⟩:=aa h;refine lb (jR bj _) (cS [3,11] 19) ?_;refine zD 11 J (aT (gl hy78) DJ J (aI [2,0] [10,16,12,13,14,15,18,17,4,5,6,7,8,9] [0,1,2,3,11] 19 J)) ?_;rintro _ _ ⟨_,⟨A79,n79,c79,A80,n80,c80,A81,n81,c81,A82,n82,c82,M83,A84,n84,c84,M85,A86,n86,c86,A87,n87,c87,A88,n88,c88,rfl,rfl⟩,rfl⟩;refine be (cS [17,18] 19) ?_;refine bu ?_;refine zE 12 J (aw J) ?_;refine zE 13 J (ay J J) ?_;refine zE 14 J (ay J J) ?_;refine zO 16 J (ao (us:=[iV y78.1.Kind,iV y78.1.N,.string y78.1.S]) (cs':=[iV y78.1.Kind,iV y78.1.N,.string y78.1.S]) 15 J J J J aS J J J) ?_;rintro _ _ rfl;refine be (cS [17,18] 19) ?_;refine bu ?_;refine zE 17 J (aC J) ?_;refine aZ I ?_;refine fb ?_
     exact ⟨_,_,⟨y78.1.Kind,y78.1.N,y78.1.S,y78.2.1,y78.2.2.spent_.steps_,y78.2.2.spent_.made_,y78.2.2.spent_.calls_,y78.2.2.config_.Way,y78.2.2.config_.Steps,y78.2.2.config_.Calls,y78.2.2.config_.Made,y78.2.2.config_.Young,y78.2.2.config_.Full,y78.2.2.config_.Sites,y78.2.2.symbols_,y78.2.2.epoch_,y78.2.2.serial_,y78.2.2.sleepers_,y78.2.2.events_,y78.2.2.out_,y78.2.2.heap_.m_.Young,y78.2.2.heap_.m_.Old,y78.2.2.heap_.roots_,y78.2.2.heap_.pending_,y78.2.2.shapes_.shapes_,y78.2.2.shapes_.next_,y78.2.2.heap_.set_.at_,B77,A86,n86,c86,A87,n87,c87,A88,n88,c88,A79,n79,c79,A80,n80,c80,A81,n81,c81,A82,n82,c82,A84,n84,c84,M85,M83,h,J,J⟩,sA,cS [15,11,12,13,0,18,2,3,4,5,1,9,10,8,7,6] 19⟩
    refine cg J (aE d7 J) J J J ?_;rintro _ _ ⟨B76,rfl,rfl⟩;refine be (cS [1,9] 17) ?_;refine zD 9 J (bJ (R:=bj) (vss:=[[iV y75.Kind,iV y75.N,.string y75.S],[iV 5,iV 0,.string y44]]) (xs:=[y75,(⟨5,0,y44⟩:SR)]) J (vT _ _ _ _ _ _) J J (fun _ _ hr=> .cons J (.cons J All2.nil))) ?_;rintro _ _ ⟨A77,n77,c77,rfl,rfl⟩;refine be (cS [2,10] 18) ?_;refine zE 10 J (bo J (nH _ _ _ _ _ _)) ?_;refine lb (cV 0 J) (cS [2,10] 18) ?_;refine bu ?_;obtain ⟨y78,hy78,h⟩:=aa h;refine lb (jR bj _) (cS [3,11] 19) ?_;refine zD 11 J (aT (gl hy78) DJ J (aI [1,0] [10,16,12,13,14,15,18,17,4,5,6,7,8,9] [0,1,2,3,11] 19 J)) ?_;rintro _ _ ⟨_,⟨A79,n79,c79,A80,n80,c80,A81,n81,c81,A82,n82,c82,M83,A84,n84,c84,M85,A86,n86,c86,A87,n87,c87,A88,n88,c88,rfl,rfl⟩,rfl⟩;refine be (cS [17,18] 19) ?_;refine bu ?_;refine zE 12 J (aw J) ?_;refine zE 13 J (ay J J) ?_;refine zE 14 J (ay J J) ?_;refine zO 16 J (ao (us:=[iV y78.1.Kind,iV y78.1.N,.string y78.1.S]) (cs':=[iV y78.1.Kind,iV y78.1.N,.string y78.1.S]) 16 J J J J aS J J J) ?_;rintro _ _ rfl;refine be (cS [17,18] 19) ?_;refine bu ?_;refine zE 17 J (aC J) ?_;refine aZ I ?_;refine fb ?_
    exact ⟨_,_,⟨y78.1.Kind,y78.1.N,y78.1.S,y78.2.1,y78.2.2.spent_.steps_,y78.2.2.spent_.made_,y78.2.2.spent_.calls_,y78.2.2.config_.Way,y78.2.2.config_.Steps,y78.2.2.config_.Calls,y78.2.2.config_.Made,y78.2.2.config_.Young,y78.2.2.config_.Full,y78.2.2.config_.Sites,y78.2.2.symbols_,y78.2.2.epoch_,y78.2.2.serial_,y78.2.2.sleepers_,y78.2.2.events_,y78.2.2.out_,y78.2.2.heap_.m_.Young,y78.2.2.heap_.m_.Old,y78.2.2.heap_.roots_,y78.2.2.heap_.pending_,y78.2.2.shapes_.shapes_,y78.2.2.shapes_.next_,y78.2.2.heap_.set_.at_,B76,A86,n86,c86,A87,n87,c87,A88,n88,c88,A79,n79,c79,A80,n80,c80,A81,n81,c81,A82,n82,c82,A84,n84,c84,M85,M83,h,J,J⟩,sA,cS [16,11,12,13,0,18,2,3,4,5,1,9,10,8,7,6] 19⟩
   refine cg J (aE d7 J) J J J ?_;rintro _ _ ⟨B75,rfl,rfl⟩;refine be (cS [1,9] 17) ?_;obtain ⟨y76,hy76,h⟩:=aa h;refine zD 7 J (ai (cU hy76) sb J (hJ (az (i:=14) J) (hJ (ad (i:=10) J) (hJ (ad (i:=11) J) (hJ (ad (i:=12) J) (hJ (ad (i:=13) J) (hJ (az (i:=16) J) (hJ (bc (i:=15) J) ac))))))) cz) ?_;rintro _ _ ⟨_,⟨rfl,rfl⟩,rfl⟩;refine be (cS [1,9] 17) ?_;refine zD 9 J (bJ (R:=bj) (vss:=[[iV y76.Kind,iV y76.N,.string y76.S],[iV 5,iV 0,.string y44]]) (xs:=[y76,(⟨5,0,y44⟩:SR)]) J (vT _ _ _ _ _ _) J J (fun _ _ hr=> .cons J (.cons J All2.nil))) ?_;rintro _ _ ⟨A77,n77,c77,rfl,rfl⟩;refine be (cS [2,10] 18) ?_;refine zE 10 J (bo J (nH _ _ _ _ _ _)) ?_;refine lb (cV 0 J) (cS [2,10] 18) ?_;refine bu ?_;obtain ⟨y78,hy78,h⟩:=aa h;refine lb (jR bj _) (cS [3,11] 19) ?_;refine zD 11 J (aT (gl hy78) DJ J (aI [1,0] [10,16,12,13,14,15,18,17,4,5,6,7,8,9] [0,1,2,3,11] 19 J)) ?_;rintro _ _ ⟨_,⟨A79,n79,c79,A80,n80,c80,A81,n81,c81,A82,n82,c82,M83,A84,n84,c84,M85,A86,n86,c86,A87,n87,c87,A88,n88,c88,rfl,rfl⟩,rfl⟩;refine be (cS [17,18] 19) ?_;refine bu ?_;refine zE 12 J (aw J) ?_;refine zE 13 J (ay J J) ?_;refine zE 14 J (ay J J) ?_;refine zO 16 J (ao (us:=[iV y78.1.Kind,iV y78.1.N,.string y78.1.S]) (cs':=[iV y78.1.Kind,iV y78.1.N,.string y78.1.S]) 16 J J J J aS J J J) ?_;rintro _ _ rfl;refine be (cS [17,18] 19) ?_;refine bu ?_;refine zE 17 J (aC J) ?_
   refine aZ I ?_;refine fb ?_;exact ⟨_,_,⟨y78.1.Kind,y78.1.N,y78.1.S,y78.2.1,y78.2.2.spent_.steps_,y78.2.2.spent_.made_,y78.2.2.spent_.calls_,y78.2.2.config_.Way,y78.2.2.config_.Steps,y78.2.2.config_.Calls,y78.2.2.config_.Made,y78.2.2.config_.Young,y78.2.2.config_.Full,y78.2.2.config_.Sites,y78.2.2.symbols_,y78.2.2.epoch_,y78.2.2.serial_,y78.2.2.sleepers_,y78.2.2.events_,y78.2.2.out_,y78.2.2.heap_.m_.Young,y78.2.2.heap_.m_.Old,y78.2.2.heap_.roots_,y78.2.2.heap_.pending_,y78.2.2.shapes_.shapes_,y78.2.2.shapes_.next_,y78.2.2.heap_.set_.at_,B75,A86,n86,c86,A87,n87,c87,A88,n88,c88,A79,n79,c79,A80,n80,c80,A81,n81,c81,A82,n82,c82,A84,n84,c84,M85,M83,h,J,J⟩,sA,cS [16,11,12,13,0,18,2,3,4,5,1,9,10,8,7,6] 19⟩
  refine cg J (aE d7 J) J J J ?_;rintro _ _ ⟨B75,rfl,rfl⟩;refine be (cS [1,9] 17) ?_;refine zD 5 J (xr (aJ 8 J J iZ J)) ?_;rintro _ _ ⟨rfl,rfl⟩;refine be (cS [1,9] 17) ?_;obtain ⟨y76,hy76,h⟩:=aa h;refine zD 7 J (ai (cU hy76) sb J (hJ (az (i:=14) J) (hJ (ad (i:=10) J) (hJ (ad (i:=11) J) (hJ (ad (i:=12) J) (hJ (ad (i:=13) J) (hJ (az (i:=16) J) (hJ (bc (i:=15) J) ac))))))) cz) ?_;rintro _ _ ⟨_,⟨rfl,rfl⟩,rfl⟩;refine be (cS [1,9] 17) ?_;refine zD 9 J (bJ (R:=bj) (vss:=[[iV y76.Kind,iV y76.N,.string y76.S],[iV 5,iV 0,.string y44]]) (xs:=[y76,(⟨5,0,y44⟩:SR)]) J (vT _ _ _ _ _ _) J J (fun _ _ hr=> .cons J (.cons J All2.nil))) ?_;rintro _ _ ⟨A77,n77,c77,rfl,rfl⟩;refine be (cS [2,10] 18) ?_;refine zE 10 J (bo J (nH _ _ _ _ _ _)) ?_;refine lb (cV 0 J) (cS [2,10] 18) ?_;refine bu ?_;obtain ⟨y78,hy78,h⟩:=aa h;refine lb (jR bj _) (cS [3,11] 19) ?_;refine zD 11 J (aT (gl hy78) DJ J (aI [1,0] [10,16,12,13,14,15,18,17,4,5,6,7,8,9] [0,1,2,3,11] 19 J)) ?_;rintro _ _ ⟨_,⟨A79,n79,c79,A80,n80,c80,A81,n81,c81,A82,n82,c82,M83,A84,n84,c84,M85,A86,n86,c86,A87,n87,c87,A88,n88,c88,rfl,rfl⟩,rfl⟩;refine be (cS [17,18] 19) ?_;refine bu ?_;refine zE 12 J (aw J) ?_;refine zE 13 J (ay J J) ?_;refine zE 14 J (ay J J) ?_;refine zO 16 J (ao (us:=[iV y78.1.Kind,iV y78.1.N,.string y78.1.S]) (cs':=[iV y78.1.Kind,iV y78.1.N,.string y78.1.S]) 16 J J J J aS J J J) ?_;rintro _ _ rfl
  refine be (cS [17,18] 19) ?_;refine bu ?_;refine zE 17 J (aC J) ?_;refine aZ I ?_;refine fb ?_;exact ⟨_,_,⟨y78.1.Kind,y78.1.N,y78.1.S,y78.2.1,y78.2.2.spent_.steps_,y78.2.2.spent_.made_,y78.2.2.spent_.calls_,y78.2.2.config_.Way,y78.2.2.config_.Steps,y78.2.2.config_.Calls,y78.2.2.config_.Made,y78.2.2.config_.Young,y78.2.2.config_.Full,y78.2.2.config_.Sites,y78.2.2.symbols_,y78.2.2.epoch_,y78.2.2.serial_,y78.2.2.sleepers_,y78.2.2.events_,y78.2.2.out_,y78.2.2.heap_.m_.Young,y78.2.2.heap_.m_.Old,y78.2.2.heap_.roots_,y78.2.2.heap_.pending_,y78.2.2.shapes_.shapes_,y78.2.2.shapes_.next_,y78.2.2.heap_.set_.at_,B75,A86,n86,c86,A87,n87,c87,A88,n88,c88,A79,n79,c79,A80,n80,c80,A81,n81,c81,A82,n82,c82,A84,n84,c84,M85,M83,h,J,J⟩,sA,cS [16,11,12,13,0,18,2,3,4,5,1,9,10,8,7,6] 19⟩
 rintro _ _ ⟨p48,p49,p50,p51,p52,p53,p54,p55,p56,p57,p58,p59,p60,p61,p62,p63,p64,p65,p66,p67,p68,p69,p70,p71,p72,p73,p74,B47,A62,n62,c62,A66,n66,c66,A67,n67,c67,A68,n68,c68,A69,n69,c69,A70,n70,c70,A71,n71,c71,A72,n72,c72,M73,M74,h,rfl,rfl⟩;refine ax ?_;refine Y ?_;refine au J (fun g90=> ?_) (fun g90=> ?_)
 ·replace h:=ag g90 h;refine Y ?_;obtain ⟨y91,hy91,h⟩:=aa h;refine gD (ai (nL hy91) MY J (hJ (az (i:=4) J) (hJ (az (i:=10) J) (hJ (ad (i:=6) J) (hJ (ad (i:=7) J) (hJ (ad (i:=8) J) (hJ (ad (i:=9) J) (hJ (az (i:=15) J) (hJ (bc (i:=14) J) (hJ (az (i:=13) J) (hJ (ad (i:=11) J) (hJ (bc (i:=12) J) (hJ (ad (i:=1) J) (hJ (ad (i:=2) J) (hJ (ad (i:=3) J) ac)))))))))))))) mF) ?_;rintro _ _ ⟨_,⟨rfl,rfl⟩,rfl⟩;refine gO (ao (us:=EN y91) (cs':=EN y91) 5 J J J J Cr J J J) ?_;rintro _ _ rfl;refine cp ?_;refine Y ?_;obtain rfl:=aq h;exact db (rs:=[.cell 6 34]) (vs:=[(G5 y91)]) J (.cons (bT 5 J J JY) .nil) J (cS [4,10,6,7,8,9,15,14,13,11,12,1,2,3] 16) ⟨_,_,_,_,_,_,_,_,_,_,_,_,_,_,_,_,_,_,_,_,_,_,_,_,_,_,J,J⟩
 replace h:=ah g90 h;refine Y ?_;refine gR (aD (us:=[iV p48,iV p49,.string p50]) 0 J J bV J) ?_;refine gE (bo J (IC _ _ _ _)) ?_;refine gO (ao (us:=[iV 1,iV 0,iV p48,iV p49,.string p50]) (cs':=[iV 1,iV 0,iV p48,iV p49,.string p50]) 5 J J J J Cr J J J) ?_;rintro _ _ rfl;refine cp ?_;refine Y ?_;obtain rfl:=aq h;exact db (rs:=[.cell 6 34]) (vs:=[.agg #[iV 1,iV 0,iV p48,iV p49,.string p50]]) J (.cons (bT 5 J J JY) .nil) J (cS [4,10,6,7,8,9,15,14,13,11,12,1,2,3] 16) ⟨_,_,_,_,_,_,_,_,_,_,_,_,_,_,_,_,_,_,_,_,_,_,_,_,_,_,J,J⟩
def oR (N:Nat)(a0:Te):Option (List SX):=
 bi (bQ (([]:List SX).length+a0.events_.length)) (some (([]:List SX)++a0.events_))
theorem uw {N:Nat}{a0:Te}{r:(List SX)}(h:oR N a0=some r):Okc Tryz.prog 25 [pV B1 0] ([aR B1 79 (oY a0 B2 B9 A12 n12 c12 A13 n13 c13 A14 n14 c14),aR B2 99 [U A3 n3 c3,U A4 n4 c4,U A5 n5 c5,U A6 n6 c6,pV B7 0],bB A3 n3 c3 a0.heap_.m_.Young,bB A4 n4 c4 a0.heap_.m_.Old,bE A5 n5 c5 a0.heap_.roots_,bE A6 n6 c6 a0.heap_.pending_,aR B7 147 [.map (some M8)],fh bR cG M8 a0.heap_.set_.at_,aR B9 118 [U A10 n10 c10,.map (some M11)],ij dx (U A10 n10 c10) a0.shapes_.shapes_,fh bd gc M11 a0.shapes_.next_,ij nX (U A12 n12 c12) a0.symbols_,ij i6 (U A13 n13 c13) a0.events_,ij nX (U A14 n14 c14) a0.out_]) (fun u post=> ∃A0 n0 c0,u=U A0 n0 c0∧post=[nv A0 n0 c0 r]):=by
 refine bp Tryz.func25 J J ?_;simp only [aP];refine Y ?_;refine ax ?_;refine Y ?_;refine gE (cT J z0) ?_;refine Y ?_;refine dE J ?_;refine Y ?_;refine gR (ba 0 J J LD J) ?_;refine wb (cn i6 84 _) ?_;obtain ⟨q16,h⟩:=ap h;refine gD (bK 0 13 J J av J J SK QK J J q16) ?_;rintro _ _ ⟨A17,n17,c17,rfl,rfl⟩;refine Y ?_;obtain rfl:=aq h;exact aL J J (cS [0] 15) ⟨_,_,_,J,J⟩
theorem sv {r:(List SX)}: ∀v post,((fun (u:Value) (post:List Chunk)=> ∃A0 n0 c0,u=U A0 n0 c0∧post=[nv A0 n0 c0 r])) v post→ ∀c∈post,ce c:=by
 rintro _ _ ⟨_,_,_,rfl,rfl⟩;exact hJ bP (ac)
def qr (N:Nat)(a0:Te):Option Int:=
 some a0.spent_.made_
theorem wS {N:Nat}{a0:Te}{r:Int}(h:qr N a0=some r):Okc Tryz.prog 28 [pV B1 0] ([aR B1 79 (oY a0 B2 B9 A12 n12 c12 A13 n13 c13 A14 n14 c14),aR B2 99 [U A3 n3 c3,U A4 n4 c4,U A5 n5 c5,U A6 n6 c6,pV B7 0],bB A3 n3 c3 a0.heap_.m_.Young,bB A4 n4 c4 a0.heap_.m_.Old,bE A5 n5 c5 a0.heap_.roots_,bE A6 n6 c6 a0.heap_.pending_,aR B7 147 [.map (some M8)],fh bR cG M8 a0.heap_.set_.at_,aR B9 118 [U A10 n10 c10,.map (some M11)],ij dx (U A10 n10 c10) a0.shapes_.shapes_,fh bd gc M11 a0.shapes_.next_,ij nX (U A12 n12 c12) a0.symbols_,ij i6 (U A13 n13 c13) a0.events_,ij nX (U A14 n14 c14) a0.out_]) (fun u post=>u=iV r∧post=[]):=by
 refine bp Tryz.func28 J J ?_;simp only [aP];refine Y ?_;refine ax ?_;refine Y ?_;refine gE (cT J z0) ?_;refine Y ?_;refine dE J ?_;refine Y ?_;refine gR (ba 0 J J dy J) ?_;refine Y ?_;obtain rfl:=aq h;exact aL J J (cS [] 14) ⟨J,J⟩
theorem uu {r:Int}: ∀v post,((fun (u:Value) (post:List Chunk)=>u=iV r∧post=[])) v post→ ∀c∈post,ce c:=by
 rintro _ _ ⟨rfl,rfl⟩;exact ac
def kG (N:Nat):Option Bool:=
 (mG N (⟨0,1,1,3,0,0,0⟩:SY)).bind fun y1=>Fg y1 (fun y1_0=>some false) (fun y1_1=>bif !decide (y1_1.2=0) then (some false) else ((el N y1_1.1).bind fun y17=>bif !y17.1 then (some false) else ((el N y17.2).bind fun y29=>bif y29.1 then (some false) else ((pD N y29.2 1 1).bind fun y41=>(oR N y41.2).bind fun y53=>(bif decide (y41.1.Kind=1) then (some (decide ((y53.length:Int)=1))) else (some false)).bind fun b55=>(bif b55 then ((aF y53 0).bind fun x57=>some (x57.S.toList==(⟨#[84,121,112,101,69,114,114,111,114,58,32,110,111,116,32,99,97,108,108,97,98,108,101]⟩:ByteArray).toList)) else (some false)).bind fun b56=>(bif b56 then ((qr N y41.2).bind fun y59=>some (decide (y59=1))) else (some false)).bind fun b58=>(bif b58 then ((bW N y41.2 y41.1.Value).bind fun y61=>some (decide (y61.Flags=9))) else (some false)).bind fun b60=>some b60))))
set_option maxHeartbeats 4000000 in
theorem sU {N:Nat}{r:Bool}(h:kG N=some r):Okc Tryz.prog 13 [] ([]) (fun u post=>u=.bool r∧post=[]):=by
 refine bp Tryz.func13 J J ?_;simp only [aP];refine Y ?_;refine gE (bo J (Gd _ _ _)) ?_;obtain ⟨y1,hy1,h⟩:=aa h;rcases y1 with y1_0|y1_1
 ·replace h:=Kg h;refine gD (aT (pM hy1) Js J (aI [] [] [] 0 J)) ?_;rintro _ _ ⟨_,⟨rfl,rfl⟩,rfl⟩;refine Y ?_;refine ax ?_;refine Y ?_;refine gE (cT J z0) ?_;refine Y ?_;refine ea J ?_;refine Y ?_;obtain rfl:=aq h;exact aL J J (cS [] 0) ⟨J,J⟩
 replace h:=Kf h;refine gD (aT (pM hy1) Js J (aI [] [] [] 0 J)) ?_;rintro _ _ ⟨_,⟨B2,B3,A4,n4,c4,A5,n5,c5,A6,n6,c6,A7,n7,c7,B8,M9,B10,A11,n11,c11,M12,A13,n13,c13,A14,n14,c14,A15,n15,c15,rfl,rfl⟩,rfl⟩;refine Y ?_;refine ax ?_;refine Y ?_;refine gE (cT J z0) ?_;refine Y ?_;refine aN 16 J (fun g16=> ?_) (fun g16=> ?_)
 ·replace h:=ag g16 h;refine Y ?_;refine ea J ?_;refine Y ?_;obtain rfl:=aq h;exact aL J J (cS [] 14) ⟨J,J⟩
 replace h:=ah g16 h;refine Y ?_;obtain ⟨y17,hy17,h⟩:=aa h;refine dn (aT (lE hy17) Ix J (aI [] [0,1,2,3,4,5,6,7,8,9,10,11,12,13] [] 14 J)) J (eS g16 J) J ?_;rintro _ _ ⟨_,⟨A18,n18,c18,A19,n19,c19,A20,n20,c20,A21,n21,c21,M22,A23,n23,c23,M24,A25,n25,c25,A26,n26,c26,A27,n27,c27,rfl,rfl⟩,rfl⟩;refine cp ?_;refine Y ?_;refine aN 21 J (fun g28=> ?_) (fun g28=> ?_)
 ·replace h:=ag g28 h;refine Y ?_;refine ea J ?_;refine Y ?_;obtain rfl:=aq h;exact aL J J (cS [] 14) ⟨J,J⟩
 replace h:=ah g28 h;refine Y ?_;obtain ⟨y29,hy29,h⟩:=aa h;refine dn (aT (lE hy29) Ix J (aI [] [0,1,2,3,4,5,6,7,8,9,10,11,12,13] [] 14 J)) J (eS g28 J) J ?_;rintro _ _ ⟨_,⟨A30,n30,c30,A31,n31,c31,A32,n32,c32,A33,n33,c33,M34,A35,n35,c35,M36,A37,n37,c37,A38,n38,c38,A39,n39,c39,rfl,rfl⟩,rfl⟩;refine Y ?_;refine au J (fun g40=> ?_) (fun g40=> ?_)
 ·replace h:=ag g40 h;refine Y ?_;obtain rfl:=aq h;exact aL J J (cS [] 14) ⟨J,J⟩
 replace h:=ah g40 h;refine Y ?_;obtain ⟨y41,hy41,h⟩:=aa h;refine gD (aT (uL hy41) Qg J (aI [] [0,1,2,3,4,5,6,7,8,9,10,11,12,13] [] 14 J)) ?_;rintro _ _ ⟨_,⟨A42,n42,c42,A43,n43,c43,A44,n44,c44,A45,n45,c45,M46,A47,n47,c47,M48,A49,n49,c49,A50,n50,c50,A51,n51,c51,rfl,rfl⟩,rfl⟩;refine gD (aE HH J) ?_;rintro _ _ ⟨B52,rfl,rfl⟩;refine gO (ao (us:=EN y41.1) (cs':=EN y41.1) 0 J J J J Cr J J J) ?_;rintro _ _ rfl;refine cp ?_;refine Y ?_;obtain ⟨y53,hy53,h⟩:=aa h;refine gD (ai (uw hy53) Qm J (hJ (az (i:=1) J) (hJ (az (i:=2) J) (hJ (ad (i:=3) J) (hJ (ad (i:=4) J) (hJ (ad (i:=5) J) (hJ (ad (i:=6) J) (hJ (az (i:=7) J) (hJ (bc (i:=8) J) (hJ (az (i:=9) J) (hJ (ad (i:=10) J) (hJ (bc (i:=11) J) (hJ (ad (i:=12) J) (hJ (ad (i:=13) J) (hJ (ad (i:=14) J) ac)))))))))))))) sv) ?_;rintro _ _ ⟨_,⟨A54,n54,c54,rfl,rfl⟩,rfl⟩;refine Y ?_;obtain ⟨b55,hb55,h⟩:=aa h;refine aO 4 36 b55 ?_ ?_
 ·clear h;refine aN 32 J (fun g55=> ?_) (fun g55=> ?_)
  ·have h:=ag g55 hb55;refine Y ?_;refine cL (aU 0 J aH J SK) J (bU g55 J) J ?_;refine Y ?_;obtain rfl:=aq h;exact ae sA (cS [0,1,2,3,4,5,6,7,8,9,10,11,12,13,14,15] 16)
  have h:=ah g55 hb55;refine Y ?_;obtain rfl:=aq h;exact ae sA (cS [0,1,2,3,4,5,6,7,8,9,10,11,12,13,14,15] 16)
 refine Y ?_;obtain ⟨b56,hb56,h⟩:=aa h;refine aO 6 43 b56 ?_ ?_
 ·clear h;refine aN 37 J (fun g56=> ?_) (fun g56=> ?_)
  ·have h:=ag g56 hb56;refine Y ?_;obtain ⟨x57,hx57,h⟩:=aa h;obtain ⟨lx57,ux57,hx57⟩:=aA hx57;refine cL (aX 0 J aH J J SK PD lx57 ux57) J (bU g56 J) J ?_;refine cL (AX 0 J aH J (fE lx57 ux57) Jf) J (bU g56 J) J ?_;refine cL (bH (u:=.string x57.S) 0 J aH J hx57 NV (fun _ _ _ h=>by rw [show _=_ from h];rfl)) J (bU g56 J) J ?_;refine o8 (zF J J) J (bU g56 J) J ?_;refine Y ?_;obtain rfl:=aq h;exact ae sA (cS [0,1,2,3,4,5,6,7,8,9,10,11,12,13,14,15] 16)
  have h:=ah g56 hb56;refine Y ?_;obtain rfl:=aq h;exact ae sA (cS [0,1,2,3,4,5,6,7,8,9,10,11,12,13,14,15] 16)
 refine Y ?_;obtain ⟨b58,hb58,h⟩:=aa h;refine aO 4 48 b58 ?_ ?_
 ·clear h;refine aN 44 J (fun g58=> ?_) (fun g58=> ?_)
  ·have h:=ag g58 hb58;refine Y ?_;obtain ⟨y59,hy59,h⟩:=aa h;refine dn (ai (wS hy59) Ql J (hJ (az (i:=2) J) (hJ (az (i:=3) J) (hJ (ad (i:=4) J) (hJ (ad (i:=5) J) (hJ (ad (i:=6) J) (hJ (ad (i:=7) J) (hJ (az (i:=8) J) (hJ (bc (i:=9) J) (hJ (az (i:=10) J) (hJ (ad (i:=11) J) (hJ (bc (i:=12) J) (hJ (ad (i:=13) J) (hJ (ad (i:=14) J) (hJ (ad (i:=15) J) ac)))))))))))))) uu) J (bU g58 J) J ?_;rintro _ _ ⟨_,⟨rfl,rfl⟩,rfl⟩;refine Y ?_;obtain rfl:=aq h;exact ae sA (cS [0,1,2,3,4,5,6,7,8,9,10,11,12,13,14,15] 16)
  have h:=ah g58 hb58;refine Y ?_;obtain rfl:=aq h;exact ae sA (cS [0,1,2,3,4,5,6,7,8,9,10,11,12,13,14,15] 16)
 refine Y ?_;obtain ⟨b60,hb60,h⟩:=aa h;refine aO 7 56 b60 ?_ ?_
 ·clear h;refine aN 49 J (fun g60=> ?_) (fun g60=> ?_)
  ·have h:=ag g60 hb60;refine Y ?_;refine cL (aD (us:=oG y41.1.Value) 1 J J bV J) J (bU g60 J) J ?_;obtain ⟨y61,hy61,h⟩:=aa h;refine dn (ai (dH hy61) yi J (hJ (az (i:=2) J) (hJ (az (i:=3) J) (hJ (ad (i:=4) J) (hJ (ad (i:=5) J) (hJ (ad (i:=6) J) (hJ (ad (i:=7) J) (hJ (az (i:=8) J) (hJ (bc (i:=9) J) (hJ (az (i:=10) J) (hJ (ad (i:=11) J) (hJ (bc (i:=12) J) (hJ (ad (i:=13) J) (hJ (ad (i:=14) J) (hJ (ad (i:=15) J) ac)))))))))))))) dj) J (bU g60 J) J ?_;rintro _ _ ⟨_,⟨A62,n62,c62,A63,n63,c63,rfl,rfl⟩,rfl⟩;refine o8 (vI J (Mh _ _ _ _ _ _ _ _ _ _)) J (bU g60 J) J ?_;refine Y ?_;obtain rfl:=aq h;exact ae sA (cS [2,3,4,5,6,7,8,9,10,11,12,13,14,15,16,17] 18)
  have h:=ah g60 hb60;refine Y ?_;obtain rfl:=aq h;exact ae sA (cS [0,1,2,3,4,5,6,7,8,9,10,11,12,13,14,15] 16)
 refine Y ?_;obtain rfl:=aq h;exact aL J J (cS [] 16) ⟨J,J⟩
theorem qa {r:Bool}: ∀v post,((fun (u:Value) (post:List Chunk)=>u=.bool r∧post=[])) v post→ ∀c∈post,ce c:=by
 rintro _ _ ⟨rfl,rfl⟩;exact ac
def gV (N:Nat)(a0:Te)(a1:SR):Option (Int×Te):=
 (dA N a0.heap_ a1).bind fun y16=>some (y16.1,(⟨a0.spent_,a0.config_,(),y16.2,a0.shapes_,a0.symbols_,a0.epoch_,a0.serial_,a0.sleepers_,a0.events_,a0.out_⟩:Te))
theorem wR {N:Nat}{a0:Te}{a1:SR}{r:(Int×Te)}(h:gV N a0 a1=some r):Okc Tryz.prog 15 [pV B1 0,(fC a1)] ([am B1 79 (oY a0 B2 B9 A12 n12 c12 A13 n13 c13 A14 n14 c14),am B2 99 [U A3 n3 c3,U A4 n4 c4,U A5 n5 c5,U A6 n6 c6,pV B7 0],bS A3 n3 c3 a0.heap_.m_.Young,bS A4 n4 c4 a0.heap_.m_.Old,bf A5 n5 c5 a0.heap_.roots_,bf A6 n6 c6 a0.heap_.pending_,am B7 147 [.map (some M8)],aK bR cG M8 a0.heap_.set_.at_,am B9 118 [U A10 n10 c10,.map (some M11)],lH A10 n10 c10 a0.shapes_.shapes_,aK bd gc M11 a0.shapes_.next_,fv A12 n12 c12 a0.symbols_,nv A13 n13 c13 a0.events_,fv A14 n14 c14 a0.out_]) (fun u post=> ∃A0 n0 c0 A1 n1 c1 A2 n2 c2 A3 n3 c3 M4 A5 n5 c5 M6 A7 n7 c7 A8 n8 c8 A9 n9 c9,u=iV r.1∧post=[am B1 79 (oY r.2 B2 B9 A7 n7 c7 A8 n8 c8 A9 n9 c9),am B2 99 [U A0 n0 c0,U A1 n1 c1,U A2 n2 c2,U A3 n3 c3,pV B7 0],bS A0 n0 c0 r.2.heap_.m_.Young,bS A1 n1 c1 r.2.heap_.m_.Old,bf A2 n2 c2 r.2.heap_.roots_,bf A3 n3 c3 r.2.heap_.pending_,am B7 147 [.map (some M4)],aK bR cG M4 r.2.heap_.set_.at_,am B9 118 [U A5 n5 c5,.map (some M6)],lH A5 n5 c5 r.2.shapes_.shapes_,aK bd gc M6 r.2.shapes_.next_,fv A7 n7 c7 r.2.symbols_,nv A8 n8 c8 r.2.events_,fv A9 n9 c9 r.2.out_]):=by
 refine bp Tryz.func15 J J ?_;simp only [aP];refine Y ?_;refine gD (bn J J) ?_;rintro _ _ ⟨B15,rfl,rfl⟩;refine Y ?_;refine ax ?_;refine Y ?_;refine gE (cT J z0) ?_;refine Y ?_;refine dE J ?_;refine Y ?_;refine ax ?_;refine bN I ([am B15 23 (oG a1),am B1 79 (oY a0 B2 B9 A12 n12 c12 A13 n13 c13 A14 n14 c14),am B9 118 [U A10 n10 c10,.map (some M11)],lH A10 n10 c10 a0.shapes_.shapes_,aK bd gc M11 a0.shapes_.next_,fv A12 n12 c12 a0.symbols_,nv A13 n13 c13 a0.events_,fv A14 n14 c14 a0.out_]) (cS [0,1,9,10,11,12,13,14] 15) ?_;refine zE 0 J (aw J) ?_;refine zE 1 J (aB J) ?_;refine zE 2 J (bz J kB) ?_;refine zR 3 J (aJ 1 J J iZ J) ?_;refine zR 4 J (aD (us:=oG a1) 0 J J bV J) ?_;obtain ⟨y16,hy16,h⟩:=aa h;refine zD 5 J (aT (dm hy16) tJ J (aI [] [2,3,4,5,6,7,8] [0,1,9,10,11,12,13,14] 15 J)) ?_;rintro _ _ ⟨_,⟨A17,n17,c17,A18,n18,c18,A19,n19,c19,A20,n20,c20,M21,rfl,rfl⟩,rfl⟩;refine be (cS [7,8,9,10,11,12,13,14] 15) ?_;refine bu ?_;refine zE 6 J (aC J) ?_;refine aZ I ?_;refine Y ?_;obtain rfl:=aq h;exact aL J J (cS [8,0,1,2,3,4,5,6,9,10,11,12,13,14] 15) ⟨_,_,_,_,_,_,_,_,_,_,_,_,_,_,_,_,_,_,_,_,_,_,_,_,_,_,J,J⟩
def ji (N:Nat)(a0:Te)(a1:Int):Option SR:=
 (bX N a0.heap_ a1).bind fun y16=>some y16
theorem yE {N:Nat}{a0:Te}{a1:Int}{r:SR}(h:ji N a0 a1=some r):Okc Tryz.prog 18 [pV B1 0,iV a1] ([aR B1 79 (oY a0 B2 B9 A12 n12 c12 A13 n13 c13 A14 n14 c14),aR B2 99 [U A3 n3 c3,U A4 n4 c4,U A5 n5 c5,U A6 n6 c6,pV B7 0],bB A3 n3 c3 a0.heap_.m_.Young,bB A4 n4 c4 a0.heap_.m_.Old,bE A5 n5 c5 a0.heap_.roots_,bE A6 n6 c6 a0.heap_.pending_,aR B7 147 [.map (some M8)],fh bR cG M8 a0.heap_.set_.at_,aR B9 118 [U A10 n10 c10,.map (some M11)],ij dx (U A10 n10 c10) a0.shapes_.shapes_,fh bd gc M11 a0.shapes_.next_,ij nX (U A12 n12 c12) a0.symbols_,ij i6 (U A13 n13 c13) a0.events_,ij nX (U A14 n14 c14) a0.out_]) (fun u post=>u=(fC r)∧post=[]):=by
 refine bp Tryz.func18 J J ?_;simp only [aP];refine Y ?_;refine gD (aE d7 J) ?_;rintro _ _ ⟨B15,rfl,rfl⟩;refine Y ?_;refine ax ?_;refine Y ?_;refine gE (cT J z0) ?_;refine Y ?_;refine dE J ?_;refine Y ?_;refine gR (ba 1 J J iZ J) ?_;refine Y ?_;obtain ⟨y16,hy16,h⟩:=aa h;refine gD (ai (cU hy16) sb J (hJ (ab (i:=2) J J) (hJ (ab (i:=3) J J) (hJ (ab (i:=4) J J) (hJ (ab (i:=5) J J) (hJ (ab (i:=6) J J) (hJ (ab (i:=7) J J) (hJ (ab (i:=8) J J) ac))))))) cz) ?_;rintro _ _ ⟨_,⟨rfl,rfl⟩,rfl⟩;refine gO (ao (us:=[iV y16.Kind,iV y16.N,.string y16.S]) (cs':=[iV y16.Kind,iV y16.N,.string y16.S]) 0 J J J J aS J J J) ?_;rintro _ _ rfl;refine Y ?_;obtain rfl:=aq h;exact db (rs:=[.cell 4 23]) (vs:=[.agg #[iV y16.Kind,iV y16.N,.string y16.S]]) J (.cons (bT 0 J J bV) .nil) J (cS [] 15) ⟨J,J⟩
theorem wU {r:SR}: ∀v post,((fun (u:Value) (post:List Chunk)=>u=(fC r)∧post=[])) v post→ ∀c∈post,ce c:=by
 rintro _ _ ⟨rfl,rfl⟩;exact ac
def bx (N:Nat)(a0:Te)(a1:Int):Option SR:=
 (bif decide (a1<0) then (some true) else (some (decide (18≤a1)))).bind fun b16=>bif b16 then (some (⟨0,0,⟨#[]⟩⟩:SR)) else ((bX N a0.heap_ a1).bind fun y18=>some y18)
theorem fx {N:Nat}{a0:Te}{a1:Int}{r:SR}(h:bx N a0 a1=some r):Okc Tryz.prog 8 [pV B1 0,iV a1] ([aR B1 79 (oY a0 B2 B9 A12 n12 c12 A13 n13 c13 A14 n14 c14),aR B2 99 [U A3 n3 c3,U A4 n4 c4,U A5 n5 c5,U A6 n6 c6,pV B7 0],bB A3 n3 c3 a0.heap_.m_.Young,bB A4 n4 c4 a0.heap_.m_.Old,bE A5 n5 c5 a0.heap_.roots_,bE A6 n6 c6 a0.heap_.pending_,aR B7 147 [.map (some M8)],fh bR cG M8 a0.heap_.set_.at_,aR B9 118 [U A10 n10 c10,.map (some M11)],ij dx (U A10 n10 c10) a0.shapes_.shapes_,fh bd gc M11 a0.shapes_.next_,ij nX (U A12 n12 c12) a0.symbols_,ij i6 (U A13 n13 c13) a0.events_,ij nX (U A14 n14 c14) a0.out_]) (fun u post=>u=(fC r)∧post=[]):=by
 refine bp Tryz.func8 J J ?_;simp only [aP];refine Y ?_;refine gD (aE d7 J) ?_;rintro _ _ ⟨B15,rfl,rfl⟩;refine Y ?_;refine ax ?_;refine Y ?_;refine gE (cT J z0) ?_;refine Y ?_;obtain ⟨b16,hb16,h⟩:=aa h;refine aO 3 14 b16 ?_ ?_
 ·clear h;refine aN 11 J (fun g16=> ?_) (fun g16=> ?_)
  ·have h:=ag g16 hb16;refine Y ?_;obtain rfl:=aq h;exact ae sA (cS [0,1,2,3,4,5,6,7,8,9,10,11,12,13,14] 15)
  have h:=ah g16 hb16;refine Y ?_;obtain rfl:=aq h;exact ae sA (cS [0,1,2,3,4,5,6,7,8,9,10,11,12,13,14] 15)
 refine Y ?_;refine au J (fun g17=> ?_) (fun g17=> ?_)
 ·replace h:=ag g17 h;refine Y ?_;refine gE (bo J (wF)) ?_;refine gO (ao (us:=[iV 0,iV 0,.string (⟨#[]⟩)]) (cs':=[iV 0,iV 0,.string (⟨#[]⟩)]) 0 J J J J aS J J J) ?_;rintro _ _ rfl;refine Y ?_;obtain rfl:=aq h;exact db (rs:=[.cell 4 23]) (vs:=[.agg #[iV 0,iV 0,.string (⟨#[]⟩)]]) J (.cons (bT 0 J J bV) .nil) J (cS [] 15) ⟨J,J⟩
 replace h:=ah g17 h;refine Y ?_;refine gR (ba 1 J J iZ J) ?_;refine Y ?_;obtain ⟨y18,hy18,h⟩:=aa h;refine gD (ai (cU hy18) sb J (hJ (ab (i:=2) J J) (hJ (ab (i:=3) J J) (hJ (ab (i:=4) J J) (hJ (ab (i:=5) J J) (hJ (ab (i:=6) J J) (hJ (ab (i:=7) J J) (hJ (ab (i:=8) J J) ac))))))) cz) ?_;rintro _ _ ⟨_,⟨rfl,rfl⟩,rfl⟩;refine gO (ao (us:=[iV y18.Kind,iV y18.N,.string y18.S]) (cs':=[iV y18.Kind,iV y18.N,.string y18.S]) 0 J J J J aS J J J) ?_;rintro _ _ rfl;refine Y ?_;obtain rfl:=aq h;exact db (rs:=[.cell 4 23]) (vs:=[.agg #[iV y18.Kind,iV y18.N,.string y18.S]]) J (.cons (bT 0 J J bV) .nil) J (cS [] 15) ⟨J,J⟩
theorem eL {r:SR}: ∀v post,((fun (u:Value) (post:List Chunk)=>u=(fC r)∧post=[])) v post→ ∀c∈post,ce c:=by
 rintro _ _ ⟨rfl,rfl⟩;exact ac
end Go.Proofs.YtdcccmadhipinaaGreat
namespace Go.Proofs.YtdcccmadhipinaaGreat
variable {A1 A10 A12 A13 A14 A15 A16 A2 A3 A4 A5 A6 A8 A9:Option Addr} {B1 B2 B6 B7 B9 M11 M3 M7 M8 c1 c10 c12 c13 c14 c15 c16 c2 c3 c4 c5 c6 c8 c9 n1 n10 n12 n13 n14 n15 n16 n2 n3 n4 n5 n6 n8 n9:Nat}
open Go.RowKit Asn
set_option maxRecDepth 20000
def iM (N:Nat)(y16:(Ta))(p25:Int)(p26:Int)(p27:ByteArray):Option Bool:=
 (aF y16.Slots 0).bind fun x40=>some (decide (x40=(⟨p25,p26,p27⟩:SR)))
def ou (N:Nat)(a0:Te)(y16:(Ta))(y22:(SR))(p36:Bool):Option Bool:=
 bif p36 then ((bx N a0 3).bind fun y39=>iM N y16 y39.Kind y39.N y39.S) else (iM N y16 y22.Kind y22.N y22.S)
def lO (N:Nat)(a1:Int)(a0:Te)(y16:(Ta))(y22:(SR))(p30:Bool):Option Bool:=
 bif p30 then ((bx N a0 5).bind fun y34=>iM N y16 y34.Kind y34.N y34.S) else (bif decide (a1=4) then (ou N a0 y16 y22 (decide (a1=4))) else (ou N a0 y16 y22 (decide (a1=16))))
def oN (N:Nat)(a0:Te)(a1:Int):Option Bool:=
 (bx N a0 a1).bind fun y15=>(bW N a0 y15).bind fun y16=>(bif !decide (y16.Kind=1) then (some true) else (some (!decide ((y16.Slots.length:Int)=1)))).bind fun b20=>bif b20 then (some false) else ((bx N a0 0).bind fun y22=>bif decide (a1=0) then (iM N y16 1 0 (⟨#[]⟩)) else (bif decide (a1=6) then (lO N a1 a0 y16 y22 (decide (a1=6))) else (bif decide (a1=7) then (lO N a1 a0 y16 y22 (decide (a1=7))) else (lO N a1 a0 y16 y22 (decide (a1=8))))))
set_option maxHeartbeats 4000000 in
theorem Fd {N:Nat}{a0:Te}{a1:Int}{r:Bool}(h:oN N a0 a1=some r):Okc Tryz.prog 19 [pV B1 0,iV a1] ([aR B1 79 (oY a0 B2 B9 A12 n12 c12 A13 n13 c13 A14 n14 c14),aR B2 99 [U A3 n3 c3,U A4 n4 c4,U A5 n5 c5,U A6 n6 c6,pV B7 0],bB A3 n3 c3 a0.heap_.m_.Young,bB A4 n4 c4 a0.heap_.m_.Old,bE A5 n5 c5 a0.heap_.roots_,bE A6 n6 c6 a0.heap_.pending_,aR B7 147 [.map (some M8)],fh bR cG M8 a0.heap_.set_.at_,aR B9 118 [U A10 n10 c10,.map (some M11)],ij dx (U A10 n10 c10) a0.shapes_.shapes_,fh bd gc M11 a0.shapes_.next_,ij nX (U A12 n12 c12) a0.symbols_,ij i6 (U A13 n13 c13) a0.events_,ij nX (U A14 n14 c14) a0.out_]) (fun u post=>u=.bool r∧post=[]):=by
 refine bp Tryz.func19 J J ?_;simp only [aP];refine Y ?_;obtain ⟨y15,hy15,h⟩:=aa h;refine gD (ai (fx hy15) Jr J (hJ (ab (i:=0) J J) (hJ (ab (i:=1) J J) (hJ (ab (i:=2) J J) (hJ (ab (i:=3) J J) (hJ (ab (i:=4) J J) (hJ (ab (i:=5) J J) (hJ (ab (i:=6) J J) (hJ (ab (i:=7) J J) (hJ (ab (i:=8) J J) (hJ (ab (i:=9) J J) (hJ (ab (i:=10) J J) (hJ (ab (i:=11) J J) (hJ (ab (i:=12) J J) (hJ (ab (i:=13) J J) ac)))))))))))))) eL) ?_;rintro _ _ ⟨_,⟨rfl,rfl⟩,rfl⟩;obtain ⟨y16,hy16,h⟩:=aa h;refine gD (ai (dH hy16) yi J (hJ (ab (i:=0) J J) (hJ (ab (i:=1) J J) (hJ (ab (i:=2) J J) (hJ (ab (i:=3) J J) (hJ (ab (i:=4) J J) (hJ (ab (i:=5) J J) (hJ (ab (i:=6) J J) (hJ (ab (i:=7) J J) (hJ (ab (i:=8) J J) (hJ (ab (i:=9) J J) (hJ (ab (i:=10) J J) (hJ (ab (i:=11) J J) (hJ (ab (i:=12) J J) (hJ (ab (i:=13) J J) ac)))))))))))))) dj) ?_;rintro _ _ ⟨_,⟨A17,n17,c17,A18,n18,c18,rfl,rfl⟩,rfl⟩;refine gD (aE eA J) ?_;rintro _ _ ⟨B19,rfl,rfl⟩;refine gO (ao (us:=[iV y16.Kind,iV y16.Shape,iV y16.Flags,iV y16.Age,U A17 n17 c17,U A18 n18 c18]) (cs':=[iV y16.Kind,iV y16.Shape,iV y16.Flags,iV y16.Age,U A17 n17 c17,U A18 n18 c18]) 0 J J J J bL J J J) ?_;rintro _ _ rfl;refine Y ?_;refine ax ?_
 refine Y ?_;obtain ⟨b20,hb20,h⟩:=aa h;refine aO 5 20 b20 ?_ ?_
 ·clear h;refine aN 15 J (fun g20=> ?_) (fun g20=> ?_)
  ·have h:=ag g20 hb20;refine Y ?_;obtain rfl:=aq h;exact ae sA (cS [0,1,2,3,4,5,6,7,8,9,10,11,12,13,14,15,16] 17)
  have h:=ah g20 hb20;refine Y ?_;refine cL (aU 1 J aH J t0) J (eS g20 J) J ?_;refine Y ?_;obtain rfl:=aq h;exact ae sA (cS [0,1,2,3,4,5,6,7,8,9,10,11,12,13,14,15,16] 17)
 refine Y ?_;refine au J (fun g21=> ?_) (fun g21=> ?_)
 ·replace h:=ag g21 h;refine Y ?_;obtain rfl:=aq h;exact aL J J (cS [] 17) ⟨J,J⟩
 replace h:=ah g21 h;refine Y ?_;obtain ⟨y22,hy22,h⟩:=aa h;refine gD (ai (fx hy22) Jr J (hJ (ab (i:=3) J J) (hJ (ab (i:=4) J J) (hJ (ab (i:=5) J J) (hJ (ab (i:=6) J J) (hJ (ab (i:=7) J J) (hJ (ab (i:=8) J J) (hJ (ab (i:=9) J J) (hJ (ab (i:=10) J J) (hJ (ab (i:=11) J J) (hJ (ab (i:=12) J J) (hJ (ab (i:=13) J J) (hJ (ab (i:=14) J J) (hJ (ab (i:=15) J J) (hJ (ab (i:=16) J J) ac)))))))))))))) eL) ?_;rintro _ _ ⟨_,⟨rfl,rfl⟩,rfl⟩;refine gD (aE d7 J) ?_;rintro _ _ ⟨B23,rfl,rfl⟩;refine gO (ao (us:=[iV y22.Kind,iV y22.N,.string y22.S]) (cs':=[iV y22.Kind,iV y22.N,.string y22.S]) 0 J J J J aS J J J) ?_;rintro _ _ rfl;refine Y ?_;refine aM (fun s L=> ∃p25 p26 p27,iM N y16 p25 p26 p27=some r∧s=[(4,.bool false),(5,pV B19 0),(6,pV B23 0)]∧L=[bf A17 n17 c17 y16.Slots,bf A18 n18 c18 y16.More,am B19 42 [iV y16.Kind,iV y16.Shape,iV y16.Flags,iV y16.Age,U A17 n17 c17,U A18 n18 c18],am B23 23 [iV p25,iV p26,.string p27]]) ?_ ?_
 ·refine Y ?_;refine au J (fun g28=> ?_) (fun g28=> ?_)
  ·replace h:=ag g28 h;refine cE ?_;refine gE (bo J (Hw _)) ?_;refine gO (ao (us:=[iV 1,iV 0,.string (⟨#[]⟩)]) (cs':=[iV 1,iV 0,.string (⟨#[]⟩)]) 0 J J J J aS J J J) ?_;rintro _ _ rfl;refine cp ?_;refine Y ?_;exact ⟨_,_,⟨1,0,⟨#[]⟩,h,J,J⟩,sA,cS [2,3,1,0] 18⟩
  replace h:=ah g28 h;refine aM (fun s L=> ∃p30,lO N a1 a0 y16 y22 p30=some r∧s=[(0,pV B1 0),(4,.bool false),(5,pV B19 0),(6,pV B23 0),(23,iV a1),(27,.bool p30)]∧L=[ij nX (U A12 n12 c12) a0.symbols_,ij i6 (U A13 n13 c13) a0.events_,ij nX (U A14 n14 c14) a0.out_,aR B1 79 (oY a0 B2 B9 A12 n12 c12 A13 n13 c13 A14 n14 c14),bf A17 n17 c17 y16.Slots,bf A18 n18 c18 y16.More,am B19 42 [iV y16.Kind,iV y16.Shape,iV y16.Flags,iV y16.Age,U A17 n17 c17,U A18 n18 c18],am B23 23 [iV y22.Kind,iV y22.N,.string y22.S],bB A3 n3 c3 a0.heap_.m_.Young,bB A4 n4 c4 a0.heap_.m_.Old,bE A5 n5 c5 a0.heap_.roots_,bE A6 n6 c6 a0.heap_.pending_,aR B2 99 [U A3 n3 c3,U A4 n4 c4,U A5 n5 c5,U A6 n6 c6,pV B7 0],ij dx (U A10 n10 c10) a0.shapes_.shapes_,fh bd gc M11 a0.shapes_.next_,aR B9 118 [U A10 n10 c10,.map (some M11)],fh bR cG M8 a0.heap_.set_.at_,aR B7 147 [.map (some M8)]]) ?_ ?_
  ·refine Y ?_;refine au J (fun g31=> ?_) (fun g31=> ?_)
   ·replace h:=ag g31 h;refine Y ?_;exact ⟨_,_,⟨decide (a1=6),h,J,J⟩,sA,cS [15,16,17,4,2,3,1,0,6,7,8,9,5,13,14,12,11,10] 18⟩
   replace h:=ah g31 h;refine Y ?_;refine au J (fun g32=> ?_) (fun g32=> ?_)
   ·replace h:=ag g32 h;refine Y ?_;exact ⟨_,_,⟨decide (a1=7),h,J,J⟩,sA,cS [15,16,17,4,2,3,1,0,6,7,8,9,5,13,14,12,11,10] 18⟩
   replace h:=ah g32 h;refine Y ?_;exact ⟨_,_,⟨decide (a1=8),h,J,J⟩,sA,cS [15,16,17,4,2,3,1,0,6,7,8,9,5,13,14,12,11,10] 18⟩
  rintro _ _ ⟨p30,h,rfl,rfl⟩;refine au J (fun g33=> ?_) (fun g33=> ?_)
  ·replace h:=ag g33 h;refine Y ?_;obtain ⟨y34,hy34,h⟩:=aa h;refine gD (ai (fx hy34) Jr J (hJ (ab (i:=3) J J) (hJ (ab (i:=12) J J) (hJ (ab (i:=8) J J) (hJ (ab (i:=9) J J) (hJ (ab (i:=10) J J) (hJ (ab (i:=11) J J) (hJ (ab (i:=17) J J) (hJ (ab (i:=16) J J) (hJ (ab (i:=15) J J) (hJ (ab (i:=13) J J) (hJ (ab (i:=14) J J) (hJ (ab (i:=0) J J) (hJ (ab (i:=1) J J) (hJ (ab (i:=2) J J) ac)))))))))))))) eL) ?_;rintro _ _ ⟨_,⟨rfl,rfl⟩,rfl⟩;refine gO (ao (us:=[iV y34.Kind,iV y34.N,.string y34.S]) (cs':=[iV y34.Kind,iV y34.N,.string y34.S]) 7 J J J J aS J J J) ?_;rintro _ _ rfl;refine Y ?_;exact ⟨_,_,⟨y34.Kind,y34.N,y34.S,h,J,J⟩,sA,cS [4,5,6,7] 18⟩
  replace h:=ah g33 h;refine aM (fun s L=> ∃p36,ou N a0 y16 y22 p36=some r∧s=[(0,pV B1 0),(4,.bool false),(5,pV B19 0),(6,pV B23 0),(33,.bool p36)]∧L=[ij nX (U A12 n12 c12) a0.symbols_,ij i6 (U A13 n13 c13) a0.events_,ij nX (U A14 n14 c14) a0.out_,aR B1 79 (oY a0 B2 B9 A12 n12 c12 A13 n13 c13 A14 n14 c14),bf A17 n17 c17 y16.Slots,bf A18 n18 c18 y16.More,am B19 42 [iV y16.Kind,iV y16.Shape,iV y16.Flags,iV y16.Age,U A17 n17 c17,U A18 n18 c18],am B23 23 [iV y22.Kind,iV y22.N,.string y22.S],bB A3 n3 c3 a0.heap_.m_.Young,bB A4 n4 c4 a0.heap_.m_.Old,bE A5 n5 c5 a0.heap_.roots_,bE A6 n6 c6 a0.heap_.pending_,aR B2 99 [U A3 n3 c3,U A4 n4 c4,U A5 n5 c5,U A6 n6 c6,pV B7 0],ij dx (U A10 n10 c10) a0.shapes_.shapes_,fh bd gc M11 a0.shapes_.next_,aR B9 118 [U A10 n10 c10,.map (some M11)],fh bR cG M8 a0.heap_.set_.at_,aR B7 147 [.map (some M8)]]) ?_ ?_
  ·refine Y ?_;refine au J (fun g37=> ?_) (fun g37=> ?_)
   ·replace h:=ag g37 h;refine Y ?_;exact ⟨_,_,⟨decide (a1=4),h,J,J⟩,sA,cS [0,1,2,3,4,5,6,7,8,9,10,11,12,13,14,15,16,17] 18⟩
   replace h:=ah g37 h;refine Y ?_;exact ⟨_,_,⟨decide (a1=16),h,J,J⟩,sA,cS [0,1,2,3,4,5,6,7,8,9,10,11,12,13,14,15,16,17] 18⟩
  rintro _ _ ⟨p36,h,rfl,rfl⟩;refine au J (fun g38=> ?_) (fun g38=> ?_)
  ·replace h:=ag g38 h;refine Y ?_;obtain ⟨y39,hy39,h⟩:=aa h;refine gD (ai (fx hy39) Jr J (hJ (ab (i:=3) J J) (hJ (ab (i:=12) J J) (hJ (ab (i:=8) J J) (hJ (ab (i:=9) J J) (hJ (ab (i:=10) J J) (hJ (ab (i:=11) J J) (hJ (ab (i:=17) J J) (hJ (ab (i:=16) J J) (hJ (ab (i:=15) J J) (hJ (ab (i:=13) J J) (hJ (ab (i:=14) J J) (hJ (ab (i:=0) J J) (hJ (ab (i:=1) J J) (hJ (ab (i:=2) J J) ac)))))))))))))) eL) ?_;rintro _ _ ⟨_,⟨rfl,rfl⟩,rfl⟩;refine gO (ao (us:=[iV y39.Kind,iV y39.N,.string y39.S]) (cs':=[iV y39.Kind,iV y39.N,.string y39.S]) 7 J J J J aS J J J) ?_;rintro _ _ rfl;refine Y ?_;exact ⟨_,_,⟨y39.Kind,y39.N,y39.S,h,J,J⟩,sA,cS [4,5,6,7] 18⟩
  replace h:=ah g38 h;refine Y ?_;exact ⟨_,_,⟨y22.Kind,y22.N,y22.S,h,J,J⟩,sA,cS [4,5,6,7] 18⟩
 rintro _ _ ⟨p25,p26,p27,h,rfl,rfl⟩;refine ax ?_;refine bN I _ (aj _) ?_;refine zE 0 J (bz J wy) ?_;refine zR 1 J (aJ 2 J J dD J) ?_;obtain ⟨x40,hx40,h⟩:=aa h;obtain ⟨lx40,ux40,hx40⟩:=aA hx40;refine zR 2 J (aX 0 J aH J J t0 aS lx40 ux40) ?_;refine zR 3 J (bG (us:=[iV x40.Kind,iV x40.N,.string x40.S]) 0 J aH J hx40 bV (fun _ _ _ h=>by rw [show _=_ from h];rfl)) ?_;refine zR 4 J (aD (us:=[iV p25,iV p26,.string p27]) 3 J J bV J) ?_;refine zE 5 J (Mq (x:=x40) (y:=(⟨p25,p26,p27⟩:SR)) J J) ?_;refine zE 6 J (aC J) ?_;refine aZ I ?_;refine Y ?_;obtain rfl:=aq h;exact aL J J (cS [] 4) ⟨J,J⟩
theorem Ci {r:Bool}: ∀v post,((fun (u:Value) (post:List Chunk)=>u=.bool r∧post=[])) v post→ ∀c∈post,ce c:=by
 rintro _ _ ⟨rfl,rfl⟩;exact ac
def qt (N:Nat)(a0:Te):Option Unit:=
 some ()
theorem wT {N:Nat}{a0:Te}{r:Unit}(h:qt N a0=some r):Okc Tryz.prog 20 [pV B1 0] ([aR B1 79 (oY a0 B2 B9 A12 n12 c12 A13 n13 c13 A14 n14 c14),aR B2 99 [U A3 n3 c3,U A4 n4 c4,U A5 n5 c5,U A6 n6 c6,pV B7 0],bB A3 n3 c3 a0.heap_.m_.Young,bB A4 n4 c4 a0.heap_.m_.Old,bE A5 n5 c5 a0.heap_.roots_,bE A6 n6 c6 a0.heap_.pending_,aR B7 147 [.map (some M8)],fh bR cG M8 a0.heap_.set_.at_,aR B9 118 [U A10 n10 c10,.map (some M11)],ij dx (U A10 n10 c10) a0.shapes_.shapes_,fh bd gc M11 a0.shapes_.next_,ij nX (U A12 n12 c12) a0.symbols_,ij i6 (U A13 n13 c13) a0.events_,ij nX (U A14 n14 c14) a0.out_]) (fun u post=>u=pV B2 0∧post=[]):=by
 refine bp Tryz.func20 J J ?_;simp only [aP];refine Y ?_;refine ax ?_;refine Y ?_;refine gE (cT J z0) ?_;refine Y ?_;refine dE J ?_;refine Y ?_;refine gR (ba 0 J J iZ J) ?_;refine Y ?_;obtain rfl:=aq h;exact aL J J (cS [] 14) ⟨J,J⟩
theorem uv {B2:Nat}: ∀v post,((fun (u:Value) (post:List Chunk)=>u=pV B2 0∧post=[])) v post→ ∀c∈post,ce c:=by
 rintro _ _ ⟨rfl,rfl⟩;exact ac
def jQ (N:Nat)(a0:SS)(a1:SR):Option Bool:=
 (bif decide (a1.Kind=7) then (some true) else (some (decide (a1.Kind=9)))).bind fun b9=>(bif b9 then ((iw N a0 a1.N).bind fun y11=>some (!y11)) else (some false)).bind fun b10=>some b10
theorem wX {N:Nat}{a0:SS}{a1:SR}{r:Bool}(h:jQ N a0 a1=some r):Okc Tryz.prog 52 [pV B1 0,(fC a1)] ([aR B1 99 [U A2 n2 c2,U A3 n3 c3,U A4 n4 c4,U A5 n5 c5,pV B6 0],bB A2 n2 c2 a0.m_.Young,bB A3 n3 c3 a0.m_.Old,bE A4 n4 c4 a0.roots_,bE A5 n5 c5 a0.pending_,aR B6 147 [.map (some M7)],fh bR cG M7 a0.set_.at_]) (fun u post=>u=.bool r∧post=[]):=by
 refine bp Tryz.func52 J J ?_;simp only [aP];refine Y ?_;refine gD (bn J J) ?_;rintro _ _ ⟨B8,rfl,rfl⟩;refine Y ?_;obtain ⟨b9,hb9,h⟩:=aa h;refine aO 4 12 b9 ?_ ?_
 ·clear h;refine aN 8 J (fun g9=> ?_) (fun g9=> ?_)
  ·have h:=ag g9 hb9;refine Y ?_;obtain rfl:=aq h;exact ae sA (cS [0,1,2,3,4,5,6,7] 8)
  have h:=ah g9 hb9;refine Y ?_;obtain rfl:=aq h;exact ae sA (cS [0,1,2,3,4,5,6,7] 8)
 refine Y ?_;obtain ⟨b10,hb10,h⟩:=aa h;refine aO 6 19 b10 ?_ ?_
 ·clear h;refine aN 13 J (fun g10=> ?_) (fun g10=> ?_)
  ·have h:=ag g10 hb10;refine Y ?_;obtain ⟨y11,hy11,h⟩:=aa h;refine dn (ai (og hy11) Iv J (hJ (ab (i:=1) J J) (hJ (ab (i:=2) J J) (hJ (ab (i:=3) J J) (hJ (ab (i:=4) J J) (hJ (ab (i:=5) J J) (hJ (ab (i:=6) J J) (hJ (ab (i:=7) J J) ac))))))) mw) J (bU g10 J) J ?_;rintro _ _ ⟨_,⟨rfl,rfl⟩,rfl⟩;refine Y ?_;obtain rfl:=aq h;exact ae sA (cS [0,1,2,3,4,5,6,7] 8)
  have h:=ah g10 hb10;refine Y ?_;obtain rfl:=aq h;exact ae sA (cS [0,1,2,3,4,5,6,7] 8)
 refine Y ?_;obtain rfl:=aq h;exact aL J J (cS [] 8) ⟨J,J⟩
def lI (N:Nat)(a0:Int)(a1:SS):Option Bool:=
 (iw N a1 a0).bind fun y9=>some (!y9)
theorem vA {N:Nat}{a0:Int}{a1:SS}{r:Bool}(h:lI N a0 a1=some r):Okc Tryz.prog 99 [iV a0,pV B1 0] ([aR B1 46 [pV B2 0],aR B2 99 [U A3 n3 c3,U A4 n4 c4,U A5 n5 c5,U A6 n6 c6,pV B7 0],bB A3 n3 c3 a1.m_.Young,bB A4 n4 c4 a1.m_.Old,bE A5 n5 c5 a1.roots_,bE A6 n6 c6 a1.pending_,aR B7 147 [.map (some M8)],fh bR cG M8 a1.set_.at_]) (fun u post=>u=.bool r∧post=[]):=by
 refine bp Tryz.func99 J J ?_;simp only [aP];refine Y ?_;refine gR (ba 0 J J iZ J) ?_;refine Y ?_;obtain ⟨y9,hy9,h⟩:=aa h;refine gD (ai (og hy9) Iv J (hJ (ab (i:=1) J J) (hJ (ab (i:=2) J J) (hJ (ab (i:=3) J J) (hJ (ab (i:=4) J J) (hJ (ab (i:=5) J J) (hJ (ab (i:=6) J J) (hJ (ab (i:=7) J J) ac))))))) mw) ?_;rintro _ _ ⟨_,⟨rfl,rfl⟩,rfl⟩;refine Y ?_;obtain rfl:=aq h;exact aL J J (cS [] 8) ⟨J,J⟩
def ln (N:Nat)(a0:SS)(a1:Ta):Option Bool:=
 (eW N a1).bind fun y12=>(gJ N a1).bind fun y14=>(jV N y12 y14).bind fun y17=>(bC N y17 (fun x=>lI N x a0)).bind fun y19=>some y19
theorem zr {N:Nat}{a0:SS}{a1:Ta}{r:Bool}(h:ln N a0 a1=some r):Okc Tryz.prog 55 [pV B1 0,.agg #[iV a1.Kind,iV a1.Shape,iV a1.Flags,iV a1.Age,U A8 n8 c8,U A9 n9 c9]] ([aR B1 99 [U A2 n2 c2,U A3 n3 c3,U A4 n4 c4,U A5 n5 c5,pV B6 0],bB A2 n2 c2 a0.m_.Young,bB A3 n3 c3 a0.m_.Old,bE A4 n4 c4 a0.roots_,bE A5 n5 c5 a0.pending_,aR B6 147 [.map (some M7)],fh bR cG M7 a0.set_.at_,bE A8 n8 c8 a1.Slots,bE A9 n9 c9 a1.More]) (fun u post=>u=.bool r∧post=[]):=by
 refine bp Tryz.func55 J J ?_;simp only [aP];refine Y ?_;refine gD (bn J J) ?_;rintro _ _ ⟨B10,rfl,rfl⟩;refine gD (bn J J) ?_;rintro _ _ ⟨B11,rfl,rfl⟩;refine Y ?_;refine ax ?_;refine bN I _ (aj _) ?_;refine zR 0 J (aD (us:=[iV a1.Kind,iV a1.Shape,iV a1.Flags,iV a1.Age,U A8 n8 c8,U A9 n9 c9]) 0 J J bA J) ?_;refine zR 2 J (aD (us:=[iV a1.Kind,iV a1.Shape,iV a1.Flags,iV a1.Age,U A8 n8 c8,U A9 n9 c9]) 0 J J bA J) ?_;refine zE 6 J (dZ J) ?_;obtain ⟨y12,hy12,h⟩:=aa h;refine zD 1 J (ai (iX hy12) yg J (hJ (ab (i:=9) J J) (hJ (ab (i:=10) J J) ac)) gk) ?_;rintro _ _ ⟨_,⟨A13,n13,c13,rfl,rfl⟩,rfl⟩;refine be (cS [1,2,3,4,5,6,7,8,9,10,11] 12) ?_;obtain ⟨y14,hy14,h⟩:=aa h;refine zD 3 J (ai (nE hy14) F4 J (hJ (ab (i:=10) J J) (hJ (ab (i:=11) J J) ac)) ls) ?_;rintro _ _ ⟨_,⟨A15,n15,c15,rfl,rfl⟩,rfl⟩;refine be (cS [2,3,4,5,6,7,8,9,10,11,12] 13) ?_;refine zD 4 J (eO (cs:=[U A13 n13 c13,U A15 n15 c15]) J (E3 _ _ _ _ _ _)) ?_;rintro _ _ ⟨B16,rfl,rfl⟩;refine be (cS [3,4,5,6,7,8,9,10,11,12,13] 14) ?_;obtain ⟨y17,hy17,h⟩:=aa h;refine zD 5 J (ai (sj hy17) MI J (hJ (az (i:=0) J) (hJ (ad (i:=2) J) (hJ (ad (i:=1) J) ac))) qi) ?_;rintro _ _ ⟨_,⟨A18,n18,c18,rfl,rfl⟩,rfl⟩;refine be (cS [4,5,6,7,8,9,10,11,12,13,14] 15) ?_;obtain ⟨y19,hy19,h⟩:=aa h
 refine zD 7 J (ai (du hy19 ⟨hJ J (hJ J (hJ J (hJ J (hJ J (hJ J (hJ J (hJ J ac))))))),99, #[], #[pV B10 0],J,P0,fun _ _ hh=>vA hh⟩) AG J (hJ (ad (i:=0) J) (hJ (az (i:=5) J) (hJ (ab (i:=6) J J) (hJ (ab (i:=7) J J) (hJ (ab (i:=8) J J) (hJ (ab (i:=9) J J) (hJ (ab (i:=10) J J) (hJ (ab (i:=11) J J) (hJ (ab (i:=12) J J) ac))))))))) dc) ?_;rintro _ _ ⟨_,⟨rfl,rfl⟩,rfl⟩;refine be (cS [4,5,6,7,8,9,10,11,12,13,14] 15) ?_;refine zE 8 J (aC J) ?_;refine aZ I ?_;refine Y ?_;obtain rfl:=aq h;exact aL J J (cS [] 15) ⟨J,J⟩
theorem wW {r:Bool}: ∀v post,((fun (u:Value) (post:List Chunk)=>u=.bool r∧post=[])) v post→ ∀c∈post,ce c:=by
 rintro _ _ ⟨rfl,rfl⟩;exact ac
def ju (N:Nat):Option Int:=
 some (-1)
def cQ (N:Nat)(a0:(List Ta))(a1_0:SS):Nat→Int→Option Int
 |0,_=>none
 |m10+1,p11=>bif decide (p11<(a0.length:Int)) then ((aF a0 p11).bind fun x13=>(ln N a1_0 x13).bind fun y17=>bif y17 then (some p11) else (bi (in64 (p11+1)) ((cQ N a0 a1_0 m10) (p11+1)))) else (ju N)
def ge (N:Nat)(a0:(List Ta))(a1_0:SS):Option Int:=
 cQ N a0 a1_0 N 0
theorem oP {N:Nat}{a0:(List Ta)}{a1_0:SS}{r:Int}(h:ge N a0 a1_0=some r):Okc Tryz.prog 93 [U A1 n1 c1,.func (.func 55) #[pV B2 0] #[]] ([bB A1 n1 c1 a0,aR B2 99 [U A3 n3 c3,U A4 n4 c4,U A5 n5 c5,U A6 n6 c6,pV B7 0],bB A3 n3 c3 a1_0.m_.Young,bB A4 n4 c4 a1_0.m_.Old,bE A5 n5 c5 a1_0.roots_,bE A6 n6 c6 a1_0.pending_,aR B7 147 [.map (some M8)],fh bR cG M8 a1_0.set_.at_]) (fun u post=>u=iV r∧post=[]):=by
 refine bp Tryz.func93 J J ?_;simp only [aP];refine Y ?_;refine aM (fun s L=>ju N=some r∧s=[(4,iV 0)]∧L=[]) ?_ ?_
 ·refine Y ?_;refine gR (aU 0 J av J t9) ?_;refine Y ?_;refine bv (fun m s L=> ∃p11,cQ N a0 a1_0 m p11=some r∧s=[(0,U A1 n1 c1),(1,.func (.func 55) #[pV B2 0] #[]),(4,iV 0),(7,iV (a0.length:Int)),(8,iV p11)]∧L=[bB A1 n1 c1 a0,bB A3 n3 c3 a1_0.m_.Young,bB A4 n4 c4 a1_0.m_.Old,bE A5 n5 c5 a1_0.roots_,bE A6 n6 c6 a1_0.pending_,aR B2 99 [U A3 n3 c3,U A4 n4 c4,U A5 n5 c5,U A6 n6 c6,pV B7 0],fh bR cG M8 a1_0.set_.at_,aR B7 147 [.map (some M8)]]) N _ _ ⟨0,h,J,J⟩ sA (cS [0,2,3,4,5,1,7,6] 8) ?_;rintro (_|m10) _ _ ⟨p11,h,rfl,rfl⟩
  ·exact aG h
  rw [cQ.eq_2] at h;refine Y ?_;refine ax ?_;refine au J (fun g12=> ?_) (fun g12=> ?_)
  ·replace h:=ag g12 h;refine Y ?_;refine ax ?_;refine Y ?_;obtain ⟨x13,hx13,h⟩:=aa h;obtain ⟨lx13,ux13,hx13⟩:=aA hx13;refine gR (aX 0 J av J J t9 bL lx13 ux13) ?_;refine wa 0 J hx13 (gh x13) ?_;rintro _ _ ⟨A14,n14,c14,A15,n15,c15,rfl,rfl⟩;refine gR (nb (us:=[iV x13.Kind,iV x13.Shape,iV x13.Flags,iV x13.Age,U A14 n14 c14,U A15 n15 c15]) 0 J J bA J) ?_;obtain ⟨y17,hy17,h⟩:=aa h;refine gD (KA (zr hy17) Qa J J J (hJ (ab (i:=8) J J) (hJ (ab (i:=4) J J) (hJ (ab (i:=5) J J) (hJ (ab (i:=6) J J) (hJ (ab (i:=7) J J) (hJ (ab (i:=10) J J) (hJ (ab (i:=9) J J) (hJ (ab (i:=1) J J) (hJ (ab (i:=2) J J) ac))))))))) wW) ?_;rintro _ _ ⟨_,⟨rfl,rfl⟩,rfl⟩;refine Y ?_;refine au J (fun g18=> ?_) (fun g18=> ?_)
   ·replace h:=ag g18 h;refine Y ?_;obtain rfl:=aq h;exact aL J J (cS [] 11) ⟨J,J⟩
   replace h:=ah g18 h;refine Y ?_;obtain ⟨q19,h⟩:=ap h;refine gE (aW J J q19.1 q19.2) ?_;refine Y ?_;exact ⟨m10,_,_,Tk _,⟨p11+1,h,J,J⟩,sA,cS [3,4,5,6,7,8,9,10] 11⟩
  replace h:=ah g12 h;refine Y ?_;exact ⟨_,_,⟨h,J,J⟩,sA,cS [] 8⟩
 rintro _ _ ⟨h,rfl,rfl⟩;refine Y ?_;obtain rfl:=aq h;exact aL J J (cS [] 0) ⟨J,J⟩
theorem nI {r:Int}: ∀v post,((fun (u:Value) (post:List Chunk)=>u=iV r∧post=[])) v post→ ∀c∈post,ce c:=by
 rintro _ _ ⟨rfl,rfl⟩;exact ac
def dq (N:Nat)(a0:(List Ta))(a1_0:SS):Option Bool:=
 (ge N a0 a1_0).bind fun y9=>some (decide (0≤y9))
theorem mT {N:Nat}{a0:(List Ta)}{a1_0:SS}{r:Bool}(h:dq N a0 a1_0=some r):Okc Tryz.prog 53 [U A1 n1 c1,.func (.func 55) #[pV B2 0] #[]] ([bB A1 n1 c1 a0,aR B2 99 [U A3 n3 c3,U A4 n4 c4,U A5 n5 c5,U A6 n6 c6,pV B7 0],bB A3 n3 c3 a1_0.m_.Young,bB A4 n4 c4 a1_0.m_.Old,bE A5 n5 c5 a1_0.roots_,bE A6 n6 c6 a1_0.pending_,aR B7 147 [.map (some M8)],fh bR cG M8 a1_0.set_.at_]) (fun u post=>u=.bool r∧post=[]):=by
 refine bp Tryz.func53 J J ?_;simp only [aP];refine Y ?_;obtain ⟨y9,hy9,h⟩:=aa h;refine gD (ai (oP hy9) P2 J (hJ (ab (i:=0) J J) (hJ (ab (i:=1) J J) (hJ (ab (i:=2) J J) (hJ (ab (i:=3) J J) (hJ (ab (i:=4) J J) (hJ (ab (i:=5) J J) (hJ (ab (i:=6) J J) (hJ (ab (i:=7) J J) ac)))))))) nI) ?_;rintro _ _ ⟨_,⟨rfl,rfl⟩,rfl⟩;refine Y ?_;obtain rfl:=aq h;exact aL J J (cS [] 8) ⟨J,J⟩
theorem mi {r:Bool}: ∀v post,((fun (u:Value) (post:List Chunk)=>u=.bool r∧post=[])) v post→ ∀c∈post,ce c:=by
 rintro _ _ ⟨rfl,rfl⟩;exact ac
def mR (N:Nat)(a0:Int):Option Bool:=
 some (!decide (a0=a0))
theorem tU {N:Nat}{a0:Int}{r:Bool}(h:mR N a0=some r):Okc Tryz.prog 145 [iV a0] ([]) (fun u post=>u=.bool r∧post=[]):=by
 refine bp Tryz.func145 J J ?_;simp only [aP];refine Y ?_;obtain rfl:=aq h;exact aL J J (cS [] 0) ⟨J,J⟩
theorem rh {r:Bool}: ∀v post,((fun (u:Value) (post:List Chunk)=>u=.bool r∧post=[])) v post→ ∀c∈post,ce c:=by
 rintro _ _ ⟨rfl,rfl⟩;exact ac
def jG (N:Nat)(a1:Int)(a0:(List Int))(p3:Int):Option (Int×Bool):=
 (bif decide (p3<(a0.length:Int)) then ((aF a0 p3).bind fun x14=>(bif decide (x14=a1) then (some true) else ((aF a0 p3).bind fun x16=>(mR N x16).bind fun y17=>(bif y17 then ((mR N a1).bind fun y19=>some y19) else (some false)).bind fun b18=>some b18)).bind fun b15=>some b15) else (some false)).bind fun b13=>some (p3,b13)
def dv (N:Nat)(a1:Int)(a0:(List Int)):Nat→Int→Int→Option (Int×Bool)
 |0,_,_=>none
 |m4+1,p5,p6=>bif decide (p5<p6) then (bi (in64 (p5+p6)) ((aF a0 (IntKind.i64.wrap ((IntKind.u64.wrap (p5+p6)).fdiv (2 ^ 1)))).bind fun x9=>(tD N x9 a1).bind fun y10=>bif y10 then (bi (in64 ((IntKind.i64.wrap ((IntKind.u64.wrap (p5+p6)).fdiv (2 ^ 1)))+1)) ((dv N a1 a0 m4) ((IntKind.i64.wrap ((IntKind.u64.wrap (p5+p6)).fdiv (2 ^ 1)))+1) p6)) else ((dv N a1 a0 m4) p5 (IntKind.i64.wrap ((IntKind.u64.wrap (p5+p6)).fdiv (2 ^ 1)))))) else (jG N a1 a0 p5)
def ic (N:Nat)(a0:(List Int))(a1:Int):Option (Int×Bool):=
 dv N a1 a0 N 0 (a0.length:Int)
set_option maxHeartbeats 4000000 in
theorem sX {N:Nat}{a0:(List Int)}{a1:Int}{r:(Int×Bool)}(h:ic N a0 a1=some r):Okc Tryz.prog 101 [U A1 n1 c1,iV a1] ([ex A1 n1 c1 a0]) (fun u post=>u=.tuple #[iV r.1,.bool r.2]∧post=[]):=by
 refine bp Tryz.func101 J J ?_;simp only [aP];refine Y ?_;refine gR (aU 0 J av J z3) ?_;refine Y ?_;refine aM (fun s L=> ∃p3,jG N a1 a0 p3=some r∧s=[(0,U A1 n1 c1),(1,iV a1),(4,iV 0),(5,.bool false),(6,iV (a0.length:Int)),(7,iV p3)]∧L=[ex A1 n1 c1 a0]) ?_ ?_
 ·refine iK ?_;refine bv (fun m s L=> ∃p5 p6,dv N a1 a0 m p5 p6=some r∧s=[(0,U A1 n1 c1),(1,iV a1),(4,iV 0),(5,.bool false),(6,iV (a0.length:Int)),(7,iV p5),(8,iV p6)]∧L=[ex A1 n1 c1 a0]) N _ _ ⟨0,(a0.length:Int),h,J,J⟩ sA (cS [0] 1) ?_;rintro (_|m4) _ _ ⟨p5,p6,h,rfl,rfl⟩
  ·exact aG h
  rw [dv.eq_2] at h;refine ax ?_;refine Y ?_;refine au J (fun g7=> ?_) (fun g7=> ?_)
  ·replace h:=ag g7 h;refine Y ?_;obtain ⟨q8,h⟩:=ap h;refine gE (aW J J q8.1 q8.2) ?_;refine gE (Mw J J Tryz.underlying194) ?_;refine gE (PT (v:=(IntKind.u64.wrap (p5+p6)).fdiv (2 ^ 1)) J J (fun _=>J)) ?_;refine gE (Mw J J hP) ?_;refine Y ?_;obtain ⟨x9,hx9,h⟩:=aa h;obtain ⟨lx9,ux9,hx9⟩:=aA hx9;refine gR (aX 0 J av J J z3 dP lx9 ux9) ?_;refine gR (bH (u:=iV x9) 0 J av J hx9 dy (fun _ _ _ h=>by rw [show _=_ from h];rfl)) ?_;refine Y ?_;obtain ⟨y10,hy10,h⟩:=aa h;refine gD (ai (Ho hy10) OZ J (ac) Ec) ?_;rintro _ _ ⟨_,⟨rfl,rfl⟩,rfl⟩;refine Y ?_;refine au J (fun g11=> ?_) (fun g11=> ?_)
   ·replace h:=ag g11 h;refine Y ?_;obtain ⟨q12,h⟩:=ap h;refine gE (aW J J q12.1 q12.2) ?_;refine Y ?_;exact ⟨m4,_,_,Tk _,⟨(IntKind.i64.wrap ((IntKind.u64.wrap (p5+p6)).fdiv (2 ^ 1)))+1,p6,h,J,J⟩,sA,cS [0] 1⟩
   replace h:=ah g11 h;refine Y ?_;exact ⟨m4,_,_,Tk _,⟨p5,(IntKind.i64.wrap ((IntKind.u64.wrap (p5+p6)).fdiv (2 ^ 1))),h,J,J⟩,sA,cS [0] 1⟩
  replace h:=ah g7 h;refine Y ?_;exact ⟨_,_,⟨p5,h,J,J⟩,sA,cS [0] 1⟩
 rintro _ _ ⟨p3,h,rfl,rfl⟩;refine Y ?_;obtain ⟨b13,hb13,h⟩:=aa h;refine aO 18 53 b13 ?_ ?_
 ·clear h;refine aN 35 J (fun g13=> ?_) (fun g13=> ?_)
  ·have h:=ag g13 hb13;refine Y ?_;obtain ⟨x14,hx14,h⟩:=aa h;obtain ⟨lx14,ux14,hx14⟩:=aA hx14;refine cL (aX 0 J av J J z3 dP lx14 ux14) J (bU g13 J) J ?_;refine cL (bH (u:=iV x14) 0 J av J hx14 dy (fun _ _ _ h=>by rw [show _=_ from h];rfl)) J (bU g13 J) J ?_;refine Y ?_;obtain ⟨b15,hb15,h⟩:=aa h;refine aO 10 52 b15 ?_ ?_
   ·clear h;refine aN 42 J (fun g15=> ?_) (fun g15=> ?_)
    ·have h:=ag g15 hb15;refine Y ?_;obtain rfl:=aq h;exact ae sA (cS [0] 1)
    have h:=ah g15 hb15;refine Y ?_;obtain ⟨x16,hx16,h⟩:=aa h;obtain ⟨lx16,ux16,hx16⟩:=aA hx16;refine cL (aX 0 J av J J z3 dP lx16 ux16) J (eS g15 J) J ?_;refine cL (bH (u:=iV x16) 0 J av J hx16 dy (fun _ _ _ h=>by rw [show _=_ from h];rfl)) J (eS g15 J) J ?_;obtain ⟨y17,hy17,h⟩:=aa h;refine dn (ai (tU hy17) JH J (ac) rh) J (eS g15 J) J ?_;rintro _ _ ⟨_,⟨rfl,rfl⟩,rfl⟩;refine Y ?_;obtain ⟨b18,hb18,h⟩:=aa h;refine aO 3 51 b18 ?_ ?_
    ·clear h;refine aN 48 J (fun g18=> ?_) (fun g18=> ?_)
     ·have h:=ag g18 hb18;refine Y ?_;obtain ⟨y19,hy19,h⟩:=aa h;refine dn (ai (tU hy19) JH J (ac) rh) J (bU g18 J) J ?_;rintro _ _ ⟨_,⟨rfl,rfl⟩,rfl⟩;refine Y ?_;obtain rfl:=aq h;exact ae sA (cS [0] 1)
     have h:=ah g18 hb18;refine Y ?_;obtain rfl:=aq h;exact ae sA (cS [0] 1)
    refine Y ?_;obtain rfl:=aq h;exact ae sA (cS [0] 1)
   refine Y ?_;obtain rfl:=aq h;exact ae sA (cS [0] 1)
  have h:=ah g13 hb13;refine Y ?_;obtain rfl:=aq h;exact ae sA (cS [0] 1)
 refine Y ?_;obtain rfl:=aq h;exact nN J J J (cS [] 1) ⟨J,J⟩
theorem rN {r:(Int×Bool)}: ∀v post,((fun (u:Value) (post:List Chunk)=>u=.tuple #[iV r.1,.bool r.2]∧post=[])) v post→ ∀c∈post,ce c:=by
 rintro _ _ ⟨rfl,rfl⟩;exact ac
def su (N:Nat):Option Bool:=
 some true
def gK (N:Nat)(a0:SP)(a1:(List Int)):Nat→Int→Option Bool
 |0,_=>none
 |m20+1,p21=>bif decide (p21<(a0.Old.length:Int)) then ((aF a0.Old p21).bind fun x23=>bi (in64 (2*p21)) (bi (in64 ((2*p21)+2)) ((ic N a1 ((2*p21)+2)).bind fun y30=>(bif !y30.2 then ((kN N x23).bind fun y32=>some y32) else (some false)).bind fun b31=>bif b31 then (some false) else (bi (in64 (p21+1)) ((gK N a0 a1 m20) (p21+1)))))) else (su N)
def tZ (N:Nat)(a1:(List Int))(a0:SP):Option Bool:=
 gK N a0 a1 N 0
def mc (N:Nat)(a1:(List Int))(a0:SP):Nat→Int→Option Bool
 |0,_=>none
 |m6+1,p7=>bif decide (p7<(a1.length:Int)) then ((aF a1 p7).bind fun x9=>(mV N x9).bind fun y10=>(bif !y10 then (some true) else (bi (in64 (x9.tdiv 2)) (some (decide ((a0.Old.length:Int)<x9.tdiv 2))))).bind fun b11=>(bif b11 then (some true) else ((bif decide (0<p7) then (bi (in64 (p7 - 1)) ((aF a1 (p7 - 1)).bind fun x16=>some (decide (x9≤x16)))) else (some false)).bind fun b14=>some b14)).bind fun b13=>bif b13 then (some false) else (bi (in64 (p7+1)) ((mc N a1 a0 m6) (p7+1)))) else (tZ N a1 a0)
def mY (N:Nat)(a0:SP)(a1:(List Int)):Option Bool:=
 mc N a1 a0 N 0
set_option maxHeartbeats 4000000 in
theorem BB {N:Nat}{a0:SP}{a1:(List Int)}{r:Bool}(h:mY N a0 a1=some r):Okc Tryz.prog 56 [.agg #[U A1 n1 c1,U A2 n2 c2],U A3 n3 c3] ([bB A1 n1 c1 a0.Young,bB A2 n2 c2 a0.Old,ex A3 n3 c3 a1]) (fun u post=>u=.bool r∧post=[]):=by
 refine bp Tryz.func56 J J ?_;simp only [aP];refine Y ?_;refine gD (bn J J) ?_;rintro _ _ ⟨B4,rfl,rfl⟩;refine Y ?_;refine aM (fun s L=>tZ N a1 a0=some r∧s=[(1,U A3 n3 c3),(2,pV B4 0),(4,.bool false)]∧L=[ex A3 n3 c3 a1,bB A1 n1 c1 a0.Young,bB A2 n2 c2 a0.Old,am B4 96 [U A1 n1 c1,U A2 n2 c2]]) ?_ ?_
 ·refine Y ?_;refine gR (aU 3 J av J z3) ?_;refine Y ?_;refine bv (fun m s L=> ∃p7,mc N a1 a0 m p7=some r∧s=[(1,U A3 n3 c3),(2,pV B4 0),(4,.bool false),(11,U A3 n3 c3),(12,iV (a1.length:Int)),(13,iV p7)]∧L=[ex A3 n3 c3 a1,bB A1 n1 c1 a0.Young,bB A2 n2 c2 a0.Old,am B4 96 [U A1 n1 c1,U A2 n2 c2]]) N _ _ ⟨0,h,J,J⟩ sA (cS [3,1,2,0] 4) ?_;rintro (_|m6) _ _ ⟨p7,h,rfl,rfl⟩
  ·exact aG h
  rw [mc.eq_2] at h;refine Y ?_;refine ax ?_;refine au J (fun g8=> ?_) (fun g8=> ?_)
  ·replace h:=ag g8 h;refine Y ?_;refine ax ?_;refine Y ?_;obtain ⟨x9,hx9,h⟩:=aa h;obtain ⟨lx9,ux9,hx9⟩:=aA hx9;refine gR (aX 0 J av J J z3 dP lx9 ux9) ?_;refine gR (bH (u:=iV x9) 0 J av J hx9 dy (fun _ _ _ h=>by rw [show _=_ from h];rfl)) ?_;refine Y ?_;obtain ⟨y10,hy10,h⟩:=aa h;refine gD (ai (xe hy10) JS J (ac) tX) ?_;rintro _ _ ⟨_,⟨rfl,rfl⟩,rfl⟩;refine Y ?_;obtain ⟨b11,hb11,h⟩:=aa h;refine aO 7 28 b11 ?_ ?_
   ·clear h;refine aN 21 J (fun g11=> ?_) (fun g11=> ?_)
    ·have h:=ag g11 hb11;refine Y ?_;obtain rfl:=aq h;exact ae sA (cS [0,1,2,3] 4)
    have h:=ah g11 hb11;refine Y ?_;obtain ⟨q12,h⟩:=ap h;refine o8 (yc J J (by decide) q12.1 q12.2) J (eS g11 J) J ?_;refine Y ?_;refine cL (aU 2 J av J t9) J (eS g11 J) J ?_;refine Y ?_;obtain rfl:=aq h;exact ae sA (cS [0,1,2,3] 4)
   refine Y ?_;obtain ⟨b13,hb13,h⟩:=aa h;refine aO 12 41 b13 ?_ ?_
   ·clear h;refine aN 29 J (fun g13=> ?_) (fun g13=> ?_)
    ·have h:=ag g13 hb13;refine Y ?_;obtain rfl:=aq h;exact ae sA (cS [0,1,2,3] 4)
    have h:=ah g13 hb13;refine Y ?_;obtain ⟨b14,hb14,h⟩:=aa h;refine aO 8 40 b14 ?_ ?_
    ·clear h;refine aN 32 J (fun g14=> ?_) (fun g14=> ?_)
     ·have h:=ag g14 hb14;refine Y ?_;obtain ⟨q15,h⟩:=ap h;refine o8 (lK J J q15.1 q15.2) J (bU g14 J) J ?_;obtain ⟨x16,hx16,h⟩:=aa h;obtain ⟨lx16,ux16,hx16⟩:=aA hx16;refine cL (aX 0 J av J J z3 dP lx16 ux16) J (bU g14 J) J ?_;refine cL (bH (u:=iV x16) 0 J av J hx16 dy (fun _ _ _ h=>by rw [show _=_ from h];rfl)) J (bU g14 J) J ?_;refine Y ?_;obtain rfl:=aq h;exact ae sA (cS [0,1,2,3] 4)
     have h:=ah g14 hb14;refine Y ?_;obtain rfl:=aq h;exact ae sA (cS [0,1,2,3] 4)
    refine Y ?_;obtain rfl:=aq h;exact ae sA (cS [0,1,2,3] 4)
   refine Y ?_;refine au J (fun g17=> ?_) (fun g17=> ?_)
   ·replace h:=ag g17 h;refine Y ?_;obtain rfl:=aq h;exact aL J J (cS [] 4) ⟨J,J⟩
   replace h:=ah g17 h;refine Y ?_;obtain ⟨q18,h⟩:=ap h;refine gE (aW J J q18.1 q18.2) ?_;refine Y ?_;exact ⟨m6,_,_,Tk _,⟨p7+1,h,J,J⟩,sA,cS [0,1,2,3] 4⟩
  replace h:=ah g8 h;refine Y ?_;exact ⟨_,_,⟨h,J,J⟩,sA,cS [0,1,2,3] 4⟩
 rintro _ _ ⟨h,rfl,rfl⟩;refine aM (fun s L=>su N=some r∧s=[(4,.bool false)]∧L=[]) ?_ ?_
 ·refine Y ?_;refine gR (aU 2 J av J t9) ?_;refine Y ?_;refine bv (fun m s L=> ∃p21,gK N a0 a1 m p21=some r∧s=[(1,U A3 n3 c3),(4,.bool false),(44,U A2 n2 c2),(45,iV (a0.Old.length:Int)),(46,iV p21)]∧L=[ex A3 n3 c3 a1,bB A2 n2 c2 a0.Old]) N _ _ ⟨0,h,J,J⟩ sA (cS [0,2] 4) ?_;rintro (_|m20) _ _ ⟨p21,h,rfl,rfl⟩
  ·exact aG h
  rw [gK.eq_2] at h;refine Y ?_;refine ax ?_;refine au J (fun g22=> ?_) (fun g22=> ?_)
  ·replace h:=ag g22 h;refine Y ?_;refine ax ?_;refine Y ?_;obtain ⟨x23,hx23,h⟩:=aa h;obtain ⟨lx23,ux23,hx23⟩:=aA hx23;refine gR (aX 1 J av J J t9 bL lx23 ux23) ?_;refine wa 1 J hx23 (gh x23) ?_;rintro _ _ ⟨A24,n24,c24,A25,n25,c25,rfl,rfl⟩;refine gR (nb (us:=[iV x23.Kind,iV x23.Shape,iV x23.Flags,iV x23.Age,U A24 n24 c24,U A25 n25 c25]) 0 J J bA J) ?_;refine gD (aE eA J) ?_;rintro _ _ ⟨B27,rfl,rfl⟩;refine Y ?_;refine gO (ao (us:=[iV x23.Kind,iV x23.Shape,iV x23.Flags,iV x23.Age,U A24 n24 c24,U A25 n25 c25]) (cs':=[iV x23.Kind,iV x23.Shape,iV x23.Flags,iV x23.Age,U A24 n24 c24,U A25 n25 c25]) 0 J J J J bL J J J) ?_;rintro _ _ rfl;refine Y ?_;obtain ⟨q28,h⟩:=ap h;refine gE (rZ J J q28.1 q28.2) ?_;obtain ⟨q29,h⟩:=ap h;refine gE (aW J J q29.1 q29.2) ?_;obtain ⟨y30,hy30,h⟩:=aa h;refine gD (ai (sX hy30) Pg J (hJ (ab (i:=4) J J) ac) rN) ?_;rintro _ _ ⟨_,⟨rfl,rfl⟩,rfl⟩;refine Y ?_;obtain ⟨b31,hb31,h⟩:=aa h;refine aO 3 64 b31 ?_ ?_
   ·clear h;refine aN 61 J (fun g31=> ?_) (fun g31=> ?_)
    ·have h:=ag g31 hb31;refine cL (aD (us:=[iV x23.Kind,iV x23.Shape,iV x23.Flags,iV x23.Age,U A24 n24 c24,U A25 n25 c25]) 0 J J bA J) J (bU g31 J) J ?_;obtain ⟨y32,hy32,h⟩:=aa h;refine dn (ai (tY hy32) JR J (hJ (ab (i:=2) J J) (hJ (ab (i:=3) J J) ac)) rm) J (bU g31 J) J ?_;rintro _ _ ⟨_,⟨rfl,rfl⟩,rfl⟩;refine Y ?_;obtain rfl:=aq h;exact ae sA (cS [0,1,2,3,4,5] 6)
    have h:=ah g31 hb31;refine Y ?_;obtain rfl:=aq h;exact ae sA (cS [0,1,2,3,4,5] 6)
   refine Y ?_;refine au J (fun g33=> ?_) (fun g33=> ?_)
   ·replace h:=ag g33 h;refine Y ?_;obtain rfl:=aq h;exact aL J J (cS [] 6) ⟨J,J⟩
   replace h:=ah g33 h;refine Y ?_;obtain ⟨q34,h⟩:=ap h;refine gE (aW J J q34.1 q34.2) ?_;refine Y ?_;exact ⟨m20,_,_,Tk _,⟨p21+1,h,J,J⟩,sA,cS [4,5] 6⟩
  replace h:=ah g22 h;refine Y ?_;exact ⟨_,_,⟨h,J,J⟩,sA,cS [] 2⟩
 rintro _ _ ⟨h,rfl,rfl⟩;refine Y ?_;obtain rfl:=aq h;exact aL J J (cS [] 0) ⟨J,J⟩
theorem yA {r:Bool}: ∀v post,((fun (u:Value) (post:List Chunk)=>u=.bool r∧post=[])) v post→ ∀c∈post,ce c:=by
 rintro _ _ ⟨rfl,rfl⟩;exact ac
def gt (N:Nat)(a0:SS)(p11:Bool):Option Int:=
 bif p11 then (some 50) else ((iA N a0.set_).bind fun y24=>(mY N a0.m_ y24).bind fun y26=>bif !y26 then (some 6) else (some 0))
def ga (N:Nat)(a0:SS):Option Int:=
 (bm N a0).bind fun y8=>bif y8 then (some 1) else ((cu N a0.roots_ a0.pending_).bind fun y13=>(cH N y13 (fun x=>jQ N a0 x)).bind fun y15=>bif y15 then (gt N a0 y15) else ((fF N a0.m_.Young a0.m_.Old).bind fun y19=>(dq N y19 a0).bind fun y22=>gt N a0 y22))
set_option maxHeartbeats 4000000 in
theorem yb {N:Nat}{a0:SS}{r:Int}(h:ga N a0=some r):Okc Tryz.prog 21 [pV B1 0] ([aR B1 99 [U A2 n2 c2,U A3 n3 c3,U A4 n4 c4,U A5 n5 c5,pV B6 0],bB A2 n2 c2 a0.m_.Young,bB A3 n3 c3 a0.m_.Old,bE A4 n4 c4 a0.roots_,bE A5 n5 c5 a0.pending_,aR B6 147 [.map (some M7)],fh bR cG M7 a0.set_.at_]) (fun u post=>u=iV r∧post=[]):=by
 refine bp Tryz.func21 J J ?_;simp only [aP];refine Y ?_;refine ax ?_;refine Y ?_;obtain ⟨y8,hy8,h⟩:=aa h;refine gD (ai (cP hy8) tI J (hJ (ab (i:=0) J J) (hJ (ab (i:=1) J J) (hJ (ab (i:=2) J J) (hJ (ab (i:=3) J J) (hJ (ab (i:=4) J J) (hJ (ab (i:=5) J J) (hJ (ab (i:=6) J J) ac))))))) cv) ?_;rintro _ _ ⟨_,⟨rfl,rfl⟩,rfl⟩;refine Y ?_;refine au J (fun g9=> ?_) (fun g9=> ?_)
 ·replace h:=ag g9 h;refine Y ?_;obtain rfl:=aq h;exact aL J J (cS [] 7) ⟨J,J⟩
 replace h:=ah g9 h;refine aM (fun s L=> ∃p11,gt N a0 p11=some r∧s=[(0,pV B1 0),(2,iV 0),(6,.bool p11)]∧L=[bB A2 n2 c2 a0.m_.Young,bB A3 n3 c3 a0.m_.Old,bE A4 n4 c4 a0.roots_,bE A5 n5 c5 a0.pending_,aR B1 99 [U A2 n2 c2,U A3 n3 c3,U A4 n4 c4,U A5 n5 c5,pV B6 0],fh bR cG M7 a0.set_.at_,aR B6 147 [.map (some M7)]]) ?_ ?_
 ·refine ax ?_;refine bN I _ (aj _) ?_;refine zE 0 J (aw J) ?_;refine zE 1 J (aB J) ?_;refine zE 2 J (bz J oI) ?_;refine zR 3 J (ba 0 J J dD J) ?_;refine zE 4 J (aw J) ?_;refine zE 5 J (aB J) ?_;refine zE 6 J (bz J rD) ?_;refine zR 7 J (ba 0 J J dD J) ?_;refine zE 10 J (aw J) ?_;refine zE 11 J (pP (caps:=[]) J J) ?_;refine zD 8 J (eO (cs:=[U A4 n4 c4,U A5 n5 c5]) J (lZ _ _ _ _ _ _)) ?_;rintro _ _ ⟨B12,rfl,rfl⟩;refine be (cS [1,2,3,4,5,6,7] 8) ?_;obtain ⟨y13,hy13,h⟩:=aa h;refine zD 9 J (ai (bM hy13) qY J (hJ (az (i:=0) J) (hJ (ab (i:=4) J J) (hJ (ab (i:=5) J J) ac))) bD) ?_;rintro _ _ ⟨_,⟨A14,n14,c14,rfl,rfl⟩,rfl⟩;refine be (cS [2,3,4,5,6,7,8] 9) ?_;obtain ⟨y15,hy15,h⟩:=aa h;refine zD 12 J (ai (jU hy15 ⟨hJ J (hJ J (hJ J (hJ J (hJ J (hJ J (hJ J ac)))))),52, #[pV B1 0], #[],J,Qc,fun _ _ hh=>wX hh⟩) MR J (hJ (ad (i:=0) J) (hJ (ab (i:=2) J J) (hJ (ab (i:=3) J J) (hJ (ab (i:=4) J J) (hJ (ab (i:=5) J J) (hJ (ab (i:=6) J J) (hJ (ab (i:=7) J J) (hJ (ab (i:=8) J J) ac)))))))) jf) ?_;rintro _ _ ⟨_,⟨rfl,rfl⟩,rfl⟩;refine be (cS [2,3,4,5,6,7,8] 9) ?_;refine zE 13 J (aC J) ?_;refine aZ I ?_;refine fb ?_;refine au J (fun g16=> ?_) (fun g16=> ?_)
  ·replace h:=ag g16 h;refine Y ?_;exact ⟨_,_,⟨y15,h,J,J⟩,sA,cS [3,4,5,6,2,8,7] 9⟩
  replace h:=ah g16 h;obtain ⟨y19,hy19,h⟩:=aa h;refine ik (t:=[(0,pV B1 0),(2,iV 0),(6,.bool y15)]) ?_ mN (aj _)
  refine jS I 14 [] [11,13] [20,21,22,23,24,25,26,27,28,29,30,31,32,33] [[],[0],[1],[2],[3],[],[5],[6],[7],[8],[4,9],[10],[],[12]] [aV (pV B1 0),
aV (pV B1 0),
aV (pV B1 0),
aV (pV B1 0),
aV (U A2 n2 c2),
aV (pV B1 0),
aV (pV B1 0),
aV (pV B1 0),
aV (pV B1 1),
aV (U A3 n3 c3),
aX1 (fun (B18:Nat)=> .slice (some ⟨B18,0,none⟩) 2 2) (fun B18=> [aR B18 94 [U A2 n2 c2,U A3 n3 c3]]),
aX3 (fun (A21:Option Addr) (n21 c21:Nat)=> U A21 n21 c21) (fun A21 n21 c21=> [bS A21 n21 c21 y19]),
aV (pV B1 0),
aV (.func (.func 55) #[pV B1 0] #[])] [] (aj _) (mr) I rfl rfl ?_ ?_ ?_
  ·exact mq
  ·refine ak J ?_ ?_
   ·exact cF (pP (caps:=[]) J J) J (bq J (aj _))
   refine ak J ?_ ?_
   ·exact cF (aw J) J (bq J (aj _))
   refine ak J ?_ ?_
   ·intro B18;refine vW (aT (nJ hy19) MQ J (aI [0,4,5] [] [0,1,2,3,4,5,6,7,8,9] 10 J)) J ?_;rintro _ _ ⟨_,⟨A20,n20,c20,rfl,rfl⟩,rfl⟩;exact DC A20 n20 c20 (aj _)
   refine ak J ?_ ?_
   ·refine vW (eO (cs:=[U A2 n2 c2,U A3 n3 c3]) J (AI _ _ _ _ _ _)) J ?_;rintro _ _ ⟨B17,rfl,rfl⟩;exact Rc B17 ((gP 0 J).trans (aj _))
   refine ak J ?_ ?_
   ·exact fi (ba 2 J J oU J) J (bq J (aj _))
   refine ak J ?_ ?_
   ·exact cF (bz J zA) J (bq J (aj _))
   refine ak J ?_ ?_
   ·exact cF (dK J lq) J (bq J (aj _))
   refine ak J ?_ ?_
   ·exact cF (aB J) J (bq J (aj _))
   refine ak J ?_ ?_
   ·exact cF (aw J) J (bq J (aj _))
   refine ak J ?_ ?_
   ·exact fi (ba 2 J J oU J) J (bq J (aj _))
   refine ak J ?_ ?_
   ·exact cF (dK J BU) J (bq J (aj _))
   refine ak J ?_ ?_
   ·exact cF (dK J lq) J (bq J (aj _))
   refine ak J ?_ ?_
   ·exact cF (aB J) J (bq J (aj _))
   refine ak J ?_ ?_
   ·exact cF (aw J) J (bq J (aj _))
   exact fo
  intro A21 n21 c21;refine nP (t:=[(31,U A21 n21 c21),(33,.func (.func 55) #[pV B1 0] #[]),(0,pV B1 0),(2,iV 0),(6,.bool y15)]) (L':=[bS A21 n21 c21 y19,bf A14 n14 c14 y13,am B12 30 [U A4 n4 c4,U A5 n5 c5],aR B1 99 [U A2 n2 c2,U A3 n3 c3,U A4 n4 c4,U A5 n5 c5,pV B6 0],bB A2 n2 c2 a0.m_.Young,bB A3 n3 c3 a0.m_.Old,bE A4 n4 c4 a0.roots_,bE A5 n5 c5 a0.pending_,aR B6 147 [.map (some M7)],fh bR cG M7 a0.set_.at_]) ?_ mN (aj _);obtain ⟨y22,hy22,h⟩:=aa h;refine pH 14 J I (ai (mT hy22) Qb J (hJ (ad (i:=0) J) (hJ (ab (i:=3) J J) (hJ (ab (i:=4) J J) (hJ (ab (i:=5) J J) (hJ (ab (i:=6) J J) (hJ (ab (i:=7) J J) (hJ (ab (i:=8) J J) (hJ (ab (i:=9) J J) ac)))))))) mi) J J J ?_;rintro _ _ ⟨_,⟨rfl,rfl⟩,rfl⟩;refine AO 15 J I (aC J) J J J ?_;refine mB I ?_;refine fb ?_;exact ⟨_,_,⟨y22,h,J,J⟩,sA,cS [4,5,6,7,3,9,8] 10⟩
 rintro _ _ ⟨p11,h,rfl,rfl⟩;refine au J (fun g23=> ?_) (fun g23=> ?_)
 ·replace h:=ag g23 h;refine Y ?_;obtain rfl:=aq h;exact aL J J (cS [] 7) ⟨J,J⟩
 replace h:=ah g23 h;refine ax ?_;refine bN I _ (aj _) ?_;refine zE 0 J (aw J) ?_;refine zE 1 J (aB J) ?_;refine zE 2 J (dK J lq) ?_;refine zR 3 J (uT (us:=[U A2 n2 c2,U A3 n3 c3]) 4 J J fe J) ?_;refine zE 4 J (aw J) ?_;refine zE 5 J (aB J) ?_;refine zE 6 J (bz J zz) ?_;refine zR 7 J (ba 4 J J EE J) ?_;obtain ⟨y24,hy24,h⟩:=aa h;refine zD 8 J (ai (qp hy24) MP J (hJ (ab (i:=6) J J) (hJ (ab (i:=5) J J) ac)) oQ) ?_;rintro _ _ ⟨_,⟨A25,n25,c25,rfl,rfl⟩,rfl⟩;refine be (cS [1,2,3,4,5,6,7] 8) ?_;obtain ⟨y26,hy26,h⟩:=aa h;refine zD 9 J (ai (BB hy26) P9 J (hJ (ab (i:=1) J J) (hJ (ab (i:=2) J J) (hJ (ad (i:=0) J) ac))) yA) ?_;rintro _ _ ⟨_,⟨rfl,rfl⟩,rfl⟩;refine be (cS [1,2,3,4,5,6,7] 8) ?_;refine zE 10 J (FZ J) ?_;refine zE 11 J (aC J) ?_;refine aZ I ?_;refine fb ?_;refine au J (fun g27=> ?_) (fun g27=> ?_)
 ·replace h:=ag g27 h;refine Y ?_;obtain rfl:=aq h;exact aL J J (cS [] 8) ⟨J,J⟩
 replace h:=ah g27 h;refine Y ?_;obtain rfl:=aq h;exact aL J J (cS [] 8) ⟨J,J⟩
theorem vC {r:Int}: ∀v post,((fun (u:Value) (post:List Chunk)=>u=iV r∧post=[])) v post→ ∀c∈post,ce c:=by
 rintro _ _ ⟨rfl,rfl⟩;exact ac
def pv (N:Nat)(p35:(List ByteArray))(p39:(List SX))(p40:(List ByteArray))(p25:Int)(p26:Int)(p27:Int)(p28:Int)(p29:Int)(p30:Int)(p31:Int)(p32:Int)(p33:Int)(p34:Int)(p36:Int)(p37:Int)(p38:Int)(p41:(List Ta))(p42:(List Ta))(p43:(List SR))(p44:(List SR))(p45:(List SU))(p46:(List (SM×Int)))(p47:(List (Int×Bool))):Option Bool:=
 (qt N (⟨(⟨p25,p26,p27⟩:ST),(⟨p28,p29,p30,p31,p32,p33,p34⟩:SY),(),(⟨(⟨p41,p42⟩:SP),p43,p44,(⟨p47⟩:SW)⟩:SS),(⟨p45,p46⟩:Tb),p35,p36,p37,p38,p39,p40⟩:Te)).bind fun y141=>(ga N (⟨(⟨p41,p42⟩:SP),p43,p44,(⟨p47⟩:SW)⟩:SS)).bind fun y142=>(bif decide (y142=0) then ((kG N).bind fun y144=>some y144) else (some false)).bind fun b143=>some b143
def i4 (N:Nat)(p35:(List ByteArray))(p39:(List SX))(p40:(List ByteArray))(p25:Int)(p26:Int)(p27:Int)(p28:Int)(p29:Int)(p30:Int)(p31:Int)(p32:Int)(p33:Int)(p34:Int)(p36:Int)(p37:Int)(p38:Int)(p41:(List Ta))(p42:(List Ta))(p43:(List SR))(p44:(List SR))(p45:(List SU))(p46:(List (SM×Int)))(p47:(List (Int×Bool))):Nat→Int→Option Bool
 |0,_=>none
 |m135+1,p136=>bif decide (p136<18) then ((oN N (⟨(⟨p25,p26,p27⟩:ST),(⟨p28,p29,p30,p31,p32,p33,p34⟩:SY),(),(⟨(⟨p41,p42⟩:SP),p43,p44,(⟨p47⟩:SW)⟩:SS),(⟨p45,p46⟩:Tb),p35,p36,p37,p38,p39,p40⟩:Te) p136).bind fun y138=>bif !y138 then (some false) else (bi (in64 (p136+1)) ((i4 N p35 p39 p40 p25 p26 p27 p28 p29 p30 p31 p32 p33 p34 p36 p37 p38 p41 p42 p43 p44 p45 p46 p47 m135) (p136+1)))) else (pv N p35 p39 p40 p25 p26 p27 p28 p29 p30 p31 p32 p33 p34 p36 p37 p38 p41 p42 p43 p44 p45 p46 p47)
def pw (N:Nat)(p35:(List ByteArray))(p39:(List SX))(p40:(List ByteArray))(p25:Int)(p26:Int)(p27:Int)(p28:Int)(p29:Int)(p30:Int)(p31:Int)(p32:Int)(p33:Int)(p34:Int)(p36:Int)(p37:Int)(p38:Int)(p41:(List Ta))(p42:(List Ta))(p43:(List SR))(p44:(List SR))(p45:(List SU))(p46:(List (SM×Int)))(p47:(List (Int×Bool))):Option Bool:=
 i4 N p35 p39 p40 p25 p26 p27 p28 p29 p30 p31 p32 p33 p34 p36 p37 p38 p41 p42 p43 p44 p45 p46 p47 N 0
def i5 (N:Nat)(a2:(List Int))(p35:(List ByteArray))(p39:(List SX))(p40:(List ByteArray))(p25:Int)(p26:Int)(p27:Int)(p28:Int)(p29:Int)(p30:Int)(p31:Int)(p32:Int)(p33:Int)(p34:Int)(p36:Int)(p37:Int)(p38:Int)(p41:(List Ta))(p42:(List Ta))(p43:(List SR))(p44:(List SR))(p45:(List SU))(p46:(List (SM×Int)))(p47:(List (Int×Bool))):Nat→Int→Option Bool
 |0,_=>none
 |m119+1,p120=>bif decide (p120<(a2.length:Int)) then (bi (in64 (20+p120)) ((ji N (⟨(⟨p25,p26,p27⟩:ST),(⟨p28,p29,p30,p31,p32,p33,p34⟩:SY),(),(⟨(⟨p41,p42⟩:SP),p43,p44,(⟨p47⟩:SW)⟩:SS),(⟨p45,p46⟩:Tb),p35,p36,p37,p38,p39,p40⟩:Te) (20+p120)).bind fun y123=>(bW N (⟨(⟨p25,p26,p27⟩:ST),(⟨p28,p29,p30,p31,p32,p33,p34⟩:SY),(),(⟨(⟨p41,p42⟩:SP),p43,p44,(⟨p47⟩:SW)⟩:SS),(⟨p45,p46⟩:Tb),p35,p36,p37,p38,p39,p40⟩:Te) y123).bind fun y124=>(bif !decide (y124.Kind=11) then (some true) else (some (!decide ((y124.More.length:Int)=1)))).bind fun b128=>(bif b128 then (some true) else ((aF y124.More 0).bind fun x130=>(aF a2 p120).bind fun x131=>some (!decide (x130.N=x131)))).bind fun b129=>bif b129 then (some false) else (bi (in64 (p120+1)) ((i5 N a2 p35 p39 p40 p25 p26 p27 p28 p29 p30 p31 p32 p33 p34 p36 p37 p38 p41 p42 p43 p44 p45 p46 p47 m119) (p120+1))))) else (pw N p35 p39 p40 p25 p26 p27 p28 p29 p30 p31 p32 p33 p34 p36 p37 p38 p41 p42 p43 p44 p45 p46 p47)
def qb (N:Nat)(a2:(List Int))(p25:Int)(p26:Int)(p27:Int)(p28:Int)(p29:Int)(p30:Int)(p31:Int)(p32:Int)(p33:Int)(p34:Int)(p35:(List ByteArray))(p36:Int)(p37:Int)(p38:Int)(p39:(List SX))(p40:(List ByteArray))(p41:(List Ta))(p42:(List Ta))(p43:(List SR))(p44:(List SR))(p45:(List SU))(p46:(List (SM×Int)))(p47:(List (Int×Bool))):Option Bool:=
 i5 N a2 p35 p39 p40 p25 p26 p27 p28 p29 p30 p31 p32 p33 p34 p36 p37 p38 p41 p42 p43 p44 p45 p46 p47 N 0
def jA (N:Nat)(a2:(List Int)):Nat→Int→Int→Int→Int→Int→Int→Int→Int→Int→Int→Int→(List ByteArray)→Int→Int→Int→(List SX)→(List ByteArray)→(List Ta)→(List Ta)→(List SR)→(List SR)→(List SU)→(List (SM×Int))→(List (Int×Bool))→Option Bool
 |0,_,_,_,_,_,_,_,_,_,_,_,_,_,_,_,_,_,_,_,_,_,_,_,_=>none
 |m48+1,p49,p50,p51,p52,p53,p54,p55,p56,p57,p58,p59,p60,p61,p62,p63,p64,p65,p66,p67,p68,p69,p70,p71,p72=>bif decide (p49<(a2.length:Int)) then ((aF a2 p49).bind fun x74=>(bif decide (x74<(-9007199254740992)) then (some true) else ((aF a2 p49).bind fun x76=>some (decide (9007199254740992<x76)))).bind fun b75=>bif b75 then ((kG N).bind fun y78=>some y78) else ((aF a2 p49).bind fun x79=>(eo N (⟨(⟨p50,p51,p52⟩:ST),(⟨p53,p54,p55,p56,p57,p58,p59⟩:SY),(),(⟨(⟨p66,p67⟩:SP),p68,p69,(⟨p72⟩:SW)⟩:SS),(⟨p70,p71⟩:Tb),p60,p61,p62,p63,p64,p65⟩:Te) (⟨11,0,0,0,[],([(⟨3,x79,⟨#[]⟩⟩:SR)]:List SR)⟩:Ta)).bind fun y81=>(gV N y81.2 y81.1).bind fun y94=>(el N y94.2).bind fun y105=>bif !y105.1 then (some false) else (bi (in64 (p49+1)) ((jA N a2 m48) (p49+1) y105.2.spent_.steps_ y105.2.spent_.made_ y105.2.spent_.calls_ y105.2.config_.Way y105.2.config_.Steps y105.2.config_.Calls y105.2.config_.Made y105.2.config_.Young y105.2.config_.Full y105.2.config_.Sites y105.2.symbols_ y105.2.epoch_ y105.2.serial_ y105.2.sleepers_ y105.2.events_ y105.2.out_ y105.2.heap_.m_.Young y105.2.heap_.m_.Old y105.2.heap_.roots_ y105.2.heap_.pending_ y105.2.shapes_.shapes_ y105.2.shapes_.next_ y105.2.heap_.set_.at_)))) else (qb N a2 p50 p51 p52 p53 p54 p55 p56 p57 p58 p59 p60 p61 p62 p63 p64 p65 p66 p67 p68 p69 p70 p71 p72)
def nQ (N:Nat)(a0:Int)(a1:Int)(a2:(List Int)):Option Bool:=
 (bif decide (a0<0) then (some true) else (some (decide (5<a0)))).bind fun b2=>(bif b2 then (some true) else (some (decide (a1<0)))).bind fun b3=>(bif b3 then (some true) else (some (decide (5<a1)))).bind fun b4=>(bif b4 then (some true) else (some (decide (30<(a2.length:Int))))).bind fun b5=>bif b5 then ((kG N).bind fun y7=>some y7) else ((mG N (⟨0,100,1,40,a0,a1,0⟩:SY)).bind fun y8=>Fg y8 (fun y8_0=>some false) (fun y8_1=>bif !decide (y8_1.2=0) then (some false) else (jA N a2 N 0 y8_1.1.spent_.steps_ y8_1.1.spent_.made_ y8_1.1.spent_.calls_ y8_1.1.config_.Way y8_1.1.config_.Steps y8_1.1.config_.Calls y8_1.1.config_.Made y8_1.1.config_.Young y8_1.1.config_.Full y8_1.1.config_.Sites y8_1.1.symbols_ y8_1.1.epoch_ y8_1.1.serial_ y8_1.1.sleepers_ y8_1.1.events_ y8_1.1.out_ y8_1.1.heap_.m_.Young y8_1.1.heap_.m_.Old y8_1.1.heap_.roots_ y8_1.1.heap_.pending_ y8_1.1.shapes_.shapes_ y8_1.1.shapes_.next_ y8_1.1.heap_.set_.at_)))
set_option maxHeartbeats 4000000 in
theorem yp {N:Nat}{a0:Int}{a1:Int}{a2:(List Int)}{r:Bool}(h:nQ N a0 a1 a2=some r):Okc Tryz.prog 4 [iV a0,iV a1,U A1 n1 c1] ([ex A1 n1 c1 a2]) (fun u post=>u=.bool r∧post=[]):=by
 refine bp Tryz.func4 J J ?_;simp only [aP];refine Y ?_;refine ax ?_;refine Y ?_;obtain ⟨b2,hb2,h⟩:=aa h;refine aO 3 19 b2 ?_ ?_
 ·clear h;refine aN 16 J (fun g2=> ?_) (fun g2=> ?_)
  ·have h:=ag g2 hb2;refine Y ?_;obtain rfl:=aq h;exact ae sA (cS [0] 1)
  have h:=ah g2 hb2;refine Y ?_;obtain rfl:=aq h;exact ae sA (cS [0] 1)
 refine Y ?_;obtain ⟨b3,hb3,h⟩:=aa h;refine aO 3 23 b3 ?_ ?_
 ·clear h;refine aN 20 J (fun g3=> ?_) (fun g3=> ?_)
  ·have h:=ag g3 hb3;refine Y ?_;obtain rfl:=aq h;exact ae sA (cS [0] 1)
  have h:=ah g3 hb3;refine Y ?_;obtain rfl:=aq h;exact ae sA (cS [0] 1)
 refine Y ?_;obtain ⟨b4,hb4,h⟩:=aa h;refine aO 3 27 b4 ?_ ?_
 ·clear h;refine aN 24 J (fun g4=> ?_) (fun g4=> ?_)
  ·have h:=ag g4 hb4;refine Y ?_;obtain rfl:=aq h;exact ae sA (cS [0] 1)
  have h:=ah g4 hb4;refine Y ?_;obtain rfl:=aq h;exact ae sA (cS [0] 1)
 refine Y ?_;obtain ⟨b5,hb5,h⟩:=aa h;refine aO 4 32 b5 ?_ ?_
 ·clear h;refine aN 28 J (fun g5=> ?_) (fun g5=> ?_)
  ·have h:=ag g5 hb5;refine Y ?_;obtain rfl:=aq h;exact ae sA (cS [0] 1)
  have h:=ah g5 hb5;refine Y ?_;refine cL (aU 0 J av J z3) J (eS g5 J) J ?_;refine Y ?_;obtain rfl:=aq h;exact ae sA (cS [0] 1)
 refine Y ?_;refine au J (fun g6=> ?_) (fun g6=> ?_)
 ·replace h:=ag g6 h;refine Y ?_;obtain ⟨y7,hy7,h⟩:=aa h;refine gD (ai (sU hy7) Iy J (ac) qa) ?_;rintro _ _ ⟨_,⟨rfl,rfl⟩,rfl⟩;refine Y ?_;obtain rfl:=aq h;exact aL J J (cS [] 1) ⟨J,J⟩
 replace h:=ah g6 h;refine Y ?_;refine gE (bo J (AK _ _ _ _ _)) ?_;obtain ⟨y8,hy8,h⟩:=aa h;rcases y8 with y8_0|y8_1
 ·replace h:=Kg h;refine gD (aT (pM hy8) Js J (aI [] [] [0] 1 J)) ?_;rintro _ _ ⟨_,⟨rfl,rfl⟩,rfl⟩;refine cp ?_;refine Y ?_;refine ax ?_;refine Y ?_;refine gE (cT J z0) ?_;refine Y ?_;refine ea J ?_;refine Y ?_;obtain rfl:=aq h;exact aL J J (cS [] 1) ⟨J,J⟩
 replace h:=Kf h;refine gD (aT (pM hy8) Js J (aI [] [] [0] 1 J)) ?_;rintro _ _ ⟨_,⟨B9,B10,A11,n11,c11,A12,n12,c12,A13,n13,c13,A14,n14,c14,B15,M16,B17,A18,n18,c18,M19,A20,n20,c20,A21,n21,c21,A22,n22,c22,rfl,rfl⟩,rfl⟩;refine cp ?_;refine Y ?_;refine ax ?_;refine Y ?_;refine gE (cT J z0) ?_;refine Y ?_;refine au J (fun g23=> ?_) (fun g23=> ?_)
 ·replace h:=ag g23 h;refine Y ?_;obtain rfl:=aq h;exact aL J J (cS [] 15) ⟨J,J⟩
 replace h:=ah g23 h;refine Y ?_;refine aM (fun s L=> ∃p25 p26 p27 p28 p29 p30 p31 p32 p33 p34 p35 p36 p37 p38 p39 p40 p41 p42 p43 p44 p45 p46 p47 A35 n35 c35 A39 n39 c39 A40 n40 c40 A41 n41 c41 A42 n42 c42 A43 n43 c43 A44 n44 c44 A45 n45 c45 M46 M47,qb N a2 p25 p26 p27 p28 p29 p30 p31 p32 p33 p34 p35 p36 p37 p38 p39 p40 p41 p42 p43 p44 p45 p46 p47=some r∧s=[(2,U A1 n1 c1),(6,.bool false),(7,pV B9 0)]∧L=[ex A1 n1 c1 a2,fv A35 n35 c35 p35,nv A39 n39 c39 p39,fv A40 n40 c40 p40,am B9 79 [iV p25,iV p26,iV p27,iV p28,iV p29,iV p30,iV p31,iV p32,iV p33,iV p34,.nilIface,pV B10 0,pV B17 0,U A35 n35 c35,iV p36,iV p37,iV p38,U A39 n39 c39,U A40 n40 c40],bS A41 n41 c41 p41,bS A42 n42 c42 p42,bf A43 n43 c43 p43,bf A44 n44 c44 p44,am B10 99 [U A41 n41 c41,U A42 n42 c42,U A43 n43 c43,U A44 n44 c44,pV B15 0],lH A45 n45 c45 p45,aK bd gc M46 p46,am B17 118 [U A45 n45 c45,.map (some M46)],aK bR cG M47 p47,am B15 147 [.map (some M47)]]) ?_ ?_
 ·refine Y ?_
  refine bv (fun m s L=> ∃p49 p50 p51 p52 p53 p54 p55 p56 p57 p58 p59 p60 p61 p62 p63 p64 p65 p66 p67 p68 p69 p70 p71 p72 A60 n60 c60 A64 n64 c64 A65 n65 c65 A66 n66 c66 A67 n67 c67 A68 n68 c68 A69 n69 c69 A70 n70 c70 M71 M72,jA N a2 m p49 p50 p51 p52 p53 p54 p55 p56 p57 p58 p59 p60 p61 p62 p63 p64 p65 p66 p67 p68 p69 p70 p71 p72=some r∧s=[(2,U A1 n1 c1),(6,.bool false),(7,pV B9 0),(9,iV p49)]∧L=[ex A1 n1 c1 a2,fv A60 n60 c60 p60,nv A64 n64 c64 p64,fv A65 n65 c65 p65,am B9 79 [iV p50,iV p51,iV p52,iV p53,iV p54,iV p55,iV p56,iV p57,iV p58,iV p59,.nilIface,pV B10 0,pV B17 0,U A60 n60 c60,iV p61,iV p62,iV p63,U A64 n64 c64,U A65 n65 c65],bS A66 n66 c66 p66,bS A67 n67 c67 p67,bf A68 n68 c68 p68,bf A69 n69 c69 p69,am B10 99 [U A66 n66 c66,U A67 n67 c67,U A68 n68 c68,U A69 n69 c69,pV B15 0],lH A70 n70 c70 p70,aK bd gc M71 p71,am B17 118 [U A70 n70 c70,.map (some M71)],aK bR cG M72 p72,am B15 147 [.map (some M72)]]) N _ _ ⟨0,y8_1.1.spent_.steps_,y8_1.1.spent_.made_,y8_1.1.spent_.calls_,y8_1.1.config_.Way,y8_1.1.config_.Steps,y8_1.1.config_.Calls,y8_1.1.config_.Made,y8_1.1.config_.Young,y8_1.1.config_.Full,y8_1.1.config_.Sites,y8_1.1.symbols_,y8_1.1.epoch_,y8_1.1.serial_,y8_1.1.sleepers_,y8_1.1.events_,y8_1.1.out_,y8_1.1.heap_.m_.Young,y8_1.1.heap_.m_.Old,y8_1.1.heap_.roots_,y8_1.1.heap_.pending_,y8_1.1.shapes_.shapes_,y8_1.1.shapes_.next_,y8_1.1.heap_.set_.at_,A20,n20,c20,A21,n21,c21,A22,n22,c22,A11,n11,c11,A12,n12,c12,A13,n13,c13,A14,n14,c14,A18,n18,c18,M19,M16,h,J,J⟩ sA (cS [14,11,12,13,0,2,3,4,5,1,9,10,8,7,6] 15) ?_
  rintro (_|m48) _ _ ⟨p49,p50,p51,p52,p53,p54,p55,p56,p57,p58,p59,p60,p61,p62,p63,p64,p65,p66,p67,p68,p69,p70,p71,p72,A60,n60,c60,A64,n64,c64,A65,n65,c65,A66,n66,c66,A67,n67,c67,A68,n68,c68,A69,n69,c69,A70,n70,c70,M71,M72,h,rfl,rfl⟩
  ·exact aG h
  rw [jA.eq_2] at h;refine ax ?_;refine Y ?_;refine gR (aU 0 J av J z3) ?_;refine Y ?_;refine au J (fun g73=> ?_) (fun g73=> ?_)
  ·replace h:=ag g73 h;refine Y ?_;refine ax ?_;refine iK ?_;refine ax ?_;refine Y ?_;obtain ⟨x74,hx74,h⟩:=aa h;obtain ⟨lx74,ux74,hx74⟩:=aA hx74;refine gR (aX 0 J av J J z3 dP lx74 ux74) ?_;refine gR (bH (u:=iV x74) 0 J av J hx74 dy (fun _ _ _ h=>by rw [show _=_ from h];rfl)) ?_;refine Y ?_;obtain ⟨b75,hb75,h⟩:=aa h;refine aO 6 64 b75 ?_ ?_
   ·clear h;refine aN 58 J (fun g75=> ?_) (fun g75=> ?_)
    ·have h:=ag g75 hb75;refine Y ?_;obtain rfl:=aq h;exact ae sA (cS [0,1,2,3,4,5,6,7,8,9,10,11,12,13,14] 15)
    have h:=ah g75 hb75;refine Y ?_;obtain ⟨x76,hx76,h⟩:=aa h;obtain ⟨lx76,ux76,hx76⟩:=aA hx76;refine cL (aX 0 J av J J z3 dP lx76 ux76) J (eS g75 J) J ?_;refine cL (bH (u:=iV x76) 0 J av J hx76 dy (fun _ _ _ h=>by rw [show _=_ from h];rfl)) J (eS g75 J) J ?_;refine Y ?_;obtain rfl:=aq h;exact ae sA (cS [0,1,2,3,4,5,6,7,8,9,10,11,12,13,14] 15)
   refine Y ?_;refine au J (fun g77=> ?_) (fun g77=> ?_)
   ·replace h:=ag g77 h;refine Y ?_;obtain ⟨y78,hy78,h⟩:=aa h;refine gD (ai (sU hy78) Iy J (ac) qa) ?_;rintro _ _ ⟨_,⟨rfl,rfl⟩,rfl⟩;refine Y ?_;obtain rfl:=aq h;exact aL J J (cS [] 15) ⟨J,J⟩
   replace h:=ah g77 h;refine Y ?_;obtain ⟨x79,hx79,h⟩:=aa h;obtain ⟨lx79,ux79,hx79⟩:=aA hx79;refine gR (aX 0 J av J J z3 dP lx79 ux79) ?_;refine gR (bH (u:=iV x79) 0 J av J hx79 dy (fun _ _ _ h=>by rw [show _=_ from h];rfl)) ?_;refine gE (bo J (tL _ _)) ?_;refine gD (bJ (R:=bj) (vss:=[[iV 3,iV x79,.string (⟨#[]⟩)]]) (xs:=[(⟨3,x79,⟨#[]⟩⟩:SR)]) J (vU _ _ _) J J (fun _ _ hr=> .cons J All2.nil)) ?_;rintro _ _ ⟨A80,n80,c80,rfl,rfl⟩;refine gE (bo J (IB _ _ _ _)) ?_;refine wb (cV 0 J) ?_;refine cp ?_;obtain ⟨y81,hy81,h⟩:=aa h;refine wb (jR bj _) ?_;refine gD (aT (gm hy81) DK J (aI [0,1] [6,11,7,8,9,10,16,15,14,12,13,3,4,5] [0,1,2] 17 J)) ?_;rintro _ _ ⟨_,⟨A82,n82,c82,A83,n83,c83,A84,n84,c84,A85,n85,c85,M86,A87,n87,c87,M88,A89,n89,c89,A90,n90,c90,A91,n91,c91,rfl,rfl⟩,rfl⟩;refine cp ?_;refine gD (aE d7 J) ?_;rintro _ _ ⟨B93,rfl,rfl⟩;refine gO (ao (us:=[iV y81.1.Kind,iV y81.1.N,.string y81.1.S]) (cs':=[iV y81.1.Kind,iV y81.1.N,.string y81.1.S]) 0 J J J J aS J J J) ?_;rintro _ _ rfl;refine cp ?_;refine Y ?_;refine gR (aD (us:=[iV y81.1.Kind,iV y81.1.N,.string y81.1.S]) 0 J J bV J) ?_;obtain ⟨y94,hy94,h⟩:=aa h;refine gD (aT (wR hy94) Qr J (aI [] [1,2,3,4,5,6,7,8,9,10,11,12,13,14] [0,15,16,17] 18 J)) ?_;rintro _ _ ⟨_,⟨A95,n95,c95,A96,n96,c96,A97,n97,c97,A98,n98,c98,M99,A100,n100,c100,M101,A102,n102,c102,A103,n103,c103,A104,n104,c104,rfl,rfl⟩,rfl⟩;refine cp ?_;refine Y ?_;obtain ⟨y105,hy105,h⟩:=aa h
   refine gD (aT (lE hy105) Ix J (aI [] [0,1,2,3,4,5,6,7,8,9,10,11,12,13] [14,15,16,17] 18 J)) ?_;rintro _ _ ⟨_,⟨A106,n106,c106,A107,n107,c107,A108,n108,c108,A109,n109,c109,M110,A111,n111,c111,M112,A113,n113,c113,A114,n114,c114,A115,n115,c115,rfl,rfl⟩,rfl⟩;refine cp ?_;refine Y ?_;refine au J (fun g116=> ?_) (fun g116=> ?_)
   ·replace h:=ag g116 h;refine Y ?_;obtain rfl:=aq h;exact aL J J (cS [] 18) ⟨J,J⟩
   replace h:=ah g116 h;refine Y ?_;obtain ⟨q117,h⟩:=ap h;refine gE (aW J J q117.1 q117.2) ?_;refine Y ?_;exact ⟨m48,_,_,Tk _,⟨p49+1,y105.2.spent_.steps_,y105.2.spent_.made_,y105.2.spent_.calls_,y105.2.config_.Way,y105.2.config_.Steps,y105.2.config_.Calls,y105.2.config_.Made,y105.2.config_.Young,y105.2.config_.Full,y105.2.config_.Sites,y105.2.symbols_,y105.2.epoch_,y105.2.serial_,y105.2.sleepers_,y105.2.events_,y105.2.out_,y105.2.heap_.m_.Young,y105.2.heap_.m_.Old,y105.2.heap_.roots_,y105.2.heap_.pending_,y105.2.shapes_.shapes_,y105.2.shapes_.next_,y105.2.heap_.set_.at_,A113,n113,c113,A114,n114,c114,A115,n115,c115,A106,n106,c106,A107,n107,c107,A108,n108,c108,A109,n109,c109,A111,n111,c111,M112,M110,h,J,J⟩,sA,cS [17,11,12,13,0,2,3,4,5,1,9,10,8,7,6] 18⟩
  replace h:=ah g73 h;refine Y ?_;exact ⟨_,_,⟨p50,p51,p52,p53,p54,p55,p56,p57,p58,p59,p60,p61,p62,p63,p64,p65,p66,p67,p68,p69,p70,p71,p72,A60,n60,c60,A64,n64,c64,A65,n65,c65,A66,n66,c66,A67,n67,c67,A68,n68,c68,A69,n69,c69,A70,n70,c70,M71,M72,h,J,J⟩,sA,cS [0,1,2,3,4,5,6,7,8,9,10,11,12,13,14] 15⟩
 rintro _ _ ⟨p25,p26,p27,p28,p29,p30,p31,p32,p33,p34,p35,p36,p37,p38,p39,p40,p41,p42,p43,p44,p45,p46,p47,A35,n35,c35,A39,n39,c39,A40,n40,c40,A41,n41,c41,A42,n42,c42,A43,n43,c43,A44,n44,c44,A45,n45,c45,M46,M47,h,rfl,rfl⟩;refine aM (fun s L=>pw N p35 p39 p40 p25 p26 p27 p28 p29 p30 p31 p32 p33 p34 p36 p37 p38 p41 p42 p43 p44 p45 p46 p47=some r∧s=[(6,.bool false),(7,pV B9 0)]∧L=[fv A35 n35 c35 p35,nv A39 n39 c39 p39,fv A40 n40 c40 p40,am B9 79 [iV p25,iV p26,iV p27,iV p28,iV p29,iV p30,iV p31,iV p32,iV p33,iV p34,.nilIface,pV B10 0,pV B17 0,U A35 n35 c35,iV p36,iV p37,iV p38,U A39 n39 c39,U A40 n40 c40],bS A41 n41 c41 p41,bS A42 n42 c42 p42,bf A43 n43 c43 p43,bf A44 n44 c44 p44,am B10 99 [U A41 n41 c41,U A42 n42 c42,U A43 n43 c43,U A44 n44 c44,pV B15 0],lH A45 n45 c45 p45,aK bd gc M46 p46,am B17 118 [U A45 n45 c45,.map (some M46)],aK bR cG M47 p47,am B15 147 [.map (some M47)]]) ?_ ?_
 ·refine Y ?_;refine bv (fun m s L=> ∃p120,i5 N a2 p35 p39 p40 p25 p26 p27 p28 p29 p30 p31 p32 p33 p34 p36 p37 p38 p41 p42 p43 p44 p45 p46 p47 m p120=some r∧s=[(2,U A1 n1 c1),(6,.bool false),(7,pV B9 0),(11,iV p120)]∧L=[ex A1 n1 c1 a2,fv A35 n35 c35 p35,nv A39 n39 c39 p39,fv A40 n40 c40 p40,am B9 79 [iV p25,iV p26,iV p27,iV p28,iV p29,iV p30,iV p31,iV p32,iV p33,iV p34,.nilIface,pV B10 0,pV B17 0,U A35 n35 c35,iV p36,iV p37,iV p38,U A39 n39 c39,U A40 n40 c40],bS A41 n41 c41 p41,bS A42 n42 c42 p42,bf A43 n43 c43 p43,bf A44 n44 c44 p44,am B10 99 [U A41 n41 c41,U A42 n42 c42,U A43 n43 c43,U A44 n44 c44,pV B15 0],lH A45 n45 c45 p45,aK bd gc M46 p46,am B17 118 [U A45 n45 c45,.map (some M46)],aK bR cG M47 p47,am B15 147 [.map (some M47)]]) N _ _ ⟨0,h,J,J⟩ sA (cS [0,1,2,3,4,5,6,7,8,9,10,11,12,13,14] 15) ?_;rintro (_|m119) _ _ ⟨p120,h,rfl,rfl⟩
  ·exact aG h
  rw [i5.eq_2] at h;refine ax ?_;refine Y ?_;refine gR (aU 0 J av J z3) ?_;refine Y ?_;refine au J (fun g121=> ?_) (fun g121=> ?_)
  ·replace h:=ag g121 h;refine Y ?_;refine ax ?_;refine Y ?_;obtain ⟨q122,h⟩:=ap h;refine gE (aW J J q122.1 q122.2) ?_;obtain ⟨y123,hy123,h⟩:=aa h;refine gD (ai (yE hy123) Qq J (hJ (az (i:=4) J) (hJ (az (i:=9) J) (hJ (ad (i:=5) J) (hJ (ad (i:=6) J) (hJ (ad (i:=7) J) (hJ (ad (i:=8) J) (hJ (az (i:=14) J) (hJ (bc (i:=13) J) (hJ (az (i:=12) J) (hJ (ad (i:=10) J) (hJ (bc (i:=11) J) (hJ (ad (i:=1) J) (hJ (ad (i:=2) J) (hJ (ad (i:=3) J) ac)))))))))))))) wU) ?_;rintro _ _ ⟨_,⟨rfl,rfl⟩,rfl⟩;obtain ⟨y124,hy124,h⟩:=aa h;refine gD (ai (dH hy124) yi J (hJ (az (i:=4) J) (hJ (az (i:=9) J) (hJ (ad (i:=5) J) (hJ (ad (i:=6) J) (hJ (ad (i:=7) J) (hJ (ad (i:=8) J) (hJ (az (i:=14) J) (hJ (bc (i:=13) J) (hJ (az (i:=12) J) (hJ (ad (i:=10) J) (hJ (bc (i:=11) J) (hJ (ad (i:=1) J) (hJ (ad (i:=2) J) (hJ (ad (i:=3) J) ac)))))))))))))) dj) ?_;rintro _ _ ⟨_,⟨A125,n125,c125,A126,n126,c126,rfl,rfl⟩,rfl⟩;refine gD (aE eA J) ?_;rintro _ _ ⟨B127,rfl,rfl⟩;refine gO (ao (us:=[iV y124.Kind,iV y124.Shape,iV y124.Flags,iV y124.Age,U A125 n125 c125,U A126 n126 c126]) (cs':=[iV y124.Kind,iV y124.Shape,iV y124.Flags,iV y124.Age,U A125 n125 c125,U A126 n126 c126]) 0 J J J J bL J J J) ?_;rintro _ _ rfl;refine cp ?_;refine Y ?_;refine ax ?_
   refine bN I _ (aj _) ?_;refine zE 0 J (dK J Ji) ?_;refine zR 1 J (aJ 0 J J dy J) ?_;refine zE 2 J (Jl J J) ?_;refine zE 3 J (aw J) ?_;obtain ⟨b128,hb128,h⟩:=aa h;refine zX (fun l=>(((((l.setIfInBounds 4 true).setIfInBounds 5 true).setIfInBounds 6 true).setIfInBounds 7 true).setIfInBounds 8 true)) 12 101 b128 (fun rest=> ?_) ?_
   ·clear h;refine Cc 96 J (fun g128=> ?_) (fun g128=> ?_)
    ·have h:=ag g128 hb128;refine mM 4 J I (rX g128 J) J ?_;refine mM 5 J I (rX g128 J) J ?_;refine mM 6 J I (rX g128 J) J ?_;refine mM 7 J I (rX g128 J) J ?_;refine zE 8 J (qP g128 J J) ?_;obtain rfl:=aq h;exact tN rest (kH J (aY (aY (aY (aY (aY cB J) J) J) J) J)) (aj _) (aj _)
    have h:=ah g128 hb128;refine vX 4 J I (bz J kC) (eS g128 J) J ?_;refine ul 5 J I (aJ 0 J J dD J) (eS g128 J) J ?_;refine ul 6 J I (aU 2 J aH J t0) (eS g128 J) J ?_;refine vX 7 J I (Jl J J) (eS g128 J) J ?_;refine zE 8 J (qQ g128 J J) ?_;obtain rfl:=aq h;exact tN rest (kH J (aY (aY (aY (aY (aY cB J) J) J) J) J)) (aj _) (aj _)
   refine zE 9 J (aw J) ?_;obtain ⟨b129,hb129,h⟩:=aa h;refine zX (fun l=>(((((((((((l.setIfInBounds 10 true).setIfInBounds 11 true).setIfInBounds 12 true).setIfInBounds 13 true).setIfInBounds 14 true).setIfInBounds 15 true).setIfInBounds 16 true).setIfInBounds 17 true).setIfInBounds 18 true).setIfInBounds 19 true).setIfInBounds 20 true)) 0 113 b129 (fun rest=> ?_) ?_
   ·clear h;refine Cc 102 J (fun g129=> ?_) (fun g129=> ?_)
    ·have h:=ag g129 hb129;refine mM 10 J I (rX g129 J) J ?_;refine mM 11 J I (rX g129 J) J ?_;refine mM 12 J I (rX g129 J) J ?_;refine mM 13 J I (rX g129 J) J ?_;refine mM 14 J I (rX g129 J) J ?_;refine mM 15 J I (rX g129 J) J ?_;refine mM 16 J I (rX g129 J) J ?_;refine mM 17 J I (rX g129 J) J ?_;refine mM 18 J I (rX g129 J) J ?_;refine mM 19 J I (rX g129 J) J ?_;refine zE 20 J (qP g129 J J) ?_;obtain rfl:=aq h;exact tN rest (kH J (aY (aY (aY (aY (aY (aY (aY (aY (aY (aY (aY cB J) J) J) J) J) J) J) J) J) J) J)) (aj _) (aj _)
    have h:=ah g129 hb129;refine vX 10 J I (bz J kC) (eS g129 J) J ?_;refine ul 11 J I (aJ 0 J J dD J) (eS g129 J) J ?_;obtain ⟨x130,hx130,h⟩:=aa h;obtain ⟨lx130,ux130,hx130⟩:=aA hx130;refine ul 12 J I (aX 2 J aH J J t0 aS lx130 ux130) (eS g129 J) J ?_;refine ul 13 J I (AX 2 J aH J (fE lx130 ux130) rE) (eS g129 J) J ?_;refine ul 14 J I (bH (u:=iV x130.N) 2 J aH J hx130 dy (fun _ _ _ h=>by rw [show _=_ from h];rfl)) (eS g129 J) J ?_;refine vX 15 J I (aw J) (eS g129 J) J ?_;refine vX 16 J I (aw J) (eS g129 J) J ?_;obtain ⟨x131,hx131,h⟩:=aa h;obtain ⟨lx131,ux131,hx131⟩:=aA hx131;refine ul 17 J I (aX 3 J av J J z3 dP lx131 ux131) (eS g129 J) J ?_;refine ul 18 J I (bH (u:=iV x131) 3 J av J hx131 dy (fun _ _ _ h=>by rw [show _=_ from h];rfl)) (eS g129 J) J ?_;refine vX 19 J I (Jl J J) (eS g129 J) J ?_;refine zE 20 J (qQ g129 J J) ?_;obtain rfl:=aq h;exact tN rest (kH J (aY (aY (aY (aY (aY (aY (aY (aY (aY (aY (aY cB J) J) J) J) J) J) J) J) J) J) J)) (aj _) (aj _)
   refine aZ I ?_;refine fb ?_;refine au J (fun g132=> ?_) (fun g132=> ?_)
   ·replace h:=ag g132 h;refine Y ?_;obtain rfl:=aq h;exact aL J J (cS [] 18) ⟨J,J⟩
   replace h:=ah g132 h;refine Y ?_;obtain ⟨q133,h⟩:=ap h;refine gE (aW J J q133.1 q133.2) ?_;refine Y ?_;exact ⟨m119,_,_,Tk _,⟨p120+1,h,J,J⟩,sA,cS [3,4,5,6,7,8,9,10,11,12,13,14,15,16,17] 18⟩
  replace h:=ah g121 h;refine Y ?_;exact ⟨_,_,⟨h,J,J⟩,sA,cS [1,2,3,4,5,6,7,8,9,10,11,12,13,14] 15⟩
 rintro _ _ ⟨h,rfl,rfl⟩;refine aM (fun s L=>pv N p35 p39 p40 p25 p26 p27 p28 p29 p30 p31 p32 p33 p34 p36 p37 p38 p41 p42 p43 p44 p45 p46 p47=some r∧s=[(6,.bool false),(7,pV B9 0)]∧L=[fv A35 n35 c35 p35,nv A39 n39 c39 p39,fv A40 n40 c40 p40,am B9 79 [iV p25,iV p26,iV p27,iV p28,iV p29,iV p30,iV p31,iV p32,iV p33,iV p34,.nilIface,pV B10 0,pV B17 0,U A35 n35 c35,iV p36,iV p37,iV p38,U A39 n39 c39,U A40 n40 c40],bS A41 n41 c41 p41,bS A42 n42 c42 p42,bf A43 n43 c43 p43,bf A44 n44 c44 p44,am B10 99 [U A41 n41 c41,U A42 n42 c42,U A43 n43 c43,U A44 n44 c44,pV B15 0],lH A45 n45 c45 p45,aK bd gc M46 p46,am B17 118 [U A45 n45 c45,.map (some M46)],aK bR cG M47 p47,am B15 147 [.map (some M47)]]) ?_ ?_
 ·refine Y ?_;refine bv (fun m s L=> ∃p136,i4 N p35 p39 p40 p25 p26 p27 p28 p29 p30 p31 p32 p33 p34 p36 p37 p38 p41 p42 p43 p44 p45 p46 p47 m p136=some r∧s=[(6,.bool false),(7,pV B9 0),(13,iV p136)]∧L=[fv A35 n35 c35 p35,nv A39 n39 c39 p39,fv A40 n40 c40 p40,am B9 79 [iV p25,iV p26,iV p27,iV p28,iV p29,iV p30,iV p31,iV p32,iV p33,iV p34,.nilIface,pV B10 0,pV B17 0,U A35 n35 c35,iV p36,iV p37,iV p38,U A39 n39 c39,U A40 n40 c40],bS A41 n41 c41 p41,bS A42 n42 c42 p42,bf A43 n43 c43 p43,bf A44 n44 c44 p44,am B10 99 [U A41 n41 c41,U A42 n42 c42,U A43 n43 c43,U A44 n44 c44,pV B15 0],lH A45 n45 c45 p45,aK bd gc M46 p46,am B17 118 [U A45 n45 c45,.map (some M46)],aK bR cG M47 p47,am B15 147 [.map (some M47)]]) N _ _ ⟨0,h,J,J⟩ sA (cS [0,1,2,3,4,5,6,7,8,9,10,11,12,13] 14) ?_;rintro (_|m135) _ _ ⟨p136,h,rfl,rfl⟩
  ·exact aG h
  rw [i4.eq_2] at h;refine ax ?_;refine Y ?_;refine au J (fun g137=> ?_) (fun g137=> ?_)
  ·replace h:=ag g137 h;refine Y ?_;refine ax ?_;refine Y ?_;obtain ⟨y138,hy138,h⟩:=aa h;refine gD (ai (Fd hy138) Qp J (hJ (az (i:=3) J) (hJ (az (i:=8) J) (hJ (ad (i:=4) J) (hJ (ad (i:=5) J) (hJ (ad (i:=6) J) (hJ (ad (i:=7) J) (hJ (az (i:=13) J) (hJ (bc (i:=12) J) (hJ (az (i:=11) J) (hJ (ad (i:=9) J) (hJ (bc (i:=10) J) (hJ (ad (i:=0) J) (hJ (ad (i:=1) J) (hJ (ad (i:=2) J) ac)))))))))))))) Ci) ?_;rintro _ _ ⟨_,⟨rfl,rfl⟩,rfl⟩;refine Y ?_;refine au J (fun g139=> ?_) (fun g139=> ?_)
   ·replace h:=ag g139 h;refine Y ?_;obtain rfl:=aq h;exact aL J J (cS [] 14) ⟨J,J⟩
   replace h:=ah g139 h;refine Y ?_;obtain ⟨q140,h⟩:=ap h;refine gE (aW J J q140.1 q140.2) ?_;refine Y ?_;exact ⟨m135,_,_,Tk _,⟨p136+1,h,J,J⟩,sA,cS [0,1,2,3,4,5,6,7,8,9,10,11,12,13] 14⟩
  replace h:=ah g137 h;refine Y ?_;exact ⟨_,_,⟨h,J,J⟩,sA,cS [0,1,2,3,4,5,6,7,8,9,10,11,12,13] 14⟩
 rintro _ _ ⟨h,rfl,rfl⟩;refine Y ?_;obtain ⟨y141,hy141,h⟩:=aa h;refine gD (ai (wT hy141) Qo J (hJ (az (i:=3) J) (hJ (az (i:=8) J) (hJ (ad (i:=4) J) (hJ (ad (i:=5) J) (hJ (ad (i:=6) J) (hJ (ad (i:=7) J) (hJ (az (i:=13) J) (hJ (bc (i:=12) J) (hJ (az (i:=11) J) (hJ (ad (i:=9) J) (hJ (bc (i:=10) J) (hJ (ad (i:=0) J) (hJ (ad (i:=1) J) (hJ (ad (i:=2) J) ac)))))))))))))) uv) ?_;rintro _ _ ⟨_,⟨rfl,rfl⟩,rfl⟩;obtain ⟨y142,hy142,h⟩:=aa h;refine gD (ai (yb hy142) Qn J (hJ (az (i:=8) J) (hJ (ad (i:=4) J) (hJ (ad (i:=5) J) (hJ (ad (i:=6) J) (hJ (ad (i:=7) J) (hJ (az (i:=13) J) (hJ (bc (i:=12) J) ac))))))) vC) ?_;rintro _ _ ⟨_,⟨rfl,rfl⟩,rfl⟩;refine Y ?_;obtain ⟨b143,hb143,h⟩:=aa h;refine aO 2 128 b143 ?_ ?_
 ·clear h;refine aN 126 J (fun g143=> ?_) (fun g143=> ?_)
  ·have h:=ag g143 hb143;obtain ⟨y144,hy144,h⟩:=aa h;refine dn (ai (sU hy144) Iy J (ac) qa) J (bU g143 J) J ?_;rintro _ _ ⟨_,⟨rfl,rfl⟩,rfl⟩;refine Y ?_;obtain rfl:=aq h;exact ae sA (cS [0,1,2,3,4,5,6,7,8,9,10,11,12,13] 14)
  have h:=ah g143 hb143;refine Y ?_;obtain rfl:=aq h;exact ae sA (cS [0,1,2,3,4,5,6,7,8,9,10,11,12,13] 14)
 refine Y ?_;obtain rfl:=aq h;exact aL J J (cS [] 14) ⟨J,J⟩
end Go.Proofs.YtdcccmadhipinaaGreat