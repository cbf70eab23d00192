/- Merged texts: part 10. No conditions of their own. -/
import Derived.Test.YtanojiedimeegaaGreatDoorG9
import Derived.Test.YtanojiedimeegaaGreatDoorG2
import Derived.Test.YtanojiedimeegaaGreatDoorG1
namespace Go.Proofs.YtanojiedimeegaaGreatDoor
section
theorem K0:type_of% Tryz.underlying52:=Tryz.underlying52
theorem KZ:type_of% Tryz.underlying32:=Tryz.underlying32
theorem KY:type_of% Tryz.underlying30:=Tryz.underlying30
theorem KX:type_of% Tryz.underlying24:=Tryz.underlying24
theorem KW:type_of% Tryz.func5:=Tryz.func5
variable {A1 A10 A12 A13 A14 A3 A4 A5 A6:Option Addr} {B1 B2 B7 B9 M11 M8 c1 c10 c12 c13 c14 c3 c4 c5 c6 n1 n10 n12 n13 n14 n3 n4 n5 n6:Nat}
open Go.RowKit Asn
set_option maxRecDepth 20000
def sI (N:Nat)(a0:ByteArray)(p2:Int):Option (Int×Bool):=
 some (p2,!(a0.toList==(⟨#[]⟩:ByteArray).toList))
def kY (N:Nat)(kb3:Int→Int→Option (Int×Bool))(a0:ByteArray)(a1:Int)(p5:Int)(p8:Int):Option (Int×Bool):=
 cV (bC (p5+1)) (kb3 p8 (p5+1))
def ke (N:Nat)(kb3:Int→Int→Option (Int×Bool))(a0:ByteArray)(a1:Int)(p5:Int)(p13:Int):Option (Int×Bool):=
 bif decide (9007199254740992<p13) then (kY N kb3 a0 a1 p5 (-1)) else (kY N kb3 a0 a1 p5 p13)
def fS (N:Nat)(a0:ByteArray)(a1:Int):Nat→Int→Int→Option (Int×Bool)
 |0,_,_=>none
 |m3+1,p4,p5=>bif decide (p5<(a0.size:Int)) then ((tT a0 p5).bind fun x9=>(oA N x9 a1).bind fun y10=>bif decide (y10<0) then (some (0,false)) else (bif decide (0≤p4) then (cV (bC (p4*a1)) (cV (bC ((p4*a1)+y10)) (ke N (fS N a0 a1 m3) a0 a1 p5 ((p4*a1)+y10)))) else (ke N (fS N a0 a1 m3) a0 a1 p5 p4))) else (sI N a0 p4)
def um (N:Nat)(a0:ByteArray)(a1:Int):Option (Int×Bool):=
 fS N a0 a1 N 0 0
set_option maxHeartbeats 4000000 in
theorem za {N:Nat}{a0:ByteArray}{a1:Int}{r:(Int×Bool)}(h:um N a0 a1=some r):Okc Tryz.prog 144 [.string a0,iV a1] ([]) (fun u post=>u=.tuple #[iV r.1,.bool r.2]∧post=[]):=by
 refine bB Tryz.func144 J J ?_;simp only [ba];refine W ?_;refine bc (fun s L=> ∃p2,sI N a0 p2=some r∧s=[(0,.string a0),(4,iV 0),(5,.bool false),(6,iV p2)]∧L=[]) ?_ ?_
 ·refine W ?_;refine cv (fun m s L=> ∃p4 p5,fS N a0 a1 m p4 p5=some r∧s=[(0,.string a0),(1,iV a1),(4,iV 0),(5,.bool false),(6,iV p4),(7,iV p5)]∧L=[]) N _ _ ⟨0,0,h,J,J⟩ sA (cS [] 0) ?_;rintro (_|m3) _ _ ⟨p4,p5,h,rfl,rfl⟩
  ·exact bq h
  rw [fS.eq_2] at h;refine aB ?_;refine W ?_;refine gE (lr J Ex) ?_;refine W ?_;refine av J (fun g6=> ?_) (fun g6=> ?_)
  ·replace h:=ad g6 h;refine W ?_;refine bc (fun s L=> ∃p8,kY N (fS N a0 a1 m3) a0 a1 p5 p8=some r∧s=[(0,.string a0),(1,iV a1),(4,iV 0),(5,.bool false),(6,iV p8),(7,iV p5)]∧L=[]) ?_ ?_
   ·refine W ?_;obtain ⟨x9,hx9,h⟩:=aa h;refine gE (nv J J Ex hx9) ?_;refine W ?_;obtain ⟨y10,hy10,h⟩:=aa h;refine gD (ap (yZ hy10) Ho J (ai) vS) ?_;rintro _ _ ⟨_,⟨rfl,rfl⟩,rfl⟩;refine W ?_;refine aB ?_;refine W ?_;refine av J (fun g11=> ?_) (fun g11=> ?_)
    ·replace h:=ad g11 h;refine W ?_;obtain rfl:=ao h;exact dA J J J (cS [] 0) ⟨J,J⟩
    replace h:=ae g11 h;refine W ?_;refine bc (fun s L=> ∃p13,ke N (fS N a0 a1 m3) a0 a1 p5 p13=some r∧s=[(0,.string a0),(1,iV a1),(4,iV 0),(5,.bool false),(6,iV p13),(7,iV p5)]∧L=[]) ?_ ?_
    ·refine W ?_;refine av J (fun g14=> ?_) (fun g14=> ?_)
     ·replace h:=ad g14 h;refine W ?_;obtain ⟨q15,h⟩:=aA h;refine gE (nT J J q15.1 q15.2) ?_;refine W ?_;obtain ⟨q16,h⟩:=aA h;refine gE (bF J J q16.1 q16.2) ?_;refine W ?_;exact ⟨_,_,⟨(p4*a1)+y10,h,J,J⟩,sA,cS [] 0⟩
     replace h:=ae g14 h;refine W ?_;exact ⟨_,_,⟨p4,h,J,J⟩,sA,cS [] 0⟩
    rintro _ _ ⟨p13,h,rfl,rfl⟩;refine W ?_;refine av J (fun g17=> ?_) (fun g17=> ?_)
    ·replace h:=ad g17 h;refine W ?_;exact ⟨_,_,⟨(-1),h,J,J⟩,sA,cS [] 0⟩
    replace h:=ae g17 h;refine W ?_;exact ⟨_,_,⟨p13,h,J,J⟩,sA,cS [] 0⟩
   rintro _ _ ⟨p8,h,rfl,rfl⟩;refine W ?_;obtain ⟨q18,h⟩:=aA h;refine gE (bF J J q18.1 q18.2) ?_;refine W ?_;exact ⟨m3,_,_,Lo _,⟨p8,p5+1,h,J,J⟩,sA,cS [] 0⟩
  replace h:=ae g6 h;refine W ?_;exact ⟨_,_,⟨p4,h,J,J⟩,sA,cS [] 0⟩
 rintro _ _ ⟨p2,h,rfl,rfl⟩;refine W ?_;refine gE (wB J J) ?_;refine W ?_;obtain rfl:=ao h;exact dA J J J (cS [] 0) ⟨J,J⟩
theorem vT {r:(Int×Bool)}: ∀v post,((fun (u:Value) (post:List Chunk)=>u=.tuple #[iV r.1,.bool r.2]∧post=[])) v post→ ∀c∈post,cF c:=by
 rintro _ _ ⟨rfl,rfl⟩;exact ai
def oz (N:Nat)(a0:ByteArray):Option (Int×Bool):=
 (bif a0.toList==(⟨#[]⟩:ByteArray).toList then (some true) else (some (decide (10<(a0.size:Int))))).bind fun b1=>(bif b1 then (some true) else ((tT a0 0).bind fun x3=>(bif decide (x3=48) then (some (decide (1<(a0.size:Int)))) else (some false)).bind fun b4=>some b4)).bind fun b2=>bif b2 then (some (0,false)) else ((um N a0 10).bind fun y6=>(bif !y6.2 then (some true) else (some (decide (4294967294<y6.1)))).bind fun b7=>bif b7 then (some (0,false)) else (some (y6.1,true)))
set_option maxHeartbeats 4000000 in
theorem yX {N:Nat}{a0:ByteArray}{r:(Int×Bool)}(h:oz N a0=some r):Okc Tryz.prog 78 [.string a0] ([]) (fun u post=>u=.tuple #[iV r.1,.bool r.2]∧post=[]):=by
 refine bB Tryz.func78 J J ?_;simp only [ba];refine W ?_;refine aB ?_;refine W ?_;refine gE (pj J J) ?_;refine W ?_;obtain ⟨b1,hb1,h⟩:=aa h;refine aH 4 12 b1 ?_ ?_
 ·clear h;refine aD 8 J (fun g1=> ?_) (fun g1=> ?_)
  ·have h:=ad g1 hb1;refine W ?_;obtain rfl:=ao h;exact ab sA (cS [] 0)
  have h:=ae g1 hb1;refine W ?_;refine eR (lr J Ex) J (co g1 J) J ?_;refine W ?_;obtain rfl:=ao h;exact ab sA (cS [] 0)
 refine W ?_;obtain ⟨b2,hb2,h⟩:=aa h;refine aH 9 22 b2 ?_ ?_
 ·clear h;refine aD 13 J (fun g2=> ?_) (fun g2=> ?_)
  ·have h:=ad g2 hb2;refine W ?_;obtain rfl:=ao h;exact ab sA (cS [] 0)
  have h:=ae g2 hb2;refine W ?_;obtain ⟨x3,hx3,h⟩:=aa h;refine eR (nv J J Ex hx3) J (co g2 J) J ?_;refine W ?_;obtain ⟨b4,hb4,h⟩:=aa h;refine aH 4 21 b4 ?_ ?_
  ·clear h;refine aD 17 J (fun g4=> ?_) (fun g4=> ?_)
   ·have h:=ad g4 hb4;refine W ?_;refine eR (lr J Ex) J (bi g4 J) J ?_;refine W ?_;obtain rfl:=ao h;exact ab sA (cS [] 0)
   have h:=ae g4 hb4;refine W ?_;obtain rfl:=ao h;exact ab sA (cS [] 0)
  refine W ?_;obtain rfl:=ao h;exact ab sA (cS [] 0)
 refine W ?_;refine av J (fun g5=> ?_) (fun g5=> ?_)
 ·replace h:=ad g5 h;refine W ?_;obtain rfl:=ao h;exact dA J J J (cS [] 0) ⟨J,J⟩
 replace h:=ae g5 h;refine W ?_;obtain ⟨y6,hy6,h⟩:=aa h;refine gD (ap (za hy6) Hz J (ai) vT) ?_;rintro _ _ ⟨_,⟨rfl,rfl⟩,rfl⟩;refine W ?_;refine aB ?_;refine W ?_;obtain ⟨b7,hb7,h⟩:=aa h;refine aH 3 33 b7 ?_ ?_
 ·clear h;refine aD 30 J (fun g7=> ?_) (fun g7=> ?_)
  ·have h:=ad g7 hb7;refine W ?_;obtain rfl:=ao h;exact ab sA (cS [] 0)
  have h:=ae g7 hb7;refine W ?_;obtain rfl:=ao h;exact ab sA (cS [] 0)
 refine W ?_;refine av J (fun g8=> ?_) (fun g8=> ?_)
 ·replace h:=ad g8 h;refine W ?_;obtain rfl:=ao h;exact dA J J J (cS [] 0) ⟨J,J⟩
 replace h:=ae g8 h;refine W ?_;obtain rfl:=ao h;exact dA J J J (cS [] 0) ⟨J,J⟩
theorem vR {r:(Int×Bool)}: ∀v post,((fun (u:Value) (post:List Chunk)=>u=.tuple #[iV r.1,.bool r.2]∧post=[])) v post→ ∀c∈post,cF c:=by
 rintro _ _ ⟨rfl,rfl⟩;exact ai
def oy (N:Nat)(a0:Lj):Option Bool:=
 bif decide (a0.Kind=0) then ((bif decide (0≤a0.N) then (some (decide (a0.N≤4294967294))) else (some false)).bind fun b3=>(bif b3 then (some (a0.S.toList==(⟨#[]⟩:ByteArray).toList)) else (some false)).bind fun b4=>some b4) else (bif decide (a0.Kind=1) then ((oz N a0.S).bind fun y6=>(bif decide (a0.N=0) then (some (!y6.2)) else (some false)).bind fun b7=>(bif b7 then (some (decide ((a0.S.size:Int)≤65536))) else (some false)).bind fun b8=>some b8) else (bif decide (a0.Kind=2) then ((bif decide (1≤a0.N) then (some (a0.S.toList==(⟨#[]⟩:ByteArray).toList)) else (some false)).bind fun b10=>some b10) else (some false)))
set_option maxHeartbeats 4000000 in
theorem yW {N:Nat}{a0:Lj}{r:Bool}(h:oy N a0=some r):Okc Tryz.prog 16 [(gk a0)] ([]) (fun u post=>u=.bool r∧post=[]):=by
 refine bB Tryz.func16 J J ?_;simp only [ba];refine W ?_;refine gD (aT J J) ?_;rintro _ _ ⟨B1,rfl,rfl⟩;refine W ?_;refine aB ?_;refine W ?_;refine av J (fun g2=> ?_) (fun g2=> ?_)
 ·replace h:=ad g2 h;refine W ?_;obtain ⟨b3,hb3,h⟩:=aa h;refine aH 4 16 b3 ?_ ?_
  ·clear h;refine aD 12 J (fun g3=> ?_) (fun g3=> ?_)
   ·have h:=ad g3 hb3;refine W ?_;obtain rfl:=ao h;exact ab sA (cS [0] 1)
   have h:=ae g3 hb3;refine W ?_;obtain rfl:=ao h;exact ab sA (cS [0] 1)
  refine W ?_;obtain ⟨b4,hb4,h⟩:=aa h;refine aH 4 21 b4 ?_ ?_
  ·clear h;refine aD 17 J (fun g4=> ?_) (fun g4=> ?_)
   ·have h:=ad g4 hb4;refine W ?_;refine eR (pj J J) J (bi g4 J) J ?_;refine W ?_;obtain rfl:=ao h;exact ab sA (cS [0] 1)
   have h:=ae g4 hb4;refine W ?_;obtain rfl:=ao h;exact ab sA (cS [0] 1)
  refine W ?_;obtain rfl:=ao h;exact aO J J (cS [] 1) ⟨J,J⟩
 replace h:=ae g2 h;refine W ?_;refine av J (fun g5=> ?_) (fun g5=> ?_)
 ·replace h:=ad g5 h;refine W ?_;obtain ⟨y6,hy6,h⟩:=aa h;refine gD (ap (yX hy6) IW J (ai) vR) ?_;rintro _ _ ⟨_,⟨rfl,rfl⟩,rfl⟩;refine W ?_;obtain ⟨b7,hb7,h⟩:=aa h;refine aH 3 36 b7 ?_ ?_
  ·clear h;refine aD 33 J (fun g7=> ?_) (fun g7=> ?_)
   ·have h:=ad g7 hb7;refine W ?_;obtain rfl:=ao h;exact ab sA (cS [0] 1)
   have h:=ae g7 hb7;refine W ?_;obtain rfl:=ao h;exact ab sA (cS [0] 1)
  refine W ?_;obtain ⟨b8,hb8,h⟩:=aa h;refine aH 5 42 b8 ?_ ?_
  ·clear h;refine aD 37 J (fun g8=> ?_) (fun g8=> ?_)
   ·have h:=ad g8 hb8;refine W ?_;refine eR (lr J Ex) J (bi g8 J) J ?_;refine W ?_;obtain rfl:=ao h;exact ab sA (cS [0] 1)
   have h:=ae g8 hb8;refine W ?_;obtain rfl:=ao h;exact ab sA (cS [0] 1)
  refine W ?_;obtain rfl:=ao h;exact aO J J (cS [] 1) ⟨J,J⟩
 replace h:=ae g5 h;refine W ?_;refine av J (fun g9=> ?_) (fun g9=> ?_)
 ·replace h:=ad g9 h;refine W ?_;obtain ⟨b10,hb10,h⟩:=aa h;refine aH 4 52 b10 ?_ ?_
  ·clear h;refine aD 48 J (fun g10=> ?_) (fun g10=> ?_)
   ·have h:=ad g10 hb10;refine W ?_;refine eR (pj J J) J (bi g10 J) J ?_;refine W ?_;obtain rfl:=ao h;exact ab sA (cS [0] 1)
   have h:=ae g10 hb10;refine W ?_;obtain rfl:=ao h;exact ab sA (cS [0] 1)
  refine W ?_;obtain rfl:=ao h;exact aO J J (cS [] 1) ⟨J,J⟩
 replace h:=ae g9 h;refine W ?_;obtain rfl:=ao h;exact aO J J (cS [] 1) ⟨J,J⟩
theorem vQ {r:Bool}: ∀v post,((fun (u:Value) (post:List Chunk)=>u=.bool r∧post=[])) v post→ ∀c∈post,cF c:=by
 rintro _ _ ⟨rfl,rfl⟩;exact ai
def jE (N:Nat)(a0:Int)(a1:Int):Option Bool:=
 cV ((a1:Int)≠0∧bC (a0.tdiv a1)) (some (decide ((a0.tdiv a1).tmod 2=1)))
theorem pG {N:Nat}{a0:Int}{a1:Int}{r:Bool}(h:jE N a0 a1=some r):Okc Tryz.prog 114 [iV a0,iV a1] ([]) (fun u post=>u=.bool r∧post=[]):=by
 refine bB Tryz.func114 J J ?_;simp only [ba];refine W ?_;obtain ⟨q1,h⟩:=aA h;refine gE (wC J J q1.1 q1.2.1 q1.2.2) ?_;refine gE (nS J J (by decide)) ?_;refine W ?_;obtain rfl:=ao h;exact aO J J (cS [] 0) ⟨J,J⟩
theorem mZ {r:Bool}: ∀v post,((fun (u:Value) (post:List Chunk)=>u=.bool r∧post=[])) v post→ ∀c∈post,cF c:=by
 rintro _ _ ⟨rfl,rfl⟩;exact ai
def fg (N:Nat)(a0:Li)(a1:Int):Option Bool:=
 (jE N a0.Has a1).bind fun y2=>some y2
theorem fZ {N:Nat}{a0:Li}{a1:Int}{r:Bool}(h:fg N a0 a1=some r):Okc Tryz.prog 115 [(fV a0),iV a1] ([]) (fun u post=>u=.bool r∧post=[]):=by
 refine bB Tryz.func115 J J ?_;simp only [ba];refine W ?_;refine gD (aT J J) ?_;rintro _ _ ⟨B1,rfl,rfl⟩;refine W ?_;obtain ⟨y2,hy2,h⟩:=aa h;refine gD (ap (pG hy2) vy J (ai) mZ) ?_;rintro _ _ ⟨_,⟨rfl,rfl⟩,rfl⟩;refine W ?_;obtain rfl:=ao h;exact aO J J (cS [] 1) ⟨J,J⟩
theorem eC {r:Bool}: ∀v post,((fun (u:Value) (post:List Chunk)=>u=.bool r∧post=[])) v post→ ∀c∈post,cF c:=by
 rintro _ _ ⟨rfl,rfl⟩;exact ai
def pF (N:Nat)(a0:Li):Option Bool:=
 (fg N a0 1).bind fun y2=>(bif y2 then (some true) else ((fg N a0 2).bind fun y4=>some y4)).bind fun b3=>some b3
theorem AA {N:Nat}{a0:Li}{r:Bool}(h:pF N a0=some r):Okc Tryz.prog 112 [(fV a0)] ([]) (fun u post=>u=.bool r∧post=[]):=by
 refine bB Tryz.func112 J J ?_;simp only [ba];refine W ?_;refine gD (aT J J) ?_;rintro _ _ ⟨B1,rfl,rfl⟩;refine W ?_;refine gR (aj (us:=bK a0) 0 J J df J) ?_;obtain ⟨y2,hy2,h⟩:=aa h;refine gD (ap (fZ hy2) me J (ai) eC) ?_;rintro _ _ ⟨_,⟨rfl,rfl⟩,rfl⟩;refine W ?_;obtain ⟨b3,hb3,h⟩:=aa h;refine aH 3 8 b3 ?_ ?_
 ·clear h;refine aD 5 J (fun g3=> ?_) (fun g3=> ?_)
  ·have h:=ad g3 hb3;refine W ?_;obtain rfl:=ao h;exact ab sA (cS [0] 1)
  have h:=ae g3 hb3;refine bY (aj (us:=bK a0) 0 J J df J) J (co g3 J) J ?_;obtain ⟨y4,hy4,h⟩:=aa h;refine cc (ap (fZ hy4) me J (ai) eC) J (co g3 J) J ?_;rintro _ _ ⟨_,⟨rfl,rfl⟩,rfl⟩;refine W ?_;obtain rfl:=ao h;exact ab sA (cS [0] 1)
 refine W ?_;obtain rfl:=ao h;exact aO J J (cS [] 1) ⟨J,J⟩
theorem xw {r:Bool}: ∀v post,((fun (u:Value) (post:List Chunk)=>u=.bool r∧post=[])) v post→ ∀c∈post,cF c:=by
 rintro _ _ ⟨rfl,rfl⟩;exact ai
def kV (N:Nat)(a0:Li):Option Bool:=
 (fg N a0 4).bind fun y2=>(bif y2 then (some true) else ((fg N a0 8).bind fun y4=>some y4)).bind fun b3=>some b3
theorem uJ {N:Nat}{a0:Li}{r:Bool}(h:kV N a0=some r):Okc Tryz.prog 113 [(fV a0)] ([]) (fun u post=>u=.bool r∧post=[]):=by
 refine bB Tryz.func113 J J ?_;simp only [ba];refine W ?_;refine gD (aT J J) ?_;rintro _ _ ⟨B1,rfl,rfl⟩;refine W ?_;refine gR (aj (us:=bK a0) 0 J J df J) ?_;obtain ⟨y2,hy2,h⟩:=aa h;refine gD (ap (fZ hy2) me J (ai) eC) ?_;rintro _ _ ⟨_,⟨rfl,rfl⟩,rfl⟩;refine W ?_;obtain ⟨b3,hb3,h⟩:=aa h;refine aH 3 8 b3 ?_ ?_
 ·clear h;refine aD 5 J (fun g3=> ?_) (fun g3=> ?_)
  ·have h:=ad g3 hb3;refine W ?_;obtain rfl:=ao h;exact ab sA (cS [0] 1)
  have h:=ae g3 hb3;refine bY (aj (us:=bK a0) 0 J J df J) J (co g3 J) J ?_;obtain ⟨y4,hy4,h⟩:=aa h;refine cc (ap (fZ hy4) me J (ai) eC) J (co g3 J) J ?_;rintro _ _ ⟨_,⟨rfl,rfl⟩,rfl⟩;refine W ?_;obtain rfl:=ao h;exact ab sA (cS [0] 1)
 refine W ?_;obtain rfl:=ao h;exact aO J J (cS [] 1) ⟨J,J⟩
theorem sH {r:Bool}: ∀v post,((fun (u:Value) (post:List Chunk)=>u=.bool r∧post=[])) v post→ ∀c∈post,cF c:=by
 rintro _ _ ⟨rfl,rfl⟩;exact ai
def nH (N:Nat)(a0:Lf)(a1:Bool):Option Bool:=
 bif !a1 then (some (decide (a0=(⟨0,0,⟨#[]⟩⟩:Lf)))) else ((bif decide (a0.Kind=0) then (some true) else (some (decide (a0.Kind=7)))).bind fun b3=>some b3)
theorem uj {N:Nat}{a0:Lf}{a1:Bool}{r:Bool}(h:nH N a0 a1=some r):Okc Tryz.prog 116 [(bQ a0),.bool a1] ([]) (fun u post=>u=.bool r∧post=[]):=by
 refine bB Tryz.func116 J J ?_;simp only [ba];refine W ?_;refine gD (aT J J) ?_;rintro _ _ ⟨B1,rfl,rfl⟩;refine W ?_;refine aB ?_;refine W ?_;refine av J (fun g2=> ?_) (fun g2=> ?_)
 ·replace h:=ad g2 h;refine W ?_;refine gR (aj (us:=aE a0) 0 J J aN J) ?_;refine gE (bg J (gu)) ?_;refine gE (pm (x:=a0) (y:=(⟨0,0,⟨#[]⟩⟩:Lf)) J J) ?_;refine W ?_;obtain rfl:=ao h;exact aO J J (cS [] 1) ⟨J,J⟩
 replace h:=ae g2 h;refine W ?_;obtain ⟨b3,hb3,h⟩:=aa h;refine aH 4 17 b3 ?_ ?_
 ·clear h;refine aD 13 J (fun g3=> ?_) (fun g3=> ?_)
  ·have h:=ad g3 hb3;refine W ?_;obtain rfl:=ao h;exact ab sA (cS [0] 1)
  have h:=ae g3 hb3;refine W ?_;obtain rfl:=ao h;exact ab sA (cS [0] 1)
 refine W ?_;obtain rfl:=ao h;exact aO J J (cS [] 1) ⟨J,J⟩
theorem rR {r:Bool}: ∀v post,((fun (u:Value) (post:List Chunk)=>u=.bool r∧post=[])) v post→ ∀c∈post,cF c:=by
 rintro _ _ ⟨rfl,rfl⟩;exact ai
def ox (N:Nat)(a0:Li):Option Bool:=
 (bif decide (a0.Has<0) then (some true) else (some (decide (63<a0.Has)))).bind fun b2=>(bif b2 then (some true) else (some (decide (a0.Attrs<0)))).bind fun b3=>(bif b3 then (some true) else (some (decide (7<a0.Attrs)))).bind fun b4=>(bif b4 then (some true) else ((pF N a0).bind fun y6=>(bif y6 then ((kV N a0).bind fun y8=>some y8) else (some false)).bind fun b7=>some b7)).bind fun b5=>bif b5 then (some false) else ((jE N a0.Attrs 1).bind fun y10=>(bif y10 then ((fg N a0 2).bind fun y12=>some (!y12)) else (some false)).bind fun b11=>(bif b11 then (some true) else ((jE N a0.Attrs 2).bind fun y14=>(bif y14 then ((fg N a0 16).bind fun y16=>some (!y16)) else (some false)).bind fun b15=>some b15)).bind fun b13=>(bif b13 then (some true) else ((jE N a0.Attrs 4).bind fun y18=>(bif y18 then ((fg N a0 32).bind fun y20=>some (!y20)) else (some false)).bind fun b19=>some b19)).bind fun b17=>bif b17 then (some false) else ((fg N a0 1).bind fun y22=>(bif !y22 then (some (!decide (a0.Value=(⟨0,0,⟨#[]⟩⟩:Lf)))) else (some false)).bind fun b23=>(bif b23 then (some true) else (some (decide (a0.Value.Kind<0)))).bind fun b24=>(bif b24 then (some true) else (some (decide (7<a0.Value.Kind)))).bind fun b25=>bif b25 then (some false) else ((fg N a0 4).bind fun y27=>(nH N a0.Get y27).bind fun y28=>(bif y28 then ((fg N a0 8).bind fun y30=>(nH N a0.Set y30).bind fun y31=>some y31) else (some false)).bind fun b29=>some b29)))
set_option maxHeartbeats 4000000 in
theorem yV {N:Nat}{a0:Li}{r:Bool}(h:ox N a0=some r):Okc Tryz.prog 37 [(fV a0)] ([]) (fun u post=>u=.bool r∧post=[]):=by
 refine bB Tryz.func37 J J ?_;simp only [ba];refine W ?_;refine gD (aT J J) ?_;rintro _ _ ⟨B1,rfl,rfl⟩;refine W ?_;refine aB ?_;refine W ?_;obtain ⟨b2,hb2,h⟩:=aa h;refine aH 4 10 b2 ?_ ?_
 ·clear h;refine aD 6 J (fun g2=> ?_) (fun g2=> ?_)
  ·have h:=ad g2 hb2;refine W ?_;obtain rfl:=ao h;exact ab sA (cS [0] 1)
  have h:=ae g2 hb2;refine W ?_;obtain rfl:=ao h;exact ab sA (cS [0] 1)
 refine W ?_;obtain ⟨b3,hb3,h⟩:=aa h;refine aH 4 15 b3 ?_ ?_
 ·clear h;refine aD 11 J (fun g3=> ?_) (fun g3=> ?_)
  ·have h:=ad g3 hb3;refine W ?_;obtain rfl:=ao h;exact ab sA (cS [0] 1)
  have h:=ae g3 hb3;refine W ?_;obtain rfl:=ao h;exact ab sA (cS [0] 1)
 refine W ?_;obtain ⟨b4,hb4,h⟩:=aa h;refine aH 4 20 b4 ?_ ?_
 ·clear h;refine aD 16 J (fun g4=> ?_) (fun g4=> ?_)
  ·have h:=ad g4 hb4;refine W ?_;obtain rfl:=ao h;exact ab sA (cS [0] 1)
  have h:=ae g4 hb4;refine W ?_;obtain rfl:=ao h;exact ab sA (cS [0] 1)
 refine W ?_;obtain ⟨b5,hb5,h⟩:=aa h;refine aH 7 28 b5 ?_ ?_
 ·clear h;refine aD 21 J (fun g5=> ?_) (fun g5=> ?_)
  ·have h:=ad g5 hb5;refine W ?_;obtain rfl:=ao h;exact ab sA (cS [0] 1)
  have h:=ae g5 hb5;refine bY (aj (us:=bK a0) 0 J J df J) J (co g5 J) J ?_;obtain ⟨y6,hy6,h⟩:=aa h;refine cc (ap (AA hy6) HF J (ai) xw) J (co g5 J) J ?_;rintro _ _ ⟨_,⟨rfl,rfl⟩,rfl⟩;refine W ?_;obtain ⟨b7,hb7,h⟩:=aa h;refine aH 3 27 b7 ?_ ?_
  ·clear h;refine aD 24 J (fun g7=> ?_) (fun g7=> ?_)
   ·have h:=ad g7 hb7;refine bY (aj (us:=bK a0) 0 J J df J) J (bi g7 J) J ?_;obtain ⟨y8,hy8,h⟩:=aa h;refine cc (ap (uJ hy8) HE J (ai) sH) J (bi g7 J) J ?_;rintro _ _ ⟨_,⟨rfl,rfl⟩,rfl⟩;refine W ?_;obtain rfl:=ao h;exact ab sA (cS [0] 1)
   have h:=ae g7 hb7;refine W ?_;obtain rfl:=ao h;exact ab sA (cS [0] 1)
  refine W ?_;obtain rfl:=ao h;exact ab sA (cS [0] 1)
 refine W ?_;refine av J (fun g9=> ?_) (fun g9=> ?_)
 ·replace h:=ad g9 h;refine W ?_;obtain rfl:=ao h;exact aO J J (cS [] 1) ⟨J,J⟩
 replace h:=ae g9 h;refine W ?_;refine aB ?_;refine W ?_;obtain ⟨y10,hy10,h⟩:=aa h;refine gD (ap (pG hy10) vy J (ai) mZ) ?_;rintro _ _ ⟨_,⟨rfl,rfl⟩,rfl⟩;refine W ?_;obtain ⟨b11,hb11,h⟩:=aa h;refine aH 4 36 b11 ?_ ?_
 ·clear h;refine aD 32 J (fun g11=> ?_) (fun g11=> ?_)
  ·have h:=ad g11 hb11;refine bY (aj (us:=bK a0) 0 J J df J) J (bi g11 J) J ?_;obtain ⟨y12,hy12,h⟩:=aa h;refine cc (ap (fZ hy12) me J (ai) eC) J (bi g11 J) J ?_;rintro _ _ ⟨_,⟨rfl,rfl⟩,rfl⟩;refine W ?_;obtain rfl:=ao h;exact ab sA (cS [0] 1)
  have h:=ae g11 hb11;refine W ?_;obtain rfl:=ao h;exact ab sA (cS [0] 1)
 refine W ?_;obtain ⟨b13,hb13,h⟩:=aa h;refine aH 9 46 b13 ?_ ?_
 ·clear h;refine aD 37 J (fun g13=> ?_) (fun g13=> ?_)
  ·have h:=ad g13 hb13;refine W ?_;obtain rfl:=ao h;exact ab sA (cS [0] 1)
  have h:=ae g13 hb13;refine W ?_;obtain ⟨y14,hy14,h⟩:=aa h;refine cc (ap (pG hy14) vy J (ai) mZ) J (co g13 J) J ?_;rintro _ _ ⟨_,⟨rfl,rfl⟩,rfl⟩;refine W ?_;obtain ⟨b15,hb15,h⟩:=aa h;refine aH 4 45 b15 ?_ ?_
  ·clear h;refine aD 41 J (fun g15=> ?_) (fun g15=> ?_)
   ·have h:=ad g15 hb15;refine bY (aj (us:=bK a0) 0 J J df J) J (bi g15 J) J ?_;obtain ⟨y16,hy16,h⟩:=aa h;refine cc (ap (fZ hy16) me J (ai) eC) J (bi g15 J) J ?_;rintro _ _ ⟨_,⟨rfl,rfl⟩,rfl⟩;refine W ?_;obtain rfl:=ao h;exact ab sA (cS [0] 1)
   have h:=ae g15 hb15;refine W ?_;obtain rfl:=ao h;exact ab sA (cS [0] 1)
  refine W ?_;obtain rfl:=ao h;exact ab sA (cS [0] 1)
 refine W ?_;obtain ⟨b17,hb17,h⟩:=aa h;refine aH 9 56 b17 ?_ ?_
 ·clear h;refine aD 47 J (fun g17=> ?_) (fun g17=> ?_)
  ·have h:=ad g17 hb17;refine W ?_;obtain rfl:=ao h;exact ab sA (cS [0] 1)
  have h:=ae g17 hb17;refine W ?_;obtain ⟨y18,hy18,h⟩:=aa h;refine cc (ap (pG hy18) vy J (ai) mZ) J (co g17 J) J ?_;rintro _ _ ⟨_,⟨rfl,rfl⟩,rfl⟩;refine W ?_;obtain ⟨b19,hb19,h⟩:=aa h;refine aH 4 55 b19 ?_ ?_
  ·clear h;refine aD 51 J (fun g19=> ?_) (fun g19=> ?_)
   ·have h:=ad g19 hb19;refine bY (aj (us:=bK a0) 0 J J df J) J (bi g19 J) J ?_;obtain ⟨y20,hy20,h⟩:=aa h;refine cc (ap (fZ hy20) me J (ai) eC) J (bi g19 J) J ?_;rintro _ _ ⟨_,⟨rfl,rfl⟩,rfl⟩;refine W ?_;obtain rfl:=ao h;exact ab sA (cS [0] 1)
   have h:=ae g19 hb19;refine W ?_;obtain rfl:=ao h;exact ab sA (cS [0] 1)
  refine W ?_;obtain rfl:=ao h;exact ab sA (cS [0] 1)
 refine W ?_;refine av J (fun g21=> ?_) (fun g21=> ?_)
 ·replace h:=ad g21 h;refine W ?_;obtain rfl:=ao h;exact aO J J (cS [] 1) ⟨J,J⟩
 replace h:=ae g21 h;refine W ?_;refine aB ?_;refine W ?_;refine gR (aj (us:=bK a0) 0 J J df J) ?_;obtain ⟨y22,hy22,h⟩:=aa h;refine gD (ap (fZ hy22) me J (ai) eC) ?_;rintro _ _ ⟨_,⟨rfl,rfl⟩,rfl⟩;refine W ?_;obtain ⟨b23,hb23,h⟩:=aa h;refine aH 5 65 b23 ?_ ?_
 ·clear h;refine aD 60 J (fun g23=> ?_) (fun g23=> ?_)
  ·have h:=ad g23 hb23;refine W ?_;refine bY (aj (us:=aE a0.Value) 0 J J aN J) J (bi g23 J) J ?_;refine eR (bg J (gu)) J (bi g23 J) J ?_;refine eR (tV (x:=a0.Value) (y:=(⟨0,0,⟨#[]⟩⟩:Lf)) J J) J (bi g23 J) J ?_;refine W ?_;obtain rfl:=ao h;exact ab sA (cS [0] 1)
  have h:=ae g23 hb23;refine W ?_;obtain rfl:=ao h;exact ab sA (cS [0] 1)
 refine W ?_;obtain ⟨b24,hb24,h⟩:=aa h;refine aH 5 71 b24 ?_ ?_
 ·clear h;refine aD 66 J (fun g24=> ?_) (fun g24=> ?_)
  ·have h:=ad g24 hb24;refine W ?_;obtain rfl:=ao h;exact ab sA (cS [0] 1)
  have h:=ae g24 hb24;refine W ?_;obtain rfl:=ao h;exact ab sA (cS [0] 1)
 refine W ?_;obtain ⟨b25,hb25,h⟩:=aa h;refine aH 5 77 b25 ?_ ?_
 ·clear h;refine aD 72 J (fun g25=> ?_) (fun g25=> ?_)
  ·have h:=ad g25 hb25;refine W ?_;obtain rfl:=ao h;exact ab sA (cS [0] 1)
  have h:=ae g25 hb25;refine W ?_;obtain rfl:=ao h;exact ab sA (cS [0] 1)
 refine W ?_;refine av J (fun g26=> ?_) (fun g26=> ?_)
 ·replace h:=ad g26 h;refine W ?_;obtain rfl:=ao h;exact aO J J (cS [] 1) ⟨J,J⟩
 replace h:=ae g26 h;refine W ?_;refine aB ?_;refine bx O _ (ac _) ?_;refine zE 0 J (bT J CV) ?_;refine zR 1 J (aj (us:=aE a0.Get) 0 J J aN J) ?_;refine zR 2 J (aj (us:=bK a0) 0 J J df J) ?_;obtain ⟨y27,hy27,h⟩:=aa h;refine zD 3 J (ap (fZ hy27) me J (ai) eC) ?_;rintro _ _ ⟨_,⟨rfl,rfl⟩,rfl⟩;refine ⟨_,ac _,ac _,?_⟩;obtain ⟨y28,hy28,h⟩:=aa h;refine zD 4 J (ap (uj hy28) Du J (ai) rR) ?_;rintro _ _ ⟨_,⟨rfl,rfl⟩,rfl⟩;refine ⟨_,ac _,ac _,?_⟩;refine zE 5 J (au J) ?_;obtain ⟨b29,hb29,h⟩:=aa h;refine iU (fun l=>((((((l.setIfInBounds 6 true).setIfInBounds 7 true).setIfInBounds 8 true).setIfInBounds 9 true).setIfInBounds 10 true).setIfInBounds 11 true)) 1 89 b29 (fun rest=> ?_) ?_
 ·clear h;refine kq 83 J (fun g29=> ?_) (fun g29=> ?_)
  ·have h:=ad g29 hb29;refine eW 6 J O (bT J CU) (bi g29 J) J ?_;refine jA 7 J O (aj (us:=aE a0.Set) 0 J J aN J) (bi g29 J) J ?_;refine jA 8 J O (aj (us:=bK a0) 0 J J df J) (bi g29 J) J ?_;obtain ⟨y30,hy30,h⟩:=aa h;refine lA 9 J O (ap (fZ hy30) me J (ai) eC) J (bi g29 J) J ?_;rintro _ _ ⟨_,⟨rfl,rfl⟩,rfl⟩;refine ⟨_,ac _,ac _,?_⟩;obtain ⟨y31,hy31,h⟩:=aa h;refine lA 10 J O (ap (uj hy31) Du J (ai) rR) J (bi g29 J) J ?_;rintro _ _ ⟨_,⟨rfl,rfl⟩,rfl⟩;refine ⟨_,ac _,ac _,?_⟩;refine zE 11 J (dX g29 J J) ?_;obtain rfl:=ao h;exact fL rest (dm J (ay (ay (ay (ay (ay (ay cj J) J) J) J) J) J)) (ac _) (ac _)
  have h:=ae g29 hb29;refine cH 6 J O (fF g29 J) J ?_;refine cH 7 J O (fF g29 J) J ?_;refine cH 8 J O (fF g29 J) J ?_;refine cH 9 J O (fF g29 J) J ?_;refine cH 10 J O (fF g29 J) J ?_;refine zE 11 J (dY g29 J J) ?_;obtain rfl:=ao h;exact fL rest (dm J (ay (ay (ay (ay (ay (ay cj J) J) J) J) J) J)) (ac _) (ac _)
 refine zE 12 J (aS J) ?_;refine bj O ?_;refine W ?_;obtain rfl:=ao h;exact aO J J (cS [] 1) ⟨J,J⟩
theorem vP {r:Bool}: ∀v post,((fun (u:Value) (post:List Chunk)=>u=.bool r∧post=[])) v post→ ∀c∈post,cF c:=by
 rintro _ _ ⟨rfl,rfl⟩;exact ai
def iB (N:Nat)(a0:K2)(a1:Lf)(a2:Lj):Option (Bool×K2):=
 (dB N a0 a1).bind fun y17=>bif !y17.2 then (some (false,a0)) else ((fC N a0 a1 a2).bind fun y22=>bif !y22.2 then (some (true,a0)) else (bif decide (aF .i64 y22.1.Attrs 4=0) then (some (false,a0)) else ((bif decide (a2.Kind=0) then ((i1 N y17.1 a2.N).bind fun y27=>some y27) else (some false)).bind fun b26=>bif b26 then ((bE y17.1.More a2.N).bind fun x29=>(bU N a0 a1 (⟨y17.1.Kind,y17.1.Shape,y17.1.Flags,y17.1.Age,y17.1.Slots,List.set y17.1.More a2.N.toNat (⟨8,0,(⟨#[]⟩:ByteArray)⟩:Lf)⟩:La)).bind fun y30=>some (true,y30)) else ((cE N a0 a1 a2).bind fun y41=>some (y41.1,y41.2)))))
set_option maxHeartbeats 4000000 in
theorem uQ {N:Nat}{a0:K2}{a1:Lf}{a2:Lj}{r:(Bool×K2)}(h:iB N a0 a1 a2=some r):Okc Tryz.prog 31 [pV B1 0,(bQ a1),(gk a2)] ([bw A12 n12 c12 a0.symbols_,dr A13 n13 c13 a0.events_,bw A14 n14 c14 a0.out_,bd 0 30 [iV 8,iV 0,.string (⟨#[]⟩:ByteArray)],al B1 151 (fE a0 B2 B9 A12 n12 c12 A13 n13 c13 A14 n14 c14),al B2 199 [U A3 n3 c3,U A4 n4 c4,U A5 n5 c5,U A6 n6 c6,pV B7 0],bL A3 n3 c3 a0.heap_.m_.Young,bL A4 n4 c4 a0.heap_.m_.Old,bh A5 n5 c5 a0.heap_.roots_,bh A6 n6 c6 a0.heap_.pending_,al B7 247 [.map (some M8)],aP dG dL M8 a0.heap_.set_.at_,al B9 205 [U A10 n10 c10,.map (some M11)],d6 A10 n10 c10 a0.shapes_.shapes_,aP aL dE M11 a0.shapes_.next_]) (fun u post=> ∃A0 n0 c0 A1 n1 c1 A2 n2 c2 A3 n3 c3 M4 A5 n5 c5 M6 A7 n7 c7 A8 n8 c8 A9 n9 c9,u=.bool r.1∧post=[al B1 151 (fE r.2 B2 B9 A7 n7 c7 A8 n8 c8 A9 n9 c9),al B2 199 [U A0 n0 c0,U A1 n1 c1,U A2 n2 c2,U A3 n3 c3,pV B7 0],bL A0 n0 c0 r.2.heap_.m_.Young,bL A1 n1 c1 r.2.heap_.m_.Old,bh A2 n2 c2 r.2.heap_.roots_,bh A3 n3 c3 r.2.heap_.pending_,al B7 247 [.map (some M4)],aP dG dL M4 r.2.heap_.set_.at_,al B9 205 [U A5 n5 c5,.map (some M6)],d6 A5 n5 c5 r.2.shapes_.shapes_,aP aL dE M6 r.2.shapes_.next_,bw A7 n7 c7 r.2.symbols_,dr A8 n8 c8 r.2.events_,bw A9 n9 c9 r.2.out_]):=by
 refine bB Tryz.func31 J J ?_;simp only [ba];refine W ?_;refine gD (aT J J) ?_;rintro _ _ ⟨B15,rfl,rfl⟩;refine gD (aT J J) ?_;rintro _ _ ⟨B16,rfl,rfl⟩;refine W ?_;refine gR (aj (us:=aE a1) 1 J J aN J) ?_;obtain ⟨y17,hy17,h⟩:=aa h;refine gD (ap (fo hy17) pM J (hJ (az (i:=6) J) (hJ (az (i:=7) J) (hJ (ar (i:=8) J) (hJ (ar (i:=9) J) (hJ (ar (i:=10) J) (hJ (ar (i:=11) J) (hJ (az (i:=12) J) (hJ (aU (i:=13) J) (hJ (az (i:=14) J) (hJ (ar (i:=15) J) (hJ (aU (i:=16) J) (hJ (aq (i:=2) J J) (hJ (aq (i:=3) J J) (hJ (aq (i:=4) J J) ai)))))))))))))) ei) ?_;rintro _ _ ⟨_,⟨A18,n18,c18,A19,n19,c19,rfl,rfl⟩,rfl⟩;refine W ?_;refine gD (aM gC J) ?_;rintro _ _ ⟨B20,rfl,rfl⟩;refine gO (aw (us:=[iV y17.1.Kind,iV y17.1.Shape,iV y17.1.Flags,iV y17.1.Age,U A18 n18 c18,U A19 n19 c19]) (cs':=[iV y17.1.Kind,iV y17.1.Shape,iV y17.1.Flags,iV y17.1.Age,U A18 n18 c18,U A19 n19 c19]) 0 J J J J dq J J J) ?_;rintro _ _ rfl;refine W ?_;refine aB ?_;refine W ?_;refine av J (fun g21=> ?_) (fun g21=> ?_)
 ·replace h:=ad g21 h;refine W ?_;obtain rfl:=ao h;exact aO J J (cS [9,10,11,12,13,14,15,16,17,18,19,5,6,7] 20) ⟨_,_,_,_,_,_,_,_,_,_,_,_,_,_,_,_,_,_,_,_,_,_,_,_,_,_,J,J⟩
 replace h:=ae g21 h;refine W ?_;refine gR (aj (us:=aE a1) 4 J J aN J) ?_;refine gR (aj (us:=cn a2) 3 J J bI J) ?_;obtain ⟨y22,hy22,h⟩:=aa h;refine gD (aI (pR hy22) Cq J (aG [5,6,7,8] [9,10,11,12,13,14,15,16,17,18,19] [0,1,2,3,4,5,6,7,8] 20 J)) ?_;rintro _ _ ⟨_,⟨rfl,rfl⟩,rfl⟩;refine W ?_;refine gD (aM fq J) ?_;rintro _ _ ⟨B23,rfl,rfl⟩;refine gO (aw (us:=bm y22.1) (cs':=bm y22.1) 0 J J J J dh J J J) ?_;rintro _ _ rfl;refine bG ?_;refine W ?_;refine aB ?_;refine W ?_;refine av J (fun g24=> ?_) (fun g24=> ?_)
 ·replace h:=ad g24 h;refine W ?_;obtain rfl:=ao h;exact aO J J (cS [1,2,3,4,5,6,7,8,9,10,11,17,18,19] 21) ⟨_,_,_,_,_,_,_,_,_,_,_,_,_,_,_,_,_,_,_,_,_,_,_,_,_,_,J,J⟩
 replace h:=ae g24 h;refine W ?_;refine gE (bR J J) ?_;refine W ?_;refine av J (fun g25=> ?_) (fun g25=> ?_)
 ·replace h:=ad g25 h;refine W ?_;obtain rfl:=ao h;exact aO J J (cS [1,2,3,4,5,6,7,8,9,10,11,17,18,19] 21) ⟨_,_,_,_,_,_,_,_,_,_,_,_,_,_,_,_,_,_,_,_,_,_,_,_,_,_,J,J⟩
 replace h:=ae g25 h;refine W ?_;refine gR (aW 15 J J dH J) ?_;refine W ?_;obtain ⟨b26,hb26,h⟩:=aa h;refine aH 5 43 b26 ?_ ?_
 ·clear h;refine aD 38 J (fun g26=> ?_) (fun g26=> ?_)
  ·have h:=ad g26 hb26;refine bY (aj (us:=[iV y17.1.Kind,iV y17.1.Shape,iV y17.1.Flags,iV y17.1.Age,U A18 n18 c18,U A19 n19 c19]) 12 J J cb J) J (bi g26 J) J ?_;refine W ?_;refine bY (aW 15 J J dH J) J (bi g26 J) J ?_;obtain ⟨y27,hy27,h⟩:=aa h;refine cc (ap (qV hy27) Dx J (hJ (ar (i:=13) J) (hJ (ar (i:=14) J) (hJ (aq (i:=20) J J) ai))) pt) J (bi g26 J) J ?_;rintro _ _ ⟨_,⟨rfl,rfl⟩,rfl⟩;refine W ?_;obtain rfl:=ao h;exact ab sA (cS [0,1,2,3,4,5,6,7,8,9,10,11,12,13,14,15,16,17,18,19,20] 21)
  have h:=ae g26 hb26;refine W ?_;obtain rfl:=ao h;exact ab sA (cS [0,1,2,3,4,5,6,7,8,9,10,11,12,13,14,15,16,17,18,19,20] 21)
 refine W ?_;refine av J (fun g28=> ?_) (fun g28=> ?_)
 ·replace h:=ad g28 h;refine W ?_;refine gR (aW 12 J J gW J) ?_;refine W ?_;refine gR (aW 15 J J dH J) ?_;refine gR (kU (us:=[iV 8,iV 0,.string (⟨#[]⟩:ByteArray)]) 20 J J aN J) ?_;obtain ⟨x29,hx29,h⟩:=aa h;obtain ⟨lx29,ux29,hx29⟩:=aJ hx29;refine gR (bn 14 J aC J J hU be lx29 ux29) ?_;refine gO (cR (us:=[iV 8,iV 0,.string (⟨#[]⟩:ByteArray)]) (z:=(⟨8,0,(⟨#[]⟩:ByteArray)⟩:Lf)) 14 J J J J be J (toNat_lt lx29 ux29) J (fun S w vs xk hk hr ho=>by obtain rfl:=Option.some.inj (hk.symm.trans hx29);rw [show _=_ from hr];rfl)) ?_;rintro _ _ rfl;refine W ?_;refine gR (aj (us:=aE a1) 16 J J aN J) ?_;refine gR (aj (us:=[iV y17.1.Kind,iV y17.1.Shape,iV y17.1.Flags,iV y17.1.Age,U A18 n18 c18,U A19 n19 c19]) 12 J J cb J) ?_;refine kO (cQ 13 J) ?_;refine kO (cQ 14 J) ?_;refine bG ?_;obtain ⟨y30,hy30,h⟩:=aa h;refine gD (aI (el hy30) np J (aG [17,18,19,13,14] [1,2,3,4,5,6,7,8,9,10,11] [0,12,13,14,15,16,17,18,19,20] 21 J)) ?_;rintro _ _ ⟨_,⟨A31,n31,c31,A32,n32,c32,A33,n33,c33,A34,n34,c34,M35,A36,n36,c36,M37,A38,n38,c38,A39,n39,c39,A40,n40,c40,rfl,rfl⟩,rfl⟩;refine W ?_;obtain rfl:=ao h;exact aO J J (cS [0,1,2,3,4,5,6,7,8,9,10,11,12,13] 24) ⟨_,_,_,_,_,_,_,_,_,_,_,_,_,_,_,_,_,_,_,_,_,_,_,_,_,_,J,J⟩
 replace h:=ae g28 h;refine W ?_;refine gR (aj (us:=aE a1) 16 J J aN J) ?_;refine gR (aj (us:=cn a2) 15 J J bI J) ?_;obtain ⟨y41,hy41,h⟩:=aa h;refine gD (aI (jG hy41) zH J (aG [17,18,19] [1,2,3,4,5,6,7,8,9,10,11] [0,12,13,14,15,16,17,18,19,20] 21 J)) ?_;rintro _ _ ⟨_,⟨A42,n42,c42,A43,n43,c43,A44,n44,c44,A45,n45,c45,M46,A47,n47,c47,M48,A49,n49,c49,A50,n50,c50,A51,n51,c51,rfl,rfl⟩,rfl⟩;refine W ?_;obtain rfl:=ao h;exact aO J J (cS [0,1,2,3,4,5,6,7,8,9,10,11,12,13] 24) ⟨_,_,_,_,_,_,_,_,_,_,_,_,_,_,_,_,_,_,_,_,_,_,_,_,_,_,J,J⟩
def t8 (N:Nat)(a1:Lf)(a2:Lj):Option Bool:=
 (jz N a1).bind fun y3=>bif !y3.2 then (some false) else ((km N a1 a2).bind fun y8=>bif !y8.2 then (some true) else (bif decide (aF .i64 y8.1.Attrs 4=0) then (some false) else ((bif decide (a2.Kind=0) then ((i1 N y3.1 a2.N).bind fun y13=>some y13) else (some false)).bind fun b12=>bif b12 then ((bE y3.1.More a2.N).bind fun x15=>(mU N a1 (⟨y3.1.Kind,y3.1.Shape,y3.1.Flags,y3.1.Age,y3.1.Slots,List.set y3.1.More a2.N.toNat (⟨8,0,(⟨#[]⟩:ByteArray)⟩:Lf)⟩:La)).bind fun y16=>some true) else ((lh N a1 a2).bind fun y17=>some y17))))
def gQ (N:Nat)(a0:K2)(a1:Lf):Option (List Lj):=
 (db N a0 a1).bind fun y16=>xq y16 (fun y16_0=>some []) (fun y16_1=>(cC N a0).bind fun y35=>(ej N a0.shapes_ y16_1.Cell.Shape).bind fun y36=>(ga N y36).bind fun y38=>some y38)
theorem wm {N:Nat}{a0:K2}{a1:Lf}{r:(List Lj)}(h:gQ N a0 a1=some r):Okc Tryz.prog 41 [pV B1 0,(bQ a1)] ([bw A12 n12 c12 a0.symbols_,dr A13 n13 c13 a0.events_,bw A14 n14 c14 a0.out_,al B1 151 (fE a0 B2 B9 A12 n12 c12 A13 n13 c13 A14 n14 c14),al B2 199 [U A3 n3 c3,U A4 n4 c4,U A5 n5 c5,U A6 n6 c6,pV B7 0],bL A3 n3 c3 a0.heap_.m_.Young,bL A4 n4 c4 a0.heap_.m_.Old,bh A5 n5 c5 a0.heap_.roots_,bh A6 n6 c6 a0.heap_.pending_,al B7 247 [.map (some M8)],aP dG dL M8 a0.heap_.set_.at_,al B9 205 [U A10 n10 c10,.map (some M11)],d6 A10 n10 c10 a0.shapes_.shapes_,aP aL dE M11 a0.shapes_.next_]) (fun u post=> ∃A500 n500 c500,u=U A500 n500 c500∧post=[jh A500 n500 c500 r,al B1 151 (fE a0 B2 B9 A12 n12 c12 A13 n13 c13 A14 n14 c14),al B2 199 [U A3 n3 c3,U A4 n4 c4,U A5 n5 c5,U A6 n6 c6,pV B7 0],bL A3 n3 c3 a0.heap_.m_.Young,bL A4 n4 c4 a0.heap_.m_.Old,bh A5 n5 c5 a0.heap_.roots_,bh A6 n6 c6 a0.heap_.pending_,al B7 247 [.map (some M8)],aP dG dL M8 a0.heap_.set_.at_,al B9 205 [U A10 n10 c10,.map (some M11)],d6 A10 n10 c10 a0.shapes_.shapes_,aP aL dE M11 a0.shapes_.next_]):=by
 refine bB Tryz.func41 J J ?_;simp only [ba];refine W ?_;refine gD (aT J J) ?_;rintro _ _ ⟨B15,rfl,rfl⟩;refine W ?_;refine gR (aj (us:=aE a1) 0 J J aN J) ?_;obtain ⟨y16,hy16,h⟩:=aa h;rcases y16 with y16_0|y16_1
 ·replace h:=Ap h;refine gD (aI (cw hy16) jU J (aG [1,2,3] [4,5,6,7,8,9,10,11,12,13,14] [0,1,2,3] 15 J)) ?_;rintro _ _ ⟨_,⟨rfl,rfl⟩,rfl⟩;refine W ?_;refine aB ?_;refine W ?_;refine iW J ?_;refine W ?_;obtain rfl:=ao h;exact aO J J ((gy jP 24 _).trans (cS [0,1,2,3,4,5,6,7,8,9,10,11] 16)) ⟨_,_,_,J,J⟩
 replace h:=Ao h;refine gD (aI (cw hy16) jU J (aG [1,2,3] [4,5,6,7,8,9,10,11,12,13,14] [0,1,2,3] 15 J)) ?_;rintro _ _ ⟨_,⟨B18,A19,n19,c19,A20,n20,c20,rfl,rfl⟩,rfl⟩;refine W ?_;refine aB ?_;refine W ?_;refine iX J ?_;refine W ?_;refine aB ?_;refine bx O _ (ac _) ?_;refine zE 0 J (au J) ?_;refine zE 2 J (au J) ?_;refine zE 3 J (aX J) ?_;refine zE 4 J (dD J fA) ?_;refine zE 5 J (bT J mr) ?_;refine zR 6 J (aW 0 J J dH J) ?_;obtain ⟨y35,hy35,h⟩:=aa h;refine zD 1 J (ap (d5 hy35) rz J (hJ (az (i:=3) J) (hJ (az (i:=4) J) (hJ (ar (i:=5) J) (hJ (ar (i:=6) J) (hJ (ar (i:=7) J) (hJ (ar (i:=8) J) (hJ (az (i:=9) J) (hJ (aU (i:=10) J) (hJ (az (i:=11) J) (hJ (ar (i:=12) J) (hJ (aU (i:=13) J) (hJ (aq (i:=15) J J) (hJ (aq (i:=16) J J) (hJ (aq (i:=17) J J) ai)))))))))))))) dF) ?_;rintro _ _ ⟨_,⟨rfl,rfl⟩,rfl⟩;refine ⟨_,ac _,ac _,?_⟩;obtain ⟨y36,hy36,h⟩:=aa h;refine zD 7 J (ap (mP hy36) Dr J (hJ (az (i:=11) J) (hJ (ar (i:=12) J) (hJ (aU (i:=13) J) ai))) lG) ?_;rintro _ _ ⟨_,⟨A37,n37,c37,rfl,rfl⟩,rfl⟩;refine cZ (cS [1,2,3,4,5,6,7,8,9,10,11,12,13,14,15,16,17,18] 19) ?_;obtain ⟨y38,hy38,h⟩:=aa h;refine zD 8 J (ap (sV hy38) Dw J (hJ (ar (i:=0) J) ai) qF) ?_;rintro _ _ ⟨_,⟨A39,n39,c39,rfl,rfl⟩,rfl⟩;refine cZ (cS [2,3,4,5,6,7,8,9,10,11,12,13,14,15,16,17,18,19] 20) ?_
 refine zE 9 J (aS J) ?_;refine bj O ?_;refine W ?_;obtain rfl:=ao h;exact aO J J (cS [0,5,6,7,8,9,10,11,12,13,14,15] 20) ⟨_,_,_,J,J⟩
def uL (N:Nat)(a1:Lf):Option (List Lj):=
 (dp N a1).bind fun y2=>some []
def kw (N:Nat)(y26:(Lf×Bool×K2))(y5_1:(K2×Lf×Bool))(p39:Int)(p40:Int)(p41:Int)(p42:Int)(p43:Int)(p44:Int)(p45:Int)(p46:Int)(p47:Int)(p48:Int)(p49:(List ByteArray))(p50:Int)(p51:Int)(p52:Int)(p53:(List Ld))(p54:(List ByteArray))(p55:(List La))(p56:(List La))(p57:(List Lf))(p58:(List Lf))(p59:(List Lh))(p60:(List (Lb×Int)))(p61:(List (Int×Bool))):Option Bool:=
 (bif y26.2.1 then ((fX N (⟨(⟨p39,p40,p41⟩:K5),(⟨p42,p43,p44,p45,p46,p47,p48⟩:Lg),(),(⟨(⟨p55,p56⟩:K8),p57,p58,(⟨p61⟩:Lc)⟩:K1),(⟨p59,p60⟩:K9),p49,p50,p51,p52,p53,p54⟩:K2) y5_1.2.1).bind fun y202=>(gQ N (⟨(⟨p39,p40,p41⟩:K5),(⟨p42,p43,p44,p45,p46,p47,p48⟩:Lg),(),(⟨(⟨p55,p56⟩:K8),p57,p58,(⟨p61⟩:Lc)⟩:K1),(⟨p59,p60⟩:K9),p49,p50,p51,p52,p53,p54⟩:K2) y26.1).bind fun y205=>cV (bC ((y205.length:Int)+1)) (some (decide ((y202.length:Int)=(y205.length:Int)+1)))) else (some false)).bind fun b201=>((bif b201 then ((iE N (⟨(⟨p39,p40,p41⟩:K5),(⟨p42,p43,p44,p45,p46,p47,p48⟩:Lg),(),(⟨(⟨p55,p56⟩:K8),p57,p58,(⟨p61⟩:Lc)⟩:K1),(⟨p59,p60⟩:K9),p49,p50,p51,p52,p53,p54⟩:K2) y5_1.2.1).bind fun y210=>some (decide (y210=0))) else (some false)).bind fun b209=>((bif b209 then ((ku N).bind fun y212=>some y212) else (some false)).bind fun b211=>(some b211)))
def gi (N:Nat)(kb62:Int→Int→Int→Int→Int→Int→Int→Int→Int→Int→Int→(List ByteArray)→Int→Int→Int→(List Ld)→(List ByteArray)→(List La)→(List La)→(List Lf)→(List Lf)→(List Lh)→(List (Lb×Int))→(List (Int×Bool))→Option Bool)(y26:(Lf×Bool×K2))(p63:Int)(a0:(List K7))(y5_1:(K2×Lf×Bool))(p90:Int)(p91:Int)(p92:Int)(p93:Int)(p94:Int)(p95:Int)(p96:Int)(p97:Int)(p98:Int)(p99:Int)(p100:(List ByteArray))(p101:Int)(p102:Int)(p103:Int)(p104:(List Ld))(p105:(List ByteArray))(p106:(List La))(p107:(List La))(p108:(List Lf))(p109:(List Lf))(p110:(List Lh))(p111:(List (Lb×Int)))(p112:(List (Int×Bool))):Option Bool:=
 cV (bC (p63+1)) (kb62 (p63+1) p90 p91 p92 p93 p94 p95 p96 p97 p98 p99 p100 p101 p102 p103 p104 p105 p106 p107 p108 p109 p110 p111 p112)
def fM (N:Nat)(kb62:Int→Int→Int→Int→Int→Int→Int→Int→Int→Int→Int→(List ByteArray)→Int→Int→Int→(List Ld)→(List ByteArray)→(List La)→(List La)→(List Lf)→(List Lf)→(List Lh)→(List (Lb×Int))→(List (Int×Bool))→Option Bool)(y26:(Lf×Bool×K2))(p63:Int)(a0:(List K7))(y5_1:(K2×Lf×Bool))(x113:K7)(p123:Int)(p124:Int)(p125:Int)(p126:Int)(p127:Int)(p128:Int)(p129:Int)(p130:Int)(p131:Int)(p132:Int)(p133:(List ByteArray))(p134:Int)(p135:Int)(p136:Int)(p137:(List Ld))(p138:(List ByteArray))(p139:(List La))(p140:(List La))(p141:(List Lf))(p142:(List Lf))(p143:(List Lh))(p144:(List (Lb×Int)))(p145:(List (Int×Bool))):Option Bool:=
 (fC N (⟨(⟨p123,p124,p125⟩:K5),(⟨p126,p127,p128,p129,p130,p131,p132⟩:Lg),(),(⟨(⟨p139,p140⟩:K8),p141,p142,(⟨p145⟩:Lc)⟩:K1),(⟨p143,p144⟩:K9),p133,p134,p135,p136,p137,p138⟩:K2) y5_1.2.1 x113.K).bind fun y194=>(fi N (⟨(⟨p123,p124,p125⟩:K5),(⟨p126,p127,p128,p129,p130,p131,p132⟩:Lg),(),(⟨(⟨p139,p140⟩:K8),p141,p142,(⟨p145⟩:Lc)⟩:K1),(⟨p143,p144⟩:K9),p133,p134,p135,p136,p137,p138⟩:K2) y26.1 x113.K).bind fun y196=>(bif !decide (y194.1=y196.1) then (some true) else (some (!(y194.2==y196.2)))).bind fun b198=>bif b198 then (some false) else (gi N kb62 y26 p63 a0 y5_1 p123 p124 p125 p126 p127 p128 p129 p130 p131 p132 p133 p134 p135 p136 p137 p138 p139 p140 p141 p142 p143 p144 p145)
def cP (N:Nat)(y26:(Lf×Bool×K2))(a0:(List K7))(y5_1:(K2×Lf×Bool)):Nat→Int→Int→Int→Int→Int→Int→Int→Int→Int→Int→Int→(List ByteArray)→Int→Int→Int→(List Ld)→(List ByteArray)→(List La)→(List La)→(List Lf)→(List Lf)→(List Lh)→(List (Lb×Int))→(List (Int×Bool))→Option Bool
 |0,_,_,_,_,_,_,_,_,_,_,_,_,_,_,_,_,_,_,_,_,_,_,_,_=>none
 |m62+1,p63,p64,p65,p66,p67,p68,p69,p70,p71,p72,p73,p74,p75,p76,p77,p78,p79,p80,p81,p82,p83,p84,p85,p86=>(bif decide (p63<(a0.length:Int)) then (some (decide (p63<40))) else (some false)).bind fun b87=>bif b87 then ((bE a0 p63).bind fun x113=>(bif decide (x113.K.Kind=0) then (some true) else ((mY N).bind fun y116=>some (decide (x113.K=y116)))).bind fun b115=>(bif b115 then (some true) else ((oy N x113.K).bind fun y118=>some (!y118))).bind fun b117=>(bif b117 then (some true) else ((ox N x113.D).bind fun y120=>some (!y120))).bind fun b119=>bif b119 then (gi N (cP N y26 a0 y5_1 m62) y26 p63 a0 y5_1 p64 p65 p66 p67 p68 p69 p70 p71 p72 p73 p74 p75 p76 p77 p78 p79 p80 p81 p82 p83 p84 p85 p86) else (bif decide (x113.Kind=1) then ((iB N (⟨(⟨p64,p65,p66⟩:K5),(⟨p67,p68,p69,p70,p71,p72,p73⟩:Lg),(),(⟨(⟨p80,p81⟩:K8),p82,p83,(⟨p86⟩:Lc)⟩:K1),(⟨p84,p85⟩:K9),p74,p75,p76,p77,p78,p79⟩:K2) y5_1.2.1 x113.K).bind fun y147=>(cE N y147.2 y26.1 x113.K).bind fun y158=>bif !(y147.1==y158.1) then (some false) else (fM N (cP N y26 a0 y5_1 m62) y26 p63 a0 y5_1 x113 y158.2.spent_.steps_ y158.2.spent_.made_ y158.2.spent_.calls_ y158.2.config_.Way y158.2.config_.Steps y158.2.config_.Calls y158.2.config_.Made y158.2.config_.Young y158.2.config_.Full y158.2.config_.Sites y158.2.symbols_ y158.2.epoch_ y158.2.serial_ y158.2.sleepers_ y158.2.events_ y158.2.out_ y158.2.heap_.m_.Young y158.2.heap_.m_.Old y158.2.heap_.roots_ y158.2.heap_.pending_ y158.2.shapes_.shapes_ y158.2.shapes_.next_ y158.2.heap_.set_.at_)) else ((eL N (⟨(⟨p64,p65,p66⟩:K5),(⟨p67,p68,p69,p70,p71,p72,p73⟩:Lg),(),(⟨(⟨p80,p81⟩:K8),p82,p83,(⟨p86⟩:Lc)⟩:K1),(⟨p84,p85⟩:K9),p74,p75,p76,p77,p78,p79⟩:K2) y5_1.2.1 x113.K x113.D).bind fun y170=>(ec N y170.2.2 y26.1 x113.K x113.D).bind fun y181=>(bif !(y170.1==y181.1) then (some true) else (some y170.2.1)).bind fun b192=>bif b192 then (some false) else (fM N (cP N y26 a0 y5_1 m62) y26 p63 a0 y5_1 x113 y181.2.spent_.steps_ y181.2.spent_.made_ y181.2.spent_.calls_ y181.2.config_.Way y181.2.config_.Steps y181.2.config_.Calls y181.2.config_.Made y181.2.config_.Young y181.2.config_.Full y181.2.config_.Sites y181.2.symbols_ y181.2.epoch_ y181.2.serial_ y181.2.sleepers_ y181.2.events_ y181.2.out_ y181.2.heap_.m_.Young y181.2.heap_.m_.Old y181.2.heap_.roots_ y181.2.heap_.pending_ y181.2.shapes_.shapes_ y181.2.shapes_.next_ y181.2.heap_.set_.at_)))) else (kw N y26 y5_1 p64 p65 p66 p67 p68 p69 p70 p71 p72 p73 p74 p75 p76 p77 p78 p79 p80 p81 p82 p83 p84 p85 p86)
def jB (N:Nat)(a0:(List K7)):Option Bool:=
 (sa N a0).bind fun y2=>bif !y2 then ((ku N).bind fun y4=>some y4) else ((ny N []).bind fun y5=>xq y5 (fun y5_0=>some false) (fun y5_1=>bif !y5_1.2.2 then (some false) else ((er N y5_1.1 0).bind fun y25=>(na N y5_1.1 y25 1).bind fun y26=>cP N y26 a0 y5_1 N 0 y26.2.2.spent_.steps_ y26.2.2.spent_.made_ y26.2.2.spent_.calls_ y26.2.2.config_.Way y26.2.2.config_.Steps y26.2.2.config_.Calls y26.2.2.config_.Made y26.2.2.config_.Young y26.2.2.config_.Full y26.2.2.config_.Sites y26.2.2.symbols_ y26.2.2.epoch_ y26.2.2.serial_ y26.2.2.sleepers_ y26.2.2.events_ y26.2.2.out_ y26.2.2.heap_.m_.Young y26.2.2.heap_.m_.Old y26.2.2.heap_.roots_ y26.2.2.heap_.pending_ y26.2.2.shapes_.shapes_ y26.2.2.shapes_.next_ y26.2.2.heap_.set_.at_)))
set_option maxHeartbeats 4000000 in
theorem sw {N:Nat}{a0:(List K7)}{r:Bool}(h:jB N a0=some r):Okc Tryz.prog 5 [U A1 n1 c1] ([kS qC (U A1 n1 c1) a0,bd 0 30 [iV 8,iV 0,.string (⟨#[]⟩:ByteArray)]]) (fun u post=>u=.bool r∧post=[]):=by
 refine bB KW J J ?_;simp only [ba];refine W ?_;refine aB ?_;refine W ?_;obtain ⟨y2,hy2,h⟩:=aa h;refine gD (ap (Ak hy2) I3 J (hJ (aq (i:=0) J J) ai) xp) ?_;rintro _ _ ⟨_,⟨rfl,rfl⟩,rfl⟩;refine W ?_;refine av J (fun g3=> ?_) (fun g3=> ?_)
 ·replace h:=ad g3 h;refine W ?_;obtain ⟨y4,hy4,h⟩:=aa h;refine gD (ap (ua hy4) Fy J (hJ (aq (i:=1) J J) ai) rK) ?_;rintro _ _ ⟨_,⟨rfl,rfl⟩,rfl⟩;refine W ?_;obtain rfl:=ao h;exact aO J J (cS [] 2) ⟨J,J⟩
 replace h:=ae g3 h;refine W ?_;obtain ⟨y5,hy5,h⟩:=aa h;rcases y5 with y5_0|y5_1
 ·replace h:=Ap h;refine kO (ij bS _) ?_;refine gD (aI (fY hy5) oX J (aG [0] [] [0,1,2] 3 J)) ?_;rintro _ _ ⟨_,⟨rfl,rfl⟩,rfl⟩;refine bG ?_;refine W ?_;refine gD (aM eA J) ?_;rintro _ _ ⟨B7,rfl,rfl⟩;refine W ?_;refine gO (aw (us:=[iV y5_0.Kind,iV y5_0.N,.string y5_0.S]) (cs':=[iV y5_0.Kind,iV y5_0.N,.string y5_0.S]) 0 J J J J be J J J) ?_;rintro _ _ rfl;refine bG ?_;refine W ?_;refine aB ?_;refine W ?_;refine iW J ?_;refine W ?_;obtain rfl:=ao h;exact aO J J (cS [] 4) ⟨J,J⟩
 replace h:=Ao h;refine kO (ij bS _) ?_;refine gD (aI (fY hy5) oX J (aG [0] [] [0,1,2] 3 J)) ?_;rintro _ _ ⟨_,⟨B8,B9,A10,n10,c10,A11,n11,c11,A12,n12,c12,A13,n13,c13,B14,M15,B16,A17,n17,c17,M18,A19,n19,c19,A20,n20,c20,A21,n21,c21,rfl,rfl⟩,rfl⟩;refine bG ?_;refine W ?_;refine gD (aM eA J) ?_;rintro _ _ ⟨B23,rfl,rfl⟩;refine W ?_;refine gO (aw (us:=[iV y5_1.2.1.Kind,iV y5_1.2.1.N,.string y5_1.2.1.S]) (cs':=[iV y5_1.2.1.Kind,iV y5_1.2.1.N,.string y5_1.2.1.S]) 0 J J J J be J J J) ?_;rintro _ _ rfl;refine bG ?_;refine W ?_;refine aB ?_;refine W ?_;refine av J (fun g24=> ?_) (fun g24=> ?_)
 ·replace h:=ad g24 h;refine W ?_;obtain rfl:=ao h;exact aO J J (cS [] 18) ⟨J,J⟩
 replace h:=ae g24 h;refine W ?_;obtain ⟨y25,hy25,h⟩:=aa h;refine gD (ap (kc hy25) Fw J (hJ (az (i:=1) J) (hJ (az (i:=2) J) (hJ (ar (i:=3) J) (hJ (ar (i:=4) J) (hJ (ar (i:=5) J) (hJ (ar (i:=6) J) (hJ (az (i:=7) J) (hJ (aU (i:=8) J) (hJ (az (i:=9) J) (hJ (ar (i:=10) J) (hJ (aU (i:=11) J) (hJ (aq (i:=12) J J) (hJ (aq (i:=13) J J) (hJ (aq (i:=14) J J) ai)))))))))))))) jo) ?_;rintro _ _ ⟨_,⟨rfl,rfl⟩,rfl⟩;obtain ⟨y26,hy26,h⟩:=aa h;refine gD (aI (xC hy26) I1 J (aG [12,13,14] [1,2,3,4,5,6,7,8,9,10,11] [0,12,13,14,15,16,17] 18 J)) ?_;rintro _ _ ⟨_,⟨A27,n27,c27,A28,n28,c28,A29,n29,c29,A30,n30,c30,M31,A32,n32,c32,M33,A34,n34,c34,A35,n35,c35,A36,n36,c36,rfl,rfl⟩,rfl⟩;refine bG ?_;refine W ?_;refine gD (aM eA J) ?_;rintro _ _ ⟨B37,rfl,rfl⟩;refine gO (aw (us:=[iV y26.1.Kind,iV y26.1.N,.string y26.1.S]) (cs':=[iV y26.1.Kind,iV y26.1.N,.string y26.1.S]) 0 J J J J be J J J) ?_;rintro _ _ rfl;refine bG ?_;refine W ?_
 refine bc (fun s L=> ∃p39 p40 p41 p42 p43 p44 p45 p46 p47 p48 p49 p50 p51 p52 p53 p54 p55 p56 p57 p58 p59 p60 p61 A49 n49 c49 A53 n53 c53 A54 n54 c54 A55 n55 c55 A56 n56 c56 A57 n57 c57 A58 n58 c58 A59 n59 c59 M60 M61,kw N y26 y5_1 p39 p40 p41 p42 p43 p44 p45 p46 p47 p48 p49 p50 p51 p52 p53 p54 p55 p56 p57 p58 p59 p60 p61=some r∧s=[(2,.bool false),(3,pV B8 0),(4,pV B23 0),(6,pV B37 0),(7,.bool y26.2.1)]∧L=[bw A49 n49 c49 p49,dr A53 n53 c53 p53,bw A54 n54 c54 p54,al B8 151 [iV p39,iV p40,iV p41,iV p42,iV p43,iV p44,iV p45,iV p46,iV p47,iV p48,.nilIface,pV B9 0,pV B16 0,U A49 n49 c49,iV p50,iV p51,iV p52,U A53 n53 c53,U A54 n54 c54],al B23 30 [iV y5_1.2.1.Kind,iV y5_1.2.1.N,.string y5_1.2.1.S],al B37 30 [iV y26.1.Kind,iV y26.1.N,.string y26.1.S],bd 0 30 [iV 8,iV 0,.string (⟨#[]⟩:ByteArray)],bL A55 n55 c55 p55,bL A56 n56 c56 p56,bh A57 n57 c57 p57,bh A58 n58 c58 p58,al B9 199 [U A55 n55 c55,U A56 n56 c56,U A57 n57 c57,U A58 n58 c58,pV B14 0],d6 A59 n59 c59 p59,aP aL dE M60 p60,al B16 205 [U A59 n59 c59,.map (some M60)],aP dG dL M61 p61,al B14 247 [.map (some M61)]]) ?_ ?_
 ·refine W ?_
  refine cv (fun m s L=> ∃p63 p64 p65 p66 p67 p68 p69 p70 p71 p72 p73 p74 p75 p76 p77 p78 p79 p80 p81 p82 p83 p84 p85 p86 A74 n74 c74 A78 n78 c78 A79 n79 c79 A80 n80 c80 A81 n81 c81 A82 n82 c82 A83 n83 c83 A84 n84 c84 M85 M86,cP N y26 a0 y5_1 m p63 p64 p65 p66 p67 p68 p69 p70 p71 p72 p73 p74 p75 p76 p77 p78 p79 p80 p81 p82 p83 p84 p85 p86=some r∧s=[(0,U A1 n1 c1),(2,.bool false),(3,pV B8 0),(4,pV B23 0),(6,pV B37 0),(7,.bool y26.2.1),(8,iV p63)]∧L=[kS qC (U A1 n1 c1) a0,bw A74 n74 c74 p74,dr A78 n78 c78 p78,bw A79 n79 c79 p79,al B8 151 [iV p64,iV p65,iV p66,iV p67,iV p68,iV p69,iV p70,iV p71,iV p72,iV p73,.nilIface,pV B9 0,pV B16 0,U A74 n74 c74,iV p75,iV p76,iV p77,U A78 n78 c78,U A79 n79 c79],al B23 30 [iV y5_1.2.1.Kind,iV y5_1.2.1.N,.string y5_1.2.1.S],al B37 30 [iV y26.1.Kind,iV y26.1.N,.string y26.1.S],bd 0 30 [iV 8,iV 0,.string (⟨#[]⟩:ByteArray)],bL A80 n80 c80 p80,bL A81 n81 c81 p81,bh A82 n82 c82 p82,bh A83 n83 c83 p83,al B9 199 [U A80 n80 c80,U A81 n81 c81,U A82 n82 c82,U A83 n83 c83,pV B14 0],d6 A84 n84 c84 p84,aP aL dE M85 p85,al B16 205 [U A84 n84 c84,.map (some M85)],aP dG dL M86 p86,al B14 247 [.map (some M86)]]) N _ _ ⟨0,y26.2.2.spent_.steps_,y26.2.2.spent_.made_,y26.2.2.spent_.calls_,y26.2.2.config_.Way,y26.2.2.config_.Steps,y26.2.2.config_.Calls,y26.2.2.config_.Made,y26.2.2.config_.Young,y26.2.2.config_.Full,y26.2.2.config_.Sites,y26.2.2.symbols_,y26.2.2.epoch_,y26.2.2.serial_,y26.2.2.sleepers_,y26.2.2.events_,y26.2.2.out_,y26.2.2.heap_.m_.Young,y26.2.2.heap_.m_.Old,y26.2.2.heap_.roots_,y26.2.2.heap_.pending_,y26.2.2.shapes_.shapes_,y26.2.2.shapes_.next_,y26.2.2.heap_.set_.at_,A34,n34,c34,A35,n35,c35,A36,n36,c36,A27,n27,c27,A28,n28,c28,A29,n29,c29,A30,n30,c30,A32,n32,c32,M33,M31,h,J,J⟩ sA (cS [20,12,13,14,1,15,0,21,3,4,5,6,2,10,11,9,8,7] 22) ?_
  rintro (_|m62) _ _ ⟨p63,p64,p65,p66,p67,p68,p69,p70,p71,p72,p73,p74,p75,p76,p77,p78,p79,p80,p81,p82,p83,p84,p85,p86,A74,n74,c74,A78,n78,c78,A79,n79,c79,A80,n80,c80,A81,n81,c81,A82,n82,c82,A83,n83,c83,A84,n84,c84,M85,M86,h,rfl,rfl⟩
  ·exact bq h
  rw [cP.eq_2] at h;refine aB ?_;refine W ?_;refine gR (bJ 0 J aQ J EM) ?_;refine W ?_;obtain ⟨b87,hb87,h⟩:=aa h;refine aH 3 41 b87 ?_ ?_
  ·clear h;refine aD 38 J (fun g87=> ?_) (fun g87=> ?_)
   ·have h:=ad g87 hb87;refine W ?_;obtain rfl:=ao h;exact ab sA (cS [0,1,2,3,4,5,6,7,8,9,10,11,12,13,14,15,16,17] 18)
   have h:=ae g87 hb87;refine W ?_;obtain rfl:=ao h;exact ab sA (cS [0,1,2,3,4,5,6,7,8,9,10,11,12,13,14,15,16,17] 18)
  refine W ?_;refine av J (fun g88=> ?_) (fun g88=> ?_)
  ·replace h:=ad g88 h;refine W ?_;refine bc (fun s L=> ∃p90 p91 p92 p93 p94 p95 p96 p97 p98 p99 p100 p101 p102 p103 p104 p105 p106 p107 p108 p109 p110 p111 p112 A100 n100 c100 A104 n104 c104 A105 n105 c105 A106 n106 c106 A107 n107 c107 A108 n108 c108 A109 n109 c109 A110 n110 c110 M111 M112,gi N (cP N y26 a0 y5_1 m62) y26 p63 a0 y5_1 p90 p91 p92 p93 p94 p95 p96 p97 p98 p99 p100 p101 p102 p103 p104 p105 p106 p107 p108 p109 p110 p111 p112=some r∧s=[(0,U A1 n1 c1),(2,.bool false),(3,pV B8 0),(4,pV B23 0),(6,pV B37 0),(7,.bool y26.2.1),(8,iV p63)]∧L=[kS qC (U A1 n1 c1) a0,bw A100 n100 c100 p100,dr A104 n104 c104 p104,bw A105 n105 c105 p105,al B8 151 [iV p90,iV p91,iV p92,iV p93,iV p94,iV p95,iV p96,iV p97,iV p98,iV p99,.nilIface,pV B9 0,pV B16 0,U A100 n100 c100,iV p101,iV p102,iV p103,U A104 n104 c104,U A105 n105 c105],al B23 30 [iV y5_1.2.1.Kind,iV y5_1.2.1.N,.string y5_1.2.1.S],al B37 30 [iV y26.1.Kind,iV y26.1.N,.string y26.1.S],bd 0 30 [iV 8,iV 0,.string (⟨#[]⟩:ByteArray)],bL A106 n106 c106 p106,bL A107 n107 c107 p107,bh A108 n108 c108 p108,bh A109 n109 c109 p109,al B9 199 [U A106 n106 c106,U A107 n107 c107,U A108 n108 c108,U A109 n109 c109,pV B14 0],d6 A110 n110 c110 p110,aP aL dE M111 p111,al B16 205 [U A110 n110 c110,.map (some M111)],aP dG dL M112 p112,al B14 247 [.map (some M112)]]) ?_ ?_
   ·refine W ?_;obtain ⟨x113,hx113,h⟩:=aa h;obtain ⟨lx113,ux113,hx113⟩:=aJ hx113;refine gR (bn 0 J aQ J J EM yM lx113 ux113) ?_;refine gR (br (us:=rW x113) 0 J aQ J hx113 Ig (fun _ _ _ h=>by rw [show _=_ from h];rfl)) ?_;refine gD (aM Er J) ?_;rintro _ _ ⟨B114,rfl,rfl⟩;refine gO (aw (us:=rW x113) (cs':=rW x113) 0 J J J J yM J J J) ?_;rintro _ _ rfl;refine bG ?_;refine W ?_;refine aB ?_;refine aB ?_;refine bx O _ (ac _) ?_;refine zE 0 J (bT J rq) ?_;refine zE 1 J (dD J CZ) ?_;refine zR 2 J (aW 0 J J dH J) ?_;refine zE 3 J (uu J J) ?_;refine zE 4 J (au J) ?_;obtain ⟨b115,hb115,h⟩:=aa h;refine iU (fun l=>(((((l.setIfInBounds 5 true).setIfInBounds 6 true).setIfInBounds 7 true).setIfInBounds 8 true).setIfInBounds 9 true)) 12 57 b115 (fun rest=> ?_) ?_
    ·clear h;refine kq 52 J (fun g115=> ?_) (fun g115=> ?_)
     ·have h:=ad g115 hb115;refine cH 5 J O (mq g115 J) J ?_;refine cH 6 J O (mq g115 J) J ?_;refine cH 7 J O (mq g115 J) J ?_;refine cH 8 J O (mq g115 J) J ?_;refine zE 9 J (dX g115 J J) ?_;obtain rfl:=ao h;exact fL rest (dm J (ay (ay (ay (ay (ay cj J) J) J) J) J)) (ac _) (ac _)
     have h:=ae g115 hb115;refine eW 5 J O (bT J rq) (co g115 J) J ?_;refine jA 6 J O (aj (us:=cn x113.K) 0 J J bI J) (co g115 J) J ?_;obtain ⟨y116,hy116,h⟩:=aa h;refine lA 7 J O (ap (oN hy116) Cl J (ai) mC) J (co g115 J) J ?_;rintro _ _ ⟨_,⟨rfl,rfl⟩,rfl⟩;refine ⟨_,ac _,ac _,?_⟩;refine eW 8 J O (ta (x:=x113.K) (y:=y116) J J) (co g115 J) J ?_;refine zE 9 J (dY g115 J J) ?_;obtain rfl:=ao h;exact fL rest (dm J (ay (ay (ay (ay (ay cj J) J) J) J) J)) (ac _) (ac _)
    refine zE 10 J (au J) ?_;obtain ⟨b117,hb117,h⟩:=aa h;refine iU (fun l=>(((((l.setIfInBounds 11 true).setIfInBounds 12 true).setIfInBounds 13 true).setIfInBounds 14 true).setIfInBounds 15 true)) 6 63 b117 (fun rest=> ?_) ?_
    ·clear h;refine kq 58 J (fun g117=> ?_) (fun g117=> ?_)
     ·have h:=ad g117 hb117;refine cH 11 J O (mq g117 J) J ?_;refine cH 12 J O (mq g117 J) J ?_;refine cH 13 J O (mq g117 J) J ?_;refine cH 14 J O (mq g117 J) J ?_;refine zE 15 J (dX g117 J J) ?_;obtain rfl:=ao h;exact fL rest (dm J (ay (ay (ay (ay (ay cj J) J) J) J) J)) (ac _) (ac _)
     have h:=ae g117 hb117;refine eW 11 J O (bT J rq) (co g117 J) J ?_;refine jA 12 J O (aj (us:=cn x113.K) 0 J J bI J) (co g117 J) J ?_;obtain ⟨y118,hy118,h⟩:=aa h;refine lA 13 J O (ap (yW hy118) I5 J (ai) vQ) J (co g117 J) J ?_;rintro _ _ ⟨_,⟨rfl,rfl⟩,rfl⟩;refine ⟨_,ac _,ac _,?_⟩;refine eW 14 J O (wD J) (co g117 J) J ?_;refine zE 15 J (dY g117 J J) ?_;obtain rfl:=ao h;exact fL rest (dm J (ay (ay (ay (ay (ay cj J) J) J) J) J)) (ac _) (ac _)
    refine zE 16 J (au J) ?_;obtain ⟨b119,hb119,h⟩:=aa h;refine iU (fun l=>(((((l.setIfInBounds 17 true).setIfInBounds 18 true).setIfInBounds 19 true).setIfInBounds 20 true).setIfInBounds 21 true)) 0 69 b119 (fun rest=> ?_) ?_
    ·clear h;refine kq 64 J (fun g119=> ?_) (fun g119=> ?_)
     ·have h:=ad g119 hb119;refine cH 17 J O (mq g119 J) J ?_;refine cH 18 J O (mq g119 J) J ?_;refine cH 19 J O (mq g119 J) J ?_;refine cH 20 J O (mq g119 J) J ?_;refine zE 21 J (dX g119 J J) ?_;obtain rfl:=ao h;exact fL rest (dm J (ay (ay (ay (ay (ay cj J) J) J) J) J)) (ac _) (ac _)
     have h:=ae g119 hb119;refine eW 17 J O (bT J CT) (co g119 J) J ?_;refine jA 18 J O (aj (us:=bK x113.D) 0 J J df J) (co g119 J) J ?_;obtain ⟨y120,hy120,h⟩:=aa h;refine lA 19 J O (ap (yV hy120) I0 J (ai) vP) J (co g119 J) J ?_;rintro _ _ ⟨_,⟨rfl,rfl⟩,rfl⟩;refine ⟨_,ac _,ac _,?_⟩;refine eW 20 J O (wD J) (co g119 J) J ?_;refine zE 21 J (dY g119 J J) ?_;obtain rfl:=ao h;exact fL rest (dm J (ay (ay (ay (ay (ay cj J) J) J) J) J)) (ac _) (ac _)
    refine bj O ?_;refine d8 ?_;refine av J (fun g121=> ?_) (fun g121=> ?_)
    ·replace h:=ad g121 h;refine W ?_;exact ⟨_,_,⟨p64,p65,p66,p67,p68,p69,p70,p71,p72,p73,p74,p75,p76,p77,p78,p79,p80,p81,p82,p83,p84,p85,p86,A74,n74,c74,A78,n78,c78,A79,n79,c79,A80,n80,c80,A81,n81,c81,A82,n82,c82,A83,n83,c83,A84,n84,c84,M85,M86,h,J,J⟩,sA,cS [1,2,3,4,5,6,7,8,9,10,11,12,13,14,15,16,17,18] 19⟩
    replace h:=ae g121 h;refine W ?_;refine bc (fun s L=> ∃p123 p124 p125 p126 p127 p128 p129 p130 p131 p132 p133 p134 p135 p136 p137 p138 p139 p140 p141 p142 p143 p144 p145 A133 n133 c133 A137 n137 c137 A138 n138 c138 A139 n139 c139 A140 n140 c140 A141 n141 c141 A142 n142 c142 A143 n143 c143 M144 M145,fM N (cP N y26 a0 y5_1 m62) y26 p63 a0 y5_1 x113 p123 p124 p125 p126 p127 p128 p129 p130 p131 p132 p133 p134 p135 p136 p137 p138 p139 p140 p141 p142 p143 p144 p145=some r∧s=[(0,U A1 n1 c1),(2,.bool false),(3,pV B8 0),(4,pV B23 0),(6,pV B37 0),(7,.bool y26.2.1),(8,iV p63),(9,pV B114 0)]∧L=[kS qC (U A1 n1 c1) a0,bw A133 n133 c133 p133,dr A137 n137 c137 p137,bw A138 n138 c138 p138,al B8 151 [iV p123,iV p124,iV p125,iV p126,iV p127,iV p128,iV p129,iV p130,iV p131,iV p132,.nilIface,pV B9 0,pV B16 0,U A133 n133 c133,iV p134,iV p135,iV p136,U A137 n137 c137,U A138 n138 c138],al B23 30 [iV y5_1.2.1.Kind,iV y5_1.2.1.N,.string y5_1.2.1.S],al B37 30 [iV y26.1.Kind,iV y26.1.N,.string y26.1.S],al B114 52 (rW x113),bd 0 30 [iV 8,iV 0,.string (⟨#[]⟩:ByteArray)],bL A139 n139 c139 p139,bL A140 n140 c140 p140,bh A141 n141 c141 p141,bh A142 n142 c142 p142,al B9 199 [U A139 n139 c139,U A140 n140 c140,U A141 n141 c141,U A142 n142 c142,pV B14 0],d6 A143 n143 c143 p143,aP aL dE M144 p144,al B16 205 [U A143 n143 c143,.map (some M144)],aP dG dL M145 p145,al B14 247 [.map (some M145)]]) ?_ ?_
    ·refine W ?_;refine av J (fun g146=> ?_) (fun g146=> ?_)
     ·replace h:=ad g146 h;refine aB ?_;refine bx O ([al B114 52 (rW x113),kS qC (U A1 n1 c1) a0,bw A74 n74 c74 p74,dr A78 n78 c78 p78,bw A79 n79 c79 p79,al B23 30 [iV y5_1.2.1.Kind,iV y5_1.2.1.N,.string y5_1.2.1.S],al B37 30 [iV y26.1.Kind,iV y26.1.N,.string y26.1.S],bd 0 30 [iV 8,iV 0,.string (⟨#[]⟩:ByteArray)]]) (cS [0,1,2,3,4,6,7,8] 19) ?_;refine zE 0 J (au J) ?_;refine zR 1 J (aj (us:=[iV y5_1.2.1.Kind,iV y5_1.2.1.N,.string y5_1.2.1.S]) 5 J J aN J) ?_;refine zE 2 J (bT J rq) ?_;refine zR 3 J (aj (us:=cn x113.K) 0 J J bI J) ?_;refine zE 5 J (au J) ?_;refine zR 6 J (aj (us:=[iV y26.1.Kind,iV y26.1.N,.string y26.1.S]) 6 J J aN J) ?_;refine zE 7 J (bT J rq) ?_;refine zR 8 J (aj (us:=cn x113.K) 0 J J bI J) ?_;obtain ⟨y147,hy147,h⟩:=aa h;refine zD 4 J (aI (uQ hy147) I2 J (aG [2,3,4,8] [5,13,9,10,11,12,18,17,16,14,15] [0,1,2,3,4,6,7,8] 19 J)) ?_;rintro _ _ ⟨_,⟨A148,n148,c148,A149,n149,c149,A150,n150,c150,A151,n151,c151,M152,A153,n153,c153,M154,A155,n155,c155,A156,n156,c156,A157,n157,c157,rfl,rfl⟩,rfl⟩
      refine ⟨[bw A155 n155 c155 y147.2.symbols_,dr A156 n156 c156 y147.2.events_,bw A157 n157 c157 y147.2.out_,al B114 52 (rW x113),kS qC (U A1 n1 c1) a0,bw A74 n74 c74 p74,dr A78 n78 c78 p78,bw A79 n79 c79 p79,al B23 30 [iV y5_1.2.1.Kind,iV y5_1.2.1.N,.string y5_1.2.1.S],al B37 30 [iV y26.1.Kind,iV y26.1.N,.string y26.1.S],bd 0 30 [iV 8,iV 0,.string (⟨#[]⟩:ByteArray)]],cS [11,12,13,14,15,16,17,18,19,20,21] 22,(cv_tl).trans ((cv_tl).trans (cv_tl)),?_⟩;refine bZ ?_;obtain ⟨y158,hy158,h⟩:=aa h;refine zD 9 J (aI (jG hy158) zH J (aG [11,12,13] [0,1,2,3,4,5,6,7,8,9,10] [11,12,13,14,15,16,17,18,19,20,21] 22 J)) ?_;rintro _ _ ⟨_,⟨A159,n159,c159,A160,n160,c160,A161,n161,c161,A162,n162,c162,M163,A164,n164,c164,M165,A166,n166,c166,A167,n167,c167,A168,n168,c168,rfl,rfl⟩,rfl⟩;refine ⟨[bw A166 n166 c166 y158.2.symbols_,dr A167 n167 c167 y158.2.events_,bw A168 n168 c168 y158.2.out_,bw A155 n155 c155 y147.2.symbols_,dr A156 n156 c156 y147.2.events_,bw A157 n157 c157 y147.2.out_,al B114 52 (rW x113),kS qC (U A1 n1 c1) a0,bw A74 n74 c74 p74,dr A78 n78 c78 p78,bw A79 n79 c79 p79,al B23 30 [iV y5_1.2.1.Kind,iV y5_1.2.1.N,.string y5_1.2.1.S],al B37 30 [iV y26.1.Kind,iV y26.1.N,.string y26.1.S],bd 0 30 [iV 8,iV 0,.string (⟨#[]⟩:ByteArray)]],cS [11,12,13,14,15,16,17,18,19,20,21,22,23,24] 25,(cv_tl).trans ((cv_tl).trans (cv_tl)),?_⟩;refine bZ ?_;refine zE 10 J (Cd J J KU) ?_;refine bj O ?_;refine d8 ?_;refine av J (fun g169=> ?_) (fun g169=> ?_)
      ·replace h:=ad g169 h;refine W ?_;obtain rfl:=ao h;exact aO J J (cS [] 25) ⟨J,J⟩
      replace h:=ae g169 h;refine W ?_;exact ⟨_,_,⟨y158.2.spent_.steps_,y158.2.spent_.made_,y158.2.spent_.calls_,y158.2.config_.Way,y158.2.config_.Steps,y158.2.config_.Calls,y158.2.config_.Made,y158.2.config_.Young,y158.2.config_.Full,y158.2.config_.Sites,y158.2.symbols_,y158.2.epoch_,y158.2.serial_,y158.2.sleepers_,y158.2.events_,y158.2.out_,y158.2.heap_.m_.Young,y158.2.heap_.m_.Old,y158.2.heap_.roots_,y158.2.heap_.pending_,y158.2.shapes_.shapes_,y158.2.shapes_.next_,y158.2.heap_.set_.at_,A166,n166,c166,A167,n167,c167,A168,n168,c168,A159,n159,c159,A160,n160,c160,A161,n161,c161,A162,n162,c162,A164,n164,c164,M165,M163,h,J,J⟩,sA,cS [18,11,12,13,0,22,23,17,24,2,3,4,5,1,9,10,8,7,6] 25⟩
     replace h:=ae g146 h;refine W ?_;refine gR (aj (us:=[iV y5_1.2.1.Kind,iV y5_1.2.1.N,.string y5_1.2.1.S]) 6 J J aN J) ?_;refine W ?_;refine gR (aj (us:=cn x113.K) 0 J J bI J) ?_;refine W ?_;refine gR (aj (us:=bK x113.D) 0 J J df J) ?_;obtain ⟨y170,hy170,h⟩:=aa h;refine gD (aI (mM hy170) Cp J (aG [2,3,4,8] [5,13,9,10,11,12,18,17,16,14,15] [0,1,2,3,4,6,7,8] 19 J)) ?_;rintro _ _ ⟨_,⟨A171,n171,c171,A172,n172,c172,A173,n173,c173,A174,n174,c174,M175,A176,n176,c176,M177,A178,n178,c178,A179,n179,c179,A180,n180,c180,rfl,rfl⟩,rfl⟩;refine bG ?_;refine W ?_;refine gR (aj (us:=[iV y26.1.Kind,iV y26.1.N,.string y26.1.S]) 20 J J aN J) ?_;refine W ?_;refine gR (aj (us:=cn x113.K) 14 J J bI J) ?_;refine W ?_;refine gR (aj (us:=bK x113.D) 14 J J df J) ?_;obtain ⟨y181,hy181,h⟩:=aa h;refine gD (aI (lR hy181) Ck J (aG [11,12,13] [0,1,2,3,4,5,6,7,8,9,10] [11,12,13,14,15,16,17,18,19,20,21] 22 J)) ?_;rintro _ _ ⟨_,⟨A182,n182,c182,A183,n183,c183,A184,n184,c184,A185,n185,c185,M186,A187,n187,c187,M188,A189,n189,c189,A190,n190,c190,A191,n191,c191,rfl,rfl⟩,rfl⟩;refine bG ?_;refine gE (Cd J J KU) ?_;refine W ?_;obtain ⟨b192,hb192,h⟩:=aa h;refine aH 2 105 b192 ?_ ?_
     ·clear h;refine aD 103 J (fun g192=> ?_) (fun g192=> ?_)
      ·have h:=ad g192 hb192;refine W ?_;obtain rfl:=ao h;exact ab sA (cS [0,1,2,3,4,5,6,7,8,9,10,11,12,13,14,15,16,17,18,19,20,21,22,23,24] 25)
      have h:=ae g192 hb192;refine W ?_;obtain rfl:=ao h;exact ab sA (cS [0,1,2,3,4,5,6,7,8,9,10,11,12,13,14,15,16,17,18,19,20,21,22,23,24] 25)
     refine W ?_;refine av J (fun g193=> ?_) (fun g193=> ?_)
     ·replace h:=ad g193 h;refine W ?_;obtain rfl:=ao h;exact aO J J (cS [] 25) ⟨J,J⟩
     replace h:=ae g193 h;refine W ?_;exact ⟨_,_,⟨y181.2.spent_.steps_,y181.2.spent_.made_,y181.2.spent_.calls_,y181.2.config_.Way,y181.2.config_.Steps,y181.2.config_.Calls,y181.2.config_.Made,y181.2.config_.Young,y181.2.config_.Full,y181.2.config_.Sites,y181.2.symbols_,y181.2.epoch_,y181.2.serial_,y181.2.sleepers_,y181.2.events_,y181.2.out_,y181.2.heap_.m_.Young,y181.2.heap_.m_.Old,y181.2.heap_.roots_,y181.2.heap_.pending_,y181.2.shapes_.shapes_,y181.2.shapes_.next_,y181.2.heap_.set_.at_,A189,n189,c189,A190,n190,c190,A191,n191,c191,A182,n182,c182,A183,n183,c183,A184,n184,c184,A185,n185,c185,A187,n187,c187,M188,M186,h,J,J⟩,sA,cS [18,11,12,13,0,22,23,17,24,2,3,4,5,1,9,10,8,7,6] 25⟩
    rintro _ _ ⟨p123,p124,p125,p126,p127,p128,p129,p130,p131,p132,p133,p134,p135,p136,p137,p138,p139,p140,p141,p142,p143,p144,p145,A133,n133,c133,A137,n137,c137,A138,n138,c138,A139,n139,c139,A140,n140,c140,A141,n141,c141,A142,n142,c142,A143,n143,c143,M144,M145,h,rfl,rfl⟩;refine W ?_;refine gR (aj (us:=[iV y5_1.2.1.Kind,iV y5_1.2.1.N,.string y5_1.2.1.S]) 5 J J aN J) ?_;refine W ?_;refine gR (aj (us:=cn x113.K) 7 J J bI J) ?_;obtain ⟨y194,hy194,h⟩:=aa h;refine gD (aI (pR hy194) Cq J (aG [1,2,3,8] [4,13,9,10,11,12,18,17,16,14,15] [0,1,2,3,5,6,7,8] 19 J)) ?_;rintro _ _ ⟨_,⟨rfl,rfl⟩,rfl⟩;refine bG ?_;refine W ?_;refine gD (aM fq J) ?_;rintro _ _ ⟨B195,rfl,rfl⟩;refine gO (aw (us:=bm y194.1) (cs':=bm y194.1) 0 J J J J dh J J J) ?_;rintro _ _ rfl;refine bG ?_;refine W ?_;refine gR (aj (us:=[iV y26.1.Kind,iV y26.1.N,.string y26.1.S]) 17 J J aN J) ?_;refine W ?_;refine gR (aj (us:=cn x113.K) 18 J J bI J) ?_;obtain ⟨y196,hy196,h⟩:=aa h;refine gD (aI (oQ hy196) Cj J (aG [13,14,15] [1,2,3,4,5,6,7,8,9,10,11] [0,12,13,14,15,16,17,18,19] 20 J)) ?_;rintro _ _ ⟨_,⟨rfl,rfl⟩,rfl⟩;refine bG ?_;refine W ?_;refine gD (aM fq J) ?_;rintro _ _ ⟨B197,rfl,rfl⟩;refine gO (aw (us:=bm y196.1) (cs':=bm y196.1) 0 J J J J dh J J J) ?_;rintro _ _ rfl;refine bG ?_;refine W ?_;refine gR (aj (us:=bm y194.1) 12 J J eM J) ?_;refine gR (aj (us:=bm y196.1) 0 J J eM J) ?_;refine gE (D8 (x:=y194.1) (y:=y196.1) J J) ?_
    refine W ?_;obtain ⟨b198,hb198,h⟩:=aa h;refine aH 4 129 b198 ?_ ?_
    ·clear h;refine aD 125 J (fun g198=> ?_) (fun g198=> ?_)
     ·have h:=ad g198 hb198;refine W ?_;obtain rfl:=ao h;exact ab sA (cS [0,1,2,3,4,5,6,7,8,9,10,11,12,13,14,15,16,17,18,19,20] 21)
     have h:=ae g198 hb198;refine W ?_;refine eR (Cd J J KU) J (co g198 J) J ?_;refine W ?_;obtain rfl:=ao h;exact ab sA (cS [0,1,2,3,4,5,6,7,8,9,10,11,12,13,14,15,16,17,18,19,20] 21)
    refine W ?_;refine av J (fun g199=> ?_) (fun g199=> ?_)
    ·replace h:=ad g199 h;refine W ?_;obtain rfl:=ao h;exact aO J J (cS [] 21) ⟨J,J⟩
    replace h:=ae g199 h;refine W ?_;exact ⟨_,_,⟨p123,p124,p125,p126,p127,p128,p129,p130,p131,p132,p133,p134,p135,p136,p137,p138,p139,p140,p141,p142,p143,p144,p145,A133,n133,c133,A137,n137,c137,A138,n138,c138,A139,n139,c139,A140,n140,c140,A141,n141,c141,A142,n142,c142,A143,n143,c143,M144,M145,h,J,J⟩,sA,cS [13,14,15,16,1,17,18,20,3,4,5,6,2,10,11,9,8,7] 21⟩
   rintro _ _ ⟨p90,p91,p92,p93,p94,p95,p96,p97,p98,p99,p100,p101,p102,p103,p104,p105,p106,p107,p108,p109,p110,p111,p112,A100,n100,c100,A104,n104,c104,A105,n105,c105,A106,n106,c106,A107,n107,c107,A108,n108,c108,A109,n109,c109,A110,n110,c110,M111,M112,h,rfl,rfl⟩;refine W ?_;obtain ⟨q200,h⟩:=aA h;refine gE (bF J J q200.1 q200.2) ?_;refine W ?_;exact ⟨m62,_,_,Lo _,⟨p63+1,p90,p91,p92,p93,p94,p95,p96,p97,p98,p99,p100,p101,p102,p103,p104,p105,p106,p107,p108,p109,p110,p111,p112,A100,n100,c100,A104,n104,c104,A105,n105,c105,A106,n106,c106,A107,n107,c107,A108,n108,c108,A109,n109,c109,A110,n110,c110,M111,M112,h,J,J⟩,sA,cS [0,1,2,3,4,5,6,7,8,9,10,11,12,13,14,15,16,17] 18⟩
  replace h:=ae g88 h;refine W ?_;exact ⟨_,_,⟨p64,p65,p66,p67,p68,p69,p70,p71,p72,p73,p74,p75,p76,p77,p78,p79,p80,p81,p82,p83,p84,p85,p86,A74,n74,c74,A78,n78,c78,A79,n79,c79,A80,n80,c80,A81,n81,c81,A82,n82,c82,A83,n83,c83,A84,n84,c84,M85,M86,h,J,J⟩,sA,cS [1,2,3,4,5,6,7,8,9,10,11,12,13,14,15,16,17] 18⟩
 rintro _ _ ⟨p39,p40,p41,p42,p43,p44,p45,p46,p47,p48,p49,p50,p51,p52,p53,p54,p55,p56,p57,p58,p59,p60,p61,A49,n49,c49,A53,n53,c53,A54,n54,c54,A55,n55,c55,A56,n56,c56,A57,n57,c57,A58,n58,c58,A59,n59,c59,M60,M61,h,rfl,rfl⟩;refine aB ?_;obtain ⟨b201,hb201,h⟩:=aa h;obtain ⟨c201,hc201⟩: ∃c,y26.2.1=c:=⟨_,rfl⟩
 obtain ⟨y202,y205,hs201⟩: ∃(y202:((List Lj))) (y205:((List Lj))),c201=true→((fX N (⟨(⟨p39,p40,p41⟩:K5),(⟨p42,p43,p44,p45,p46,p47,p48⟩:Lg),(),(⟨(⟨p55,p56⟩:K8),p57,p58,(⟨p61⟩:Lc)⟩:K1),(⟨p59,p60⟩:K9),p49,p50,p51,p52,p53,p54⟩:K2) y5_1.2.1)=some y202∧(gQ N (⟨(⟨p39,p40,p41⟩:K5),(⟨p42,p43,p44,p45,p46,p47,p48⟩:Lg),(),(⟨(⟨p55,p56⟩:K8),p57,p58,(⟨p61⟩:Lc)⟩:K1),(⟨p59,p60⟩:K9),p49,p50,p51,p52,p53,p54⟩:K2) y26.1)=some y205∧(bC ((y205.length:Int)+1))∧(decide ((y202.length:Int)=(y205.length:Int)+1))=b201):=by
  cases c201
  ·exact ⟨default,default,fun e=>by cases e⟩
  replace hb201:=ad hc201 hb201;obtain ⟨y202,hy202,hb201⟩:=aa hb201;obtain ⟨y205,hy205,hb201⟩:=aa hb201;obtain ⟨q208,hb201⟩:=aA hb201;exact ⟨y202,y205,fun _=>⟨hy202,hy205,q208,Option.some.inj hb201⟩⟩
 have ho201:c201=false→b201=false:=fun e=>(Option.some.inj (ae (hc201.trans e) hb201)).symm
 obtain ⟨b209,hb209,h⟩:=aa h;obtain ⟨c209,hc209⟩: ∃c,b201=c:=⟨_,rfl⟩
 obtain ⟨y210,hs209⟩: ∃(y210:(Int)),c209=true→((iE N (⟨(⟨p39,p40,p41⟩:K5),(⟨p42,p43,p44,p45,p46,p47,p48⟩:Lg),(),(⟨(⟨p55,p56⟩:K8),p57,p58,(⟨p61⟩:Lc)⟩:K1),(⟨p59,p60⟩:K9),p49,p50,p51,p52,p53,p54⟩:K2) y5_1.2.1)=some y210∧(decide (y210=0))=b209):=by
  cases c209
  ·exact ⟨default,fun e=>by cases e⟩
  replace hb209:=ad hc209 hb209;obtain ⟨y210,hy210,hb209⟩:=aa hb209;exact ⟨y210,fun _=>⟨hy210,Option.some.inj hb209⟩⟩
 have ho209:c209=false→b209=false:=fun e=>(Option.some.inj (ae (hc209.trans e) hb209)).symm
 obtain ⟨b211,hb211,h⟩:=aa h;obtain ⟨c211,hc211⟩: ∃c,b209=c:=⟨_,rfl⟩
 obtain ⟨y212,hs211⟩: ∃(y212:(Bool)),c211=true→((ku N)=some y212∧y212=b211):=by
  cases c211
  ·exact ⟨default,fun e=>by cases e⟩
  replace hb211:=ad hc211 hb211;obtain ⟨y212,hy212,hb211⟩:=aa hb211;exact ⟨y212,fun _=>⟨hy212,Option.some.inj hb211⟩⟩
 have ho211:c211=false→b211=false:=fun e=>(Option.some.inj (ae (hc211.trans e) hb211)).symm
 refine jf (t:=[(2,.bool false),(3,pV B8 0),(4,pV B23 0),(6,pV B37 0),(7,.bool y26.2.1)]) ?_ lD (ac _)
 refine jg O 22 [] [21] [130,131,132,133,134,135,136,137,138,139,140,141,142,143,144,145,146,147,148,149,150,151] [[],[0],[1],[1],[1,2,3],[1,4],[1],[1],[1,6,7],[1,8],[1,9],[1,5,10],[1,11],[12],[13],[13],[13,14,15],[13,16],[13,17],[18],[19],[19,20]] [aV (.bool y26.2.1),
aV (.bool y26.2.1),
(bif c201 then aV (pV B8 0) else aV undef),
(bif c201 then aV (.agg #[iV y5_1.2.1.Kind,iV y5_1.2.1.N,.string y5_1.2.1.S]) else aV undef),
(bif c201 then aX3 (fun (A204:Option Addr) (n204 c204:Nat)=> U A204 n204 c204) (fun A204 n204 c204=> [jh A204 n204 c204 y202]) else aV undef),
(bif c201 then aV (iV (y202.length:Int)) else aV undef),
(bif c201 then aV (pV B8 0) else aV undef),
(bif c201 then aV (.agg #[iV y26.1.Kind,iV y26.1.N,.string y26.1.S]) else aV undef),
(bif c201 then aX3 (fun (A207:Option Addr) (n207 c207:Nat)=> U A207 n207 c207) (fun A207 n207 c207=> [jh A207 n207 c207 y205]) else aV undef),
(bif c201 then aV (iV (y205.length:Int)) else aV undef),
(bif c201 then aV (iV ((y205.length:Int)+1)) else aV undef),
(bif c201 then aV (.bool (decide ((y202.length:Int)=(y205.length:Int)+1))) else aV undef),
aV (.bool b201),
aV (.bool b201),
(bif c209 then aV (pV B8 0) else aV undef),
(bif c209 then aV (.agg #[iV y5_1.2.1.Kind,iV y5_1.2.1.N,.string y5_1.2.1.S]) else aV undef),
(bif c209 then aV (iV y210) else aV undef),
(bif c209 then aV (.bool (decide (y210=0))) else aV undef),
aV (.bool b209),
aV (.bool b209),
(bif c211 then aV (.bool y212) else aV undef),
aV (.bool b211)] [] (ac _) (la) O rfl rfl ?_ ?_ ?_
 ·exact kZ
 ·refine am J ?_ ?_
  ·cases c211
   ·exact bX (dY hc211 J J) J (bf (by rw [ho211 rfl]) (ac _))
   obtain ⟨hy212,hv211⟩:=hs211 rfl;exact bX (dX hc211 J J) J (bf (by rw [hv211]) (ac _))
  refine am J ?_ ?_
  ·cases c211
   ·exact ss (fF hc211 J) (bf J (ac _))
   obtain ⟨hy212,hv211⟩:=hs211 rfl;refine o0 (ap (ua hy212) Fy J (hJ (aq (i:=6) J J) ai) rK) (bi hc211 J) ?_;rintro _ _ ⟨_,⟨rfl,rfl⟩,rfl⟩;exact bf J (ac _)
  refine am J ?_ ?_
  ·exact bX (au J) J (bf J (ac _))
  refine am J ?_ ?_
  ·cases c209
   ·exact bX (dY hc209 J J) J (bf (by rw [ho209 rfl]) (ac _))
   obtain ⟨hy210,hv209⟩:=hs209 rfl;exact bX (dX hc209 J J) J (bf (by rw [hv209]) (ac _))
  refine am J ?_ ?_
  ·cases c209
   ·exact ss (fF hc209 J) (bf J (ac _))
   obtain ⟨hy210,hv209⟩:=hs209 rfl;exact bX (uu J J) (bi hc209 J) (bf J (ac _))
  refine am J ?_ ?_
  ·cases c209
   ·exact ss (fF hc209 J) (bf J (ac _))
   obtain ⟨hy210,hv209⟩:=hs209 rfl;refine o0 (ap (pS hy210) Co J (hJ (az (i:=3) J) (hJ (az (i:=11) J) (hJ (ar (i:=7) J) (hJ (ar (i:=8) J) (hJ (ar (i:=9) J) (hJ (ar (i:=10) J) (hJ (az (i:=16) J) (hJ (aU (i:=15) J) (hJ (az (i:=14) J) (hJ (ar (i:=12) J) (hJ (aU (i:=13) J) (hJ (aq (i:=0) J J) (hJ (aq (i:=1) J J) (hJ (aq (i:=2) J J) ai)))))))))))))) nW) (bi hc209 J) ?_;rintro _ _ ⟨_,⟨rfl,rfl⟩,rfl⟩;exact bf J (ac _)
  refine am J ?_ ?_
  ·cases c209
   ·exact ss (fF hc209 J) (bf J (ac _))
   obtain ⟨hy210,hv209⟩:=hs209 rfl;exact gn (aj (us:=[iV y5_1.2.1.Kind,iV y5_1.2.1.N,.string y5_1.2.1.S]) 4 J J aN J) (bi hc209 J) (bf J (ac _))
  refine am J ?_ ?_
  ·cases c209
   ·exact ss (fF hc209 J) (bf J (ac _))
   obtain ⟨hy210,hv209⟩:=hs209 rfl;exact bX (au J) (bi hc209 J) (bf J (ac _))
  refine am J ?_ ?_
  ·exact bX (au J) J (bf J (ac _))
  refine am J ?_ ?_
  ·cases c201
   ·exact bX (dY hc201 J J) J (bf (by rw [ho201 rfl]) (ac _))
   obtain ⟨hy202,hy205,q208,hv201⟩:=hs201 rfl;exact bX (dX hc201 J J) J (bf (by rw [hv201]) (ac _))
  refine am J ?_ ?_
  ·cases c201
   ·exact ss (fF hc201 J) (bf J (ac _))
   obtain ⟨hy202,hy205,q208,hv201⟩:=hs201 rfl;exact bX (uu J J) (bi hc201 J) (bf J (ac _))
  refine am J ?_ ?_
  ·cases c201
   ·exact ss (fF hc201 J) (bf J (ac _))
   obtain ⟨hy202,hy205,q208,hv201⟩:=hs201 rfl;exact bX (bF J J q208.1 q208.2) (bi hc201 J) (bf J (ac _))
  refine am J ?_ ?_
  ·cases c201
   ·exact ss (fF hc201 J) (bf J (ac _))
   obtain ⟨hy202,hy205,q208,hv201⟩:=hs201 rfl;intro A207 n207 c207;exact gn (bJ 0 J aC J KR) (bi hc201 J) (bf J (ac _))
  refine am J ?_ ?_
  ·cases c201
   ·exact ss (fF hc201 J) (bf J (ac _))
   obtain ⟨hy202,hy205,q208,hv201⟩:=hs201 rfl;refine o0 (aI (wm hy205) IZ J (aG [0,1,2] [3,11,7,8,9,10,16,15,14,12,13] [0,1,2,4,5,6] 17 J)) (bi hc201 J) ?_;rintro _ _ ⟨_,⟨A206,n206,c206,rfl,rfl⟩,rfl⟩;exact Ed A206 n206 c206 (cS [0,12,13,14,1,15,16,17,3,4,5,6,2,10,11,9,8,7] 18)
  refine am J ?_ ?_
  ·cases c201
   ·exact ss (fF hc201 J) (bf J (ac _))
   obtain ⟨hy202,hy205,q208,hv201⟩:=hs201 rfl;exact gn (aj (us:=[iV y26.1.Kind,iV y26.1.N,.string y26.1.S]) 5 J J aN J) (bi hc201 J) (bf J (ac _))
  refine am J ?_ ?_
  ·cases c201
   ·exact ss (fF hc201 J) (bf J (ac _))
   obtain ⟨hy202,hy205,q208,hv201⟩:=hs201 rfl;exact bX (au J) (bi hc201 J) (bf J (ac _))
  refine am J ?_ ?_
  ·cases c201
   ·exact ss (fF hc201 J) (bf J (ac _))
   obtain ⟨hy202,hy205,q208,hv201⟩:=hs201 rfl;intro A204 n204 c204;exact gn (bJ 0 J aC J KR) (bi hc201 J) (bf J (ac _))
  refine am J ?_ ?_
  ·cases c201
   ·exact ss (fF hc201 J) (bf J (ac _))
   obtain ⟨hy202,hy205,q208,hv201⟩:=hs201 rfl;refine o0 (aI (oY hy202) Cn J (aG [0,1,2,6] [3,11,7,8,9,10,16,15,14,12,13] [0,1,2,4,5,6] 17 J)) (bi hc201 J) ?_;rintro _ _ ⟨_,⟨A203,n203,c203,rfl,rfl⟩,rfl⟩;exact Ed A203 n203 c203 (cS [0,12,13,14,1,15,16,17,3,4,5,6,2,10,11,9,8,7] 18)
  refine am J ?_ ?_
  ·cases c201
   ·exact ss (fF hc201 J) (bf J (ac _))
   obtain ⟨hy202,hy205,q208,hv201⟩:=hs201 rfl;exact gn (aj (us:=[iV y5_1.2.1.Kind,iV y5_1.2.1.N,.string y5_1.2.1.S]) 4 J J aN J) (bi hc201 J) (bf J (ac _))
  refine am J ?_ ?_
  ·cases c201
   ·exact ss (fF hc201 J) (bf J (ac _))
   obtain ⟨hy202,hy205,q208,hv201⟩:=hs201 rfl;exact bX (au J) (bi hc201 J) (bf J (ac _))
  refine am J ?_ ?_
  ·exact bX (au J) J (bf J (ac _))
  refine am J ?_ ?_
  ·exact bX (au J) J (bf J (ac _))
  exact fG
 refine nY (t:=[(151,.bool b211),(2,.bool false),(3,pV B8 0),(4,pV B23 0),(6,pV B37 0),(7,.bool y26.2.1)]) (L':=[bw A49 n49 c49 p49,dr A53 n53 c53 p53,bw A54 n54 c54 p54,al B8 151 [iV p39,iV p40,iV p41,iV p42,iV p43,iV p44,iV p45,iV p46,iV p47,iV p48,.nilIface,pV B9 0,pV B16 0,U A49 n49 c49,iV p50,iV p51,iV p52,U A53 n53 c53,U A54 n54 c54],al B23 30 [iV y5_1.2.1.Kind,iV y5_1.2.1.N,.string y5_1.2.1.S],al B37 30 [iV y26.1.Kind,iV y26.1.N,.string y26.1.S],bd 0 30 [iV 8,iV 0,.string (⟨#[]⟩:ByteArray)],bL A55 n55 c55 p55,bL A56 n56 c56 p56,bh A57 n57 c57 p57,bh A58 n58 c58 p58,al B9 199 [U A55 n55 c55,U A56 n56 c56,U A57 n57 c57,U A58 n58 c58,pV B14 0],d6 A59 n59 c59 p59,aP aL dE M60 p60,al B16 205 [U A59 n59 c59,.map (some M60)],aP dG dL M61 p61,al B14 247 [.map (some M61)]]) ?_ lD (ac _);refine xh 22 J O (aS J) J J J ?_;refine lC O ?_;refine W ?_;obtain rfl:=ao h;exact aO J J (cS [] 17) ⟨J,J⟩
end
section
variable {A1 A10 A12 A13 A14 A3 A4 A5 A6:Option Addr} {B1 B2 B7 B9 M11 M8 c1 c10 c12 c13 c14 c3 c4 c5 c6 n1 n10 n12 n13 n14 n3 n4 n5 n6:Nat}
open Go.RowKit
set_option maxRecDepth 20000
def BC (N:Nat):Option (Unit ⊕ K2):=
 (qz N (⟨0,1000,10,1000,0,1,1⟩:Lg)).bind fun y1=>xq y1 (fun y1_0=>bif !decide (y1_0=0) then (some (.inl ())) else (some (.inl ()))) (fun y1_1=>bif !decide (y1_1.2=0) then (some (.inl ())) else (some (.inr y1_1.1)))
def F0 (N:Nat):Option K2:=
 (BC N).bind fun s=>xq s (fun _=>none) some
def F4 (N:Nat):Option Bool:=
 some true
def Jf (N:Nat)(a0:Int):Option Lf:=
 some (⟨3,a0,⟨#[]⟩⟩:Lf)
def rG (N:Nat)(a0:K4):Option Li:=
 some (⟨32,0,(⟨0,0,⟨#[]⟩⟩:Lf),(⟨0,0,⟨#[]⟩⟩:Lf),(⟨0,0,⟨#[]⟩⟩:Lf)⟩:Li)
def qk (N:Nat)(a0:K4):Option Li:=
 (rt N a0).bind fun y3=>some (⟨aF .i64 34 y3.Has,0,(⟨0,0,⟨#[]⟩⟩:Lf),(⟨0,0,⟨#[]⟩⟩:Lf),(⟨0,0,⟨#[]⟩⟩:Lf)⟩:Li)
def wk (N:Nat)(a0:K2)(a1:Lf):Option Lf:=
 (db N a0 a1).bind fun y17=>xq y17 (fun y17_0=>some (⟨0,0,⟨#[]⟩⟩:Lf)) (fun y17_1=>(bE y17_1.Cell.Slots 0).bind fun x35=>some x35)
def DT (N:Nat)(a1:Lf):Option Lf:=
 (dp N a1).bind fun y3=>some (⟨0,0,⟨#[]⟩⟩:Lf)
def qG (N:Nat)(a0:K2)(a1:Lf):Option Bool:=
 bif decide (a1.Kind=7) then ((wk N a0 a1).bind fun y17=>some (!decide (y17.Kind=0))) else (some false)
def jJ (N:Nat)(a1:Lf):Option Bool:=
 some false
def wl (N:Nat)(a0:K2)(a1:Lf):Option K2:=
 (db N a0 a1).bind fun y16=>xq y16 (fun y16_0=>some a0) (fun y16_1=>(dP N (⟨(⟨y16_1.Cell.Kind,y16_1.Cell.Shape,cr .i64 y16_1.Cell.Flags 1,y16_1.Cell.Age,y16_1.Cell.Slots,y16_1.Cell.More⟩:La),a0,y16_1.at_⟩:K6) false).bind fun y34=>some y34.w_)
def tJ (N:Nat)(a1:Lf):Option Unit:=
 (dp N a1).bind fun y2=>some ()
def DZ (N:Nat)(a0:K2)(a1:Lf):Option K2:=
 (wl N a0 a1).bind fun y16=>some y16
def nN (N:Nat)(a1:Lf):Option Unit:=
 (tJ N a1).bind fun y2=>some ()
def sr (N:Nat)(a0:K2)(a1:Lf):Option Bool:=
 (dB N a0 a1).bind fun y16=>some y16.2
def nq (N:Nat)(a1:Lf):Option Bool:=
 (jz N a1).bind fun y2=>some y2.2
def oR (N:Nat)(a0:K2)(a1:Lf):Option (List Lj):=
 (sr N a0 a1).bind fun y16=>bif y16 then ((fX N a0 a1).bind fun y18=>some y18) else ((gQ N a0 a1).bind fun y20=>some y20)
def iO (N:Nat)(a1:Lf):Option (List Lj):=
 (nq N a1).bind fun y2=>bif y2 then ((xf N a1).bind fun y4=>some y4) else ((uL N a1).bind fun y6=>some y6)
def nb (N:Nat)(a0:K2)(a1:Lf)(a2:Lj):Option (K4×Bool):=
 (sr N a0 a1).bind fun y18=>bif y18 then ((fC N a0 a1 a2).bind fun y20=>some (y20.1,y20.2)) else ((fi N a0 a1 a2).bind fun y21=>some (y21.1,y21.2))
def io (N:Nat)(a1:Lf)(a2:Lj):Option (K4×Bool):=
 (nq N a1).bind fun y4=>bif y4 then ((km N a1 a2).bind fun y6=>some (y6.1,y6.2)) else ((lg N a1 a2).bind fun y7=>some (y7.1,y7.2))
def sQ (N:Nat)(a0:K2)(a1:Lf):Option Bool:=
 (db N a0 a1).bind fun y16=>xq y16 (fun y16_0=>some false) (fun y16_1=>some (!decide (aF .i64 y16_1.Cell.Flags 1=0)))
def nK (N:Nat)(a1:Lf):Option Bool:=
 (dp N a1).bind fun y2=>some false
def gz (N:Nat):Option Lj:=
 some (⟨1,0,(⟨#[108,101,110,103,116,104]⟩:ByteArray)⟩:Lj)
def Af (N:Nat)(a0:K2)(a1:Lf)(a2:Lj)(a3:K4)(a4:Bool):Option Int:=
 (gz N).bind fun y18=>(fC N a0 a1 y18).bind fun y19=>(fi N a0 a1 a2).bind fun y22=>bif decide (4096≤a2.N) then (some 16) else ((iE N a0 a1).bind fun y25=>(bif decide (y25≤a2.N) then (some (decide (aF .i64 y19.1.Attrs 1=0))) else (some false)).bind fun b26=>bif b26 then (some 9) else ((bif !decide (a3.Attrs=7) then (some (!y22.2)) else (some false)).bind fun b28=>(bif b28 then (some a4) else (some false)).bind fun b29=>bif b29 then (some 14) else (some 0)))
def o9 (N:Nat)(a1:Lf)(a2:Lj)(a3:K4)(a4:Bool):Option Int:=
 (gz N).bind fun y4=>(km N a1 y4).bind fun y5=>(lg N a1 a2).bind fun y8=>bif decide (4096≤a2.N) then (some 16) else ((xR N a1).bind fun y11=>(bif decide (y11≤a2.N) then (some (decide (aF .i64 y5.1.Attrs 1=0))) else (some false)).bind fun b12=>bif b12 then (some 9) else ((bif !decide (a3.Attrs=7) then (some (!y8.2)) else (some false)).bind fun b14=>(bif b14 then (some a4) else (some false)).bind fun b15=>bif b15 then (some 14) else (some 0)))
def DX (N:Nat)(a1:Lf)(a2:Lj)(a3:Li):Option Int:=
 (io N a1 a2).bind fun y4=>(nK N a1).bind fun y6=>(cq N y4.1 y4.2 y6 a2 a3).bind fun y7=>(bif !y4.2 then (some (!y7.2)) else (some false)).bind fun b10=>bif b10 then (some 10) else (bif !y7.2 then (some 11) else ((lQ N a1).bind fun y13=>(nq N a1).bind fun y15=>(bif !y15 then (some true) else (some (!decide (a2.Kind=0)))).bind fun b16=>bif b16 then ((bif !y4.2 then (some (decide (1024≤(y13.length:Int)))) else (some false)).bind fun b18=>bif b18 then (some 14) else (some 0)) else ((o9 N a1 a2 y7.1 (decide (1024≤(y13.length:Int)))).bind fun y20=>some y20)))
def xD (N:Nat)(a0:Bool):Option (Bool×Int):=
 bif a0 then (some (true,0)) else (some (false,11))
def AM (N:Nat)(a0:K2)(a1:Lf)(a2:Li):Option Int:=
 (bif !decide (aF .i64 a2.Has 1=0) then ((bif !decide (a2.Value.Kind=3) then (some true) else (some (decide (a2.Value.N<0)))).bind fun b18=>(bif b18 then (some true) else (some (decide (4096<a2.Value.N)))).bind fun b19=>some b19) else (some false)).bind fun b17=>bif b17 then (some 16) else ((gz N).bind fun y21=>(fC N a0 a1 y21).bind fun y22=>(gz N).bind fun y25=>(cq N y22.1 true true y25 a2).bind fun y26=>bif !y26.2 then (some 11) else (some 0))
def zg (N:Nat)(a1:Lf)(a2:Li):Option Int:=
 (bif !decide (aF .i64 a2.Has 1=0) then ((bif !decide (a2.Value.Kind=3) then (some true) else (some (decide (a2.Value.N<0)))).bind fun b4=>(bif b4 then (some true) else (some (decide (4096<a2.Value.N)))).bind fun b5=>some b5) else (some false)).bind fun b3=>bif b3 then (some 16) else ((gz N).bind fun y7=>(km N a1 y7).bind fun y8=>(gz N).bind fun y11=>(cq N y8.1 true true y11 a2).bind fun y12=>bif !y12.2 then (some 11) else (some 0))
def CN (N:Nat)(a0:K2)(a1:Lf)(a2:Lj)(a3:Li)(p36:Int):Option (Bool×Int×K2):=
 bif !decide (p36=0) then (some (false,p36,a0)) else ((eL N a0 a1 a2 a3).bind fun y42=>(xD N y42.1).bind fun y53=>some (y53.1,y53.2,y42.2.2))
def oB (N:Nat)(a1:Lf)(a2:Lj)(a3:Li):Option (Bool×Int):=
 some (false,3)
def xn (N:Nat)(p30:Bool)(p31:Int)(p32:Int)(p33:Int)(p34:Int)(p35:Int)(p36:Int)(p37:Int)(p38:Int)(p39:Int)(p40:Int)(p41:(List ByteArray))(p42:Int)(p43:Int)(p44:Int)(p45:(List Ld))(p46:(List ByteArray))(p47:(List La))(p48:(List La))(p49:(List Lf))(p50:(List Lf))(p51:(List Lh))(p52:(List (Lb×Int)))(p53:(List (Int×Bool))):Option (Bool×K2):=
 some (p30,(⟨(⟨p31,p32,p33⟩:K5),(⟨p34,p35,p36,p37,p38,p39,p40⟩:Lg),(),(⟨(⟨p47,p48⟩:K8),p49,p50,(⟨p53⟩:Lc)⟩:K1),(⟨p51,p52⟩:K9),p41,p42,p43,p44,p45,p46⟩:K2))
def nM (N:Nat)(p6:Bool):Option Bool:=
 some p6
def ju (N:Nat)(y7:((List Lj)))(a1:Lf):Nat→Bool→Int→Option Bool
 |0,_,_=>none
 |m9+1,p10,p11=>bif decide (p11<(y7.length:Int)) then ((bE y7 p11).bind fun x13=>(io N a1 x13).bind fun y15=>(rG N y15.1).bind fun y17=>(oB N a1 x13 y17).bind fun y18=>(bif p10 then (some y18.1) else (some false)).bind fun b19=>cV (bC (p11+1)) ((ju N y7 a1 m9) b19 (p11+1))) else (nM N p10)
def oe (N:Nat)(a1:Lf):Option Bool:=
 (jJ N a1).bind fun y2=>bif !y2 then (some false) else ((nN N a1).bind fun y4=>(iO N a1).bind fun y7=>ju N y7 a1 N true 0)
def uY (N:Nat)(p30:Bool)(p31:Int)(p32:Int)(p33:Int)(p34:Int)(p35:Int)(p36:Int)(p37:Int)(p38:Int)(p39:Int)(p40:Int)(p41:(List ByteArray))(p42:Int)(p43:Int)(p44:Int)(p45:(List Ld))(p46:(List ByteArray))(p47:(List La))(p48:(List La))(p49:(List Lf))(p50:(List Lf))(p51:(List Lh))(p52:(List (Lb×Int)))(p53:(List (Int×Bool))):Option (Bool×K2):=
 some (p30,(⟨(⟨p31,p32,p33⟩:K5),(⟨p34,p35,p36,p37,p38,p39,p40⟩:Lg),(),(⟨(⟨p47,p48⟩:K8),p49,p50,(⟨p53⟩:Lc)⟩:K1),(⟨p51,p52⟩:K9),p41,p42,p43,p44,p45,p46⟩:K2))
def mG (N:Nat)(p6:Bool):Option Bool:=
 some p6
def iS (N:Nat)(y7:((List Lj)))(a1:Lf):Nat→Bool→Int→Option Bool
 |0,_,_=>none
 |m9+1,p10,p11=>bif decide (p11<(y7.length:Int)) then ((bE y7 p11).bind fun x13=>(io N a1 x13).bind fun y15=>(qk N y15.1).bind fun y17=>(oB N a1 x13 y17).bind fun y18=>(bif p10 then (some y18.1) else (some false)).bind fun b19=>cV (bC (p11+1)) ((iS N y7 a1 m9) b19 (p11+1))) else (mG N p10)
def nm (N:Nat)(a1:Lf):Option Bool:=
 (jJ N a1).bind fun y2=>bif !y2 then (some false) else ((nN N a1).bind fun y4=>(iO N a1).bind fun y7=>iS N y7 a1 N true 0)
def AS (N:Nat)(a1:Lf):Option Bool:=
 (nm N a1).bind fun y2=>some y2
def HQ (N:Nat)(a0:K2)(a1:Lf)(a2:Lf):Option (Bool×K2):=
 (dB N a0 a1).bind fun y17=>(bif !y17.2 then (some true) else (some (decide (aF .i64 y17.1.Flags 1=0)))).bind fun b21=>(bif b21 then (some true) else (some (!decide (aF .i64 y17.1.Flags 32=0)))).bind fun b22=>(bif b22 then (some true) else (some (decide (4096≤(y17.1.More.length:Int))))).bind fun b23=>bif b23 then (some (false,a0)) else (cV (gv (y17.1.More.length+([a2]:List Lf).length)) ((bU N a0 a1 (⟨y17.1.Kind,y17.1.Shape,y17.1.Flags,y17.1.Age,y17.1.Slots,y17.1.More++([a2]:List Lf)⟩:La)).bind fun y28=>some (true,y28)))
def lJ (N:Nat)(a0:K4):Option Bool:=
 some (!decide (aF .i64 a0.Attrs 4=0))
def lK (N:Nat)(a0:K4):Option Bool:=
 some (!decide (aF .i64 a0.Attrs 5=0))
def nj (N:Nat)(a0:K2):Option Bool:=
 some true
def i9 (N:Nat)(y21:((List Lj)))(a0:K2)(a1:Lf):Nat→Int→Option Bool
 |0,_=>none
 |m23+1,p24=>bif decide (p24<(y21.length:Int)) then ((bE y21 p24).bind fun x26=>(nb N a0 a1 x26).bind fun y28=>(lJ N y28.1).bind fun y30=>bif y30 then (some false) else (cV (bC (p24+1)) ((i9 N y21 a0 a1 m23) (p24+1)))) else (nj N a0)
def oa (N:Nat)(a0:K2)(a1:Lf):Option Bool:=
 (qG N a0 a1).bind fun y16=>(bif !y16 then (some true) else ((sQ N a0 a1).bind fun y18=>some y18)).bind fun b17=>bif b17 then (some false) else ((oR N a0 a1).bind fun y21=>i9 N y21 a0 a1 N 0)
def mE (N:Nat):Option Bool:=
 some true
def iQ (N:Nat)(y7:((List Lj)))(a1:Lf):Nat→Int→Option Bool
 |0,_=>none
 |m9+1,p10=>bif decide (p10<(y7.length:Int)) then ((bE y7 p10).bind fun x12=>(io N a1 x12).bind fun y14=>(lJ N y14.1).bind fun y16=>bif y16 then (some false) else (cV (bC (p10+1)) ((iQ N y7 a1 m9) (p10+1)))) else (mE N)
def ni (N:Nat)(a1:Lf):Option Bool:=
 (jJ N a1).bind fun y2=>(bif !y2 then (some true) else ((nK N a1).bind fun y4=>some y4)).bind fun b3=>bif b3 then (some false) else ((iO N a1).bind fun y7=>iQ N y7 a1 N 0)
def nl (N:Nat)(a0:K2):Option Bool:=
 some true
def ja (N:Nat)(y21:((List Lj)))(a0:K2)(a1:Lf):Nat→Int→Option Bool
 |0,_=>none
 |m23+1,p24=>bif decide (p24<(y21.length:Int)) then ((bE y21 p24).bind fun x26=>(nb N a0 a1 x26).bind fun y28=>(lK N y28.1).bind fun y30=>bif y30 then (some false) else (cV (bC (p24+1)) ((ja N y21 a0 a1 m23) (p24+1)))) else (nl N a0)
def ob (N:Nat)(a0:K2)(a1:Lf):Option Bool:=
 (qG N a0 a1).bind fun y16=>(bif !y16 then (some true) else ((sQ N a0 a1).bind fun y18=>some y18)).bind fun b17=>bif b17 then (some false) else ((oR N a0 a1).bind fun y21=>ja N y21 a0 a1 N 0)
def mF (N:Nat):Option Bool:=
 some true
def iR (N:Nat)(y7:((List Lj)))(a1:Lf):Nat→Int→Option Bool
 |0,_=>none
 |m9+1,p10=>bif decide (p10<(y7.length:Int)) then ((bE y7 p10).bind fun x12=>(io N a1 x12).bind fun y14=>(lK N y14.1).bind fun y16=>bif y16 then (some false) else (cV (bC (p10+1)) ((iR N y7 a1 m9) (p10+1)))) else (mF N)
def nk (N:Nat)(a1:Lf):Option Bool:=
 (jJ N a1).bind fun y2=>(bif !y2 then (some true) else ((nK N a1).bind fun y4=>some y4)).bind fun b3=>bif b3 then (some false) else ((iO N a1).bind fun y7=>iR N y7 a1 N 0)
def BW (N:Nat)(a0:K2)(a1:Lf):Option Bool:=
 (ob N a0 a1).bind fun y16=>some y16
def AR (N:Nat)(a1:Lf):Option Bool:=
 (nk N a1).bind fun y2=>some y2
def Jq (N:Nat)(a0:K4):Option Li:=
 (jE N a0.Attrs 8).bind fun y3=>bif y3 then (cV (bC (a0.Attrs - 8)) (some (⟨60,a0.Attrs - 8,(⟨0,0,⟨#[]⟩⟩:Lf),a0.Get,a0.Set⟩:Li))) else (some (⟨51,a0.Attrs,a0.Value,(⟨0,0,⟨#[]⟩⟩:Lf),(⟨0,0,⟨#[]⟩⟩:Lf)⟩:Li))
def F5 (N:Nat)(p48:Int)(p49:Int)(p50:ByteArray)(p149:Int)(p150:Int)(p151:Int)(p152:Int)(p153:Int)(p154:Int)(p155:Int)(p156:Int)(p157:Int)(p158:Int)(p159:(List ByteArray))(p160:Int)(p161:Int)(p162:Int)(p163:(List Ld))(p164:(List ByteArray))(p165:(List La))(p166:(List La))(p167:(List Lf))(p168:(List Lf))(p169:(List Lh))(p170:(List (Lb×Int)))(p171:(List (Int×Bool))):Option (Lf×Bool×K2):=
 some ((⟨p48,p49,p50⟩:Lf),true,(⟨(⟨p149,p150,p151⟩:K5),(⟨p152,p153,p154,p155,p156,p157,p158⟩:Lg),(),(⟨(⟨p165,p166⟩:K8),p167,p168,(⟨p171⟩:Lc)⟩:K1),(⟨p169,p170⟩:K9),p159,p160,p161,p162,p163,p164⟩:K2))
def F1 (N:Nat)(p8:Int)(p9:Int)(p10:ByteArray):Option (Lf×Bool):=
 some ((⟨p8,p9,p10⟩:Lf),true)
def xo (N:Nat)(a0:K2)(p19:(List K4)):Option (List K4):=
 some p19
def rJ (N:Nat)(y16:((List Lj)))(a0:K2)(a1:Lf):Nat→(List K4)→Int→Option (List K4)
 |0,_,_=>none
 |m20+1,p21,p22=>bif decide (p22<(y16.length:Int)) then ((bE y16 p22).bind fun x25=>(nb N a0 a1 x25).bind fun y26=>cV ((p21.length+([y26.1]:List K4).length)≤549755813888) (cV (bC (p22+1)) ((rJ N y16 a0 a1 m20) (p21++([y26.1]:List K4)) (p22+1)))) else (xo N a0 p21)
def H0 (N:Nat)(a0:K2)(a1:Lf):Option (List K4):=
 (oR N a0 a1).bind fun y16=>rJ N y16 a0 a1 N [] 0
def vC (N:Nat)(p5:(List K4)):Option (List K4):=
 some p5
def qo (N:Nat)(y2:((List Lj)))(a1:Lf):Nat→(List K4)→Int→Option (List K4)
 |0,_,_=>none
 |m6+1,p7,p8=>bif decide (p8<(y2.length:Int)) then ((bE y2 p8).bind fun x11=>(io N a1 x11).bind fun y12=>cV ((p7.length+([y12.1]:List K4).length)≤549755813888) (cV (bC (p8+1)) ((qo N y2 a1 m6) (p7++([y12.1]:List K4)) (p8+1)))) else (vC N p7)
def FZ (N:Nat)(a1:Lf):Option (List K4):=
 (iO N a1).bind fun y2=>qo N y2 a1 N [] 0
def Ep (N:Nat)(a0:K2)(a1:Lf)(a2:Lj):Option (Bool×K2):=
 bif !decide (a1.Kind=7) then (some (true,a0)) else ((sr N a0 a1).bind fun y18=>bif y18 then ((iB N a0 a1 a2).bind fun y20=>some (y20.1,y20.2)) else ((cE N a0 a1 a2).bind fun y31=>some (y31.1,y31.2)))
def CL (N:Nat)(a1:Lf)(a2:Lj):Option Bool:=
 bif !decide (a1.Kind=7) then (some true) else ((nq N a1).bind fun y4=>bif y4 then ((t8 N a1 a2).bind fun y6=>some y6) else ((lh N a1 a2).bind fun y7=>some y7))
def BV (N:Nat)(a1:Lf):Option Bool:=
 (oe N a1).bind fun y2=>some y2
def BU (N:Nat)(a0:K2)(a1:Lf):Option Bool:=
 (oa N a0 a1).bind fun y16=>some y16
def AQ (N:Nat)(a1:Lf):Option Bool:=
 (ni N a1).bind fun y2=>some y2
def Az (N:Nat):Option Bool:=
 some true
def ui (N:Nat)(a0:(List K4))(a1:(List K4)):Nat→Int→Option Bool
 |0,_=>none
 |m5+1,p6=>bif decide (p6<(a0.length:Int)) then ((bE a0 p6).bind fun x8=>(bE a1 p6).bind fun x9=>bif !decide (x8=x9) then (some false) else (cV (bC (p6+1)) ((ui N a0 a1 m5) (p6+1)))) else (Az N)
def Ir (N:Nat)(a0:(List K4))(a1:(List K4)):Option Bool:=
 bif !decide ((a0.length:Int)=(a1.length:Int)) then (some false) else (ui N a0 a1 N 0)
end
section
variable {A1 A10 A12 A13 A14 A3 A4 A5 A6:Option Addr} {B1 B2 B7 B9 M11 M8 c1 c10 c12 c13 c14 c3 c4 c5 c6 n1 n10 n12 n13 n14 n3 n4 n5 n6:Nat}
open Go.RowKit Go.ChangeShapes Go.WideShapes Go.Deep
def CA (x:Lj):Prop:=(bC x.Kind)∧(bC x.N)∧(x.S.size≤reachBytes)
set_option maxRecDepth 100000 in
theorem DJ:Bv Tryz.prog 24 jP CA:=fun {_ enc w base spare held _ cs y} h hw=>by
 obtain ⟨xs,m, -,hy,hl,hx,hf⟩:=DataW.trod_struct KX h
 have hc:Tryz.prog.cellsOf 24=3:=by kernel_rfl
 rw [hc] at hl
 match cs,hl,hf with
 | [c0,c1,c2],_,hf=>
  have k0:DataW.trod enc Tryz.prog w base spare held m 3 (List.take (Tryz.prog.cellsOf 3) (List.drop 0 [c0,c1,c2]))=xs[0]? :=hf 0 _ rfl
  have z0:Tryz.prog.cellsOf 3=1:=by kernel_rfl
  simp only [z0,List.drop_succ_cons,List.drop_zero,List.take_succ_cons,List.take_zero] at k0
  have l0:0<xs.length:=by rw [hx];decide
  obtain ⟨a0,r0,w0⟩:=(Rdr.w (ov KM)) (k0.trans (List.getElem?_eq_getElem l0)) (eN KX hy hw (i:=0) rfl (List.getElem?_eq_getElem l0));have k1:DataW.trod enc Tryz.prog w base spare held m 3 (List.take (Tryz.prog.cellsOf 3) (List.drop 1 [c0,c1,c2]))=xs[1]? :=hf 1 _ rfl
  have z1:Tryz.prog.cellsOf 3=1:=by kernel_rfl
  simp only [z1,List.drop_succ_cons,List.drop_zero,List.take_succ_cons,List.take_zero] at k1
  have l1:1<xs.length:=by rw [hx];decide
  obtain ⟨a1,r1,w1⟩:=(Rdr.w (ov KM)) (k1.trans (List.getElem?_eq_getElem l1)) (eN KX hy hw (i:=1) rfl (List.getElem?_eq_getElem l1));have k2:DataW.trod enc Tryz.prog w base spare held m 9 (List.take (Tryz.prog.cellsOf 9) (List.drop 2 [c0,c1,c2]))=xs[2]? :=hf 2 _ rfl
  have z2:Tryz.prog.cellsOf 9=1:=by kernel_rfl
  simp only [z2,List.drop_succ_cons,List.drop_zero,List.take_succ_cons,List.take_zero] at k2
  have l2:2<xs.length:=by rw [hx];decide
  obtain ⟨a2,r2,w2⟩:=(Ay Ex) (k2.trans (List.getElem?_eq_getElem l2)) (eN KX hy hw (i:=2) rfl (List.getElem?_eq_getElem l2));obtain ⟨rfl, -⟩:=List.cons.inj (show [c0]=[_] from r0);obtain ⟨rfl, -⟩:=List.cons.inj (show [c1]=[_] from r1);obtain ⟨rfl, -⟩:=List.cons.inj (show [c2]=[_] from r2);exact ⟨⟨a0,a1,a2⟩,J,⟨w0,w1,w2⟩⟩
def o5 (x:Lf):Prop:=(bC x.Kind)∧(bC x.N)∧(x.S.size≤reachBytes)
set_option maxRecDepth 100000 in
theorem ou:Bv Tryz.prog 30 bS o5:=fun {_ enc w base spare held _ cs y} h hw=>by
 obtain ⟨xs,m, -,hy,hl,hx,hf⟩:=DataW.trod_struct KY h
 have hc:Tryz.prog.cellsOf 30=3:=by kernel_rfl
 rw [hc] at hl
 match cs,hl,hf with
 | [c0,c1,c2],_,hf=>
  have k0:DataW.trod enc Tryz.prog w base spare held m 3 (List.take (Tryz.prog.cellsOf 3) (List.drop 0 [c0,c1,c2]))=xs[0]? :=hf 0 _ rfl
  have z0:Tryz.prog.cellsOf 3=1:=by kernel_rfl
  simp only [z0,List.drop_succ_cons,List.drop_zero,List.take_succ_cons,List.take_zero] at k0
  have l0:0<xs.length:=by rw [hx];decide
  obtain ⟨a0,r0,w0⟩:=(Rdr.w (ov KM)) (k0.trans (List.getElem?_eq_getElem l0)) (eN KY hy hw (i:=0) rfl (List.getElem?_eq_getElem l0));have k1:DataW.trod enc Tryz.prog w base spare held m 3 (List.take (Tryz.prog.cellsOf 3) (List.drop 1 [c0,c1,c2]))=xs[1]? :=hf 1 _ rfl
  have z1:Tryz.prog.cellsOf 3=1:=by kernel_rfl
  simp only [z1,List.drop_succ_cons,List.drop_zero,List.take_succ_cons,List.take_zero] at k1
  have l1:1<xs.length:=by rw [hx];decide
  obtain ⟨a1,r1,w1⟩:=(Rdr.w (ov KM)) (k1.trans (List.getElem?_eq_getElem l1)) (eN KY hy hw (i:=1) rfl (List.getElem?_eq_getElem l1));have k2:DataW.trod enc Tryz.prog w base spare held m 9 (List.take (Tryz.prog.cellsOf 9) (List.drop 2 [c0,c1,c2]))=xs[2]? :=hf 2 _ rfl
  have z2:Tryz.prog.cellsOf 9=1:=by kernel_rfl
  simp only [z2,List.drop_succ_cons,List.drop_zero,List.take_succ_cons,List.take_zero] at k2
  have l2:2<xs.length:=by rw [hx];decide
  obtain ⟨a2,r2,w2⟩:=(Ay Ex) (k2.trans (List.getElem?_eq_getElem l2)) (eN KY hy hw (i:=2) rfl (List.getElem?_eq_getElem l2));obtain ⟨rfl, -⟩:=List.cons.inj (show [c0]=[_] from r0);obtain ⟨rfl, -⟩:=List.cons.inj (show [c1]=[_] from r1);obtain ⟨rfl, -⟩:=List.cons.inj (show [c2]=[_] from r2);exact ⟨⟨a0,a1,a2⟩,J,⟨w0,w1,w2⟩⟩
def Aj (x:Li):Prop:=(bC x.Has)∧(bC x.Attrs)∧(o5 x.Value)∧(o5 x.Get)∧(o5 x.Set)
set_option maxRecDepth 100000 in
theorem BL:Bv Tryz.prog 32 Iq Aj:=fun {_ enc w base spare held _ cs y} h hw=>by
 obtain ⟨xs,m, -,hy,hl,hx,hf⟩:=DataW.trod_struct KZ h
 have hc:Tryz.prog.cellsOf 32=11:=by kernel_rfl
 rw [hc] at hl
 match cs,hl,hf with
 | [c0,c1,c2,c3,c4,c5,c6,c7,c8,c9,c10],_,hf=>
  have k0:DataW.trod enc Tryz.prog w base spare held m 3 (List.take (Tryz.prog.cellsOf 3) (List.drop 0 [c0,c1,c2,c3,c4,c5,c6,c7,c8,c9,c10]))=xs[0]? :=hf 0 _ rfl
  have z0:Tryz.prog.cellsOf 3=1:=by kernel_rfl
  simp only [z0,List.drop_succ_cons,List.drop_zero,List.take_succ_cons,List.take_zero] at k0
  have l0:0<xs.length:=by rw [hx];decide
  obtain ⟨a0,r0,w0⟩:=(Rdr.w (ov KM)) (k0.trans (List.getElem?_eq_getElem l0)) (eN KZ hy hw (i:=0) rfl (List.getElem?_eq_getElem l0));have k1:DataW.trod enc Tryz.prog w base spare held m 3 (List.take (Tryz.prog.cellsOf 3) (List.drop 1 [c0,c1,c2,c3,c4,c5,c6,c7,c8,c9,c10]))=xs[1]? :=hf 1 _ rfl
  have z1:Tryz.prog.cellsOf 3=1:=by kernel_rfl
  simp only [z1,List.drop_succ_cons,List.drop_zero,List.take_succ_cons,List.take_zero] at k1
  have l1:1<xs.length:=by rw [hx];decide
  obtain ⟨a1,r1,w1⟩:=(Rdr.w (ov KM)) (k1.trans (List.getElem?_eq_getElem l1)) (eN KZ hy hw (i:=1) rfl (List.getElem?_eq_getElem l1));have k2:DataW.trod enc Tryz.prog w base spare held m 30 (List.take (Tryz.prog.cellsOf 30) (List.drop 2 [c0,c1,c2,c3,c4,c5,c6,c7,c8,c9,c10]))=xs[2]? :=hf 2 _ rfl
  have z2:Tryz.prog.cellsOf 30=3:=by kernel_rfl
  simp only [z2,List.drop_succ_cons,List.drop_zero,List.take_succ_cons,List.take_zero] at k2
  have l2:2<xs.length:=by rw [hx];decide
  obtain ⟨a2,r2,w2⟩:=ou (k2.trans (List.getElem?_eq_getElem l2)) (eN KZ hy hw (i:=2) rfl (List.getElem?_eq_getElem l2));have k3:DataW.trod enc Tryz.prog w base spare held m 30 (List.take (Tryz.prog.cellsOf 30) (List.drop 5 [c0,c1,c2,c3,c4,c5,c6,c7,c8,c9,c10]))=xs[3]? :=hf 3 _ rfl
  have z3:Tryz.prog.cellsOf 30=3:=by kernel_rfl
  simp only [z3,List.drop_succ_cons,List.drop_zero,List.take_succ_cons,List.take_zero] at k3
  have l3:3<xs.length:=by rw [hx];decide
  obtain ⟨a3,r3,w3⟩:=ou (k3.trans (List.getElem?_eq_getElem l3)) (eN KZ hy hw (i:=3) rfl (List.getElem?_eq_getElem l3));have k4:DataW.trod enc Tryz.prog w base spare held m 30 (List.take (Tryz.prog.cellsOf 30) (List.drop 8 [c0,c1,c2,c3,c4,c5,c6,c7,c8,c9,c10]))=xs[4]? :=hf 4 _ rfl
  have z4:Tryz.prog.cellsOf 30=3:=by kernel_rfl
  simp only [z4,List.drop_succ_cons,List.drop_zero,List.take_succ_cons,List.take_zero] at k4
  have l4:4<xs.length:=by rw [hx];decide
  obtain ⟨a4,r4,w4⟩:=ou (k4.trans (List.getElem?_eq_getElem l4)) (eN KZ hy hw (i:=4) rfl (List.getElem?_eq_getElem l4));obtain ⟨rfl, -⟩:=List.cons.inj (show [c0]=[_] from r0);obtain ⟨rfl, -⟩:=List.cons.inj (show [c1]=[_] from r1);have e2:[c2,c3,c4]=[.int .i64 a2.Kind,.int .i64 a2.N,.string a2.S]:=r2;simp only [List.cons.injEq,and_true] at e2;obtain ⟨rfl,rfl,rfl⟩:=e2;have e3:[c5,c6,c7]=[.int .i64 a3.Kind,.int .i64 a3.N,.string a3.S]:=r3;simp only [List.cons.injEq,and_true] at e3;obtain ⟨rfl,rfl,rfl⟩:=e3;have e4:[c8,c9,c10]=[.int .i64 a4.Kind,.int .i64 a4.N,.string a4.S]:=r4;simp only [List.cons.injEq,and_true] at e4;obtain ⟨rfl,rfl,rfl⟩:=e4;exact ⟨⟨a0,a1,a2,a3,a4⟩,J,⟨w0,w1,w2,w3,w4⟩⟩
def yH (x:K7):Prop:=(bC x.Kind)∧(bC x.N)∧(CA x.K)∧(Aj x.D)∧(o5 x.V)
set_option maxRecDepth 100000 in
theorem DK:Bv Tryz.prog 52 qC yH:=fun {_ enc w base spare held _ cs y} h hw=>by
 obtain ⟨xs,m, -,hy,hl,hx,hf⟩:=DataW.trod_struct K0 h
 have hc:Tryz.prog.cellsOf 52=19:=by kernel_rfl
 rw [hc] at hl
 match cs,hl,hf with
 | [c0,c1,c2,c3,c4,c5,c6,c7,c8,c9,c10,c11,c12,c13,c14,c15,c16,c17,c18],_,hf=>
  have k0:DataW.trod enc Tryz.prog w base spare held m 3 (List.take (Tryz.prog.cellsOf 3) (List.drop 0 [c0,c1,c2,c3,c4,c5,c6,c7,c8,c9,c10,c11,c12,c13,c14,c15,c16,c17,c18]))=xs[0]? :=hf 0 _ rfl
  have z0:Tryz.prog.cellsOf 3=1:=by kernel_rfl
  simp only [z0,List.drop_succ_cons,List.drop_zero,List.take_succ_cons,List.take_zero] at k0
  have l0:0<xs.length:=by rw [hx];decide
  obtain ⟨a0,r0,w0⟩:=(Rdr.w (ov KM)) (k0.trans (List.getElem?_eq_getElem l0)) (eN K0 hy hw (i:=0) rfl (List.getElem?_eq_getElem l0));have k1:DataW.trod enc Tryz.prog w base spare held m 3 (List.take (Tryz.prog.cellsOf 3) (List.drop 1 [c0,c1,c2,c3,c4,c5,c6,c7,c8,c9,c10,c11,c12,c13,c14,c15,c16,c17,c18]))=xs[1]? :=hf 1 _ rfl
  have z1:Tryz.prog.cellsOf 3=1:=by kernel_rfl
  simp only [z1,List.drop_succ_cons,List.drop_zero,List.take_succ_cons,List.take_zero] at k1
  have l1:1<xs.length:=by rw [hx];decide
  obtain ⟨a1,r1,w1⟩:=(Rdr.w (ov KM)) (k1.trans (List.getElem?_eq_getElem l1)) (eN K0 hy hw (i:=1) rfl (List.getElem?_eq_getElem l1));have k2:DataW.trod enc Tryz.prog w base spare held m 24 (List.take (Tryz.prog.cellsOf 24) (List.drop 2 [c0,c1,c2,c3,c4,c5,c6,c7,c8,c9,c10,c11,c12,c13,c14,c15,c16,c17,c18]))=xs[2]? :=hf 2 _ rfl
  have z2:Tryz.prog.cellsOf 24=3:=by kernel_rfl
  simp only [z2,List.drop_succ_cons,List.drop_zero,List.take_succ_cons,List.take_zero] at k2
  have l2:2<xs.length:=by rw [hx];decide
  obtain ⟨a2,r2,w2⟩:=DJ (k2.trans (List.getElem?_eq_getElem l2)) (eN K0 hy hw (i:=2) rfl (List.getElem?_eq_getElem l2));have k3:DataW.trod enc Tryz.prog w base spare held m 32 (List.take (Tryz.prog.cellsOf 32) (List.drop 5 [c0,c1,c2,c3,c4,c5,c6,c7,c8,c9,c10,c11,c12,c13,c14,c15,c16,c17,c18]))=xs[3]? :=hf 3 _ rfl
  have z3:Tryz.prog.cellsOf 32=11:=by kernel_rfl
  simp only [z3,List.drop_succ_cons,List.drop_zero,List.take_succ_cons,List.take_zero] at k3
  have l3:3<xs.length:=by rw [hx];decide
  obtain ⟨a3,r3,w3⟩:=BL (k3.trans (List.getElem?_eq_getElem l3)) (eN K0 hy hw (i:=3) rfl (List.getElem?_eq_getElem l3));have k4:DataW.trod enc Tryz.prog w base spare held m 30 (List.take (Tryz.prog.cellsOf 30) (List.drop 16 [c0,c1,c2,c3,c4,c5,c6,c7,c8,c9,c10,c11,c12,c13,c14,c15,c16,c17,c18]))=xs[4]? :=hf 4 _ rfl
  have z4:Tryz.prog.cellsOf 30=3:=by kernel_rfl
  simp only [z4,List.drop_succ_cons,List.drop_zero,List.take_succ_cons,List.take_zero] at k4
  have l4:4<xs.length:=by rw [hx];decide
  obtain ⟨a4,r4,w4⟩:=ou (k4.trans (List.getElem?_eq_getElem l4)) (eN K0 hy hw (i:=4) rfl (List.getElem?_eq_getElem l4));obtain ⟨rfl, -⟩:=List.cons.inj (show [c0]=[_] from r0);obtain ⟨rfl, -⟩:=List.cons.inj (show [c1]=[_] from r1);have e2:[c2,c3,c4]=[.int .i64 a2.Kind,.int .i64 a2.N,.string a2.S]:=r2;simp only [List.cons.injEq,and_true] at e2;obtain ⟨rfl,rfl,rfl⟩:=e2;have e3:[c5,c6,c7,c8,c9,c10,c11,c12,c13,c14,c15]=[.int .i64 a3.Has,.int .i64 a3.Attrs,.int .i64 a3.Value.Kind,.int .i64 a3.Value.N,.string a3.Value.S,.int .i64 a3.Get.Kind,.int .i64 a3.Get.N,.string a3.Get.S,.int .i64 a3.Set.Kind,.int .i64 a3.Set.N,.string a3.Set.S]:=r3;simp only [List.cons.injEq,and_true] at e3;obtain ⟨rfl,rfl,rfl,rfl,rfl,rfl,rfl,rfl,rfl,rfl,rfl⟩:=e3;have e4:[c16,c17,c18]=[.int .i64 a4.Kind,.int .i64 a4.N,.string a4.S]:=r4;simp only [List.cons.injEq,and_true] at e4;obtain ⟨rfl,rfl,rfl⟩:=e4;exact ⟨⟨a0,a1,a2,a3,a4⟩,J,⟨w0,w1,w2,w3,w4⟩⟩
set_option maxRecDepth 100000 in
theorem I6 {H:Type}{enc:TypeId×Value→H}{hH:World}{r:Reach}{b0:Nat}{base:Nat}{spare:Nat→Bool}{held:Bool}{v:Value}{d:DataW H}{p:List MemPlace}
  (hv:Value.okWide Tryz.prog hH r b0 59 v) (h:DataW.Trod enc Tryz.prog hH base spare held 59 v d p) (hz:Light Tryz.prog 59 d): ∃(m:(List K7)) (Aq_0:Option Addr) (nq_0 cq_0:Nat),v=U Aq_0 nq_0 cq_0∧(JW (fun z59=>yH z59) m)∧(kS qC (U Aq_0 nq_0 cq_0) m).ok (fun _=>False) (fun q=>q<hH.heap.size) hH:=by
 obtain ⟨A,n,c,rfl⟩:=okWide_slice EM hv;obtain ⟨fuel,hf⟩:=h;obtain ⟨m,⟨u,e,h1⟩,hw⟩:=(Gl EM O (by decide) (of_decide_eq_true O) DK) hf hz;obtain ⟨rfl, -⟩:=List.cons.inj (show [_]=[_] from e);exact ⟨m,A,n,c,J,hw,h1⟩
end
section
variable {A1 A10 A12 A13 A14 A3 A4 A5 A6:Option Addr} {B1 B2 B7 B9 M11 M8 c1 c10 c12 c13 c14 c3 c4 c5 c6 n1 n10 n12 n13 n14 n3 n4 n5 n6:Nat}
open Go.RowKit
def Sat {ρ:Type}(m:Option ρ)(R:ρ→Prop):Prop:= ∃r,m=some r∧R r
theorem ah {ρ:Type}{x:ρ}{R:ρ→Prop}(h:R x):Sat (some x) R:=⟨x,rfl,h⟩
theorem Sat.eq {ρ:Type}{m:Option ρ}{x:ρ}(h:Sat m (· =x)):m=some x:=by obtain ⟨r,h1,rfl⟩:=h;exact h1
theorem Sat.mono {ρ:Type}{m:Option ρ}{R Q:ρ→Prop}(h:Sat m R)(k: ∀x,R x→Q x):Sat m Q:=by obtain ⟨r,h1,h2⟩:=h;exact ⟨r,h1,k _ h2⟩
theorem Sat.bind {ρ σ:Type}{m:Option σ}{f:σ→Option ρ}{P:σ→Prop}{R:ρ→Prop}(h:Sat m P)(k: ∀x,P x→Sat (f x) R):Sat (m.bind f) R:=by obtain ⟨x,rfl,h2⟩:=h;exact k x h2
theorem aZ {ρ:Type}{b:Bool}{x y:Option ρ}{R:ρ→Prop}(h1:b=true→Sat x R)(h2:b=false→Sat y R):Sat (bif b then x else y) R:=by cases b with|true=>exact h1 rfl|false=>exact h2 rfl
theorem bz {ρ:Type}{p:Prop}[Decidable p]{x y:Option ρ}{R:ρ→Prop}(h1:p→Sat x R)(h2: ¬p→Sat y R):Sat (bif decide p then x else y) R:=by
 by_cases h:p
 ·rw [Lm h];exact h1 h
 rw [Ln h];exact h2 h
theorem jD {ρ:Type}{b:Bool}{x y:Option ρ}{R:ρ→Prop}(h1:b=false→Sat x R)(h2:b=true→Sat y R):Sat (bif !b then x else y) R:=by cases b with|true=>exact h2 rfl|false=>exact h1 rfl
theorem aR {ρ:Type}{b:Prop}[Decidable b]{m:Option ρ}{R:ρ→Prop}(h:b)(k:Sat m R):Sat (cV b m) R:=by unfold cV;rw [if_pos h];exact k
theorem bP {α ρ:Type}{xs:List α}{i:Int}{f:α→Option ρ}{R:ρ→Prop}(h0:0≤i)(h1:i<xs.length)(k: ∀x,xs[i.toNat]? =some x→Sat (f x) R):Sat ((bE xs i).bind f) R:=by
 unfold bE;rw [if_neg I,List.getElem?_eq_getElem I];exact k _ (List.getElem?_eq_getElem I)
theorem bs {ρ σ:Type}{x:σ}{f:σ→Option ρ}:(some x).bind f=f x:=Eq.trans rfl rfl
theorem ct {ρ:Type}{x y:ρ}:(bif true then x else y)=x:=Eq.trans rfl rfl
theorem cf {ρ:Type}{x y:ρ}:(bif false then x else y)=y:=Eq.trans rfl rfl
theorem nt:(!true)=false:=Eq.trans rfl rfl
theorem nf:(!false)=true:=Eq.trans rfl rfl
theorem kT {ρ:Type}{b:Prop}[Decidable b]{m:Option ρ}(h:b):cV b m=m:=if_pos h
theorem GF {α:Type}{xs:List α}{i:Int}(h0:0≤i)(h1:i.toNat<xs.length):bE xs i=some xs[i.toNat]:=by
 unfold bE;rw [if_neg I,List.getElem?_eq_getElem h1]
theorem nO {α:Type}{xs:List α}{i:Nat}(h1:i<xs.length):bE xs (i:Int)=some xs[i]:=by
 unfold bE;rw [if_neg I,Int.toNat_natCast,List.getElem?_eq_getElem h1]
end
section
variable {A1 A10 A12 A13 A14 A3 A4 A5 A6:Option Addr} {B1 B2 B7 B9 M11 M8 c1 c10 c12 c13 c14 c3 c4 c5 c6 n1 n10 n12 n13 n14 n3 n4 n5 n6:Nat}
open Go.RowKit
def F9 {α β:Type}[DecidableEq α](a:α)(b:β):List (α×β)→List (α×β)
 | []=> [(a,b)]
 |p::l=>if p.1=a then (a,b)::l else p::F9 a b l
theorem Ga {α β:Type}[DecidableEq α](L:List (α×β))(a:α)(b:β):BE L a b=F9 a b L:=by
 have key: ∀(L:List (α×β)) (j:Nat),(∃i c,fp a L j=some (i,c)∧j≤i∧L.set (i - j) (a,b)=F9 a b L)∨(fp a L j=none∧L++ [(a,b)]=F9 a b L):=by
  intro L
  induction L with
  |nil=>intro j;exact .inr ⟨J,J⟩
  | cons p l ih=>
   intro j;obtain ⟨x,y⟩:=p;by_cases e:a=x
   ·refine .inl ⟨j,y,by simp [fp,e],Nat.le_refl _,?_⟩;rw [Nat.sub_self];simp [F9,e]
   have e': ¬x=a:=fun h=>e h.symm
   rcases ih (j+1) with ⟨i,c,h1,h2,h3⟩|⟨h1,h2⟩
   ·refine .inl ⟨i,c,by simp [fp,e,h1],by omega,?_⟩;rw [show i - j=(i - (j+1))+1 by omega,List.set_cons_succ,h3];simp [F9,e']
   exact .inr ⟨by simp [fp,e,h1],by simp [F9,e',h2]⟩
 unfold BE;rcases key L 0 with ⟨i,c,h1, -,h3⟩|⟨h1,h2⟩
 ·rw [h1];exact h3
 rw [h1];exact h2
theorem sT {α β:Type}[DecidableEq α](p:α×β)(l:List (α×β))(x:α):lk (p::l) x=if p.1=x then some p.2 else lk l x:=by
 unfold lk;rw [List.find?_cons];by_cases e:p.1=x<;>simp [e]
theorem Jv {α β:Type}[DecidableEq α](L:List (α×β))(a:α)(b:β)(x:α):lk (BE L a b) x=if a=x then some b else lk L x:=by
 rw [Ga]
 induction L with
 |nil=>rw [F9,sT]
 | cons p l ih=>
  unfold F9;by_cases e:p.1=a
  ·rw [if_pos e,sT,sT,e];by_cases e2:a=x<;>simp [e2]
  rw [if_neg e,sT,sT,ih];by_cases e2:p.1=x
  ·rw [if_pos e2,if_pos e2,if_neg (fun h=>e (by rw [e2,h]))]
  rw [if_neg e2,if_neg e2]
end
section
variable {A1 A10 A12 A13 A14 A3 A4 A5 A6:Option Addr} {B1 B2 B7 B9 M11 M8 c1 c10 c12 c13 c14 c3 c4 c5 c6 n1 n10 n12 n13 n14 n3 n4 n5 n6:Nat}
open Go.RowKit
theorem bv {ρ σ:Type}{b:Bool}{x y:Option σ}{f:σ→Option ρ}{P:σ→Prop}{R:ρ→Prop}(h1:b=true→Sat x P)(h2:b=false→Sat y P)(k: ∀z,P z→Sat (f z) R):Sat ((bif b then x else y).bind f) R:=Sat.bind (aZ h1 h2) k
def Jw (k:Lj):Prop:=k.Kind=0→0≤k.N∧k.N≤4294967294
def qi (a:Int):Prop:=0≤a∧a≤15∧aF .i64 a 9≠9
theorem IB (N:Nat)(a:Int):Sat (kI N a) fun b=>b=true→qi a:=by
 unfold kI
 refine Sat.bind (P:=fun b=>b=true→0≤a∧a≤15) (bz (fun h=>ah fun h1=>⟨h,of_decide_eq_true h1⟩) fun h=>ah fun h=>by cases h) fun b hb=> ?_
 refine bv (P:=fun c=>c=true→qi a) (fun e=>ah fun h=>⟨(hb e).1,(hb e).2,fun h1=> ?_⟩) (fun _=>ah fun h=>by cases h) fun c hc=>ah hc
 rw [Lm h1] at h;cases h
theorem rn {b:ByteArray}{i:Int}(h0:0≤i)(h1:i<(b.size:Int)):Sat (tT b i) fun x=>0≤x∧x≤255:=by
 have h2:i.toNat<b.size:=by omega
 unfold tT;rw [if_pos h0,getElem?_pos b i.toNat h2];exact ⟨((b[i.toNat]).toNat:Int),J,by omega,by have:=(b[i.toNat]).toNat_lt;omega⟩
theorem Jl (x:Int):0≤IntKind.u8.wrap x∧IntKind.u8.wrap x≤255:=by
 have:IntKind.u8.wrap x=x%256:=by rfl
 omega
theorem wu (N:Nat)(s:ByteArray)(hs:s.size≤10): ∀(m i:Nat) (p:Int),s.size<m+i→i≤s.size→0≤p→p+29≤29*(10:Int) ^ i→Sat (nh N s m p (i:Int)) fun _=>True
 |0,i,p,h,h1,_,_=>by omega
 | m+1,i,p,h,h1,h2,h3=>by
  rw [nh.eq_2]
  have h10:(10:Int) ^ i≤10 ^ 10:=by
   have:(10:Nat) ^ i≤10 ^ 10:=Nat.pow_le_pow_right I I
   exact_mod_cast this
  rw [show (10:Int) ^ 10=10000000000 from rfl] at h10
  refine bz (fun h7=> ?_) fun h7=> ?_
  ·refine (rn I h7).bind fun x hx=> ?_
   refine bv (P:=fun _=>True) (fun _=>ah trivial) (fun _=>(rn I h7).bind fun y _=>ah trivial) fun c _=> ?_
   refine aZ (fun _=>ah trivial) fun _=> ?_
   refine aR (by constructor<;>omega) ((rn I h7).bind fun y hy=> ?_);have h8:=Jl (y - 48);rw [show IntKind.i64.wrap (IntKind.u8.wrap (y - 48))=IntKind.u8.wrap (y - 48) from IntWalk.i64_in _ ⟨by omega,by omega⟩];generalize IntKind.u8.wrap (y - 48)=d at h8;refine aR (by constructor<;>omega) (aR (by constructor<;>omega) ?_);exact wu N s hs m (i+1) _ I I I (by rw [Int.pow_succ];omega)
  unfold pI
  exact bz (fun _=>ah trivial) fun _=>ah trivial
theorem E1 (N:Nat)(hN:5000≤N)(s:ByteArray):Sat (jt N s) fun _=>True:=by
 unfold jt;by_cases h10:s.size≤10
 ·cases e:(s.toList==(⟨#[]⟩:ByteArray).toList) with
  |true=>exact ah trivial
  | false=>
   have hs:0<s.size:=by
    rcases Nat.eq_zero_or_pos s.size with h|h
    ·exfalso
     have:s=⟨#[]⟩:=by
      obtain ⟨d⟩:=s;have:d= #[]:=Array.eq_empty_of_size_eq_zero h;rw [this]
     rw [this] at e;rw [beq_self_eq_true] at e;cases e
    exact h
   show Sat (Option.bind (some (decide (10<(s.size:Int)))) _) _;rw [bs,Ln I];show Sat (Option.bind ((tT s 0).bind _) _) _
   refine Sat.bind (P:=fun _=>True) ((rn I I).bind fun x _=>bv (P:=fun _=>True) (fun _=>ah trivial) (fun _=>ah trivial) fun _ _=>ah trivial) fun b _=> ?_
   exact aZ (fun _=>ah trivial) fun _=>wu N s h10 N 0 0 I I I (by decide)
 have:(bif s.toList==(⟨#[]⟩:ByteArray).toList then (some true) else (some (decide (10<(s.size:Int)))))=some true:=by
  cases s.toList==(⟨#[]⟩:ByteArray).toList with
  |true=>rfl
  |false=>show some _=_;rw [Lm I]
 rw [this];exact ah trivial
theorem tM (N:Nat)(hN:5000≤N)(k:Lj):Sat (cW N k) fun b=>b=true→Jw k:=by
 unfold cW
 refine bz (fun h=> ?_) fun h=> ?_
 ·refine bv (P:=fun b=>b=true→0≤k.N) (fun _=>ah fun h=>of_decide_eq_true h) (fun _=>ah fun h=>by cases h) fun b hb=> ?_
  refine bv (P:=fun c=>c=true→Jw k) (fun e=>ah fun h _=>⟨hb e,of_decide_eq_true h⟩) (fun _=>ah fun h=>by cases h) fun c hc=>ah hc
 refine Sat.mono (R:=fun _=>True) ?_ fun _ _ _ h'=>absurd h' h
 refine bz (fun _=> ?_) fun _=> ?_
 ·refine (E1 N hN k.S).bind fun y _=> ?_
  refine bv (P:=fun _=>True) (fun _=>ah trivial) (fun _=>ah trivial) fun b _=> ?_
  exact bv (P:=fun _=>True) (fun _=>ah trivial) (fun _=>ah trivial) fun b _=>ah trivial
 refine bz (fun _=> ?_) fun _=>ah trivial
 exact bv (P:=fun _=>True) (fun _=>ah trivial) (fun _=>ah trivial) fun b _=>ah trivial
theorem Gx (N:Nat){a:Int}(h:qi a):kI N a=some true:=by
 unfold kI;rw [Lm h.1,ct,bs,Lm h.2.1,ct,Ln h.2.2];rfl
def qj (N:Nat)(k:Lj):Prop:=cW N k=some true
def Iy (N:Nat)(x:Lj×Int):Prop:=qj N x.1∧qi x.2
def ka (s:Lh):Lj×Int:=(s.Key,s.Attrs)
def Has (t:K9)(i:Int)(s:Lh):Prop:=0≤i∧t.shapes_[i.toNat]? =some s
theorem Has.lt {t:K9}{i:Int}{s:Lh}(h:Has t i s):0≤i∧i<t.shapes_.length:=by
 have:=(List.getElem?_eq_some_iff.1 h.2).1;exact ⟨h.1,by have:=h.1;omega⟩
theorem Has.get {t:K9}{i:Int}{s:Lh}(h:Has t i s):bE t.shapes_ i=some s:=by
 unfold bE;rw [if_neg (by have:=h.1;omega)];exact h.2
theorem Has.one {t:K9}{i:Int}{s s':Lh}(h:Has t i s)(h':Has t i s'):s=s':=Option.some.inj (h.2.symm.trans h'.2)
def Le (t t':K9):Prop:= ∀i s,Has t i s→Has t' i s
theorem Le.refl (t:K9):Le t t:=fun _ _ h=>h
structure TI (N:Nat) (t:K9):Prop where
 sh: ∀i s,Has t i s→0≤s.Len∧s.Len≤1024∧(0<s.Len→Iy N (ka s)∧ ∃u,Has t s.Up u∧u.Len=s.Len - 1)
 nx: ∀k j,lk t.next_ k=some j→ ∃a b,Has t k.up_ a∧Has t j b∧b.Len=a.Len+1∧b.Up=k.up_∧b.Key=k.key_∧b.Attrs=k.attrs_
inductive Row (t:K9):Int→List (Lj×Int)→Prop
 |nil {i:Int} {s:Lh}:Has t i s→s.Len=0→Row t i []
 |snoc {i:Int} {s:Lh} {l:List (Lj×Int)}:Has t i s→0<s.Len→Row t s.Up l→Row t i (l++ [ka s])
theorem Row.mono {t t':K9}(h:Le t t'){i:Int}{l:List (Lj×Int)}(r:Row t i l):Row t' i l:=by
 induction r with
 |nil h1 h2=>exact .nil (h _ _ h1) h2
 |snoc h1 h2 _ ih=>exact .snoc (h _ _ h1) h2 ih
theorem Row.has {N:Nat}{t:K9}(ti:TI N t){i:Int}{l:List (Lj×Int)}(r:Row t i l): ∃s,Has t i s∧s.Len=l.length:=by
 induction r with
 |nil h1 h2=>exact ⟨_,h1,h2⟩
 |snoc h1 h2 _ ih=>
  obtain ⟨u,u1,u2⟩:=ih;obtain ⟨-, -,a3⟩:=ti.sh _ _ h1;obtain ⟨-,u',b1,b2⟩:=a3 h2;have:=u1.one b1;subst this;exact ⟨_,h1,by rw [List.length_append,List.length_singleton];omega⟩
theorem Row.le {N:Nat}{t:K9}(ti:TI N t){i:Int}{l:List (Lj×Int)}(r:Row t i l):l.length≤1024:=by
 obtain ⟨s,s1,s2⟩:=r.has ti;have:=(ti.sh _ _ s1).2.1;omega
theorem Row.ok {N:Nat}{t:K9}(ti:TI N t){i:Int}{l:List (Lj×Int)}(r:Row t i l): ∀x∈l,Iy N x:=by
 induction r with
 |nil h1 h2=>simp
 |snoc h1 h2 _ ih=>
  intro x hx;rcases List.mem_append.1 hx with hx|hx
  ·exact ih x hx
  rw [List.mem_singleton] at hx;subst hx;exact ((ti.sh _ _ h1).2.2 h2).1
theorem IG (N:Nat)(t:K9)(i:Int):eH N t i=some (decide (0≤i)&&decide (i<(t.shapes_.length:Int))):=by
 unfold eH;cases decide (0≤i)<;>rfl
theorem Has.has (N:Nat){t:K9}{i:Int}{s:Lh}(h:Has t i s):eH N t i=some true:=by
 rw [IG,Lm h.lt.1,Lm h.lt.2];rfl
theorem JD (N:Nat){t:K9}{i:Int}{s:Lh}(h:Has t i s):jC N t i=some (s,true):=by
 unfold jC;rw [h.has N,bs,nt,cf,h.get,bs]
theorem zh (N:Nat){t:K9}{i:Int}{s:Lh}(h:Has t i s):d4 N t i=some s.Len:=by
 unfold d4;rw [JD N h,bs]
theorem Au (N:Nat){t:K9}(ti:TI N t)(lf:List (Lj×Int))(hL:lf.length≤1024): ∀(m:Nat) (p11:Int) (p12:List Lh) (l0 rest:List (Lj×Int)),l0.length<m→lf=l0++rest→p12.length=lf.length→Row t p11 l0→
  (p12.drop l0.length).map ka=rest→Sat (gY N t m p11 p12 ((l0.length:Int) - 1)) fun l=>l.map ka=lf
 |0,_,_,l0,_,h,_,_,_,_=>by omega
 | m+1,p11,p12,l0,rest,h,h1,h2,h3,h4=>by
  rw [gY.eq_2]
  cases h3 with
  |nil h5 h6=>
   rw [Ln (by rw [List.length_nil];omega),cf];exact ah (by rw [h1, ←h4];rfl)
  | @snoc _ s l h5 h6 h7=>
   have e1:((((l++ [ka s]).length:Nat):Int) - 1)=(l.length:Int):=by rw [List.length_append,List.length_singleton];omega
   have e2:lf.length=l.length+1+rest.length:=by rw [h1,List.length_append,List.length_append,List.length_singleton]
   rw [e1,Lm I,ct,h5.get,bs]
   refine bP I I fun x16 _=> ?_
   refine bP I (by rw [List.length_set];omega) fun x17 h8=> ?_
   rw [Int.toNat_natCast,List.getElem?_set_self I] at h8;cases h8;refine aR (by constructor<;>omega) ?_;refine Au N ti lf hL m _ _ l (ka s::rest) (by rw [List.length_append,List.length_singleton] at h;omega) (by rw [h1,Lp];rfl) (by rw [List.length_set];exact h2) h7 ?_;rw [Int.toNat_natCast,List.drop_set,if_neg I,Nat.sub_self,List.drop_eq_getElem_cons (show l.length<p12.length by omega)];rw [List.length_append,List.length_singleton] at h4;rw [List.set_cons_zero,List.map_cons,h4]
theorem yR (N:Nat)(hN:5000≤N){t:K9}(ti:TI N t){i:Int}{l:List (Lj×Int)}(h:Row t i l):Sat (eG N t i) fun r=>r.map ka=l:=by
 obtain ⟨s,s1,s2⟩:=h.has ti;have:=h.le ti;unfold eG;rw [zh N s1,bs,s2];refine aR (by constructor<;>omega) (aR (by rw [List.length_replicate];constructor<;>omega) ?_);rw [List.length_replicate,Int.toNat_natCast];refine Au N ti l this N i _ l [] I (by simp) (by simp) h (by simp)
theorem yg (N:Nat)(y:List Lh)(hy:y.length≤1024): ∀(m i:Nat) (p:List Lj),y.length<m+i→i≤y.length→p=(y.take i).map (·.Key)→Sat (ia N y m p (i:Int)) fun l=>l=y.map (·.Key)
 |0,i,p,h,h1,_=>by omega
 | m+1,i,p,h,h1,h2=>by
  rw [ia.eq_2]
  have hp:p.length≤i:=by rw [h2,List.length_map,List.length_take];omega
  refine bz (fun h7=> ?_) fun h7=> ?_
  ·refine bP I h7 fun x hx=> ?_
   refine aR (by unfold gv;rw [List.length_singleton];omega) (aR (by constructor<;>omega) ?_);refine yg N y hy m (i+1) _ I I ?_;rw [Int.toNat_natCast] at hx;rw [h2,List.take_add_one,hx,List.map_append];rfl
  exact ah (by rw [h2,List.take_of_length_le I])
theorem CQ (N:Nat)(hN:5000≤N){t:K9}(ti:TI N t){i:Int}{l:List (Lj×Int)}(h:Row t i l):ej N t i=some (l.map (·.1)):=by
 have:=h.le ti;refine Sat.eq ?_;unfold ej
 refine (yR N hN ti h).bind fun r hr=> ?_
 have e:r.length=l.length:=by rw [←hr,List.length_map]
 exact (yg N r I N 0 [] I I J).mono fun x hx=>by rw [hx, ←hr,List.map_map];rfl
theorem xc (N:Nat)(y:List Lh)(hy:y.length≤1024): ∀(m i:Nat) (p:List Int),y.length<m+i→i≤y.length→p=(y.take i).map (·.Attrs)→Sat (gL N y m p (i:Int)) fun l=>l=y.map (·.Attrs)
 |0,i,p,h,h1,_=>by omega
 | m+1,i,p,h,h1,h2=>by
  rw [gL.eq_2]
  have hp:p.length≤i:=by rw [h2,List.length_map,List.length_take];omega
  refine bz (fun h7=> ?_) fun h7=> ?_
  ·refine bP I h7 fun x hx=> ?_
   refine aR (by unfold gv;rw [List.length_singleton];omega) (aR (by constructor<;>omega) ?_);refine xc N y hy m (i+1) _ I I ?_;rw [Int.toNat_natCast] at hx;rw [h2,List.take_add_one,hx,List.map_append];rfl
  exact ah (by rw [h2,List.take_of_length_le I])
theorem FI (N:Nat)(hN:5000≤N){t:K9}(ti:TI N t){i:Int}{l:List (Lj×Int)}(h:Row t i l):fN N t i=some (l.map (·.2)):=by
 have:=h.le ti;refine Sat.eq ?_;unfold fN
 refine (yR N hN ti h).bind fun r hr=> ?_
 have e:r.length=l.length:=by rw [←hr,List.length_map]
 exact (xc N r I N 0 [] I I J).mono fun x hx=>by rw [hx, ←hr,List.map_map];rfl
def In (l:List (Lj×Int))(k:Lj)(r:Int×Int×Bool):Prop:=(r=(0,0,false)∧ ∀x∈l,x.1≠k)∨ ∃n:Nat,r.1=n∧r.2.2=true∧l[n]? =some (k,r.2.1)
theorem yo (N:Nat){t:K9}(ti:TI N t)(k:Lj): ∀(m:Nat) (i:Int) (s:Lh) (l:List (Lj×Int)),l.length<m→Has t i s→Row t i l→Sat (gJ N t k m s.Up s.Key.Kind s.Key.N s.Key.S s.Attrs s.Len) (In l k)
 |0,i,s,l,h,h1,h2=>by omega
 | m+1,i,s,l,h,h1,h2=>by
  rw [gJ.eq_2];have hle:=h2.le ti
  cases h2 with
  |nil h5 h6=>
   have:=h1.one h5;subst this;rw [Ln I,cf];exact ah (.inl ⟨J,by simp⟩)
  | @snoc _ s' l h5 h6 h7=>
   have:=h1.one h5;subst this;rw [List.length_append,List.length_singleton] at h hle;obtain ⟨u,u1,u2⟩:=h7.has ti;obtain ⟨a1,a2,a3⟩:=ti.sh _ _ h1;obtain ⟨b1,u',b2,b3⟩:=a3 h6;have:=u1.one b2;subst this;rw [Lm h6,ct]
   refine bz (fun e=>aR (by constructor<;>omega) (ah (.inr ⟨l.length,by show s.Len - 1=_;omega,rfl,?_⟩))) fun e=> ?_
   ·rw [List.getElem?_append_right (Nat.le_refl _),Nat.sub_self];show some (ka s)=_;rw [show k=s.Key from e.symm];rfl
   rw [u1.get,bs]
   refine (yo N ti k m _ u l I u1 h7).mono fun r hr=> ?_
   rcases hr with ⟨r1,r2⟩|⟨n,r1,r2,r3⟩
   ·refine .inl ⟨r1,fun x hx=> ?_⟩;rcases List.mem_append.1 hx with hx|hx
    ·exact r2 x hx
    rw [List.mem_singleton] at hx;subst hx;exact e
   exact .inr ⟨n,r1,r2,by rw [List.getElem?_append_left (List.getElem?_eq_some_iff.1 r3).1];exact r3⟩
theorem rp (N:Nat)(hN:5000≤N){t:K9}(ti:TI N t){i:Int}{l:List (Lj×Int)}(h:Row t i l)(k:Lj):Sat (dM N t i k) (In l k):=by
 obtain ⟨s,s1,s2⟩:=h.has ti;have:=h.le ti;unfold dM;rw [s1.has N,bs,nt,cf,s1.get,bs];exact yo N ti k N i s l I s1 h
theorem uz (N:Nat){t:K9}(ti:TI N t)(n:Nat): ∀(m:Nat) (i:Int) (l:List (Lj×Int)),l.length<m→Row t i l→n≤l.length→Sat (gp N (n:Int) t m i) fun r=>Row t r (l.take n)
 |0,i,l,h,h1,h2=>by omega
 | m+1,i,l,h,h1,h2=>by
  obtain ⟨s,s1,s2⟩:=h1.has ti;rw [gp.eq_2,s1.get,bs]
  refine bz (fun h7=> ?_) fun h7=>ah (by rw [List.take_of_length_le I];exact h1)
  rw [bs]
  cases h1 with
  |nil h5 h6=>rw [List.length_nil] at s2;omega
  | @snoc _ s' l h5 h6 h8=>
   have:=s1.one h5;subst this;rw [List.length_append,List.length_singleton] at h s2 h2;rw [List.take_append_of_le_length I];exact uz N ti n m _ l I h8 I
theorem yz (N:Nat)(hN:5000≤N){t:K9}(ti:TI N t){i:Int}{l:List (Lj×Int)}(h:Row t i l)(n:Nat)(h2:n≤l.length):Sat (fw N t i (n:Int)) fun r=>Row t r (l.take n):=by
 have:=h.le ti;unfold fw;exact uz N ti n N i l I h h2
structure Grow (N:Nat) (t t':K9) (n:Nat):Prop where
 ti:TI N t'
 le:Le t t'
 num:t'.shapes_.length≤t.shapes_.length+n
def Bx (N:Nat)(t:K9)(l:List (Lj×Int))(n:Nat)(r:Int×Int×K9):Prop:=r.2.1=0∧Grow N t r.2.2 n∧Row r.2.2 r.1 l
theorem Has.app {t:K9}{i:Int}{s x:Lh}{n:List (Lb×Int)}(h:Has t i s):Has ⟨t.shapes_++ [x],n⟩ i s:=
 ⟨h.1,by rw [List.getElem?_append_left (List.getElem?_eq_some_iff.1 h.2).1];exact h.2⟩
theorem CP (N:Nat)(t:K9)(l:List Lh)(hl: ∀x∈l,Iy N (ka x))(lf:List (Lj×Int))(hT:lf.length≤1024)(hb:t.shapes_.length+l.length≤1073741824): ∀(m i:Nat) (p24:Int) (t':K9) (l0:List (Lj×Int)),l.length<m+i→i≤l.length→TI N t'→Le t t'→t'.shapes_.length=t.shapes_.length+i→Row t' p24 l0→lf=l0++(l.drop i).map ka→Sat (gZ N l m p24 (i:Int) t'.shapes_ t'.next_) (Bx N t lf l.length)
 |0,i,_,_,_,h,h1,_,_,_,_,_=>by omega
 | m+1,i,p24,t',l0,h,h1,ti,le,h2,h3,h4=>by
  rw [gZ.eq_2]
  refine bz (fun h7=> ?_) fun h7=>ah ⟨J,⟨ti,le,by show t'.shapes_.length≤_;omega⟩,by rw [h4,List.drop_of_length_le I,List.map_nil,List.append_nil];exact h3⟩
  obtain ⟨a,h3a,h3b⟩:=h3.has ti;rw [nO (show i<l.length by omega),bs];rw [h3a.get,bs];obtain ⟨a1,a2,a3⟩:=ti.sh _ _ h3a;have hox:=hl l[i] (List.getElem_mem _);have e4:l.drop i=l[i]::l.drop (i+1):=List.drop_eq_getElem_cons _
  have e5:l0.length+1≤lf.length:=by rw [h4,e4,List.length_append,List.map_cons,List.length_cons];omega
  generalize l[i]=x at*
  have e1:(t'.shapes_++ [(⟨p24,x.Key,x.Attrs,a.Len+1⟩:Lh)]).length=t'.shapes_.length+1:=by rw [List.length_append,List.length_singleton]
  have e2:((((t'.shapes_++ [(⟨p24,x.Key,x.Attrs,a.Len+1⟩:Lh)]).length:Nat):Int) - 1)=(t'.shapes_.length:Int):=by omega
  refine aR (by constructor<;>omega) (aR (by unfold gv;rw [List.length_singleton];omega) (aR (by rw [e2];constructor<;>omega) (aR (by constructor<;>omega) ?_)));rw [e2]
  have hnew:Has ⟨t'.shapes_++ [(⟨p24,x.Key,x.Attrs,a.Len+1⟩:Lh)],BE t'.next_ ⟨p24,x.Key,x.Attrs⟩ (t'.shapes_.length:Int)⟩ (t'.shapes_.length:Int) ⟨p24,x.Key,x.Attrs,a.Len+1⟩:=
   ⟨by omega,by simp⟩
  refine CP N t l hl lf hT hb m (i+1) _ ⟨_,BE t'.next_ ⟨p24,x.Key,x.Attrs⟩ (t'.shapes_.length:Int)⟩ (l0++ [ka x]) I I ⟨?_,?_⟩ (fun j s hs=>(le j s hs).app) (by show (t'.shapes_++_).length=_;omega) (Row.snoc (s:=⟨p24,x.Key,x.Attrs,a.Len+1⟩) hnew (by show 0<a.Len+1;omega) (h3.mono fun j s hs=>hs.app)) (by rw [h4,e4,List.map_cons,Lp];rfl)
  ·intro j s hs;by_cases e:j.toNat<t'.shapes_.length
   ·have hs':Has t' j s:=⟨hs.1,by have:=hs.2;rwa [List.getElem?_append_left e] at this⟩;obtain ⟨b1,b2,b3⟩:=ti.sh _ _ hs';exact ⟨b1,b2,fun h=>let ⟨c1,u,c2,c3⟩:=b3 h;⟨c1,u,c2.app,c3⟩⟩
   have hlt:=hs.lt
   have e3:j=(t'.shapes_.length:Int):=by
    have:(j.toNat:Int)<(t'.shapes_++ [(⟨p24,x.Key,x.Attrs,a.Len+1⟩:Lh)]).length:=by have:=hlt.2;simp only at this;omega
    have:=hlt.1;omega
   subst e3;have:=hs.one hnew;subst this;exact ⟨by show 0≤a.Len+1;omega,by show a.Len+1≤1024;omega,fun _=>⟨hox,a,h3a.app,by show a.Len=a.Len+1 - 1;omega⟩⟩
  intro k j hk;change lk (BE t'.next_ ⟨p24,x.Key,x.Attrs⟩ (t'.shapes_.length:Int)) k=some j at hk;rw [Jv] at hk;split at hk
  ·rename_i e
   cases hk;subst e;exact ⟨a,_,h3a.app,hnew,J,J,J,J⟩
  obtain ⟨c,d,c1,c2,c3⟩:=ti.nx k j hk;exact ⟨c,d,c1.app,c2.app,c3⟩
theorem IF (N:Nat)(hN:5000≤N){t:K9}(ti:TI N t)(at_:Int)(l:List Lh)(hl: ∀x∈l,Iy N (ka x))(l0:List (Lj×Int))(hT:l0.length+l.length≤1024)(hb:t.shapes_.length+l.length≤1073741824)(h:Row t at_ l0):Sat (fc N t at_ l) (Bx N t (l0++l.map ka) l.length):=by
 unfold fc;refine aR (by constructor<;>omega) (bz (fun h7=>by omega) fun h7=> ?_);exact CP N t l hl _ (by rw [List.length_append,List.length_map];exact hT) hb N 0 at_ t l0 I I ti (Le.refl t) J h J
theorem AO (N:Nat)(hN:5000≤N){t:K9}(ti:TI N t)(n:Nat): ∀(m:Nat) (at_:Int) (l:List Lh) (l0:List (Lj×Int)),l.length<m→l.length≤n→l0.length+l.length≤1024→t.shapes_.length+n≤1073741824→(∀x∈l,Iy N (ka x))→Row t at_ l0→Sat (iG N t m at_ l) (Bx N t (l0++l.map ka) n)
 |0,_,_,_,h,_,_,_,_,_=>by omega
 | m +1,at_,l,l0,h,hn,h0,hb,hl,ha=>by
  rw [iG.eq_2]
  have h5:Sat (fc N t at_ l) (Bx N t (l0++l.map ka) n):=(IF N hN ti at_ l hl l0 h0 I ha).mono fun r hr=>⟨hr.1,⟨hr.2.1.ti,hr.2.1.le,by have:=hr.2.1.num;omega⟩,hr.2.2⟩
  refine bz (fun h7=> ?_) fun h7=>h5
  cases l with
  |nil=>rw [List.length_nil] at h7;omega
  | cons x l=>
   rw [show bE (x::l) 0=some x from rfl,bs,bs]
   cases e:lk t.next_ (⟨at_,x.Key,x.Attrs⟩:Lb) with
   |none=>exact h5
   | some j=>
    show Sat (cV _ _) _;refine aR ⟨by decide,by show 1≤l.length+1;omega,Nat.le_refl _⟩ ?_;obtain ⟨c,d,c1,c2,c3,c4,c5,c6⟩:=ti.nx _ _ e
    have e5:(((x::l).drop ((1:Int).toNat)).take ((x::l).length - (1:Int).toNat))=l:=by
     show (l.take (l.length+1 - 1))=l;exact List.take_of_length_le I
    rw [e5]
    have hd:0<d.Len:=by have:=(ti.sh _ _ c1).1;omega
    have hr:Row t j (l0++ [ka x]):=by
     have:=Row.snoc c2 hd (by rw [c4];exact ha)
     rwa [show ka d=ka x by unfold ka;rw [c5,c6]] at this
    rw [List.length_cons] at h hn h0;have:=AO N hN ti n m j l (l0++ [ka x]) I I (by rw [List.length_append,List.length_singleton];omega) hb (fun z hz=>hl z (List.mem_cons_of_mem _ hz)) hr
    rwa [Lp] at this
theorem BR (N:Nat)(hN:5000≤N){t:K9}(ti:TI N t)(at_:Int)(l:List Lh)(hl: ∀x∈l,Iy N (ka x))(l0:List (Lj×Int))(hT:l0.length+l.length≤1024)(hb:t.shapes_.length+1024≤1073741824)(ha:Row t at_ l0):Sat (gI N t at_ l) (Bx N t (l0++l.map ka) 1024):=
 AO N hN ti 1024 N at_ l l0 I I hT hb hl ha
theorem xd (N:Nat)(hN:5000≤N){t:K9}{i:Int}{s:Lh}(h:Has t i s)(k:Lj)(a:Int):Sat (eO N t i k a) fun r=>(r=0∧qj N k∧qi a)∨(r≠0∧ ¬(qj N k∧qi a)):=by
 unfold eO;rw [h.has N,bs,nt,cf];obtain ⟨b,h1, -⟩:=tM N hN k;obtain ⟨c,h2,h3⟩:=IB N a;rw [h1,bs,h2]
 cases b with
 |false=>exact ah (.inr ⟨by decide,fun h=>by have:=h.1;unfold qj at this;rw [h1] at this;cases this⟩)
 |true=>
  cases c with
  |false=>exact ah (.inr ⟨by decide,fun h=>by have:=Gx N h.2;rw [h2] at this;cases this⟩)
  |true=>exact ah (.inl ⟨rfl,h1,h3 rfl⟩)
theorem CK (N:Nat)(hN:5000≤N){t:K9}(ti:TI N t)(hb:t.shapes_.length+1024≤1073741824){i:Int}{l:List (Lj×Int)}(h:Row t i l)(k:Lj)(a:Int)(hk: ∀x∈l,x.1≠k)(hl:l.length<1024):Sat (iI N t i k a) fun r=>(qj N k∧qi a∧Bx N t (l++ [(k,a)]) 1024 r)∨(¬(qj N k∧qi a)∧r.2.1≠0∧r.2.2=t):=by
 obtain ⟨s,s1,s2⟩:=h.has ti;unfold iI
 refine (xd N hN s1 k a).bind fun y hy=> ?_
 rcases hy with ⟨rfl,h1,h2⟩|⟨h1,h2⟩
 ·show Sat (Option.bind _ _) _
  refine (rp N hN ti h k).bind fun z hz=> ?_
  rcases hz with ⟨rfl, -⟩|⟨n,z1,z2,z3⟩
  ·show Sat (Option.bind _ _) _;rw [zh N s1,bs]
   refine bz (fun _=>by omega) fun _=> ?_
   refine (BR N hN ti i [(⟨0,k,a,0⟩:Lh)] (fun x hx=>by rw [List.mem_singleton] at hx;subst hx;exact ⟨h1,h2⟩) l (by rw [List.length_singleton];omega) hb h).bind fun r hr=>ah (.inl ⟨h1,h2,hr⟩)
  exact absurd J (hk _ (List.mem_of_getElem? z3))
 rw [Ln h1,nf,ct];exact ah (.inr ⟨h2,h1,J⟩)
theorem yw (N:Nat)(hN:5000≤N){t:K9}(ti:TI N t)(hb:t.shapes_.length+1024≤1073741824){i:Int}{l:List (Lj×Int)}(h:Row t i l)(hd:(l.map (·.1)).Nodup)(k:Lj)(a:Int)(n:Nat)(a0:Int)(hn:l[n]? =some (k,a0)):Sat (gK N t i k a) fun r=>(qi a∧Bx N t (l.set n (k,a)) 1024 r)∨(¬qi a∧r.2.1≠0∧r.2.2=t):=by
 obtain ⟨s,s1,s2⟩:=h.has ti;have hle:=h.le ti;have hlt:=(List.getElem?_eq_some_iff.1 hn).1;unfold gK
 refine (xd N hN s1 k a).bind fun y hy=> ?_
 rcases hy with ⟨rfl,h1,h2⟩|⟨h1,h2⟩
 ·show Sat (Option.bind _ _) _
  refine (rp N hN ti h k).bind fun z hz=> ?_
  rcases hz with ⟨rfl,z1⟩|⟨n',z1,z2,z3⟩
  ·exact absurd J (z1 _ (List.mem_of_getElem? hn))
  have:n'=n:=by
   have g1:(l.map (·.1))[n']? =some k:=by rw [List.getElem?_map,z3];rfl
   have g2:(l.map (·.1))[n]? =some k:=by rw [List.getElem?_map,hn];rfl
   exact (List.getElem?_inj (by rw [List.length_map];exact (List.getElem?_eq_some_iff.1 z3).1) hd).1 (g1.trans g2.symm)
  subst this;rw [z2];show Sat (Option.bind _ _) _
  refine (yR N hN ti h).bind fun r hr=> ?_
  have e:r.length=l.length:=by rw [←hr,List.length_map]
  rw [z1,Int.toNat_natCast];refine aR ⟨by omega,by omega⟩ ?_
  refine bP I (by rw [List.length_drop];omega) fun x hx=> ?_
  refine (yz N hN ti h n' I).bind fun b hbf=> ?_
  have hx2:ka x=(k,z.2.1):=by
   rw [show (0:Int).toNat=0 from rfl,List.getElem?_drop,Nat.add_zero] at hx
   have:(r.map ka)[n']? =some (ka x):=by rw [List.getElem?_map,hx];rfl
   rw [hr,z3] at this;exact (Option.some.inj this).symm
  have hxk:x.Key=k:=congrArg Prod.fst hx2
  have hm: ∀q∈List.set (List.drop n' r) ((0:Int).toNat) (⟨x.Up,(⟨x.Key.Kind,x.Key.N,x.Key.S⟩:Lj),a,x.Len⟩:Lh),Iy N (ka q):=fun q hq=>by
   rcases List.mem_or_eq_of_mem_set hq with hq|rfl
   ·exact h.ok ti _ (by rw [←hr];exact List.mem_map_of_mem (List.mem_of_mem_drop hq))
   exact ⟨by show qj N x.Key;rw [hxk];exact h1,h2⟩
  have e6:(List.set (List.drop n' r) ((0:Int).toNat) (⟨x.Up,(⟨x.Key.Kind,x.Key.N,x.Key.S⟩:Lj),a,x.Len⟩:Lh)).map ka=(l.drop n').set 0 (k,a):=by
   rw [show (0:Int).toNat=0 from rfl,List.map_set,List.map_drop,hr];show (l.drop n').set 0 (x.Key,a)=_;rw [hxk]
  refine (BR N hN ti b _ hm (l.take n') (by rw [List.length_set,List.length_drop,List.length_take];omega) hb hbf).bind fun q hq=>ah (.inl ⟨h2,?_⟩)
  rw [e6] at hq
  have e7:l.take n'++(l.drop n').set 0 (k,a)=l.set n' (k,a):=by
   rw [List.drop_eq_getElem_cons hlt,List.set_cons_zero,List.set_eq_take_append_cons_drop,if_pos hlt]
  rw [e7] at hq;exact hq
 rw [Ln h1,nf,ct];exact ah (.inr ⟨fun h3=>h2 ⟨(h.ok ti _ (List.mem_of_getElem? hn)).1,h3⟩,h1,J⟩)
theorem BB (N:Nat)(hN:5000≤N){t:K9}(ti:TI N t)(hb:t.shapes_.length+1024≤1073741824){i:Int}{l:List (Lj×Int)}(h:Row t i l)(hd:(l.map (·.1)).Nodup)(k:Lj)(n:Nat)(a0:Int)(hn:l[n]? =some (k,a0)):Sat (eU N t i k) (Bx N t (l.eraseIdx n) 1024):=by
 obtain ⟨s,s1,s2⟩:=h.has ti;have hle:=h.le ti;have hlt:=(List.getElem?_eq_some_iff.1 hn).1;unfold eU
 refine (xd N hN s1 k 0).bind fun y hy=> ?_
 rcases hy with ⟨rfl,h1,h2⟩|⟨h1,h2⟩
 ·show Sat (Option.bind _ _) _
  refine (rp N hN ti h k).bind fun z hz=> ?_
  rcases hz with ⟨rfl,z1⟩|⟨n',z1,z2,z3⟩
  ·exact absurd J (z1 _ (List.mem_of_getElem? hn))
  have:n'=n:=by
   have g1:(l.map (·.1))[n']? =some k:=by rw [List.getElem?_map,z3];rfl
   have g2:(l.map (·.1))[n]? =some k:=by rw [List.getElem?_map,hn];rfl
   exact (List.getElem?_inj (by rw [List.length_map];exact (List.getElem?_eq_some_iff.1 z3).1) hd).1 (g1.trans g2.symm)
  subst this;rw [z2,z1];show Sat (Option.bind _ _) _
  refine (yz N hN ti h n' I).bind fun b hbf=> ?_
  refine (yR N hN ti h).bind fun r hr=> ?_
  have e:r.length=l.length:=by rw [←hr,List.length_map]
  have e8:((n':Int)+1).toNat=n'+1:=by omega
  refine aR (by constructor<;>omega) (aR ⟨by omega,by omega,Nat.le_refl _⟩ ?_);rw [e8];have e6:((r.drop (n'+1)).take (r.length - (n'+1)))=r.drop (n'+1):=List.take_of_length_le (by rw [List.length_drop];omega);rw [e6]
  refine (BR N hN ti b _ (fun q hq=>h.ok ti _ (by rw [←hr];exact List.mem_map_of_mem (List.mem_of_mem_drop hq))) (l.take n') (by rw [List.length_drop,List.length_take];omega) hb hbf).bind fun q hq=>ah ?_
  rw [List.map_drop,hr, ←List.eraseIdx_eq_take_drop_succ] at hq;exact hq
 exact absurd ⟨(h.ok ti _ (List.mem_of_getElem? hn)).1,by decide,by decide,by decide⟩ h2
end
section
variable {A1 A10 A12 A13 A14 A3 A4 A5 A6:Option Addr} {B1 B2 B7 B9 M11 M8 c1 c10 c12 c13 c14 c3 c4 c5 c6 n1 n10 n12 n13 n14 n3 n4 n5 n6:Nat}
open Go.RowKit
theorem Fo (N:Nat)(a b:Int):Sat (kk N a b) fun _=>True:=by
 unfold kk oG;rw [bs,bs,Lm rfl,Lm rfl];simp only [nt,cf]
 exact aZ (fun _=>ah trivial) fun _=>aZ (fun _=>ah trivial) fun _=>ah trivial
theorem sL (N:Nat)(a b:Lj):Sat (js N a b) fun _=>True:=by
 unfold js
 refine bv (P:=fun _=>True) (fun _=>ah trivial) (fun _=>ah trivial) fun c _=> ?_
 exact aZ (fun _=>(Fo N _ _).bind fun _ _=>ah trivial) fun _=>(Fo N _ _).bind fun _ _=>ah trivial
theorem mp {a b:Int}(h0:0≤a)(h1:a≤b)(h2:b≤100000):IntKind.i64.wrap ((IntKind.u64.wrap (a+b)).fdiv (2 ^ 1))=(a+b) / 2:=by
 rw [IntWalk.u64_in _ ⟨by omega,by omega⟩,Int.fdiv_eq_ediv_of_nonneg _ I,show (2:Int) ^ 1=2 from rfl,IntWalk.i64_in _ ⟨by omega,by omega⟩]
section
variable (N:Nat) (hN:20000≤N) (n:Nat) (hn:n≤6000)
include hN hn
section
variable (kb:List Lj→Int→Int→Int→Option (List Lj)) (a q b:Int) (h0:0≤a) (h1:a<q) (h2:q<b) (h3:b≤n)
variable (hk: ∀(l:List Lj) (x y z:Int),a≤x→x<y→y<z→z≤b→z - x<b - a→l.length=n→Sat (kb l x y z) fun r=>r.length=n)
include h0 h1 h2 h3
end
end
end
section
variable {A1 A10 A12 A13 A14 A3 A4 A5 A6:Option Addr} {B1 B2 B7 B9 M11 M8 c1 c10 c12 c13 c14 c3 c4 c5 c6 n1 n10 n12 n13 n14 n3 n4 n5 n6:Nat}
open Go.RowKit
def rM (x:Lf):Prop:= -9223372036854775808≤x.N∧x.N≤9223372036854775807
theorem yI:rM ⟨0,0,⟨#[]⟩⟩:=⟨by decide,by decide⟩
structure goodC (c:La):Prop where
 sl:c.Slots.length≤5000
 ml:c.More.length≤5000
 sv: ∀x∈c.Slots,rM x
 mv: ∀x∈c.More,rM x
theorem H9:goodC ⟨0,0,0,0,[],[]⟩:=⟨by decide,by decide,by simp,by simp⟩
theorem ve (N:Nat){c:La}(h:goodC c):ge N c=some c:=by
 have h1: ∀l:List Lf,l.length≤5000→jj N l=some l:=fun l hl=>by
  unfold jj;rw [kT (by unfold gv;simp;omega),List.nil_append]
 unfold ge;rw [h1 _ h.sl,bs,h1 _ h.ml,bs]
theorem G1 (N:Nat)(x:Lf):Sat (gT N x) fun _=>True:=by
 unfold gT gb
 refine bz (fun _=>bv (P:=fun _=>True) (fun _=>ah trivial) (fun _=>ah trivial) fun _ _=>ah trivial) fun _=>jD (fun _=>ah trivial) fun _=> ?_
 have hj: ∀p:Bool,Sat (bif p then some (decide (1≤x.N)) else ((bif decide (x.N=0) then (some (decide (0≤x.Kind))) else (some false)).bind fun b14=>(bif b14 then (some (decide (x.Kind≤9))) else (some false)).bind fun b15=>some b15)) fun _=>True:=fun p=>
  aZ (fun _=>ah trivial) fun _=>bv (P:=fun _=>True) (fun _=>ah trivial) (fun _=>ah trivial) fun _ _=>bv (P:=fun _=>True) (fun _=>ah trivial) (fun _=>ah trivial) fun _ _=>ah trivial
 refine bz (fun _=>bv (P:=fun _=>True) (fun _=>ah trivial) (fun _=>ah trivial) fun _ _=>ah trivial) fun _=> ?_
 refine bz (fun _=>bv (P:=fun _=>True) (fun _=>ah trivial) (fun _=>ah trivial) fun _ _=>ah trivial) fun _=> ?_
 exact bz (fun _=>hj _) fun _=>bz (fun _=>hj _) fun _=>hj _
def JY (r:Option Exit×Unit):Prop:=r.1=none∨r.1=some Exit.ret
theorem CO (N:Nat)(c:La)(x:Bool×Lf):Sat (iP (fun x st=>cO N c x st) x (none,())) fun r=>JY r.2∧(r.1=true→r.2=(none,())):=by
 obtain ⟨y,hy, -⟩:=G1 N x.2;unfold iP cO;simp only [hy,bs]
 cases y with
 |true=>exact ⟨_,rfl,.inl rfl,fun _=>rfl⟩
 |false=>exact ⟨_,rfl,.inr rfl,fun h=>by cases h⟩
theorem Br (N:Nat)(c:La)(hc:c.More.length≤5000): ∀(m i:Nat),c.More.length<m+i→i≤c.More.length→Sat (iT N (iP (fun x st=>cO N c x st)) c m (i:Int) (none,())) JY
 |0,i,h,h1=>by omega
 |m+1,i,h,h1=>by
  rw [iT.eq_2]
  refine bz (fun h2=>bP I h2 fun x _=> ?_) fun _=>ah (.inl J)
  refine bv (P:=fun _=>True) (fun _=>bv (P:=fun _=>True) (fun _=>ah trivial) (fun _=>ah trivial) fun _ _=>ah trivial) (fun _=>ah trivial) fun b _=> ?_
  refine (CO N c (b,x)).bind fun y hy=>jD (fun _=>ah hy.1) fun e=> ?_
  rw [hy.2 e];exact aR (by constructor<;>omega) (Br N c hc m (i+1) I I)
theorem yA (N:Nat)(hN:20000≤N)(c:La)(hs:c.Slots.length≤5000)(hc:c.More.length≤5000): ∀(m i:Nat),c.Slots.length<m+i→i≤c.Slots.length→Sat (jy N (iP (fun x st=>cO N c x st)) c m (i:Int) (none,())) JY
 |0,i,h,h1=>by omega
 |m+1,i,h,h1=>by
  rw [jy.eq_2]
  refine bz (fun h2=>bP I h2 fun x _=> ?_) fun _=>Br N c hc N 0 I I
  refine (CO N c (true,x)).bind fun y hy=>jD (fun _=>ah hy.1) fun e=> ?_
  rw [hy.2 e];exact aR (by constructor<;>omega) (yA N hN c hs hc m (i+1) I I)
theorem EA (N:Nat)(c:La)(hk:c.Kind=1∨c.Kind=2∨c.Kind=5):Sat (eK N c) fun _=>True:=by
 unfold eK
 have h1:lU N c.Kind=some (decide (c.Kind=1∨c.Kind=2)):=by
  unfold lU gc;rcases hk with h|h|h<;>rw [h]<;>rfl
 have hor: ∀x k,Sat (fk N x k) fun _=>True:=fun x k=>by
  unfold fk
  exact bv (P:=fun _=>True) (fun _=>ah trivial) (fun _=>ah trivial) fun _ _=>ah trivial
 rw [h1,bs]
 refine bv (P:=fun _=>True) (fun _=>ah trivial) (fun _=>bv (P:=fun _=>True) (fun _=>ah trivial) (fun _=>ah trivial) fun _ _=>ah trivial) fun b _=>aZ (fun _=> ?_) fun _=> ?_
 ·refine bv (P:=fun b=>b=true→1≤(c.Slots.length:Int)) (fun e=>ah fun _=>of_decide_eq_true e) (fun _=>ah fun h=>by cases h) fun b hb=> ?_
  refine bv (P:=fun _=>True) (fun e=> ?_) (fun _=>ah trivial) fun _ _=>ah trivial
  have:=hb e
  exact bP I I fun x _=>bv (P:=fun _=>True) (fun _=>ah trivial) (fun _=>bP I I fun x _=>ah trivial) fun _ _=>ah trivial
 refine bz (fun _=>ah trivial) fun _=>bv (P:=fun _=>True) (fun _=>ah trivial) (fun _=>ah trivial) fun _ _=>aZ (fun _=>ah trivial) fun _=>bz (fun _=> ?_) fun _=>ah trivial
 refine bv (P:=fun b=>b=true→(c.Slots.length:Int)=2) (fun e=> ?_) (fun _=>ah fun h=>by cases h) fun b hb=> ?_
 ·have:=of_decide_eq_true e
  exact bP I I fun x _=>(hor _ _).bind fun _ _=>ah fun _=>this
 refine bv (P:=fun _=>True) (fun e=> ?_) (fun _=>ah trivial) fun _ _=>ah trivial
 have:=hb e
 exact bP I I fun x _=>(hor _ _).bind fun _ _=>ah trivial
theorem AL (N:Nat)(k:Int)(l:List Lf)(hk:k=1∨k=2∨k=5):iy N k l=some (decide ((l.length:Int)≤1048576)&&bif decide (k=2) then decide ((l.length:Int)≤4096) else decide ((l.length:Int)=0)):=by
 unfold iy jc;by_cases h:(1048576:Int)<l.length
 ·rw [Lm h,ct,Ln (show¬(l.length:Int)≤1048576 by omega)];rfl
 rw [Ln h,cf,Lm (show (l.length:Int)≤1048576 by omega)];rcases hk with rfl|rfl|rfl<;>rfl
theorem ED (N:Nat)(hN:20000≤N)(c:La)(hk:c.Kind=1∨c.Kind=2∨c.Kind=5)(hs:c.Slots.length≤5000)(hc:c.More.length≤5000):Sat (dl N c) fun b=>b=true→(0≤c.Flags∧c.Flags≤63)∧(c.Kind=2→c.More.length≤4096)∧(c.Kind=1→c.More=[]):=by
 unfold dl
 refine bv (P:=fun _=>True) (fun _=>ah trivial) (fun _=>ah trivial) fun b5 _=> ?_
 refine bv (P:=fun _=>True) (fun _=>ah trivial) (fun _=>ah trivial) fun b6 _=> ?_
 refine bv (P:=fun b=>b=false→0≤c.Flags) (fun _=>ah fun h=>by cases h) (fun _=>ah fun h=>by have:=of_decide_eq_false h;omega) fun b7 h7=> ?_
 refine bv (P:=fun b=>b=false→0≤c.Flags∧c.Flags≤63) (fun _=>ah fun h=>by cases h) (fun e=>ah fun h=>⟨h7 e,by have:=of_decide_eq_false h;omega⟩) fun b8 h8=> ?_
 refine bv (P:=fun b=>b=false→0≤c.Flags∧c.Flags≤63) (fun _=>ah fun h=>by cases h) (fun e=>bv (P:=fun _=>True) (fun _=>ah trivial) (fun _=>ah trivial) fun _ _=>ah fun _=>h8 e) fun b9 h9=> ?_
 refine aZ (fun _=>ah fun h=>by cases h) fun e=> ?_
 show Sat (Option.bind (some ()) _) _;rw [bs]
 refine (yA N hN c hs hc N 0 I I).bind fun y hy=> ?_
 rcases hy with hy|hy
 ·rw [hy];show Sat (Option.bind _ _) _
  refine (EA N c hk).bind fun z _=> ?_
  rw [AL N _ _ hk,bs]
  refine bv (P:=fun b=>b=true→(0≤c.Flags∧c.Flags≤63)∧(c.Kind=2→c.More.length≤4096)∧(c.Kind=1→c.More=[])) (fun _=>ah fun h=>⟨h9 e,fun h2=> ?_,fun h2=> ?_⟩) (fun _=>ah fun h=>by cases h) fun b hb=>ah hb
  ·rw [Lm h2,ct,Bool.and_eq_true] at h;have:=of_decide_eq_true h.2;omega
  rw [Ln (show¬c.Kind=2 by omega),cf,Bool.and_eq_true] at h;exact List.eq_nil_of_length_eq_zero (by have:=of_decide_eq_true h.2;omega)
 rw [hy]
 exact ah fun h=>by cases h
def nL (N:Nat)(x:Lf):Prop:=gT N x=some true
def F8 (N:Nat)(x:Lf):Prop:=rM x∧nL N x
theorem EX (N:Nat)(k n:Int)(h5:k≠5):gT N ⟨k,n,⟨#[]⟩⟩=(bif decide (k=2) then ((bif decide (n=0) then (some true) else (some (decide (n=1)))).bind fun b6=>some b6) else (bif decide (k=3) then ((bif decide ((-9007199254740992)≤n) then (some (decide (n≤9007199254740992))) else (some false)).bind fun b8=>some b8) else (bif decide (k=6) then (gb N ⟨k,n,⟨#[]⟩⟩ (decide (k=6))) else (bif decide (k=7) then (gb N ⟨k,n,⟨#[]⟩⟩ (decide (k=7))) else (gb N ⟨k,n,⟨#[]⟩⟩ (decide (k=9))))))):=by
 unfold gT;rw [Ln (show¬(⟨k,n,⟨#[]⟩⟩:Lf).Kind=5 from h5),cf,show ((⟨k,n,⟨#[]⟩⟩:Lf).S.toList==(⟨#[]⟩:ByteArray).toList)=true from beq_self_eq_true _,nt,cf]
theorem BQ (N:Nat):nL N ⟨0,0,⟨#[]⟩⟩:=by
 unfold nL;rw [EX N 0 0 (by decide)];rfl
theorem BD (N:Nat):F8 N ⟨0,0,⟨#[]⟩⟩:=⟨yI,BQ N⟩
theorem EY (N:Nat){n:Int}(h:1≤n):nL N ⟨9,n,⟨#[]⟩⟩:=by
 unfold nL;rw [EX N 9 n (by decide)];show some (decide (1≤n))=_;rw [Lm h]
structure RC (N:Nat) (c:La):Prop where
 kind:c.Kind=1∨c.Kind=2
 sh:0≤c.Shape
 fl:0≤c.Flags∧c.Flags≤63
 age:c.Age=0∨c.Age=1
 sv: ∀x∈c.Slots,nL N x
 mv: ∀x∈c.More,nL N x
 sl:c.Slots.length≤1025
 proto: ∃z,c.Slots[0]? =some z∧(z.Kind=1∨z.Kind=7)
 more:c.More.length≤4096
 plain:c.Kind=1→c.More=[]
theorem AN (N:Nat)(c:La)(b:Bool)(x:Lf)(h:nL N x):iP (fun x st=>cO N c x st) (b,x) (none,())=some (true,(none,())):=by
 show Option.map _ (cO N c (b,x) ())=_;unfold cO;simp only;rw [show gT N x=some true from h];rfl
theorem AK (N:Nat)(c:La)(hc:c.More.length≤5000)(hm: ∀x∈c.More,nL N x): ∀(m i:Nat),c.More.length<m+i→i≤c.More.length→Sat (iT N (iP (fun x st=>cO N c x st)) c m (i:Int) (none,())) (· =(none,()))
 |0,i,h,h1=>by omega
 |m+1,i,h,h1=>by
  rw [iT.eq_2]
  refine bz (fun h2=>bP I h2 fun x hx=> ?_) fun _=>ah J
  refine bv (P:=fun _=>True) (fun _=>bv (P:=fun _=>True) (fun _=>ah trivial) (fun _=>ah trivial) fun _ _=>ah trivial) (fun _=>ah trivial) fun b _=> ?_
  rw [AN N c b x (hm x (List.mem_of_getElem? hx)),bs,nt,cf];exact aR (by constructor<;>omega) (AK N c hc hm m (i+1) I I)
theorem tu (N:Nat)(hN:20000≤N)(c:La)(hs:c.Slots.length≤5000)(hc:c.More.length≤5000)(hv: ∀x∈c.Slots,nL N x)(hm: ∀x∈c.More,nL N x): ∀(m i:Nat),c.Slots.length<m+i→i≤c.Slots.length→Sat (jy N (iP (fun x st=>cO N c x st)) c m (i:Int) (none,())) (· =(none,()))
 |0,i,h,h1=>by omega
 |m+1,i,h,h1=>by
  rw [jy.eq_2]
  refine bz (fun h2=>bP I h2 fun x hx=> ?_) fun _=>AK N c hc hm N 0 I I
  rw [AN N c true x (hv x (List.mem_of_getElem? hx)),bs,nt,cf];exact aR (by constructor<;>omega) (tu N hN c hs hc hv hm m (i+1) I I)
theorem RC.right {N:Nat}(hN:20000≤N){c:La}(h:RC N c):dl N c=some true:=by
 have h0:=h.fl;have h1:=h.sl;have h2:=h.more;have h3:=h.sh;obtain ⟨z,z1,z2⟩:=h.proto;have hl:=(List.getElem?_eq_some_iff.1 z1).1
 have hz:bE c.Slots 0=some z:=by unfold bE;exact z1
 have hk:1≤c.Kind∧c.Kind≤2:=by rcases h.kind with e|e<;>omega
 have hh:lU N c.Kind=some true:=by
  unfold lU gc;rcases h.kind with e|e<;>rw [e]<;>rfl
 have ha:=(tu N hN c I I h.sv h.mv N 0 I I).eq
 have hage:(bif !decide (c.Age=0) then some (!decide (c.Age=1)) else some false:Option Bool)=some false:=by rcases h.age with e|e<;>rw [e]<;>rfl
 have hsl:eK N c=some true:=by
  unfold eK;rw [hh,bs,ct,bs,ct,Lm (show 1≤(c.Slots.length:Int) by omega),ct,Lm (show (c.Slots.length:Int)≤1025 by omega),bs,ct,hz,bs];rcases z2 with e|e
  ·rw [e];rfl
  rw [e];show some (decide (z.Kind=7))=_;rw [e];rfl
 have hmr:iy N c.Kind c.More=some true:=by
  rw [AL N _ _ (by rcases h.kind with e|e<;>omega),Lm (show (c.More.length:Int)≤1048576 by omega),Bool.true_and];rcases h.kind with e|e
  ·rw [Ln I,cf,h.plain e];rfl
  rw [Lm e,ct,Lm I]
 unfold dl;rw [Ln (show¬c.Kind<1 by omega),cf,Ln (show¬11<c.Kind by omega),bs,cf,Ln (show¬c.Shape<0 by omega),bs,cf,Ln (show¬c.Flags<0 by omega),bs,cf,Ln (show¬63<c.Flags by omega),bs,cf,hage,bs,bs,cf];show Option.bind (gU N c _ _) _=_;rw [show gU N c (iP (fun x st=>cO N c x st)) (none,())=some (none,()) from ha,bs];show Option.bind (eK N c) _=_;rw [hsl,bs,ct,hmr];rfl
theorem CE {a:Int}(h0: -9223372036854775808≤a)(h1:a≤9223372036854775807):bC (a.tdiv 2)∧bC (a.tdiv 2 - 1):=by
 have: -4611686018427387904≤a.tdiv 2∧a.tdiv 2≤4611686018427387904:=by
  by_cases h:0≤a
  ·rw [Int.tdiv_eq_ediv_of_nonneg h];omega
  have e:a.tdiv 2= -((-a).tdiv 2):=by rw [Int.neg_tdiv,Int.neg_neg]
  rw [e,Int.tdiv_eq_ediv_of_nonneg I];omega
 unfold bC;omega
def xr (w:K2)(Y:List La):K2:=⟨w.spent_,w.config_,(),⟨⟨Y,w.heap_.m_.Old⟩,w.heap_.roots_,w.heap_.pending_,w.heap_.set_⟩,w.shapes_,w.symbols_,w.epoch_,w.serial_,w.sleepers_,w.events_,w.out_⟩
def xt (w:K2)(t:K9):K2:=⟨w.spent_,w.config_,(),w.heap_,t,w.symbols_,w.epoch_,w.serial_,w.sleepers_,w.events_,w.out_⟩
theorem Iz {a:Int}(h:a.tmod 2≠0)(h0:0<a): ∃j:Nat,a=2*j+1∧a.tdiv 2=(j:Int)∧a.tmod 2=1:=by
 rw [Int.tmod_eq_emod_of_nonneg I] at h⊢;rw [Int.tdiv_eq_ediv_of_nonneg I];exact ⟨(a / 2).toNat,by omega,by omega,by omega⟩
theorem zf (j:Nat):(2*(j:Int)+1).tmod 2=1∧(2*(j:Int)+1).tdiv 2=(j:Int):=by
 rw [Int.tmod_eq_emod_of_nonneg I,Int.tdiv_eq_ediv_of_nonneg I];omega
theorem GC (N:Nat)(h:K1)(hO:h.m_.Old=[])(a:Int)(h0: -9223372036854775808≤a)(h1:a≤9223372036854775807):ed N h a=some false∨(ed N h a=some true∧ ∃(j:Nat) (c:La),a=2*j+1∧h.m_.Young[j]? =some c):=by
 obtain ⟨t1,t2⟩:=CE h0 h1;unfold ed cg ot mc jp;simp only [bs,nf,ct];rw [kT t1];by_cases hp:0<a
 ·by_cases e:a.tmod 2=0
  ·left
   have e2: ¬(a.tdiv 2 - 1<0):=by
    rw [Int.tmod_eq_emod_of_nonneg I] at e;rw [Int.tdiv_eq_ediv_of_nonneg I];omega
   rw [Lm e,ct,kT t1,kT t2,hO,Lm hp,ct,bs];simp [e2,bs]
  obtain ⟨j,j1,j2,j3⟩:=Iz e hp;rw [Ln e,cf,Lm hp,ct,bs,j2];by_cases hj:j<h.m_.Young.length
  ·right;rw [Lm I];exact ⟨J,j,h.m_.Young[j],j1,List.getElem?_eq_getElem hj⟩
  left;rw [Ln I];rfl
 left;rw [Ln hp];by_cases e:a.tmod 2=0
 ·rw [Lm e,ct,kT t1,kT t2];rfl
 rw [Ln e,cf];rfl
theorem zn (N:Nat)(h:K1)(j:Nat)(hj:j<h.m_.Young.length)(hb:j≤1000000000):ed N h (2*j+1)=some true:=by
 obtain ⟨t1,t2⟩:=CE (a:=2*(j:Int)+1) I I;obtain ⟨o1,o2⟩:=zf j;unfold ed cg ot mc jp;simp only [bs,nf,ct];rw [kT t1,Ln I,cf,Lm I,ct,bs,o2,Lm I];rfl
theorem tR (N:Nat)(h:K1)(j:Nat)(hj:j<h.m_.Young.length)(hb:j≤9223372036854775807):fH N h (2*j+1)=some (.inl (j:Int)):=by
 obtain ⟨o1,o2⟩:=zf j;unfold fH;rw [Lm o1,ct,o2,kT (by constructor<;>omega),nO hj,bs]
theorem pe (N:Nat)(x:Lf):iZ N x=some (decide (x.Kind=7)||decide (x.Kind=9)):=by
 unfold iZ;cases decide (x.Kind=7)<;>rfl
structure Mem (w:K2) (k:Nat):Prop where
 old:w.heap_.m_.Old=[]
 good: ∀x∈w.heap_.m_.Young,goodC x
 len:w.heap_.m_.Young.length≤k
theorem vj (N:Nat){w:K2}(hg: ∀x∈w.heap_.m_.Young,goodC x){x:Lf}{j:Nat}{c:La}(hk:x.Kind=7∨x.Kind=9)(hx:x.N=2*j+1)(hb:j≤1000000000)(hj:w.heap_.m_.Young[j]? =some c):bM N w x=some c:=by
 have hlt:=(List.getElem?_eq_some_iff.1 hj).1;have hc:=hg c (List.mem_of_getElem? hj);unfold bM ln gN;rw [pe,bs,show (decide (x.Kind=7)||decide (x.Kind=9))=true by rcases hk with h|h<;>rw [h]<;>rfl,nt,cf,hx,zn N _ j hlt hb,bs,nt,cf,tR N _ j hlt I,bs];show Option.bind (Option.bind (bE w.heap_.m_.Young (j:Int)) _) _=_;rw [nO hlt,bs,(List.getElem?_eq_some_iff.1 hj).2,ve N hc,bs];rfl
theorem Fq (N:Nat){w:K2}{k:Nat}(hw:Mem w k)(hk:k≤1000000000){x:Lf}(hx:rM x):Sat (bM N w x) fun c=>goodC c∧(c=⟨0,0,0,0,[],[]⟩∨ ∃j:Nat,x.N=2*j+1∧w.heap_.m_.Young[j]? =some c):=by
 by_cases hl:x.Kind=7∨x.Kind=9
 ·rcases GC N w.heap_ hw.old x.N hx.1 hx.2 with h|⟨-,j,c,h1,h2⟩
  ·refine ⟨⟨0,0,0,0,[],[]⟩,?_,H9,.inl J⟩;unfold bM ln gN;rw [pe,bs,show (decide (x.Kind=7)||decide (x.Kind=9))=true by rcases hl with h|h<;>rw [h]<;>rfl,nt,cf,h];rfl
  have:=(List.getElem?_eq_some_iff.1 h2).1;exact ⟨c,vj N hw.good hl h1 (by have:=hw.len;omega) h2,hw.good c (List.mem_of_getElem? h2),.inr ⟨j,h1,h2⟩⟩
 refine ⟨⟨0,0,0,0,[],[]⟩,?_,H9,.inl J⟩;unfold bM;rw [pe,bs,Ln fun h=>hl (.inl h),Ln fun h=>hl (.inr h)];rfl
theorem Gp (N:Nat)(w:K2)(x:Lf)(c:La):fO N w x c=bU N w x c:=rfl
theorem EH (N:Nat){w:K2}(hg: ∀x∈w.heap_.m_.Young,goodC x){x:Lf}{j:Nat}{o c:La}(hk:x.Kind=7)(hx:x.N=2*j+1)(hb:j≤1000000000)(hj:w.heap_.m_.Young[j]? =some o)(hc:goodC c)(hr:dl N c=some true):bU N w x c=some (xr w (w.heap_.m_.Young.set j ⟨c.Kind,c.Shape,c.Flags,o.Age,c.Slots,c.More⟩)):=by
 have hlt:=(List.getElem?_eq_some_iff.1 hj).1;unfold bU kp;rw [pe,bs,Lm hk,Bool.true_or,ct,show cg N w.heap_=some false from rfl,bs,cf,hx,zn N _ j hlt hb,bs,nt,cf,hr,bs,nt,cf,tR N _ j hlt I,bs];show Option.bind (Option.bind (bE w.heap_.m_.Young (j:Int)) _) _=_;rw [nO hlt,bs,(List.getElem?_eq_some_iff.1 hj).2,ve N hc,bs,Ln (by have:=(zf j).1;omega),cf];unfold gP xr;simp only [Int.toNat_natCast,List.set_set,bs]
end
section
variable {A1 A10 A12 A13 A14 A3 A4 A5 A6:Option Addr} {B1 B2 B7 B9 M11 M8 c1 c10 c12 c13 c14 c3 c4 c5 c6 n1 n10 n12 n13 n14 n3 n4 n5 n6:Nat}
open Go.RowKit
structure propV (N:Nat) (p:K4):Prop where
 v:F8 N p.Value
 g:rM p.Get
 s:rM p.Set
structure descV (N:Nat) (d:Li):Prop where
 v:F8 N d.Value
 g:rM d.Get
 s:rM d.Set
theorem xV (N:Nat)(k:Lj)(a:Int):propV N ⟨k,a,⟨0,0,⟨#[]⟩⟩,⟨0,0,⟨#[]⟩⟩,⟨0,0,⟨#[]⟩⟩⟩:=⟨BD N,yI,yI⟩
theorem JS:qi 0:=⟨by decide,by decide,by decide⟩
theorem tY (N:Nat)(d:Li):Sat (iK N d) fun _=>True:=by
 unfold iK ki kh jw bp
 (repeat' first|exact ah trivial|refine Sat.bind (P:=fun _=>True) ?_ (fun _ _=> ?_)|refine aZ (fun _=> ?_) (fun _=> ?_))
theorem z6 (N:Nat)(p:K4)(d:Li):Sat (oF N p d) fun _=>True:=by
 unfold oF bp ls
 (repeat' first|exact ah trivial|refine Sat.bind (P:=fun _=>True) ?_ (fun _ _=> ?_)|refine aZ (fun _=> ?_) (fun _=> ?_))
abbrev H8 (n:Int):Prop:= -9223372036854775808≤n∧n≤9223372036854775807
theorem wN (N:Nat){d:Li}(hd:descV N d)(a1:Lj)(p27 y29 p31 p32:Int)(p33:ByteArray)(p14 p15:Int)(p16:ByteArray)(p37 p38:Int)(p39:ByteArray)(h1:F8 N ⟨p31,p32,p33⟩)(h2:H8 p15)(h3:H8 p38):Sat (ee N d a1 p27 y29 p31 p32 p33 p14 p15 p16 p37 p38 p39) fun r=>propV N r∧r.Key=a1:=by
 unfold ee gA bp;rw [bs]
 exact aZ (fun _=>ah ⟨⟨h1,h3,hd.s⟩,J⟩) fun _=>ah ⟨⟨h1,h3,h2⟩,J⟩
theorem wO (N:Nat){d:Li}(hd:descV N d)(a1:Lj)(p27 y29 p11 p12:Int)(p13:ByteArray)(p14 p15:Int)(p16:ByteArray)(p31 p32:Int)(p33:ByteArray)(h1:F8 N ⟨p31,p32,p33⟩)(h2:H8 p15)(h3:H8 p12):Sat (ef N d a1 p27 y29 p11 p12 p13 p14 p15 p16 p31 p32 p33) fun r=>propV N r∧r.Key=a1:=by
 unfold ef bp;rw [bs]
 exact aZ (fun _=>wN N hd _ _ _ _ _ _ _ _ _ _ _ _ h1 h2 hd.g) fun _=>wN N hd _ _ _ _ _ _ _ _ _ _ _ _ h1 h2 h3
theorem pL (N:Nat){d:Li}(hd:descV N d)(a1:Lj)(p21 p22:Int)(p23:ByteArray)(p11 p12:Int)(p13:ByteArray)(p14 p15:Int)(p16:ByteArray)(p27:Int)(h1:F8 N ⟨p21,p22,p23⟩)(h2:H8 p15)(h3:H8 p12):Sat (eg N d a1 p21 p22 p23 p11 p12 p13 p14 p15 p16 p27) fun r=>propV N r∧r.Key=a1:=by
 unfold eg
 refine (tY N d).bind fun y _=> ?_
 unfold bp;rw [bs]
 exact aZ (fun _=>wO N hd _ _ _ _ _ _ _ _ _ _ _ _ hd.v h2 h3) fun _=>wO N hd _ _ _ _ _ _ _ _ _ _ _ _ h1 h2 h3
theorem wP (N:Nat){d:Li}(hd:descV N d){p:K4}(hp:propV N p)(b:Bool)(a1:Lj)(p11 p12:Int)(p13:ByteArray)(p14 p15:Int)(p16:ByteArray)(h2:H8 p15)(h3:H8 p12):Sat (eh N p b d a1 p11 p12 p13 p14 p15 p16) fun r=>propV N r∧r.Key=a1:=by
 unfold eh gB
 refine Sat.bind (P:=fun _=>True) (by repeat' first|exact ah trivial|refine Sat.bind (P:=fun _=>True) ?_ (fun _ _=> ?_)|refine aZ (fun _=> ?_) (fun _=> ?_)) fun c _=>aZ (fun _=>aZ (fun _=> ?_) fun _=> ?_) fun _=>aZ (fun _=> ?_) fun _=> ?_
 ·exact pL N hd _ _ _ _ _ _ _ _ _ _ _ hp.v h2 h3
 ·exact pL N hd _ _ _ _ _ _ _ _ _ _ _ hp.v h2 h3
 ·exact pL N hd _ _ _ _ _ _ _ _ _ _ _ (BD N) h2 h3
 exact pL N hd _ _ _ _ _ _ _ _ _ _ _ (BD N) h2 h3
theorem wK (N:Nat){p:K4}(hp:propV N p)(k:Lj){d:Li}(hd:descV N d):Sat (fj N p k d) fun r=>propV N r∧r.Key=k:=by
 unfold fj bp;rw [bs]
 refine Sat.bind (P:=fun _=>True) (by repeat' first|exact ah trivial|refine Sat.bind (P:=fun _=>True) ?_ (fun _ _=> ?_)|refine aZ (fun _=> ?_) (fun _=> ?_)) fun b _=>Sat.bind (P:=fun _=>True) (by repeat' first|exact ah trivial|refine Sat.bind (P:=fun _=>True) ?_ (fun _ _=> ?_)|refine aZ (fun _=> ?_) (fun _=> ?_)) fun c _=>aZ (fun _=> ?_) fun _=> ?_
 ·exact wP N hd hp b k _ _ _ _ _ _ hp.s hp.g
 exact wP N hd hp b k _ _ _ _ _ _ ⟨by decide,by decide⟩ ⟨by decide,by decide⟩
theorem Bq (N:Nat){p:K4}(hp:propV N p)(has ext:Bool)(k:Lj){d:Li}(hd:descV N d):Sat (cq N p has ext k d) fun r=>propV N r.1∧(r.2=true→r.1.Key=k):=by
 unfold cq mt
 refine jD (fun _=>jD (fun _=>ah ⟨xV N _ _,fun h=>by cases h⟩) fun _=> ?_) fun _=> ?_
 ·exact Sat.bind ((wK N (xV N _ _) k hd).bind fun y hy=>ah hy) fun y hy=>ah ⟨hy.1,fun _=>hy.2⟩
 refine Sat.bind (P:=fun _=>True) (aZ (fun _=>(z6 N p d).bind fun _ _=>ah trivial) fun _=>ah trivial) fun b _=>aZ (fun _=>ah ⟨xV N _ _,fun h=>by cases h⟩) fun _=> ?_
 exact (wK N hp k hd).bind fun y hy=>ah ⟨hy.1,fun _=>hy.2⟩
structure ObjC (N:Nat) (t:K9) (c:La) (l:List (Lj×Int)):Prop where
 rc:RC N c
 row:Row t c.Shape l
 num:c.Slots.length=l.length+1
 nd:(l.map (·.1)).Nodup
 noP:aF .i64 c.Flags 16=0
 idx:c.Kind=2→ ∀x∈l,x.1.Kind=0→x.1.N<c.More.length
structure InvC (N i k:Nat) (w:K2) (c:La) (l:List (Lj×Int)):Prop where
 mem:Mem w k
 ti:TI N w.shapes_
 tb:w.shapes_.shapes_.length≤k
 at_:w.heap_.m_.Young[i]? =some c
 obj:ObjC N w.shapes_ c l
theorem InvC.good {N i k:Nat}{w:K2}{c:La}{l:List (Lj×Int)}(h:InvC N i k w c l):goodC c:=h.mem.good c (List.mem_of_getElem? h.at_)
theorem InvC.lt {N i k:Nat}{w:K2}{c:La}{l:List (Lj×Int)}(h:InvC N i k w c l):i<k:=by
 have:=(List.getElem?_eq_some_iff.1 h.at_).1;have:=h.mem.len;omega
section
variable {N:Nat} (hN:20000≤N) {v:Lf} {i:Nat} (hv:v.Kind=7) (hvN:v.N=2*i+1) {k:Nat} (hk:k≤1000000000) {w:K2} {c:La} {l:List (Lj×Int)} (h:InvC N i k w c l)
include hN hv hvN hk h
theorem HZ:bM N w v=some c:=by
 have:=hN;exact vj N h.mem.good (.inl hv) hvN (by have:=h.lt;omega) h.at_
theorem wc:db N w v=some (.inr ⟨c,w,v⟩):=by
 obtain ⟨z,z1,z2⟩:=h.obj.rc.proto;have hl:=(List.getElem?_eq_some_iff.1 z1).1
 have hg:bE c.Slots 0=some z:=by unfold bE;exact z1
 unfold db;rw [Lm hv,nt,cf,HZ hN hv hvN hk h,bs,Ln (show¬(c.Slots.length:Int)=0 by omega),cf,hg,bs,bs];rcases z2 with z2|z2<;>rw [z2]<;>rfl
theorem yD:dB N w v=some (c,decide (c.Kind=2)):=by
 unfold dB;rw [Lm hv,nt,cf,HZ hN hv hvN hk h,bs]
omit hv hvN in
theorem H2 (place:Int)(h0:0≤place)(h1:place≤5000)(key:Lj)(a:Int):Sat (dW N ⟨c,w,v⟩ place key a) fun p=>propV N p∧p.Key=key∧p.Attrs=a:=by
 have:=hN;unfold dW;refine aR (by constructor<;>omega) (bz (fun _=>ah ⟨xV N _ _,J,J⟩) fun h2=>aR (by constructor<;>omega) ?_)
 refine bP I (by show place+1<c.Slots.length;have: ¬(c.Slots.length:Int)≤place+1:=h2;omega) fun x hx=> ?_
 have hx':=h.good.sv x (List.mem_of_getElem? hx)
 refine bz (fun _=>ah ⟨⟨⟨hx',h.obj.rc.sv x (List.mem_of_getElem? hx)⟩,yI,yI⟩,J,J⟩) fun _=> ?_
 refine (Fq N h.mem hk hx').bind fun p hp=>bz (fun h3=> ?_) fun _=>ah ⟨xV N _ _,J,J⟩
 exact bP I I fun y hy=>bP I I fun z hz=>ah ⟨⟨BD N,hp.1.sv y (List.mem_of_getElem? hy),hp.1.sv z (List.mem_of_getElem? hz)⟩,J,J⟩
def J0 (N:Nat)(l:List (Lj×Int))(key:Lj)(r:K4×Int×Bool):Prop:=propV N r.1∧qi r.1.Attrs∧((r.2.2=false∧ ∀x∈l,x.1≠key)∨ ∃n:Nat,r.2.1=n∧r.2.2=true∧l[n]? =some (key,r.1.Attrs))
omit hv hvN in
theorem JN (key:Lj):Sat (bu N ⟨c,w,v⟩ key) (J0 N l key):=by
 unfold bu cC;rw [bs];have hle:=h.obj.row.le h.ti
 refine (rp N I h.ti h.obj.row key).bind fun z hz=> ?_
 rcases hz with ⟨rfl,hz⟩|⟨n,z1,z2,z3⟩
 ·exact ah ⟨xV N _ _,JS,.inl ⟨J,hz⟩⟩
 have hlt:=(List.getElem?_eq_some_iff.1 z3).1;rw [z2];show Sat (Option.bind _ _) _
 refine (H2 hN hk h z.1 I I key z.2.1).bind fun p hp=>ah ⟨hp.1,by rw [hp.2.2];exact (h.obj.row.ok h.ti _ (List.mem_of_getElem? z3)).2,.inr ⟨n,z1,rfl,by rw [hp.2.2];exact z3⟩⟩
omit hv hvN in
theorem vU: ∀(m j:Nat) (p:List K4),l.length<m+j→j≤l.length→p.map (fun x=>(x.Key,x.Attrs))=l.take j→Sat (jF N (l.map (·.1)) (l.map (·.2)) ⟨c,w,v⟩ w m p (l.map (·.1)) (j:Int)) fun r=>r.map (fun x=>(x.Key,x.Attrs))=l
 |0,j,p,h1,h2,_=>by omega
 | m+1,j,p,h1,h2,h3=>by
  have hle:=h.obj.row.le h.ti
  have hp:p.length=j:=by
   have:=congrArg List.length h3;rw [List.length_map,List.length_take] at this;omega
  rw [jF.eq_2]
  refine bz (fun h5=> ?_) fun h5=>ah (by rw [List.length_map] at h5;rw [h3,List.take_of_length_le I])
  rw [List.length_map] at h5
  have hj:j<l.length:=by omega
  have e1:bE (l.map (·.1)) (j:Int)=some l[j].1:=by rw [nO (by rw [List.length_map];exact hj),List.getElem_map]
  have e2:bE (l.map (·.2)) (j:Int)=some l[j].2:=by rw [nO (by rw [List.length_map];exact hj),List.getElem_map]
  rw [e1,bs,e2,bs]
  refine (H2 hN hk h j I I _ _).bind fun q hq=> ?_
  refine aR (by rw [List.length_singleton];omega) (aR (by constructor<;>omega) ?_);refine vU m (j+1) _ I I ?_;rw [List.map_append,h3,List.take_add_one,List.getElem?_eq_getElem hj];show _++ [(q.Key,q.Attrs)]=_;rw [hq.2.1,hq.2.2];rfl
theorem It:Sat (gj N w v) fun r=>r.map (fun x=>(x.Key,x.Attrs))=l:=by
 unfold gj;have hle:=h.obj.row.le h.ti;rw [wc hN hv hvN hk h,bs];show Sat (Option.bind (fN N w.shapes_ c.Shape) _) _;rw [FI N I h.ti h.obj.row,bs];show Sat (Option.bind (ej N w.shapes_ c.Shape) _) _;rw [CQ N I h.ti h.obj.row,bs];exact vU hN hk h N 0 [] I I J
omit hN hv hvN hk h in
theorem G3 {ρ:Type}{n r:Option ρ}{x:Nat→Option ρ}:uy none n r x=n:=rfl
end
end
section
variable {A1 A10 A12 A13 A14 A3 A4 A5 A6:Option Addr} {B1 B2 B7 B9 M11 M8 c1 c10 c12 c13 c14 c3 c4 c5 c6 n1 n10 n12 n13 n14 n3 n4 n5 n6:Nat}
open Go.RowKit
theorem Aq {α:Type}{q:List α}{n:Nat}{a:α}(h:q[n]? =some a):q.set n a=q:=by
 apply List.ext_getElem?;intro j;by_cases e:n=j
 ·subst e;rw [List.getElem?_set_self (List.getElem?_eq_some_iff.1 h).1,h]
 rw [List.getElem?_set_ne e]
theorem o8 {w:K2}{k k':Nat}(h:Mem w k)(hk:k≤k'):Mem w k':=⟨h.old,h.good,Nat.le_trans h.len hk⟩
theorem InvC.more {N i k k':Nat}{w:K2}{c:La}{l:List (Lj×Int)}(h:InvC N i k w c l)(hk:k≤k'):InvC N i k' w c l:=⟨o8 h.mem hk,h.ti,Nat.le_trans h.tb hk,h.at_,h.obj⟩
theorem ObjC.mono {N:Nat}{t t':K9}{c:La}{l:List (Lj×Int)}(h:ObjC N t c l)(hl:Le t t'):ObjC N t' c l:=⟨h.rc,h.row.mono hl,h.num,h.nd,h.noP,h.idx⟩
section
variable {N:Nat} (hN:20000≤N) {v:Lf} {i:Nat} (hv:v.Kind=7) (hvN:v.N=2*i+1)
include hN hv hvN
theorem store {k:Nat}(hk:k≤1000000000){w:K2}{c c':La}{l':List (Lj×Int)}(hm:Mem w k)(hti:TI N w.shapes_)(htb:w.shapes_.shapes_.length≤k)(hat:w.heap_.m_.Young[i]? =some c)(hage:c'.Age=c.Age)(hg:goodC c')(ho:ObjC N w.shapes_ c' l'): ∃w',bU N w v c'=some w'∧InvC N i k w' c' l'∧w'.shapes_=w.shapes_:=by
 have hlt:=(List.getElem?_eq_some_iff.1 hat).1;have:=hm.len
 have e:(⟨c'.Kind,c'.Shape,c'.Flags,c.Age,c'.Slots,c'.More⟩:La)=c':=by rw [←hage]
 refine ⟨_,EH N hm.good hv hvN I hat hg (ho.rc.right hN),?_,J⟩;rw [e];refine ⟨⟨hm.old,fun x hx=> ?_,?_⟩,hti,htb,?_,ho⟩
 ·rcases List.mem_or_eq_of_mem_set hx with hx|rfl
  ·exact hm.good x hx
  exact hg
 ·show (w.heap_.m_.Young.set i c').length≤k;rw [List.length_set];exact hm.len
 show (w.heap_.m_.Young.set i c')[i]? =some c';exact List.getElem?_set_self hlt
variable {k:Nat} {w:K2} {c:La} {l:List (Lj×Int)} (h:InvC N i k w c l)
include h
end
end
section
variable {A1 A10 A12 A13 A14 A3 A4 A5 A6:Option Addr} {B1 B2 B7 B9 M11 M8 c1 c10 c12 c13 c14 c3 c4 c5 c6 n1 n10 n12 n13 n14 n3 n4 n5 n6:Nat}
open Go.RowKit
def Kk (N i k:Nat)(c:La)(w':K2):Prop:= ∃c' l',InvC N i k w' c' l'∧c'.Kind=c.Kind
def J3 (N i k:Nat)(c:La)(w':K2):Prop:= ∃c' l',InvC N i k w' c' l'∧c'.Kind=c.Kind∧c'.More=c.More
section
variable {N:Nat} (hN:20000≤N) {v:Lf} {i:Nat} (hv:v.Kind=7) (hvN:v.N=2*i+1) {k:Nat} {w:K2} {c:La} {l:List (Lj×Int)} (h:InvC N i k w c l)
include hN hv hvN h
section
variable (hk:k+5000≤1000000000) (hk2:c.Kind=2) (key:Lj) (hkey:0≤key.N∧key.N<4096) (y29:K4×Bool) (y23:K4×Bool) (hp:propV N y23.1) (hpk:y23.1.Key=key)
include hk hk2 hkey hp hpk
end
end
end
section
variable {A1 A10 A12 A13 A14 A3 A4 A5 A6:Option Addr} {B1 B2 B7 B9 M11 M8 c1 c10 c12 c13 c14 c3 c4 c5 c6 n1 n10 n12 n13 n14 n3 n4 n5 n6:Nat}
open Go.RowKit
section
variable {N:Nat} (hN:20000≤N) {v:Lf} {i:Nat} (hv:v.Kind=7) (hvN:v.N=2*i+1)
include hN hv hvN
section
variable (n stop:Int) (y:List K4) (l0:List (Lj×Int)) (hy:y.map (fun x=>(x.Key,x.Attrs))=l0) (hnd:(l0.map (·.1)).Nodup) (hl0:l0.length≤1024) (p26:List Lf) (y16:La×Bool) (h26:p26.length≤4096) (h26v: ∀x∈p26,F8 N x) (hs0:0≤stop) (hs1:stop.toNat≤p26.length) (hloose: ∀x∈l0,x.1.Kind=0→stop≤x.1.N→aF .i64 x.2 4≠0) {k:Nat} (hk:k+2000000≤1000000000)
include hy hnd hl0 h26 h26v hs0 hs1 hloose hk
end
variable {k:Nat} {w:K2} {c:La} {l:List (Lj×Int)} (h:InvC N i k w c l)
include h
end
end
section
variable {A1 A10 A12 A13 A14 A3 A4 A5 A6:Option Addr} {B1 B2 B7 B9 M11 M8 c1 c10 c12 c13 c14 c3 c4 c5 c6 n1 n10 n12 n13 n14 n3 n4 n5 n6:Nat}
open Go.RowKit
def kg:Nat→List Lf→List Lj
 |_,[]=> []
 |j,x::m=>bif decide (x=(⟨8,0,(⟨#[]⟩:ByteArray)⟩:Lf)) then kg (j+1) m else ⟨0,(j:Int),⟨#[]⟩⟩::kg (j+1) m
theorem te: ∀(j:Nat) (m:List Lf),(kg j m).length≤m.length
 |_,[]=>Nat.le_refl _
 |j,x::m=>by
  unfold kg;have:=te (j+1) m;cases decide (x=(⟨8,0,(⟨#[]⟩:ByteArray)⟩:Lf))
  ·rw [cf,List.length_cons,List.length_cons];omega
  rw [ct,List.length_cons];omega
theorem tX (N:Nat)(c:La)(hc:c.More.length≤4096)(w':K2)(v':Lf): ∀(m j:Nat) (l:List Lj),c.More.length<m+j→j≤c.More.length→l.length≤j→Sat (ez N (iP (fun x st=>fD N w' v' x st)) c m (j:Int) (none,l)) fun r=>r=(none,l++kg j (c.More.drop j))
 |0,j,l,h1,h2,_=>by omega
 | m +1,j,l,h1,h2,h3=>by
  rw [ez.eq_2];by_cases h4:j<c.More.length
  ·rw [Lm I,ct,nO h4,bs,List.drop_eq_getElem_cons h4];unfold kg
   cases e:decide (c.More[j]=(⟨8,0,(⟨#[]⟩:ByteArray)⟩:Lf)) with
   |true=>
    rw [nt,cf,ct];exact aR (by constructor<;>omega) (tX N c hc w' v' m (j+1) _ I I I)
   | false=>
    have e:iP (fun x st=>fD N w' v' x st) ((j:Int),c.More[j]) (none,l)=some (true,(none,l++([(⟨0,(j:Int),⟨#[]⟩⟩:Lj)]:List Lj))):=by
     show Option.map _ (fD N w' v' ((j:Int),c.More[j]) l)=_;unfold fD;simp only;rw [kT (by unfold gv;rw [List.length_singleton];omega)];rfl
    rw [nf,ct,e,bs,nt,cf,cf];refine aR (by constructor<;>omega) ((tX N c hc w' v' m (j+1) _ I I (by rw [List.length_append,List.length_singleton];omega)).mono fun r hr=> ?_);rw [hr,Lp];rfl
  rw [Ln I,cf];exact ah (by rw [List.drop_of_length_le I,show kg j []=[] from rfl,List.append_nil])
theorem yB (N:Nat)(w:K2)(y:List K4)(hy:y.length≤1024): ∀(m j:Nat) (l:List Lj),y.length<m+j→j≤y.length→l.length≤4097+j→lz N y w m (j:Int) l=ga N (l++(y.drop j).map (·.Key))
 |0,j,l,h1,h2,_=>by omega
 | m+1,j,l,h1,h2,h3=>by
  rw [lz.eq_2];by_cases h4:j<y.length
  ·rw [Lm I,ct,nO h4,bs,kT (by unfold gv;rw [List.length_singleton];omega),kT (by constructor<;>omega),List.drop_eq_getElem_cons h4];have:=yB N w y hy m (j+1) (l++ [y[j].Key]) I I (by rw [List.length_append,List.length_singleton];omega);simp only [Int.natCast_add,Int.cast_ofNat_Int] at this;rw [this,Lp];rfl
  rw [Ln I,cf,List.drop_of_length_le I,List.map_nil,List.append_nil];unfold nX;cases ga N l<;>rfl
def H4 (c:La):La:=⟨c.Kind,c.Shape,cr .i64 c.Flags 1,c.Age,c.Slots,c.More⟩
def Ko (N:Nat)(w:K2)(v:Lf)(key:Lj):K4:=((nb N w v key).getD default).1
section
variable {N:Nat} (hN:20000≤N) {v:Lf} {i:Nat} (hv:v.Kind=7) (hvN:v.N=2*i+1) {k:Nat} (hk:k≤1000000000) {w:K2} {c:La} {l:List (Lj×Int)} (h:InvC N i k w c l)
include hN hv hvN hk h
theorem ET:gQ N w v=ga N (l.map (·.1)):=by
 unfold gQ;rw [wc hN hv hvN hk h,bs];show Option.bind (ej N w.shapes_ c.Shape) _=_;rw [CQ N I h.ti h.obj.row,bs];cases ga N (l.map (·.1))<;>rfl
theorem FN (hc2:c.Kind=2):fX N w v=ga N ((kg 0 c.More++ [(⟨1,0,(⟨#[108,101,110,103,116,104]⟩:ByteArray)⟩:Lj)])++l.map (·.1)):=by
 have hle:=h.obj.row.le h.ti;have hmo:=h.obj.rc.more;have hel:=te 0 c.More;unfold fX jO dc;rw [yD hN hv hvN hk h,bs,Lm hc2,nt,cf,bs];have he:=(tX N c hmo w v N 0 [] I I (by simp)).eq;obtain ⟨q,hq,hq2⟩:=It hN hv hvN hk h
 have e:q.length=l.length:=by rw [←hq2,List.length_map]
 show Option.bind (ez N (iP (fun x st=>fD N w v x st)) c N ((0:Nat):Int) (none,[])) _=_;rw [he,bs,G3,bs,List.drop_zero,List.nil_append,kT (by show (kg 0 c.More).length+1≤1099511627776;omega),hq,bs];have:=yB N w q I N 0 (kg 0 c.More++ [(⟨1,0,(⟨#[108,101,110,103,116,104]⟩:ByteArray)⟩:Lj)]) I I (by rw [List.length_append,List.length_singleton];omega);rw [List.drop_zero] at this;rw [show q.map (·.Key)=l.map (·.1) by rw [←hq2,List.map_map];rfl] at this;exact this
end
def Jx (fr:Bool)(a:Int):Int:=bif fr&&decide (aF .i64 (cr .i64 a 4) 8=0) then cr .i64 (cr .i64 a 4) 1 else cr .i64 a 4
def Kf (fr:Bool)(p:K4):K4:=⟨p.Key,Jx fr p.Attrs,p.Value,p.Get,p.Set⟩
end
section
variable {A1 A10 A12 A13 A14 A3 A4 A5 A6:Option Addr} {B1 B2 B7 B9 M11 M8 c1 c10 c12 c13 c14 c3 c4 c5 c6 n1 n10 n12 n13 n14 n3 n4 n5 n6:Nat}
open Go.RowKit
theorem G2 (N:Nat)(w:K2){x:Lf}(hl: ¬(x.Kind=7∨x.Kind=9)):bM N w x=some ⟨0,0,0,0,[],[]⟩:=by
 unfold bM;rw [pe,bs,Ln fun h=>hl (.inl h),Ln fun h=>hl (.inr h)];rfl
section
variable {N:Nat} (hN:20000≤N) {v:Lf} {i:Nat} (hv:v.Kind=7) (hvN:v.N=2*i+1) {k:Nat} (hk:k≤1000000000) {w:K2} {c:La} {l:List (Lj×Int)} (h:InvC N i k w c l)
 (h':InvC N i k (xr w (w.heap_.m_.Young.set i (H4 c))) (H4 c) l)
include hN hv hvN hk h h'
end
section
variable {N:Nat} (hN:20000≤N) {v:Lf} {i:Nat} (hv:v.Kind=7) (hvN:v.N=2*i+1) {k:Nat} (hk:k+100000000≤1000000000)
include hN hv hvN hk
end
end
end Go.Proofs.YtanojiedimeegaaGreatDoor