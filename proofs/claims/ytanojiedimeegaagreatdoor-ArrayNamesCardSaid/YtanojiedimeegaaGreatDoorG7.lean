/- Merged texts: part 7. No conditions of their own. -/
import Derived.Test.YtanojiedimeegaaGreatDoorG6
namespace Go.Proofs.YtanojiedimeegaaGreatDoor
theorem KV:type_of% Tryz.underlying245:=Tryz.underlying245
theorem KU:type_of% Tryz.underlying4:=Tryz.underlying4
variable {A1 A13 A15 A16 A17 A2 A3 A4 A6 A7 A8 A9:Option Addr} {B1 B10 B12 B4 B5 M11 M14 M2 M3 c1 c13 c15 c16 c17 c2 c3 c4 c6 c7 c8 c9 n1 n13 n15 n16 n17 n2 n3 n4 n6 n7 n8 n9:Nat}
open Go.RowKit Asn
set_option maxRecDepth 20000
def mK (N:Nat)(y5:(Lj))(a0:La)(p9:Int):Option K4:=
 some (⟨y5,p9,(⟨3,(a0.More.length:Int),⟨#[]⟩⟩:Lf),(⟨0,0,⟨#[]⟩⟩:Lf),(⟨0,0,⟨#[]⟩⟩:Lf)⟩:K4)
def lw (N:Nat)(a0:La):Option K4:=
 (dc N).bind fun y5=>bif !decide (aF .i64 a0.Flags 32=0) then (mK N y5 a0 0) else (mK N y5 a0 1)
theorem qe {N:Nat}{a0:La}{r:K4}(h:lw N a0=some r):Okc Tryz.prog 98 [.agg #[iV a0.Kind,iV a0.Shape,iV a0.Flags,iV a0.Age,U A1 n1 c1,U A2 n2 c2]] ([dK A1 n1 c1 a0.Slots,dK A2 n2 c2 a0.More]) (fun u post=>u=(cU r)∧post=[]):=by
 refine bB Tryz.func98 J J ?_;simp only [ba];refine W ?_;refine gD (aT J J) ?_;rintro _ _ ⟨B3,rfl,rfl⟩;refine gD (aM fq J) ?_;rintro _ _ ⟨B4,rfl,rfl⟩;refine W ?_;refine aB ?_;obtain ⟨y5,hy5,h⟩:=aa h;refine jf (t:=[(1,pV B3 0),(2,pV B4 0)]) ?_ lD (ac _)
 refine jg O 7 [] [5,6] [4,5,6,7,8,9,3] [[],[],[1],[2],[3],[0,4],[]] [aV (.agg #[iV y5.Kind,iV y5.N,.string y5.S]),
 aV (pV B3 5),
 aV (U A2 n2 c2),
 aV (iV (a0.More.length:Int)),
 aV (.agg #[iV 3,iV (a0.More.length:Int),.string (⟨#[]⟩)]),
 aV (.agg #[iV y5.Kind,iV y5.N,.string y5.S,iV 1,iV 3,iV (a0.More.length:Int),.string (⟨#[]⟩),iV 0,iV 0,.string (⟨#[]⟩),iV 0,iV 0,.string (⟨#[]⟩)]),
 aX1 (fun (B7:Nat)=>pV B7 0) (fun B7=> [al B7 42 [iV 0,iV 0,.string (⟨#[]⟩),iV 0,iV 0,iV 0,.string (⟨#[]⟩),iV 0,iV 0,.string (⟨#[]⟩),iV 0,iV 0,.string (⟨#[]⟩)]])] [] (ac _) (la) O rfl rfl ?_ ?_ ?_
 ·exact kZ
 ·refine am J ?_ ?_
  ·refine o0 (aM fq J) J ?_;rintro _ _ ⟨B6,rfl,rfl⟩;exact GZ B6 (ac _)
  refine am J ?_ ?_
  ·exact bX (bg J (pP _ _ _ _ _ _ _)) J (bf J (ac _))
  refine am J ?_ ?_
  ·exact bX (bg J (lW _ _)) J (bf J (ac _))
  refine am J ?_ ?_
  ·exact gn (bJ 3 J aQ J hU) J (bf J (ac _))
  refine am J ?_ ?_
  ·exact gn (aW 1 J J gW J) J (bf J (ac _))
  refine am J ?_ ?_
  ·exact bX (bT J nR) J (bf J (ac _))
  refine am J ?_ ?_
  ·refine o0 (ap (gm hy5) wR J (ai) fB) J ?_;rintro _ _ ⟨_,⟨rfl,rfl⟩,rfl⟩;exact bf J (ac _)
  exact fG
 intro B7;refine nY (t:=[(9,.agg #[iV y5.Kind,iV y5.N,.string y5.S,iV 1,iV 3,iV (a0.More.length:Int),.string (⟨#[]⟩),iV 0,iV 0,.string (⟨#[]⟩),iV 0,iV 0,.string (⟨#[]⟩)]),(3,pV B7 0),(1,pV B3 0),(2,pV B4 0)]) (L':=[al B7 42 [iV 0,iV 0,.string (⟨#[]⟩),iV 0,iV 0,iV 0,.string (⟨#[]⟩),iV 0,iV 0,.string (⟨#[]⟩),iV 0,iV 0,.string (⟨#[]⟩)],al B4 42 [iV 0,iV 0,.string (⟨#[]⟩),iV 0,iV 0,iV 0,.string (⟨#[]⟩),iV 0,iV 0,.string (⟨#[]⟩),iV 0,iV 0,.string (⟨#[]⟩)],al B3 138 [iV a0.Kind,iV a0.Shape,iV a0.Flags,iV a0.Age,U A1 n1 c1,U A2 n2 c2],dK A1 n1 c1 a0.Slots,dK A2 n2 c2 a0.More]) ?_ lD (ac _);refine nZ 7 J O (aw (us:=[iV y5.Kind,iV y5.N,.string y5.S,iV 1,iV 3,iV (a0.More.length:Int),.string (⟨#[]⟩),iV 0,iV 0,.string (⟨#[]⟩),iV 0,iV 0,.string (⟨#[]⟩)]) (cs':=[iV y5.Kind,iV y5.N,.string y5.S,iV 1,iV 3,iV (a0.More.length:Int),.string (⟨#[]⟩),iV 0,iV 0,.string (⟨#[]⟩),iV 0,iV 0,.string (⟨#[]⟩)]) 0 J J J J dh J J J) J J ?_;rintro _ _ rfl;refine lC O ?_;refine d8 ?_;refine bc (fun s L=> ∃p9,mK N y5 a0 p9=some r∧s=[(2,pV B4 0),(3,pV B7 0)]∧L=[al B4 42 [iV 0,iV 0,.string (⟨#[]⟩),iV 0,iV 0,iV 0,.string (⟨#[]⟩),iV 0,iV 0,.string (⟨#[]⟩),iV 0,iV 0,.string (⟨#[]⟩)],al B7 42 [iV y5.Kind,iV y5.N,.string y5.S,iV p9,iV 3,iV (a0.More.length:Int),.string (⟨#[]⟩),iV 0,iV 0,.string (⟨#[]⟩),iV 0,iV 0,.string (⟨#[]⟩)]]) ?_ ?_
 ·refine W ?_;refine gE (bR J J) ?_;refine W ?_;refine av J (fun g10=> ?_) (fun g10=> ?_)
  ·replace h:=ad g10 h;refine W ?_;refine gO (aw (us:=[iV 0]) (cs':=[iV y5.Kind,iV y5.N,.string y5.S,iV 0,iV 3,iV (a0.More.length:Int),.string (⟨#[]⟩),iV 0,iV 0,.string (⟨#[]⟩),iV 0,iV 0,.string (⟨#[]⟩)]) 0 J J J J il J J J) ?_;rintro _ _ rfl;refine W ?_;exact ⟨_,_,⟨0,h,J,J⟩,sA,cS [1,0] 5⟩
  replace h:=ae g10 h;refine W ?_;exact ⟨_,_,⟨1,h,J,J⟩,sA,cS [1,0] 5⟩
 rintro _ _ ⟨p9,h,rfl,rfl⟩;refine W ?_;refine gR (aj (us:=[iV y5.Kind,iV y5.N,.string y5.S,iV p9,iV 3,iV (a0.More.length:Int),.string (⟨#[]⟩),iV 0,iV 0,.string (⟨#[]⟩),iV 0,iV 0,.string (⟨#[]⟩)]) 1 J J eM J) ?_;refine gO (aw (us:=[iV y5.Kind,iV y5.N,.string y5.S,iV p9,iV 3,iV (a0.More.length:Int),.string (⟨#[]⟩),iV 0,iV 0,.string (⟨#[]⟩),iV 0,iV 0,.string (⟨#[]⟩)]) (cs':=[iV y5.Kind,iV y5.N,.string y5.S,iV p9,iV 3,iV (a0.More.length:Int),.string (⟨#[]⟩),iV 0,iV 0,.string (⟨#[]⟩),iV 0,iV 0,.string (⟨#[]⟩)]) 0 J J J J dh J J J) ?_;rintro _ _ rfl;refine bG ?_;refine W ?_;obtain rfl:=ao h;exact cG (rs:=[.cell 2 42]) (vs:=[.agg #[iV y5.Kind,iV y5.N,.string y5.S,iV p9,iV 3,iV (a0.More.length:Int),.string (⟨#[]⟩),iV 0,iV 0,.string (⟨#[]⟩),iV 0,iV 0,.string (⟨#[]⟩)]]) J (.cons (bA 0 J J eM) .nil) J (cS [] 2) ⟨J,J⟩
theorem oJ {r:K4}: ∀v post,((fun (u:Value) (post:List Chunk)=>u=(cU r)∧post=[])) v post→ ∀c∈post,cF c:=by
 rintro _ _ ⟨rfl,rfl⟩;exact ai
def gA (N:Nat)(a1:Lj)(p27:Int)(y29:(Int))(a2:Li)(p31:Int)(p32:Int)(p33:ByteArray)(p37:Int)(p38:Int)(p39:ByteArray)(p43:Int)(p44:Int)(p45:ByteArray):Option K4:=
 some (⟨a1,cD .i64 (cr .i64 p27 y29) (aF .i64 a2.Attrs y29),(⟨p31,p32,p33⟩:Lf),(⟨p37,p38,p39⟩:Lf),(⟨p43,p44,p45⟩:Lf)⟩:K4)
def ee (N:Nat)(a2:Li)(a1:Lj)(p27:Int)(y29:(Int))(p31:Int)(p32:Int)(p33:ByteArray)(p14:Int)(p15:Int)(p16:ByteArray)(p37:Int)(p38:Int)(p39:ByteArray):Option K4:=
 (bp N a2 8).bind fun y46=>bif y46 then (gA N a1 p27 y29 a2 p31 p32 p33 p37 p38 p39 a2.Set.Kind a2.Set.N a2.Set.S) else (gA N a1 p27 y29 a2 p31 p32 p33 p37 p38 p39 p14 p15 p16)
def ef (N:Nat)(a2:Li)(a1:Lj)(p27:Int)(y29:(Int))(p11:Int)(p12:Int)(p13:ByteArray)(p14:Int)(p15:Int)(p16:ByteArray)(p31:Int)(p32:Int)(p33:ByteArray):Option K4:=
 (bp N a2 4).bind fun y40=>bif y40 then (ee N a2 a1 p27 y29 p31 p32 p33 p14 p15 p16 a2.Get.Kind a2.Get.N a2.Get.S) else (ee N a2 a1 p27 y29 p31 p32 p33 p14 p15 p16 p11 p12 p13)
def eg (N:Nat)(a2:Li)(a1:Lj)(p21:Int)(p22:Int)(p23:ByteArray)(p11:Int)(p12:Int)(p13:ByteArray)(p14:Int)(p15:Int)(p16:ByteArray)(p27:Int):Option K4:=
 (iK N a2).bind fun y29=>(bp N a2 1).bind fun y34=>bif y34 then (ef N a2 a1 p27 y29 p11 p12 p13 p14 p15 p16 a2.Value.Kind a2.Value.N a2.Value.S) else (ef N a2 a1 p27 y29 p11 p12 p13 p14 p15 p16 p21 p22 p23)
def gB (N:Nat)(b6:Bool)(a0:K4)(a2:Li)(a1:Lj)(p11:Int)(p12:Int)(p13:ByteArray)(p14:Int)(p15:Int)(p16:ByteArray)(p20:Int)(p21:Int)(p22:Int)(p23:ByteArray):Option K4:=
 bif b6 then (eg N a2 a1 p21 p22 p23 p11 p12 p13 p14 p15 p16 (cD .i64 (cD .i64 p20 (aF .i64 a0.Attrs 6)) 8)) else (eg N a2 a1 p21 p22 p23 p11 p12 p13 p14 p15 p16 (cD .i64 p20 (aF .i64 a0.Attrs 6)))
def eh (N:Nat)(a0:K4)(b6:Bool)(a2:Li)(a1:Lj)(p11:Int)(p12:Int)(p13:ByteArray)(p14:Int)(p15:Int)(p16:ByteArray):Option K4:=
 (bif !b6 then (some (!(!decide (aF .i64 a0.Attrs 8=0)))) else (some false)).bind fun b24=>bif b24 then (gB N b6 a0 a2 a1 p11 p12 p13 p14 p15 p16 (aF .i64 a0.Attrs 1) a0.Value.Kind a0.Value.N a0.Value.S) else (gB N b6 a0 a2 a1 p11 p12 p13 p14 p15 p16 0 0 0 (⟨#[]⟩))
def fj (N:Nat)(a0:K4)(a1:Lj)(a2:Li):Option K4:=
 (bp N a2 12).bind fun y5=>(bif y5 then (some true) else ((bif !decide (aF .i64 a0.Attrs 8=0) then ((bp N a2 3).bind fun y8=>some (!y8)) else (some false)).bind fun b7=>some b7)).bind fun b6=>(bif b6 then (some (!decide (aF .i64 a0.Attrs 8=0))) else (some false)).bind fun b17=>bif b17 then (eh N a0 b6 a2 a1 a0.Get.Kind a0.Get.N a0.Get.S a0.Set.Kind a0.Set.N a0.Set.S) else (eh N a0 b6 a2 a1 0 0 (⟨#[]⟩) 0 0 (⟨#[]⟩))
set_option maxHeartbeats 4000000 in
theorem qN {N:Nat}{a0:K4}{a1:Lj}{a2:Li}{r:K4}(h:fj N a0 a1 a2=some r):Okc Tryz.prog 172 [(cU a0),(gk a1),(fV a2)] ([]) (fun u post=>u=(cU r)∧post=[]):=by
 refine bB Tryz.func172 J J ?_;simp only [ba];refine W ?_;refine gD (aT J J) ?_;rintro _ _ ⟨B1,rfl,rfl⟩;refine gD (aT J J) ?_;rintro _ _ ⟨B2,rfl,rfl⟩;refine gD (aT J J) ?_;rintro _ _ ⟨B3,rfl,rfl⟩;refine gD (aM fq J) ?_;rintro _ _ ⟨B4,rfl,rfl⟩;refine W ?_;refine gE (bR J J) ?_;refine W ?_;refine gR (aj (us:=bK a2) 1 J J df J) ?_;obtain ⟨y5,hy5,h⟩:=aa h;refine gD (ap (cp hy5) fm J (ai) bH) ?_;rintro _ _ ⟨_,⟨rfl,rfl⟩,rfl⟩;refine W ?_;obtain ⟨b6,hb6,h⟩:=aa h;refine aH 7 24 b6 ?_ ?_
 ·clear h;refine aD 17 J (fun g6=> ?_) (fun g6=> ?_)
  ·have h:=ad g6 hb6;refine W ?_;obtain rfl:=ao h;exact ab sA (cS [0,1,2,3] 4)
  have h:=ae g6 hb6;refine W ?_;obtain ⟨b7,hb7,h⟩:=aa h;refine aH 4 23 b7 ?_ ?_
  ·clear h;refine aD 19 J (fun g7=> ?_) (fun g7=> ?_)
   ·have h:=ad g7 hb7;refine bY (aj (us:=bK a2) 1 J J df J) J (bi g7 J) J ?_;obtain ⟨y8,hy8,h⟩:=aa h;refine cc (ap (cp hy8) fm J (ai) bH) J (bi g7 J) J ?_;rintro _ _ ⟨_,⟨rfl,rfl⟩,rfl⟩;refine W ?_;obtain rfl:=ao h;exact ab sA (cS [0,1,2,3] 4)
   have h:=ae g7 hb7;refine W ?_;obtain rfl:=ao h;exact ab sA (cS [0,1,2,3] 4)
  refine W ?_;obtain rfl:=ao h;exact ab sA (cS [0,1,2,3] 4)
 refine W ?_;refine gR (aj (us:=cn a1) 2 J J bI J) ?_;refine gE (bg J (FG _ _ _)) ?_;refine gD (aM fq J) ?_;rintro _ _ ⟨B9,rfl,rfl⟩;refine gO (aw (us:=[iV a1.Kind,iV a1.N,.string a1.S,iV 0,iV 0,iV 0,.string (⟨#[]⟩),iV 0,iV 0,.string (⟨#[]⟩),iV 0,iV 0,.string (⟨#[]⟩)]) (cs':=[iV a1.Kind,iV a1.N,.string a1.S,iV 0,iV 0,iV 0,.string (⟨#[]⟩),iV 0,iV 0,.string (⟨#[]⟩),iV 0,iV 0,.string (⟨#[]⟩)]) 0 J J J J dh J J J) ?_;rintro _ _ rfl;refine W ?_;refine bc (fun s L=> ∃p11 p12 p13 p14 p15 p16,eh N a0 b6 a2 a1 p11 p12 p13 p14 p15 p16=some r∧s=[(3,pV B1 0),(5,pV B3 0),(6,pV B4 0),(7,.bool (!decide (aF .i64 a0.Attrs 8=0))),(8,.bool b6),(9,pV B9 0)]∧L=[al B1 42 (bm a0),al B3 32 (bK a2),al B4 42 [iV 0,iV 0,.string (⟨#[]⟩),iV 0,iV 0,iV 0,.string (⟨#[]⟩),iV 0,iV 0,.string (⟨#[]⟩),iV 0,iV 0,.string (⟨#[]⟩)],al B9 42 [iV a1.Kind,iV a1.N,.string a1.S,iV 0,iV 0,iV 0,.string (⟨#[]⟩),iV p11,iV p12,.string p13,iV p14,iV p15,.string p16]]) ?_ ?_
 ·refine W ?_;obtain ⟨b17,hb17,h⟩:=aa h;refine aH 2 30 b17 ?_ ?_
  ·clear h;refine aD 28 J (fun g17=> ?_) (fun g17=> ?_)
   ·have h:=ad g17 hb17;refine W ?_;obtain rfl:=ao h;exact ab sA (cS [0,1,2,3,4] 5)
   have h:=ae g17 hb17;refine W ?_;obtain rfl:=ao h;exact ab sA (cS [0,1,2,3,4] 5)
  refine W ?_;refine av J (fun g18=> ?_) (fun g18=> ?_)
  ·replace h:=ad g18 h;refine bx O ([al B4 42 [iV 0,iV 0,.string (⟨#[]⟩),iV 0,iV 0,iV 0,.string (⟨#[]⟩),iV 0,iV 0,.string (⟨#[]⟩),iV 0,iV 0,.string (⟨#[]⟩)],al B3 32 (bK a2),al B2 24 (cn a1),al B1 42 (bm a0)]) (cS [1,2,3,4] 5) ?_;refine zE 0 J (bT J vc) ?_;refine zR 1 J (aj (us:=aE a0.Get) 3 J J aN J) ?_;refine zE 2 J (bT J vb) ?_;refine zR 3 J (aj (us:=aE a0.Set) 3 J J aN J) ?_;refine zE 4 J (bT J vc) ?_;refine zO 5 J (aw (us:=aE a0.Get) (cs':=[iV a1.Kind,iV a1.N,.string a1.S,iV 0,iV 0,iV 0,.string (⟨#[]⟩),iV a0.Get.Kind,iV a0.Get.N,.string a0.Get.S,iV 0,iV 0,.string (⟨#[]⟩)]) 0 J J J J be J J J) ?_;rintro _ _ rfl;refine cZ (cS [1,2,3,4] 5) ?_;refine zE 6 J (bT J vb) ?_;refine zO 7 J (aw (us:=aE a0.Set) (cs':=[iV a1.Kind,iV a1.N,.string a1.S,iV 0,iV 0,iV 0,.string (⟨#[]⟩),iV a0.Get.Kind,iV a0.Get.N,.string a0.Get.S,iV a0.Set.Kind,iV a0.Set.N,.string a0.Set.S]) 0 J J J J be J J J) ?_;rintro _ _ rfl;refine cZ (cS [1,2,3,4] 5) ?_;refine bj O ?_;refine d8 ?_;exact ⟨_,_,⟨a0.Get.Kind,a0.Get.N,a0.Get.S,a0.Set.Kind,a0.Set.N,a0.Set.S,h,J,J⟩,sA,cS [4,2,1,0] 5⟩
  replace h:=ae g18 h;refine W ?_;exact ⟨_,_,⟨0,0,⟨#[]⟩,0,0,⟨#[]⟩,h,J,J⟩,sA,cS [4,2,1,0] 5⟩
 rintro _ _ ⟨p11,p12,p13,p14,p15,p16,h,rfl,rfl⟩;refine bc (fun s L=> ∃p20 p21 p22 p23,gB N b6 a0 a2 a1 p11 p12 p13 p14 p15 p16 p20 p21 p22 p23=some r∧s=[(3,pV B1 0),(5,pV B3 0),(6,pV B4 0),(8,.bool b6),(9,pV B9 0)]∧L=[al B1 42 (bm a0),al B3 32 (bK a2),al B4 42 [iV 0,iV 0,.string (⟨#[]⟩),iV 0,iV 0,iV 0,.string (⟨#[]⟩),iV 0,iV 0,.string (⟨#[]⟩),iV 0,iV 0,.string (⟨#[]⟩)],al B9 42 [iV a1.Kind,iV a1.N,.string a1.S,iV p20,iV p21,iV p22,.string p23,iV p11,iV p12,.string p13,iV p14,iV p15,.string p16]]) ?_ ?_
 ·refine W ?_;obtain ⟨b24,hb24,h⟩:=aa h;refine aH 3 42 b24 ?_ ?_
  ·clear h;refine aD 39 J (fun g24=> ?_) (fun g24=> ?_)
   ·have h:=ad g24 hb24;refine W ?_;obtain rfl:=ao h;exact ab sA (cS [0,1,2,3] 4)
   have h:=ae g24 hb24;refine W ?_;obtain rfl:=ao h;exact ab sA (cS [0,1,2,3] 4)
  refine W ?_;refine av J (fun g25=> ?_) (fun g25=> ?_)
  ·replace h:=ad g25 h;refine W ?_;refine gR (aj (us:=aE a0.Value) 0 J J aN J) ?_;refine W ?_;refine gO (aw (us:=aE a0.Value) (cs':=[iV a1.Kind,iV a1.N,.string a1.S,iV 0,iV a0.Value.Kind,iV a0.Value.N,.string a0.Value.S,iV p11,iV p12,.string p13,iV p14,iV p15,.string p16]) 3 J J J J be J J J) ?_;rintro _ _ rfl;refine W ?_;refine gE (bR J J) ?_;refine W ?_;refine gO (aw (us:=[iV (aF .i64 a0.Attrs 1)]) (cs':=[iV a1.Kind,iV a1.N,.string a1.S,iV (aF .i64 a0.Attrs 1),iV a0.Value.Kind,iV a0.Value.N,.string a0.Value.S,iV p11,iV p12,.string p13,iV p14,iV p15,.string p16]) 3 J J J J il J J J) ?_;rintro _ _ rfl;refine bG ?_;refine W ?_;exact ⟨_,_,⟨aF .i64 a0.Attrs 1,a0.Value.Kind,a0.Value.N,a0.Value.S,h,J,J⟩,sA,cS [0,1,2,3] 4⟩
  replace h:=ae g25 h;refine W ?_;exact ⟨_,_,⟨0,0,0,⟨#[]⟩,h,J,J⟩,sA,cS [0,1,2,3] 4⟩
 rintro _ _ ⟨p20,p21,p22,p23,h,rfl,rfl⟩;refine W ?_;refine gE (bR J J) ?_;refine gE (jL J J) ?_;refine W ?_;refine gO (aw (us:=[iV (cD .i64 p20 (aF .i64 a0.Attrs 6))]) (cs':=[iV a1.Kind,iV a1.N,.string a1.S,iV (cD .i64 p20 (aF .i64 a0.Attrs 6)),iV p21,iV p22,.string p23,iV p11,iV p12,.string p13,iV p14,iV p15,.string p16]) 3 J J J J il J J J) ?_;rintro _ _ rfl;refine W ?_;refine bc (fun s L=> ∃p27,eg N a2 a1 p21 p22 p23 p11 p12 p13 p14 p15 p16 p27=some r∧s=[(5,pV B3 0),(6,pV B4 0),(9,pV B9 0)]∧L=[al B3 32 (bK a2),al B4 42 [iV 0,iV 0,.string (⟨#[]⟩),iV 0,iV 0,iV 0,.string (⟨#[]⟩),iV 0,iV 0,.string (⟨#[]⟩),iV 0,iV 0,.string (⟨#[]⟩)],al B9 42 [iV a1.Kind,iV a1.N,.string a1.S,iV p27,iV p21,iV p22,.string p23,iV p11,iV p12,.string p13,iV p14,iV p15,.string p16]]) ?_ ?_
 ·refine W ?_;refine av J (fun g28=> ?_) (fun g28=> ?_)
  ·replace h:=ad g28 h;refine W ?_;refine gE (jL J J) ?_;refine W ?_;refine gO (aw (us:=[iV (cD .i64 (cD .i64 p20 (aF .i64 a0.Attrs 6)) 8)]) (cs':=[iV a1.Kind,iV a1.N,.string a1.S,iV (cD .i64 (cD .i64 p20 (aF .i64 a0.Attrs 6)) 8),iV p21,iV p22,.string p23,iV p11,iV p12,.string p13,iV p14,iV p15,.string p16]) 3 J J J J il J J J) ?_;rintro _ _ rfl;refine W ?_;exact ⟨_,_,⟨cD .i64 (cD .i64 p20 (aF .i64 a0.Attrs 6)) 8,h,J,J⟩,sA,cS [1,2,3] 4⟩
  replace h:=ae g28 h;refine W ?_;exact ⟨_,_,⟨cD .i64 p20 (aF .i64 a0.Attrs 6),h,J,J⟩,sA,cS [1,2,3] 4⟩
 rintro _ _ ⟨p27,h,rfl,rfl⟩;refine W ?_;refine gR (aj (us:=bK a2) 0 J J df J) ?_;obtain ⟨y29,hy29,h⟩:=aa h;refine gD (ap (rY hy29) Dq J (ai) qb) ?_;rintro _ _ ⟨_,⟨rfl,rfl⟩,rfl⟩;refine W ?_;refine gE (oS J J) ?_;refine W ?_;refine gE (bR J J) ?_;refine gE (jL J J) ?_;refine W ?_;refine gO (aw (us:=[iV (cD .i64 (cr .i64 p27 y29) (aF .i64 a2.Attrs y29))]) (cs':=[iV a1.Kind,iV a1.N,.string a1.S,iV (cD .i64 (cr .i64 p27 y29) (aF .i64 a2.Attrs y29)),iV p21,iV p22,.string p23,iV p11,iV p12,.string p13,iV p14,iV p15,.string p16]) 2 J J J J il J J J) ?_;rintro _ _ rfl;refine bG ?_;refine W ?_;refine bc (fun s L=> ∃p31 p32 p33,ef N a2 a1 p27 y29 p11 p12 p13 p14 p15 p16 p31 p32 p33=some r∧s=[(5,pV B3 0),(6,pV B4 0),(9,pV B9 0)]∧L=[al B3 32 (bK a2),al B4 42 [iV 0,iV 0,.string (⟨#[]⟩),iV 0,iV 0,iV 0,.string (⟨#[]⟩),iV 0,iV 0,.string (⟨#[]⟩),iV 0,iV 0,.string (⟨#[]⟩)],al B9 42 [iV a1.Kind,iV a1.N,.string a1.S,iV (cD .i64 (cr .i64 p27 y29) (aF .i64 a2.Attrs y29)),iV p31,iV p32,.string p33,iV p11,iV p12,.string p13,iV p14,iV p15,.string p16]]) ?_ ?_
 ·refine W ?_;refine gR (aj (us:=bK a2) 0 J J df J) ?_;obtain ⟨y34,hy34,h⟩:=aa h;refine gD (ap (cp hy34) fm J (ai) bH) ?_;rintro _ _ ⟨_,⟨rfl,rfl⟩,rfl⟩;refine W ?_;refine av J (fun g35=> ?_) (fun g35=> ?_)
  ·replace h:=ad g35 h;refine W ?_;refine gR (aj (us:=aE a2.Value) 0 J J aN J) ?_;refine W ?_;refine gO (aw (us:=aE a2.Value) (cs':=[iV a1.Kind,iV a1.N,.string a1.S,iV (cD .i64 (cr .i64 p27 y29) (aF .i64 a2.Attrs y29)),iV a2.Value.Kind,iV a2.Value.N,.string a2.Value.S,iV p11,iV p12,.string p13,iV p14,iV p15,.string p16]) 2 J J J J be J J J) ?_;rintro _ _ rfl;refine W ?_;exact ⟨_,_,⟨a2.Value.Kind,a2.Value.N,a2.Value.S,h,J,J⟩,sA,cS [0,1,2] 3⟩
  replace h:=ae g35 h;refine W ?_;exact ⟨_,_,⟨p21,p22,p23,h,J,J⟩,sA,cS [0,1,2] 3⟩
 rintro _ _ ⟨p31,p32,p33,h,rfl,rfl⟩;refine bc (fun s L=> ∃p37 p38 p39,ee N a2 a1 p27 y29 p31 p32 p33 p14 p15 p16 p37 p38 p39=some r∧s=[(5,pV B3 0),(6,pV B4 0),(9,pV B9 0)]∧L=[al B3 32 (bK a2),al B4 42 [iV 0,iV 0,.string (⟨#[]⟩),iV 0,iV 0,iV 0,.string (⟨#[]⟩),iV 0,iV 0,.string (⟨#[]⟩),iV 0,iV 0,.string (⟨#[]⟩)],al B9 42 [iV a1.Kind,iV a1.N,.string a1.S,iV (cD .i64 (cr .i64 p27 y29) (aF .i64 a2.Attrs y29)),iV p31,iV p32,.string p33,iV p37,iV p38,.string p39,iV p14,iV p15,.string p16]]) ?_ ?_
 ·refine W ?_;refine gR (aj (us:=bK a2) 0 J J df J) ?_;obtain ⟨y40,hy40,h⟩:=aa h;refine gD (ap (cp hy40) fm J (ai) bH) ?_;rintro _ _ ⟨_,⟨rfl,rfl⟩,rfl⟩;refine W ?_;refine av J (fun g41=> ?_) (fun g41=> ?_)
  ·replace h:=ad g41 h;refine W ?_;refine gR (aj (us:=aE a2.Get) 0 J J aN J) ?_;refine W ?_;refine gO (aw (us:=aE a2.Get) (cs':=[iV a1.Kind,iV a1.N,.string a1.S,iV (cD .i64 (cr .i64 p27 y29) (aF .i64 a2.Attrs y29)),iV p31,iV p32,.string p33,iV a2.Get.Kind,iV a2.Get.N,.string a2.Get.S,iV p14,iV p15,.string p16]) 2 J J J J be J J J) ?_;rintro _ _ rfl;refine W ?_;exact ⟨_,_,⟨a2.Get.Kind,a2.Get.N,a2.Get.S,h,J,J⟩,sA,cS [0,1,2] 3⟩
  replace h:=ae g41 h;refine W ?_;exact ⟨_,_,⟨p11,p12,p13,h,J,J⟩,sA,cS [0,1,2] 3⟩
 rintro _ _ ⟨p37,p38,p39,h,rfl,rfl⟩;refine bc (fun s L=> ∃p43 p44 p45,gA N a1 p27 y29 a2 p31 p32 p33 p37 p38 p39 p43 p44 p45=some r∧s=[(6,pV B4 0),(9,pV B9 0)]∧L=[al B4 42 [iV 0,iV 0,.string (⟨#[]⟩),iV 0,iV 0,iV 0,.string (⟨#[]⟩),iV 0,iV 0,.string (⟨#[]⟩),iV 0,iV 0,.string (⟨#[]⟩)],al B9 42 [iV a1.Kind,iV a1.N,.string a1.S,iV (cD .i64 (cr .i64 p27 y29) (aF .i64 a2.Attrs y29)),iV p31,iV p32,.string p33,iV p37,iV p38,.string p39,iV p43,iV p44,.string p45]]) ?_ ?_
 ·refine W ?_;refine gR (aj (us:=bK a2) 0 J J df J) ?_;obtain ⟨y46,hy46,h⟩:=aa h;refine gD (ap (cp hy46) fm J (ai) bH) ?_;rintro _ _ ⟨_,⟨rfl,rfl⟩,rfl⟩;refine W ?_;refine av J (fun g47=> ?_) (fun g47=> ?_)
  ·replace h:=ad g47 h;refine W ?_;refine gR (aj (us:=aE a2.Set) 0 J J aN J) ?_;refine W ?_;refine gO (aw (us:=aE a2.Set) (cs':=[iV a1.Kind,iV a1.N,.string a1.S,iV (cD .i64 (cr .i64 p27 y29) (aF .i64 a2.Attrs y29)),iV p31,iV p32,.string p33,iV p37,iV p38,.string p39,iV a2.Set.Kind,iV a2.Set.N,.string a2.Set.S]) 2 J J J J be J J J) ?_;rintro _ _ rfl;refine bG ?_;refine W ?_;exact ⟨_,_,⟨a2.Set.Kind,a2.Set.N,a2.Set.S,h,J,J⟩,sA,cS [1,2] 3⟩
  replace h:=ae g47 h;refine W ?_;exact ⟨_,_,⟨p14,p15,p16,h,J,J⟩,sA,cS [1,2] 3⟩
 rintro _ _ ⟨p43,p44,p45,h,rfl,rfl⟩;refine W ?_;refine gR (aj (us:=[iV a1.Kind,iV a1.N,.string a1.S,iV (cD .i64 (cr .i64 p27 y29) (aF .i64 a2.Attrs y29)),iV p31,iV p32,.string p33,iV p37,iV p38,.string p39,iV p43,iV p44,.string p45]) 1 J J eM J) ?_;refine gO (aw (us:=[iV a1.Kind,iV a1.N,.string a1.S,iV (cD .i64 (cr .i64 p27 y29) (aF .i64 a2.Attrs y29)),iV p31,iV p32,.string p33,iV p37,iV p38,.string p39,iV p43,iV p44,.string p45]) (cs':=[iV a1.Kind,iV a1.N,.string a1.S,iV (cD .i64 (cr .i64 p27 y29) (aF .i64 a2.Attrs y29)),iV p31,iV p32,.string p33,iV p37,iV p38,.string p39,iV p43,iV p44,.string p45]) 0 J J J J dh J J J) ?_;rintro _ _ rfl;refine W ?_;obtain rfl:=ao h;exact cG (rs:=[.cell 6 42]) (vs:=[.agg #[iV a1.Kind,iV a1.N,.string a1.S,iV (cD .i64 (cr .i64 p27 y29) (aF .i64 a2.Attrs y29)),iV p31,iV p32,.string p33,iV p37,iV p38,.string p39,iV p43,iV p44,.string p45]]) J (.cons (bA 0 J J eM) .nil) J (cS [] 2) ⟨J,J⟩
theorem po {r:K4}: ∀v post,((fun (u:Value) (post:List Chunk)=>u=(cU r)∧post=[])) v post→ ∀c∈post,cF c:=by
 rintro _ _ ⟨rfl,rfl⟩;exact ai
def mt (N:Nat)(a0:Li)(a1:Lj):Option K4:=
 (fj N (⟨(⟨0,0,⟨#[]⟩⟩:Lj),0,(⟨0,0,⟨#[]⟩⟩:Lf),(⟨0,0,⟨#[]⟩⟩:Lf),(⟨0,0,⟨#[]⟩⟩:Lf)⟩:K4) a1 a0).bind fun y4=>some y4
theorem zy {N:Nat}{a0:Li}{a1:Lj}{r:K4}(h:mt N a0 a1=some r):Okc Tryz.prog 170 [(fV a0),(gk a1)] ([]) (fun u post=>u=(cU r)∧post=[]):=by
 refine bB Tryz.func170 J J ?_;simp only [ba];refine W ?_;refine gD (aT J J) ?_;rintro _ _ ⟨B1,rfl,rfl⟩;refine gD (aT J J) ?_;rintro _ _ ⟨B2,rfl,rfl⟩;refine gD (aM fq J) ?_;rintro _ _ ⟨B3,rfl,rfl⟩;refine W ?_;refine gE (bg J (rA)) ?_;refine gR (aj (us:=cn a1) 1 J J bI J) ?_;refine gR (aj (us:=bK a0) 2 J J df J) ?_;obtain ⟨y4,hy4,h⟩:=aa h;refine gD (ap (qN hy4) Dj J (ai) po) ?_;rintro _ _ ⟨_,⟨rfl,rfl⟩,rfl⟩;refine gO (aw (us:=bm y4) (cs':=bm y4) 0 J J J J dh J J J) ?_;rintro _ _ rfl;refine W ?_;obtain rfl:=ao h;exact cG (rs:=[.cell 4 42]) (vs:=[(cU y4)]) J (.cons (bA 0 J J eM) .nil) J (cS [] 3) ⟨J,J⟩
theorem wI {r:K4}: ∀v post,((fun (u:Value) (post:List Chunk)=>u=(cU r)∧post=[])) v post→ ∀c∈post,cF c:=by
 rintro _ _ ⟨rfl,rfl⟩;exact ai
def ls (N:Nat)(a0:Lf)(a1:Lf):Option Bool:=
 some (decide (a0=a1))
theorem oU {N:Nat}{a0:Lf}{a1:Lf}{r:Bool}(h:ls N a0 a1=some r):Okc Tryz.prog 214 [(bQ a0),(bQ a1)] ([]) (fun u post=>u=.bool r∧post=[]):=by
 refine bB Tryz.func214 J J ?_;simp only [ba];refine W ?_;refine gD (aT J J) ?_;rintro _ _ ⟨B1,rfl,rfl⟩;refine gD (aT J J) ?_;rintro _ _ ⟨B2,rfl,rfl⟩;refine W ?_;refine gR (aj (us:=aE a0) 1 J J aN J) ?_;refine gR (aj (us:=aE a1) 0 J J aN J) ?_;refine gE (pm (x:=a0) (y:=a1) J J) ?_;refine W ?_;obtain rfl:=ao h;exact aO J J (cS [] 2) ⟨J,J⟩
theorem mI {r:Bool}: ∀v post,((fun (u:Value) (post:List Chunk)=>u=.bool r∧post=[])) v post→ ∀c∈post,cF c:=by
 rintro _ _ ⟨rfl,rfl⟩;exact ai
def oF (N:Nat)(a0:K4)(a1:Li):Option Bool:=
 (bp N a1 32).bind fun y3=>(bif y3 then (some (!decide (aF .i64 a1.Attrs 4=0))) else (some false)).bind fun b4=>(bif b4 then (some true) else ((bp N a1 16).bind fun y6=>(bif y6 then (some (!decide (aF .i64 (Dy .i64 a1.Attrs a0.Attrs) 2=0))) else (some false)).bind fun b7=>some b7)).bind fun b5=>bif b5 then (some true) else (bif !decide (aF .i64 a0.Attrs 8=0) then ((bp N a1 3).bind fun y10=>(bif y10 then (some true) else ((bp N a1 4).bind fun y12=>(bif y12 then ((ls N a1.Get a0.Get).bind fun y14=>some (!y14)) else (some false)).bind fun b13=>some b13)).bind fun b11=>(bif b11 then (some true) else ((bp N a1 8).bind fun y16=>(bif y16 then ((ls N a1.Set a0.Set).bind fun y18=>some (!y18)) else (some false)).bind fun b17=>some b17)).bind fun b15=>some b15) else ((bp N a1 12).bind fun y19=>bif y19 then (some true) else ((bif decide (aF .i64 a0.Attrs 1=0) then ((bp N a1 2).bind fun y22=>(bif y22 then (some (!decide (aF .i64 a1.Attrs 1=0))) else (some false)).bind fun b23=>(bif b23 then (some true) else ((bp N a1 1).bind fun y25=>(bif y25 then ((ls N a1.Value a0.Value).bind fun y27=>some (!y27)) else (some false)).bind fun b26=>some b26)).bind fun b24=>some b24) else (some false)).bind fun b21=>some b21)))
set_option maxHeartbeats 4000000 in
theorem zw {N:Nat}{a0:K4}{a1:Li}{r:Bool}(h:oF N a0 a1=some r):Okc Tryz.prog 171 [(cU a0),(fV a1)] ([]) (fun u post=>u=.bool r∧post=[]):=by
 refine bB Tryz.func171 J J ?_;simp only [ba];refine W ?_;refine gD (aT J J) ?_;rintro _ _ ⟨B1,rfl,rfl⟩;refine gD (aT J J) ?_;rintro _ _ ⟨B2,rfl,rfl⟩;refine W ?_;refine aB ?_;refine W ?_;refine gR (aj (us:=bK a1) 0 J J df J) ?_;obtain ⟨y3,hy3,h⟩:=aa h;refine gD (ap (cp hy3) fm J (ai) bH) ?_;rintro _ _ ⟨_,⟨rfl,rfl⟩,rfl⟩;refine W ?_;obtain ⟨b4,hb4,h⟩:=aa h;refine aH 5 12 b4 ?_ ?_
 ·clear h;refine aD 7 J (fun g4=> ?_) (fun g4=> ?_)
  ·have h:=ad g4 hb4;refine W ?_;refine eR (bR J J) J (bi g4 J) J ?_;refine W ?_;obtain rfl:=ao h;exact ab sA (cS [0,1] 2)
  have h:=ae g4 hb4;refine W ?_;obtain rfl:=ao h;exact ab sA (cS [0,1] 2)
 refine W ?_;obtain ⟨b5,hb5,h⟩:=aa h;refine aH 12 25 b5 ?_ ?_
 ·clear h;refine aD 13 J (fun g5=> ?_) (fun g5=> ?_)
  ·have h:=ad g5 hb5;refine W ?_;obtain rfl:=ao h;exact ab sA (cS [0,1] 2)
  have h:=ae g5 hb5;refine bY (aj (us:=bK a1) 0 J J df J) J (co g5 J) J ?_;obtain ⟨y6,hy6,h⟩:=aa h;refine cc (ap (cp hy6) fm J (ai) bH) J (co g5 J) J ?_;rintro _ _ ⟨_,⟨rfl,rfl⟩,rfl⟩;refine W ?_;obtain ⟨b7,hb7,h⟩:=aa h;refine aH 8 24 b7 ?_ ?_
  ·clear h;refine aD 16 J (fun g7=> ?_) (fun g7=> ?_)
   ·have h:=ad g7 hb7;refine W ?_;refine eR (Ce J J) J (bi g7 J) J ?_;refine eR (bR J J) J (bi g7 J) J ?_;refine W ?_;obtain rfl:=ao h;exact ab sA (cS [0,1] 2)
   have h:=ae g7 hb7;refine W ?_;obtain rfl:=ao h;exact ab sA (cS [0,1] 2)
  refine W ?_;obtain rfl:=ao h;exact ab sA (cS [0,1] 2)
 refine W ?_;refine av J (fun g8=> ?_) (fun g8=> ?_)
 ·replace h:=ad g8 h;refine W ?_;obtain rfl:=ao h;exact aO J J (cS [] 2) ⟨J,J⟩
 replace h:=ae g8 h;refine W ?_;refine aB ?_;refine W ?_;refine gE (bR J J) ?_;refine W ?_;refine av J (fun g9=> ?_) (fun g9=> ?_)
 ·replace h:=ad g9 h;refine W ?_;refine gR (aj (us:=bK a1) 0 J J df J) ?_;obtain ⟨y10,hy10,h⟩:=aa h;refine gD (ap (cp hy10) fm J (ai) bH) ?_;rintro _ _ ⟨_,⟨rfl,rfl⟩,rfl⟩;refine W ?_;obtain ⟨b11,hb11,h⟩:=aa h;refine aH 11 43 b11 ?_ ?_
  ·clear h;refine aD 32 J (fun g11=> ?_) (fun g11=> ?_)
   ·have h:=ad g11 hb11;refine W ?_;obtain rfl:=ao h;exact ab sA (cS [0,1] 2)
   have h:=ae g11 hb11;refine bY (aj (us:=bK a1) 0 J J df J) J (co g11 J) J ?_;obtain ⟨y12,hy12,h⟩:=aa h;refine cc (ap (cp hy12) fm J (ai) bH) J (co g11 J) J ?_;rintro _ _ ⟨_,⟨rfl,rfl⟩,rfl⟩;refine W ?_;obtain ⟨b13,hb13,h⟩:=aa h;refine aH 7 42 b13 ?_ ?_
   ·clear h;refine aD 35 J (fun g13=> ?_) (fun g13=> ?_)
    ·have h:=ad g13 hb13;refine W ?_;refine bY (aj (us:=aE a1.Get) 0 J J aN J) J (bi g13 J) J ?_;refine W ?_;refine bY (aj (us:=aE a0.Get) 1 J J aN J) J (bi g13 J) J ?_;obtain ⟨y14,hy14,h⟩:=aa h;refine cc (ap (oU hy14) zK J (ai) mI) J (bi g13 J) J ?_;rintro _ _ ⟨_,⟨rfl,rfl⟩,rfl⟩;refine W ?_;obtain rfl:=ao h;exact ab sA (cS [0,1] 2)
    have h:=ae g13 hb13;refine W ?_;obtain rfl:=ao h;exact ab sA (cS [0,1] 2)
   refine W ?_;obtain rfl:=ao h;exact ab sA (cS [0,1] 2)
  refine W ?_;obtain ⟨b15,hb15,h⟩:=aa h;refine aH 11 55 b15 ?_ ?_
  ·clear h;refine aD 44 J (fun g15=> ?_) (fun g15=> ?_)
   ·have h:=ad g15 hb15;refine W ?_;obtain rfl:=ao h;exact ab sA (cS [0,1] 2)
   have h:=ae g15 hb15;refine bY (aj (us:=bK a1) 0 J J df J) J (co g15 J) J ?_;obtain ⟨y16,hy16,h⟩:=aa h;refine cc (ap (cp hy16) fm J (ai) bH) J (co g15 J) J ?_;rintro _ _ ⟨_,⟨rfl,rfl⟩,rfl⟩;refine W ?_;obtain ⟨b17,hb17,h⟩:=aa h;refine aH 7 54 b17 ?_ ?_
   ·clear h;refine aD 47 J (fun g17=> ?_) (fun g17=> ?_)
    ·have h:=ad g17 hb17;refine W ?_;refine bY (aj (us:=aE a1.Set) 0 J J aN J) J (bi g17 J) J ?_;refine W ?_;refine bY (aj (us:=aE a0.Set) 1 J J aN J) J (bi g17 J) J ?_;obtain ⟨y18,hy18,h⟩:=aa h;refine cc (ap (oU hy18) zK J (ai) mI) J (bi g17 J) J ?_;rintro _ _ ⟨_,⟨rfl,rfl⟩,rfl⟩;refine W ?_;obtain rfl:=ao h;exact ab sA (cS [0,1] 2)
    have h:=ae g17 hb17;refine W ?_;obtain rfl:=ao h;exact ab sA (cS [0,1] 2)
   refine W ?_;obtain rfl:=ao h;exact ab sA (cS [0,1] 2)
  refine W ?_;obtain rfl:=ao h;exact aO J J (cS [] 2) ⟨J,J⟩
 replace h:=ae g9 h;refine W ?_;refine aB ?_;refine W ?_;refine gR (aj (us:=bK a1) 0 J J df J) ?_;obtain ⟨y19,hy19,h⟩:=aa h;refine gD (ap (cp hy19) fm J (ai) bH) ?_;rintro _ _ ⟨_,⟨rfl,rfl⟩,rfl⟩;refine W ?_;refine av J (fun g20=> ?_) (fun g20=> ?_)
 ·replace h:=ad g20 h;refine W ?_;obtain rfl:=ao h;exact aO J J (cS [] 2) ⟨J,J⟩
 replace h:=ae g20 h;refine W ?_;refine gE (bR J J) ?_;refine W ?_;obtain ⟨b21,hb21,h⟩:=aa h;refine aH 21 83 b21 ?_ ?_
 ·clear h;refine aD 62 J (fun g21=> ?_) (fun g21=> ?_)
  ·have h:=ad g21 hb21;refine bY (aj (us:=bK a1) 0 J J df J) J (bi g21 J) J ?_;obtain ⟨y22,hy22,h⟩:=aa h;refine cc (ap (cp hy22) fm J (ai) bH) J (bi g21 J) J ?_;rintro _ _ ⟨_,⟨rfl,rfl⟩,rfl⟩;refine W ?_;obtain ⟨b23,hb23,h⟩:=aa h;refine aH 5 70 b23 ?_ ?_
   ·clear h;refine aD 65 J (fun g23=> ?_) (fun g23=> ?_)
    ·have h:=ad g23 hb23;refine W ?_;refine eR (bR J J) J (bi g23 J) J ?_;refine W ?_;obtain rfl:=ao h;exact ab sA (cS [0,1] 2)
    have h:=ae g23 hb23;refine W ?_;obtain rfl:=ao h;exact ab sA (cS [0,1] 2)
   refine W ?_;obtain ⟨b24,hb24,h⟩:=aa h;refine aH 11 82 b24 ?_ ?_
   ·clear h;refine aD 71 J (fun g24=> ?_) (fun g24=> ?_)
    ·have h:=ad g24 hb24;refine W ?_;obtain rfl:=ao h;exact ab sA (cS [0,1] 2)
    have h:=ae g24 hb24;refine bY (aj (us:=bK a1) 0 J J df J) J (co g24 J) J ?_;obtain ⟨y25,hy25,h⟩:=aa h;refine cc (ap (cp hy25) fm J (ai) bH) J (co g24 J) J ?_;rintro _ _ ⟨_,⟨rfl,rfl⟩,rfl⟩;refine W ?_;obtain ⟨b26,hb26,h⟩:=aa h;refine aH 7 81 b26 ?_ ?_
    ·clear h;refine aD 74 J (fun g26=> ?_) (fun g26=> ?_)
     ·have h:=ad g26 hb26;refine W ?_;refine bY (aj (us:=aE a1.Value) 0 J J aN J) J (bi g26 J) J ?_;refine W ?_;refine bY (aj (us:=aE a0.Value) 1 J J aN J) J (bi g26 J) J ?_;obtain ⟨y27,hy27,h⟩:=aa h;refine cc (ap (oU hy27) zK J (ai) mI) J (bi g26 J) J ?_;rintro _ _ ⟨_,⟨rfl,rfl⟩,rfl⟩;refine W ?_;obtain rfl:=ao h;exact ab sA (cS [0,1] 2)
     have h:=ae g26 hb26;refine W ?_;obtain rfl:=ao h;exact ab sA (cS [0,1] 2)
    refine W ?_;obtain rfl:=ao h;exact ab sA (cS [0,1] 2)
   refine W ?_;obtain rfl:=ao h;exact ab sA (cS [0,1] 2)
  have h:=ae g21 hb21;refine W ?_;obtain rfl:=ao h;exact ab sA (cS [0,1] 2)
 refine W ?_;obtain rfl:=ao h;exact aO J J (cS [] 2) ⟨J,J⟩
theorem wH {r:Bool}: ∀v post,((fun (u:Value) (post:List Chunk)=>u=.bool r∧post=[])) v post→ ∀c∈post,cF c:=by
 rintro _ _ ⟨rfl,rfl⟩;exact ai
def cq (N:Nat)(a0:K4)(a1:Bool)(a2:Bool)(a3:Lj)(a4:Li):Option (K4×Bool):=
 bif !a1 then (bif !a2 then (some ((⟨(⟨0,0,⟨#[]⟩⟩:Lj),0,(⟨0,0,⟨#[]⟩⟩:Lf),(⟨0,0,⟨#[]⟩⟩:Lf),(⟨0,0,⟨#[]⟩⟩:Lf)⟩:K4),false)) else ((mt N a4 a3).bind fun y7=>some (y7,true))) else ((bif decide (aF .i64 a0.Attrs 4=0) then ((oF N a0 a4).bind fun y9=>some y9) else (some false)).bind fun b8=>bif b8 then (some ((⟨(⟨0,0,⟨#[]⟩⟩:Lj),0,(⟨0,0,⟨#[]⟩⟩:Lf),(⟨0,0,⟨#[]⟩⟩:Lf),(⟨0,0,⟨#[]⟩⟩:Lf)⟩:K4),false)) else ((fj N a0 a3 a4).bind fun y11=>some (y11,true)))
set_option maxHeartbeats 4000000 in
theorem oT {N:Nat}{a0:K4}{a1:Bool}{a2:Bool}{a3:Lj}{a4:Li}{r:(K4×Bool)}(h:cq N a0 a1 a2 a3 a4=some r):Okc Tryz.prog 122 [(cU a0),.bool a1,.bool a2,(gk a3),(fV a4)] ([]) (fun u post=>u=.tuple #[(cU r.1),.bool r.2]∧post=[]):=by
 refine bB Tryz.func122 J J ?_;simp only [ba];refine W ?_;refine gD (aT J J) ?_;rintro _ _ ⟨B1,rfl,rfl⟩;refine gD (aT J J) ?_;rintro _ _ ⟨B2,rfl,rfl⟩;refine gD (aT J J) ?_;rintro _ _ ⟨B3,rfl,rfl⟩;refine gD (aM fq J) ?_;rintro _ _ ⟨B4,rfl,rfl⟩;refine W ?_;refine aB ?_;refine W ?_;refine av J (fun g5=> ?_) (fun g5=> ?_)
 ·replace h:=ad g5 h;refine aB ?_;refine W ?_;refine av J (fun g6=> ?_) (fun g6=> ?_)
  ·replace h:=ad g6 h;refine W ?_;refine gE (bg J (rA)) ?_;refine gO (aw (us:=[iV 0,iV 0,.string (⟨#[]⟩),iV 0,iV 0,iV 0,.string (⟨#[]⟩),iV 0,iV 0,.string (⟨#[]⟩),iV 0,iV 0,.string (⟨#[]⟩)]) (cs':=[iV 0,iV 0,.string (⟨#[]⟩),iV 0,iV 0,iV 0,.string (⟨#[]⟩),iV 0,iV 0,.string (⟨#[]⟩),iV 0,iV 0,.string (⟨#[]⟩)]) 0 J J J J dh J J J) ?_;rintro _ _ rfl;refine W ?_;obtain rfl:=ao h;exact cG (rs:=[.cell 10 42,.tmp 11]) (vs:=[.agg #[iV 0,iV 0,.string (⟨#[]⟩),iV 0,iV 0,iV 0,.string (⟨#[]⟩),iV 0,iV 0,.string (⟨#[]⟩),iV 0,iV 0,.string (⟨#[]⟩)],.bool false]) J (.cons (bA 0 J J eM) (.cons (dN J) .nil)) J (cS [] 4) ⟨J,J⟩
  replace h:=ae g6 h;refine W ?_;refine gR (aj (us:=bK a4) 1 J J df J) ?_;refine gR (aj (us:=cn a3) 2 J J bI J) ?_;obtain ⟨y7,hy7,h⟩:=aa h;refine gD (ap (zy hy7) Hs J (ai) wI) ?_;rintro _ _ ⟨_,⟨rfl,rfl⟩,rfl⟩;refine gO (aw (us:=bm y7) (cs':=bm y7) 0 J J J J dh J J J) ?_;rintro _ _ rfl;refine W ?_;obtain rfl:=ao h;exact cG (rs:=[.cell 10 42,.tmp 11]) (vs:=[(cU y7),.bool true]) J (.cons (bA 0 J J eM) (.cons (dN J) .nil)) J (cS [] 4) ⟨J,J⟩
 replace h:=ae g5 h;refine W ?_;refine aB ?_;refine W ?_;refine gE (bR J J) ?_;refine W ?_;obtain ⟨b8,hb8,h⟩:=aa h;refine aH 4 28 b8 ?_ ?_
 ·clear h;refine aD 24 J (fun g8=> ?_) (fun g8=> ?_)
  ·have h:=ad g8 hb8;refine bY (aj (us:=bm a0) 3 J J eM J) J (bi g8 J) J ?_;refine bY (aj (us:=bK a4) 1 J J df J) J (bi g8 J) J ?_;obtain ⟨y9,hy9,h⟩:=aa h;refine cc (ap (zw hy9) Hr J (ai) wH) J (bi g8 J) J ?_;rintro _ _ ⟨_,⟨rfl,rfl⟩,rfl⟩;refine W ?_;obtain rfl:=ao h;exact ab sA (cS [0,1,2,3] 4)
  have h:=ae g8 hb8;refine W ?_;obtain rfl:=ao h;exact ab sA (cS [0,1,2,3] 4)
 refine W ?_;refine av J (fun g10=> ?_) (fun g10=> ?_)
 ·replace h:=ad g10 h;refine W ?_;refine gE (bg J (rA)) ?_;refine gO (aw (us:=[iV 0,iV 0,.string (⟨#[]⟩),iV 0,iV 0,iV 0,.string (⟨#[]⟩),iV 0,iV 0,.string (⟨#[]⟩),iV 0,iV 0,.string (⟨#[]⟩)]) (cs':=[iV 0,iV 0,.string (⟨#[]⟩),iV 0,iV 0,iV 0,.string (⟨#[]⟩),iV 0,iV 0,.string (⟨#[]⟩),iV 0,iV 0,.string (⟨#[]⟩)]) 0 J J J J dh J J J) ?_;rintro _ _ rfl;refine bG ?_;refine W ?_;obtain rfl:=ao h;exact cG (rs:=[.cell 10 42,.tmp 11]) (vs:=[.agg #[iV 0,iV 0,.string (⟨#[]⟩),iV 0,iV 0,iV 0,.string (⟨#[]⟩),iV 0,iV 0,.string (⟨#[]⟩),iV 0,iV 0,.string (⟨#[]⟩)],.bool false]) J (.cons (bA 0 J J eM) (.cons (dN J) .nil)) J (cS [] 4) ⟨J,J⟩
 replace h:=ae g10 h;refine W ?_;refine gR (aj (us:=bm a0) 3 J J eM J) ?_;refine gR (aj (us:=cn a3) 2 J J bI J) ?_;refine gR (aj (us:=bK a4) 1 J J df J) ?_;obtain ⟨y11,hy11,h⟩:=aa h;refine gD (ap (qN hy11) Dj J (ai) po) ?_;rintro _ _ ⟨_,⟨rfl,rfl⟩,rfl⟩;refine gO (aw (us:=bm y11) (cs':=bm y11) 0 J J J J dh J J J) ?_;rintro _ _ rfl;refine W ?_;obtain rfl:=ao h;exact cG (rs:=[.cell 10 42,.tmp 11]) (vs:=[(cU y11),.bool true]) J (.cons (bA 0 J J eM) (.cons (dN J) .nil)) J (cS [] 4) ⟨J,J⟩
theorem mH {r:(K4×Bool)}: ∀v post,((fun (u:Value) (post:List Chunk)=>u=.tuple #[(cU r.1),.bool r.2]∧post=[])) v post→ ∀c∈post,cF c:=by
 rintro _ _ ⟨rfl,rfl⟩;exact ai
def mR (N:Nat):Option (Int×Int×Bool):=
 some (0,0,false)
def gJ (N:Nat)(a0:K9)(a2:Lj):Nat→Int→Int→Int→ByteArray→Int→Int→Option (Int×Int×Bool)
 |0,_,_,_,_,_,_=>none
 |m10+1,p12,p13,p14,p15,p16,p17=>bif decide (0<p17) then (bif decide ((⟨p13,p14,p15⟩:Lj)=a2) then (cV (bC (p17 - 1)) (some (p17 - 1,p16,true))) else ((bE a0.shapes_ p12).bind fun x22=>(gJ N a0 a2 m10) x22.Up x22.Key.Kind x22.Key.N x22.Key.S x22.Attrs x22.Len)) else (mR N)
def dM (N:Nat)(a0:K9)(a1:Int)(a2:Lj):Option (Int×Int×Bool):=
 (eH N a0 a1).bind fun y5=>bif !y5 then (some (0,0,false)) else ((bE a0.shapes_ a1).bind fun x8=>gJ N a0 a2 N x8.Up x8.Key.Kind x8.Key.N x8.Key.S x8.Attrs x8.Len)
set_option maxHeartbeats 4000000 in
theorem ib {N:Nat}{a0:K9}{a1:Int}{a2:Lj}{r:(Int×Int×Bool)}(h:dM N a0 a1 a2=some r):Okc Tryz.prog 164 [pV B1 0,iV a1,(gk a2)] ([bd B1 205 [U A2 n2 c2,.map (some M3)],tN A2 n2 c2 a0.shapes_,iM aL dE M3 a0.next_]) (fun u post=>u=.tuple #[iV r.1,iV r.2.1,.bool r.2.2]∧post=[]):=by
 refine bB Tryz.func164 J J ?_;simp only [ba];refine W ?_;refine gD (aT J J) ?_;rintro _ _ ⟨B4,rfl,rfl⟩;refine W ?_;refine aB ?_;refine W ?_;obtain ⟨y5,hy5,h⟩:=aa h;refine gD (ap (kz hy5) zL J (hJ (aq (i:=1) J J) (hJ (aq (i:=2) J J) (hJ (aq (i:=3) J J) ai))) jk) ?_;rintro _ _ ⟨_,⟨rfl,rfl⟩,rfl⟩;refine W ?_;refine av J (fun g6=> ?_) (fun g6=> ?_)
 ·replace h:=ad g6 h;refine W ?_;obtain rfl:=ao h;exact C4 J J J J (cS [] 4) ⟨J,J⟩
 replace h:=ae g6 h;refine W ?_;refine bc (fun s L=>mR N=some r∧s=[(6,iV 0),(7,iV 0),(8,.bool false)]∧L=[]) ?_ ?_
 ·refine W ?_;refine gR (cI 1 J J nI J) ?_;refine W ?_;obtain ⟨x8,hx8,h⟩:=aa h;obtain ⟨lx8,ux8,hx8⟩:=aJ hx8;refine gR (bn 2 J aQ J J KP dJ lx8 ux8) ?_;refine gR (br (us:=eJ x8) 2 J aQ J hx8 oZ (fun _ _ _ h=>by rw [show _=_ from h];rfl)) ?_;refine gD (aM pA J) ?_;rintro _ _ ⟨B9,rfl,rfl⟩;refine gO (aw (us:=eJ x8) (cs':=eJ x8) 0 J J J J dJ J J J) ?_;rintro _ _ rfl;refine W ?_;refine cv (fun m s L=> ∃p12 p13 p14 p15 p16 p17 B11,gJ N a0 a2 m p12 p13 p14 p15 p16 p17=some r∧s=[(0,pV B1 0),(5,pV B4 0),(6,iV 0),(7,iV 0),(8,.bool false),(9,pV B11 0)]∧L=[al B11 201 [iV p12,iV p13,iV p14,.string p15,iV p16,iV p17],tN A2 n2 c2 a0.shapes_,iM aL dE M3 a0.next_,bd B1 205 [U A2 n2 c2,.map (some M3)],al B4 24 (cn a2)]) N _ _ ⟨x8.Up,x8.Key.Kind,x8.Key.N,x8.Key.S,x8.Attrs,x8.Len,B9,h,J,J⟩ sA (cS [0,3,4,2,1] 5) ?_;rintro (_|m10) _ _ ⟨p12,p13,p14,p15,p16,p17,B11,h,rfl,rfl⟩
  ·exact bq h
  rw [gJ.eq_2] at h;refine aB ?_;refine W ?_;refine av J (fun g18=> ?_) (fun g18=> ?_)
  ·replace h:=ad g18 h;refine W ?_;refine aB ?_;refine W ?_;refine gR (aj (us:=[iV p13,iV p14,.string p15]) 0 J J bI J) ?_;refine gR (aj (us:=cn a2) 4 J J bI J) ?_;refine gE (ta (x:=(⟨p13,p14,p15⟩:Lj)) (y:=a2) J J) ?_;refine W ?_;refine av J (fun g19=> ?_) (fun g19=> ?_)
   ·replace h:=ad g19 h;refine aB ?_;refine bx O _ (ac _) ?_;refine zE 0 J (bT J sX) ?_;refine zR 1 J (aW 0 J J dH J) ?_;obtain ⟨q20,h⟩:=aA h;refine zE 2 J (dC J J q20.1 q20.2) ?_;refine zE 3 J (bT J ph) ?_;refine zR 4 J (aW 0 J J dH J) ?_;refine zE 5 J (aS J) ?_;refine zE 6 J (aS J) ?_;refine zE 7 J (aS J) ?_;refine bj O ?_;refine W ?_;obtain rfl:=ao h;exact C4 J J J J (cS [] 5) ⟨J,J⟩
   replace h:=ae g19 h;refine W ?_;refine aB ?_;refine W ?_;refine gR (aj (us:=[iV p12,iV p13,iV p14,.string p15,iV p16,iV p17]) 0 J J oZ J) ?_;refine W ?_;refine gD (aM pA J) ?_;rintro _ _ ⟨B21,rfl,rfl⟩;refine gO (aw (us:=[iV p12,iV p13,iV p14,.string p15,iV p16,iV p17]) (cs':=[iV p12,iV p13,iV p14,.string p15,iV p16,iV p17]) 0 J J J J dJ J J J) ?_;rintro _ _ rfl;refine W ?_;refine bx O _ (ac _) ?_;refine zE 0 J (au J) ?_;refine zE 1 J (aX J) ?_;refine zE 2 J (dD J pf) ?_;refine zR 3 J (cI 4 J J nI J) ?_;refine zE 4 J (dD J sZ) ?_;refine zR 5 J (aW 0 J J dH J) ?_;obtain ⟨x22,hx22,h⟩:=aa h;obtain ⟨lx22,ux22,hx22⟩:=aJ hx22;refine zR 6 J (bn 2 J aQ J J KP dJ lx22 ux22) ?_;refine zR 7 J (br (us:=eJ x22) 2 J aQ J hx22 oZ (fun _ _ _ h=>by rw [show _=_ from h];rfl)) ?_;refine oL 8 J O O (aw (us:=eJ x22) (cs':=eJ x22) 0 J J J J dJ J J J) ?_;rintro _ _ rfl;refine bj O ?_;refine d8 ?_;exact ⟨m10,_,_,Lo _,⟨x22.Up,x22.Key.Kind,x22.Key.N,x22.Key.S,x22.Attrs,x22.Len,B21,h,J,J⟩,sA,cS [0,2,3,4,5] 6⟩
  replace h:=ae g18 h;refine W ?_;exact ⟨_,_,⟨h,J,J⟩,sA,cS [] 5⟩
 rintro _ _ ⟨h,rfl,rfl⟩;refine W ?_;obtain rfl:=ao h;exact C4 J J J J (cS [] 0) ⟨J,J⟩
theorem gq {r:(Int×Int×Bool)}: ∀v post,((fun (u:Value) (post:List Chunk)=>u=.tuple #[iV r.1,iV r.2.1,.bool r.2.2]∧post=[])) v post→ ∀c∈post,cF c:=by
 rintro _ _ ⟨rfl,rfl⟩;exact ai
def bu (N:Nat)(a0:K6)(a1:Lj):Option (K4×Int×Bool):=
 (cC N a0.w_).bind fun y20=>(dM N a0.w_.shapes_ a0.Cell.Shape a1).bind fun y21=>bif !y21.2.2 then (some ((⟨(⟨0,0,⟨#[]⟩⟩:Lj),0,(⟨0,0,⟨#[]⟩⟩:Lf),(⟨0,0,⟨#[]⟩⟩:Lf),(⟨0,0,⟨#[]⟩⟩:Lf)⟩:K4),0,false)) else ((dW N a0 y21.1 a1 y21.2.1).bind fun y23=>some (y23,y21.1,true))
theorem ie {N:Nat}{a0:K6}{a1:Lj}{r:(K4×Int×Bool)}(h:bu N a0 a1=some r):Okc Tryz.prog 117 [pV B1 0,(gk a1)] ([bd B1 140 [iV a0.Cell.Kind,iV a0.Cell.Shape,iV a0.Cell.Flags,iV a0.Cell.Age,U A2 n2 c2,U A3 n3 c3,pV B4 0,iV a0.at_.Kind,iV a0.at_.N,.string a0.at_.S],dK A2 n2 c2 a0.Cell.Slots,dK A3 n3 c3 a0.Cell.More,bd B4 151 (fE a0.w_ B5 B12 A15 n15 c15 A16 n16 c16 A17 n17 c17),bd B5 199 [U A6 n6 c6,U A7 n7 c7,U A8 n8 c8,U A9 n9 c9,pV B10 0],qm A6 n6 c6 a0.w_.heap_.m_.Young,qm A7 n7 c7 a0.w_.heap_.m_.Old,dK A8 n8 c8 a0.w_.heap_.roots_,dK A9 n9 c9 a0.w_.heap_.pending_,bd B10 247 [.map (some M11)],iM dG dL M11 a0.w_.heap_.set_.at_,bd B12 205 [U A13 n13 c13,.map (some M14)],tN A13 n13 c13 a0.w_.shapes_.shapes_,iM aL dE M14 a0.w_.shapes_.next_,bw A15 n15 c15 a0.w_.symbols_,dr A16 n16 c16 a0.w_.events_,bw A17 n17 c17 a0.w_.out_]) (fun u post=>u=.tuple #[(cU r.1),iV r.2.1,.bool r.2.2]∧post=[]):=by
 refine bB Tryz.func117 J J ?_;simp only [ba];refine W ?_;refine gD (aT J J) ?_;rintro _ _ ⟨B18,rfl,rfl⟩;refine gD (aM fq J) ?_;rintro _ _ ⟨B19,rfl,rfl⟩;refine W ?_;refine aB ?_;refine bx O _ (ac _) ?_;refine zE 0 J (au J) ?_;refine zE 1 J (aX J) ?_;refine zE 2 J (bT J nQ) ?_;refine zR 3 J (cI 2 J J uq J) ?_;refine zE 5 J (au J) ?_;refine zE 6 J (aX J) ?_;refine zE 7 J (dD J fA) ?_;refine zE 8 J (bT J mr) ?_;refine zR 9 J (cI 2 J J dH J) ?_;refine zR 10 J (aj (us:=cn a1) 1 J J bI J) ?_;obtain ⟨y20,hy20,h⟩:=aa h;refine zD 4 J (ap (d5 hy20) rz J (hJ (aq (i:=5) J J) (hJ (aq (i:=6) J J) (hJ (aq (i:=7) J J) (hJ (aq (i:=8) J J) (hJ (aq (i:=9) J J) (hJ (aq (i:=10) J J) (hJ (aq (i:=11) J J) (hJ (aq (i:=12) J J) (hJ (aq (i:=13) J J) (hJ (aq (i:=14) J J) (hJ (aq (i:=15) J J) (hJ (aq (i:=16) J J) (hJ (aq (i:=17) J J) (hJ (aq (i:=18) J J) ai)))))))))))))) dF) ?_;rintro _ _ ⟨_,⟨rfl,rfl⟩,rfl⟩;refine ⟨_,ac _,ac _,?_⟩;obtain ⟨y21,hy21,h⟩:=aa h;refine zD 11 J (ap (ib hy21) vq J (hJ (aq (i:=13) J J) (hJ (aq (i:=14) J J) (hJ (aq (i:=15) J J) ai))) gq) ?_;rintro _ _ ⟨_,⟨rfl,rfl⟩,rfl⟩;refine ⟨_,ac _,ac _,?_⟩;refine zE 12 J (au J) ?_;refine zE 13 J (aY J J) ?_;refine zE 14 J (aY J J) ?_;refine zE 15 J (aY J J) ?_
 refine zE 16 J (aS J) ?_;refine zE 17 J (aS J) ?_;refine zE 18 J (aS J) ?_;refine bj O ?_;refine d8 ?_;refine aB ?_;refine W ?_;refine av J (fun g22=> ?_) (fun g22=> ?_)
 ·replace h:=ad g22 h;refine W ?_;refine gE (bg J (rA)) ?_;refine gO (aw (us:=[iV 0,iV 0,.string (⟨#[]⟩),iV 0,iV 0,iV 0,.string (⟨#[]⟩),iV 0,iV 0,.string (⟨#[]⟩),iV 0,iV 0,.string (⟨#[]⟩)]) (cs':=[iV 0,iV 0,.string (⟨#[]⟩),iV 0,iV 0,iV 0,.string (⟨#[]⟩),iV 0,iV 0,.string (⟨#[]⟩),iV 0,iV 0,.string (⟨#[]⟩)]) 0 J J J J dh J J J) ?_;rintro _ _ rfl;refine W ?_;obtain rfl:=ao h;exact cG (rs:=[.cell 4 42,.tmp 5,.tmp 6]) (vs:=[.agg #[iV 0,iV 0,.string (⟨#[]⟩),iV 0,iV 0,iV 0,.string (⟨#[]⟩),iV 0,iV 0,.string (⟨#[]⟩),iV 0,iV 0,.string (⟨#[]⟩)],iV 0,.bool false]) J (.cons (bA 0 J J eM) (.cons (dN J) (.cons (dN J) .nil))) J (cS [] 19) ⟨J,J⟩
 replace h:=ae g22 h;refine W ?_;refine gR (aj (us:=cn a1) 1 J J bI J) ?_;refine W ?_;obtain ⟨y23,hy23,h⟩:=aa h;refine gD (ap (mo hy23) Dm J (hJ (aq (i:=2) J J) (hJ (aq (i:=3) J J) (hJ (aq (i:=4) J J) (hJ (aq (i:=5) J J) (hJ (aq (i:=6) J J) (hJ (aq (i:=7) J J) (hJ (aq (i:=8) J J) (hJ (aq (i:=9) J J) (hJ (aq (i:=10) J J) (hJ (aq (i:=11) J J) (hJ (aq (i:=12) J J) (hJ (aq (i:=13) J J) (hJ (aq (i:=14) J J) (hJ (aq (i:=15) J J) (hJ (aq (i:=16) J J) (hJ (aq (i:=17) J J) (hJ (aq (i:=18) J J) ai))))))))))))))))) lc) ?_;rintro _ _ ⟨_,⟨rfl,rfl⟩,rfl⟩;refine W ?_;refine gO (aw (us:=bm y23) (cs':=bm y23) 0 J J J J dh J J J) ?_;rintro _ _ rfl;refine W ?_;obtain rfl:=ao h;exact cG (rs:=[.cell 4 42,.tmp 5,.tmp 6]) (vs:=[(cU y23),iV y21.1,.bool true]) J (.cons (bA 0 J J eM) (.cons (dN J) (.cons (dN J) .nil))) J (cS [] 19) ⟨J,J⟩
theorem gt {r:(K4×Int×Bool)}: ∀v post,((fun (u:Value) (post:List Chunk)=>u=.tuple #[(cU r.1),iV r.2.1,.bool r.2.2]∧post=[])) v post→ ∀c∈post,cF c:=by
 rintro _ _ ⟨rfl,rfl⟩;exact ai
def kI (N:Nat)(a0:Int):Option Bool:=
 (bif decide (0≤a0) then (some (decide (a0≤15))) else (some false)).bind fun b1=>(bif b1 then (some (!decide (aF .i64 a0 9=9))) else (some false)).bind fun b2=>some b2
theorem yO {N:Nat}{a0:Int}{r:Bool}(h:kI N a0=some r):Okc Tryz.prog 213 [iV a0] ([]) (fun u post=>u=.bool r∧post=[]):=by
 refine bB Tryz.func213 J J ?_;simp only [ba];refine W ?_;obtain ⟨b1,hb1,h⟩:=aa h;refine aH 3 8 b1 ?_ ?_
 ·clear h;refine aD 5 J (fun g1=> ?_) (fun g1=> ?_)
  ·have h:=ad g1 hb1;refine W ?_;obtain rfl:=ao h;exact ab sA (cS [] 0)
  have h:=ae g1 hb1;refine W ?_;obtain rfl:=ao h;exact ab sA (cS [] 0)
 refine W ?_;obtain ⟨b2,hb2,h⟩:=aa h;refine aH 4 13 b2 ?_ ?_
 ·clear h;refine aD 9 J (fun g2=> ?_) (fun g2=> ?_)
  ·have h:=ad g2 hb2;refine W ?_;refine eR (bR J J) J (bi g2 J) J ?_;refine W ?_;obtain rfl:=ao h;exact ab sA (cS [] 0)
  have h:=ae g2 hb2;refine W ?_;obtain rfl:=ao h;exact ab sA (cS [] 0)
 refine W ?_;obtain rfl:=ao h;exact aO J J (cS [] 0) ⟨J,J⟩
theorem vI {r:Bool}: ∀v post,((fun (u:Value) (post:List Chunk)=>u=.bool r∧post=[])) v post→ ∀c∈post,cF c:=by
 rintro _ _ ⟨rfl,rfl⟩;exact ai
def eO (N:Nat)(a0:K9)(a1:Int)(a2:Lj)(a3:Int):Option Int:=
 (eH N a0 a1).bind fun y5=>bif !y5 then (some 2) else ((cW N a2).bind fun y7=>(bif !y7 then (some true) else ((kI N a3).bind fun y9=>some (!y9))).bind fun b8=>bif b8 then (some 1) else (some 0))
theorem jl {N:Nat}{a0:K9}{a1:Int}{a2:Lj}{a3:Int}{r:Int}(h:eO N a0 a1 a2 a3=some r):Okc Tryz.prog 165 [pV B1 0,iV a1,(gk a2),iV a3] ([bd B1 205 [U A2 n2 c2,.map (some M3)],tN A2 n2 c2 a0.shapes_,iM aL dE M3 a0.next_]) (fun u post=>u=iV r∧post=[]):=by
 refine bB Tryz.func165 J J ?_;simp only [ba];refine W ?_;refine gD (aT J J) ?_;rintro _ _ ⟨B4,rfl,rfl⟩;refine W ?_;refine aB ?_;refine W ?_;refine gE (fJ J Tryz.underlying144) ?_;refine W ?_;refine iX J ?_;refine W ?_;obtain ⟨y5,hy5,h⟩:=aa h;refine gD (ap (kz hy5) zL J (hJ (aq (i:=1) J J) (hJ (aq (i:=2) J J) (hJ (aq (i:=3) J J) ai))) jk) ?_;rintro _ _ ⟨_,⟨rfl,rfl⟩,rfl⟩;refine W ?_;refine av J (fun g6=> ?_) (fun g6=> ?_)
 ·replace h:=ad g6 h;refine W ?_;obtain rfl:=ao h;exact aO J J (cS [] 4) ⟨J,J⟩
 replace h:=ae g6 h;refine W ?_;refine gR (aj (us:=cn a2) 0 J J bI J) ?_;obtain ⟨y7,hy7,h⟩:=aa h;refine gD (ap (jH hy7) t3 J (ai) iq) ?_;rintro _ _ ⟨_,⟨rfl,rfl⟩,rfl⟩;refine W ?_;obtain ⟨b8,hb8,h⟩:=aa h;refine aH 4 25 b8 ?_ ?_
 ·clear h;refine aD 21 J (fun g8=> ?_) (fun g8=> ?_)
  ·have h:=ad g8 hb8;refine W ?_;obtain rfl:=ao h;exact ab sA (cS [0,1,2,3] 4)
  have h:=ae g8 hb8;refine W ?_;obtain ⟨y9,hy9,h⟩:=aa h;refine cc (ap (yO hy9) Hk J (ai) vI) J (co g8 J) J ?_;rintro _ _ ⟨_,⟨rfl,rfl⟩,rfl⟩;refine W ?_;obtain rfl:=ao h;exact ab sA (cS [0,1,2,3] 4)
 refine W ?_;refine av J (fun g10=> ?_) (fun g10=> ?_)
 ·replace h:=ad g10 h;refine W ?_;obtain rfl:=ao h;exact aO J J (cS [] 4) ⟨J,J⟩
 replace h:=ae g10 h;refine W ?_;obtain rfl:=ao h;exact aO J J (cS [] 4) ⟨J,J⟩
theorem iH {r:Int}: ∀v post,((fun (u:Value) (post:List Chunk)=>u=iV r∧post=[])) v post→ ∀c∈post,cF c:=by
 rintro _ _ ⟨rfl,rfl⟩;exact ai
def Ad (N:Nat)(a1:Int)(a2:Lj)(a3:Int):Option Int:=
 some 1
def lF (N:Nat)(p5:Int):Option Int:=
 some p5
def gp (N:Nat)(a2:Int)(a0:K9):Nat→Int→Option Int
 |0,_=>none
 |m6+1,p7=>(bE a0.shapes_ p7).bind fun x8=>bif decide (a2<x8.Len) then ((bE a0.shapes_ p7).bind fun x10=>(gp N a2 a0 m6) x10.Up) else (lF N p7)
def fw (N:Nat)(a0:K9)(a1:Int)(a2:Int):Option Int:=
 gp N a2 a0 N a1
theorem lE {N:Nat}{a0:K9}{a1:Int}{a2:Int}{r:Int}(h:fw N a0 a1 a2=some r):Okc Tryz.prog 167 [pV B1 0,iV a1,iV a2] ([bd B1 205 [U A2 n2 c2,.map (some M3)],tN A2 n2 c2 a0.shapes_,iM aL dE M3 a0.next_]) (fun u post=>u=iV r∧post=[]):=by
 refine bB Tryz.func167 J J ?_;simp only [ba];refine W ?_;refine bc (fun s L=> ∃p5,lF N p5=some r∧s=[(1,iV p5),(6,iV 0)]∧L=[]) ?_ ?_
 ·refine eT ?_;refine cv (fun m s L=> ∃p7,gp N a2 a0 m p7=some r∧s=[(0,pV B1 0),(1,iV p7),(2,iV a2),(6,iV 0)]∧L=[tN A2 n2 c2 a0.shapes_,iM aL dE M3 a0.next_,bd B1 205 [U A2 n2 c2,.map (some M3)]]) N _ _ ⟨a1,h,J,J⟩ sA (cS [1,2,0] 3) ?_;rintro (_|m6) _ _ ⟨p7,h,rfl,rfl⟩
  ·exact bq h
  rw [gp.eq_2] at h;refine aB ?_;refine W ?_;refine gR (cI 2 J J nI J) ?_;refine W ?_;obtain ⟨x8,hx8,h⟩:=aa h;obtain ⟨lx8,ux8,hx8⟩:=aJ hx8;refine gR (bn 0 J aQ J J KP dJ lx8 ux8) ?_;refine gR (o6 0 J aQ J (toNat_lt lx8 ux8) sX) ?_;refine gR (eV (u:=iV x8.Len) 0 J aQ J hx8 dH (fun _ _ _ h=>by rw [show _=_ from h];rfl)) ?_;refine W ?_;refine av J (fun g9=> ?_) (fun g9=> ?_)
  ·replace h:=ad g9 h;refine W ?_;refine gR (cI 2 J J nI J) ?_;refine W ?_;obtain ⟨x10,hx10,h⟩:=aa h;obtain ⟨lx10,ux10,hx10⟩:=aJ hx10;refine gR (bn 0 J aQ J J KP dJ lx10 ux10) ?_;refine gR (pE 0 J aQ J (toNat_lt lx10 ux10) sZ) ?_;refine gR (eV (u:=iV x10.Up) 0 J aQ J hx10 dH (fun _ _ _ h=>by rw [show _=_ from h];rfl)) ?_;refine W ?_;exact ⟨m6,_,_,Lo _,⟨x10.Up,h,J,J⟩,sA,cS [0,1,2] 3⟩
  replace h:=ae g9 h;refine W ?_;exact ⟨_,_,⟨p7,h,J,J⟩,sA,cS [] 3⟩
 rintro _ _ ⟨p5,h,rfl,rfl⟩;refine W ?_;obtain rfl:=ao h;exact aO J J (cS [] 0) ⟨J,J⟩
theorem kJ {r:Int}: ∀v post,((fun (u:Value) (post:List Chunk)=>u=iV r∧post=[])) v post→ ∀c∈post,cF c:=by
 rintro _ _ ⟨rfl,rfl⟩;exact ai
def mO (N:Nat)(p20:Int)(p21:(List Lh))(p22:(List (Lb×Int))):Option (Int×Int×K9):=
 some (p20,0,(⟨p21,p22⟩:K9))
def gZ (N:Nat)(p7:(List Lh)):Nat→Int→Int→(List Lh)→(List (Lb×Int))→Option (Int×Int×K9)
 |0,_,_,_,_=>none
 |m23+1,p24,p25,p26,p27=>bif decide (p25<(p7.length:Int)) then ((bE p7 p25).bind fun x29=>(bE p26 p24).bind fun x31=>cV (bC (x31.Len+1)) (cV (gv (p26.length+([(⟨p24,x29.Key,x29.Attrs,x31.Len+1⟩:Lh)]:List Lh).length)) (cV (bC (((p26++([(⟨p24,x29.Key,x29.Attrs,x31.Len+1⟩:Lh)]:List Lh)).length:Int) - 1)) (cV (bC (p25+1)) ((gZ N p7 m23) (((p26++([(⟨p24,x29.Key,x29.Attrs,x31.Len+1⟩:Lh)]:List Lh)).length:Int) - 1) (p25+1) (p26++([(⟨p24,x29.Key,x29.Attrs,x31.Len+1⟩:Lh)]:List Lh)) (BE p27 (⟨p24,x29.Key,x29.Attrs⟩:Lb) (p26.length:Int))))))) else (mO N p24 p26 p27)
def fc (N:Nat)(a0:K9)(p6:Int)(p7:(List Lh)):Option (Int×Int×K9):=
 cV (bC (1073741824 - (a0.shapes_.length:Int))) (bif decide (1073741824 - (a0.shapes_.length:Int)<(p7.length:Int)) then (some (0,5,a0)) else (gZ N p7 N p6 0 a0.shapes_ a0.next_))
def iG (N:Nat)(a0:K9):Nat→Int→(List Lh)→Option (Int×Int×K9)
 |0,_,_=>none
 |m8+1,p9,p10=>bif decide (0<(p10.length:Int)) then ((bE p10 0).bind fun x12=>(bE p10 0).bind fun x13=>bif !((lk a0.next_ (⟨p9,x12.Key,x13.Attrs⟩:Lb)).isSome) then (fc N a0 p9 p10) else (cV ((0:Int)≤1∧(1:Int).toNat≤p10.length∧p10.length≤p10.length) ((iG N a0 m8) ((lk a0.next_ (⟨p9,x12.Key,x13.Attrs⟩:Lb)).getD 0) ((p10.drop ((1:Int).toNat)).take (p10.length - (1:Int).toNat))))) else (fc N a0 p9 p10)
def gI (N:Nat)(a0:K9)(a1:Int)(a2:(List Lh)):Option (Int×Int×K9):=
 iG N a0 N a1 a2
set_option maxHeartbeats 4000000 in
theorem ky {N:Nat}{a0:K9}{a1:Int}{a2:(List Lh)}{r:(Int×Int×K9)}(h:gI N a0 a1 a2=some r):Okc Tryz.prog 166 [pV B1 0,iV a1,U A4 n4 c4] ([tN A4 n4 c4 a2,al B1 205 [U A2 n2 c2,.map (some M3)],d6 A2 n2 c2 a0.shapes_,aP aL dE M3 a0.next_]) (fun u post=> ∃A0 n0 c0 M1,u=.tuple #[iV r.1,iV r.2.1]∧post=[al B1 205 [U A0 n0 c0,.map (some M1)],d6 A0 n0 c0 r.2.2.shapes_,aP aL dE M1 r.2.2.next_]):=by
 refine bB Tryz.func166 J J ?_;simp only [ba];refine W ?_;refine bc (fun s L=> ∃p6 p7 A7 n7 c7,fc N a0 p6 p7=some r∧s=[(0,pV B1 0),(6,iV 0),(7,iV 0),(8,iV p6),(9,U A7 n7 c7)]∧L=[tN A7 n7 c7 p7,d6 A2 n2 c2 a0.shapes_,aP aL dE M3 a0.next_,al B1 205 [U A2 n2 c2,.map (some M3)]]) ?_ ?_
 ·refine eT ?_;refine cv (fun m s L=> ∃p9 p10 A10 n10 c10,iG N a0 m p9 p10=some r∧s=[(0,pV B1 0),(6,iV 0),(7,iV 0),(8,iV p9),(9,U A10 n10 c10)]∧L=[tN A10 n10 c10 p10,d6 A2 n2 c2 a0.shapes_,aP aL dE M3 a0.next_,al B1 205 [U A2 n2 c2,.map (some M3)]]) N _ _ ⟨a1,a2,A4,n4,c4,h,J,J⟩ sA (cS [0,2,3,1] 4) ?_;rintro (_|m8) _ _ ⟨p9,p10,A10,n10,c10,h,rfl,rfl⟩
  ·exact bq h
  rw [iG.eq_2] at h;refine aB ?_;refine W ?_;refine gR (bJ 0 J aQ J KP) ?_;refine W ?_;refine av J (fun g11=> ?_) (fun g11=> ?_)
  ·replace h:=ad g11 h;refine W ?_;refine aB ?_;refine bx O _ (ac _) ?_;refine zE 0 J (au J) ?_;refine zE 1 J (aX J) ?_;refine zE 2 J (bT J wx) ?_;refine zR 3 J (aW 3 J J BO J) ?_;refine zE 4 J (au J) ?_;refine zE 5 J (au J) ?_;obtain ⟨x12,hx12,h⟩:=aa h;obtain ⟨lx12,ux12,hx12⟩:=aJ hx12;refine zR 6 J (bn 0 J aQ J J KP dJ lx12 ux12) ?_;refine zR 7 J (o6 0 J aQ J (toNat_lt lx12 ux12) sY) ?_;refine zR 8 J (br (us:=cn x12.Key) 0 J aQ J hx12 bI (fun _ _ _ h=>by rw [show _=_ from h];rfl)) ?_;refine zE 9 J (au J) ?_;obtain ⟨x13,hx13,h⟩:=aa h;obtain ⟨lx13,ux13,hx13⟩:=aJ hx13;refine zR 10 J (bn 0 J aQ J J KP dJ lx13 ux13) ?_;refine zR 11 J (o6 0 J aQ J (toNat_lt lx13 ux13) ph) ?_;refine zR 12 J (eV (u:=iV x13.Attrs) 0 J aQ J hx13 dH (fun _ _ _ h=>by rw [show _=_ from h];rfl)) ?_;refine zE 13 J (bg J (r7 _ _ _ _ _)) ?_;refine zR 14 J (EF (a:=(⟨p9,x12.Key,x13.Attrs⟩:Lb)) (z:=0) 2 J IC J J Tryz.underlying203 wt Jh) ?_;refine zE 15 J (au J) ?_;refine zE 16 J (aY J J) ?_;refine zE 17 J (aY J J) ?_;refine zE 18 J (aS J) ?_;refine zE 19 J (aS J) ?_;refine bj O ?_;refine d8 ?_;refine aB ?_;refine W ?_;refine av J (fun g14=> ?_) (fun g14=> ?_)
   ·replace h:=ad g14 h;refine W ?_;refine JV J ?_;refine W ?_;exact ⟨_,_,⟨p9,p10,A10,n10,c10,h,J,J⟩,sA,cS [0,1,2,3] 4⟩
   replace h:=ae g14 h;refine W ?_;refine bx O _ (ac _) ?_;refine zE 0 J (au J) ?_;refine zE 1 J (au J) ?_;obtain ⟨q15,h⟩:=aA h;refine FP 0 J (l:=(1:Int).toNat) (h:=p10.length) q15.2.1 q15.2.2 ?_;rintro A16 n16 c16 e16;refine zR 2 J (uT 1 J e16 J KP dJ J (by rw [Int.toNat_of_nonneg q15.1];rfl) q15.2.1) ?_;refine zE 3 J (aS J) ?_;refine zE 4 J (aS J) ?_;refine bj O ?_;refine W ?_;exact ⟨m8,_,_,Lo _,⟨(lk a0.next_ (⟨p9,x12.Key,x13.Attrs⟩:Lb)).getD 0,(p10.drop ((1:Int).toNat)).take (p10.length - (1:Int).toNat),A16,n16,c16,h,J,J⟩,sA,cS [0,2,3,4] 5⟩
  replace h:=ae g11 h;refine W ?_;exact ⟨_,_,⟨p9,p10,A10,n10,c10,h,J,J⟩,sA,cS [0,1,2,3] 4⟩
 rintro _ _ ⟨p6,p7,A7,n7,c7,h,rfl,rfl⟩;refine aB ?_;refine W ?_;refine gR (bJ 0 J aQ J KP) ?_;refine W ?_;refine gR (bJ 1 J aC J KP) ?_;obtain ⟨q17,h⟩:=aA h;refine gE (dC J J q17.1 q17.2) ?_;refine W ?_;refine av J (fun g18=> ?_) (fun g18=> ?_)
 ·replace h:=ad g18 h;refine W ?_;obtain rfl:=ao h;exact dA J J J (cS [3,1,2] 4) ⟨_,_,_,_,J,J⟩
 replace h:=ae g18 h;refine W ?_;refine bc (fun s L=> ∃p20 p21 p22 A21 n21 c21,mO N p20 p21 p22=some r∧s=[(6,iV 0),(7,iV 0),(8,iV p20)]∧L=[d6 A21 n21 c21 p21,aP aL dE M3 p22,al B1 205 [U A21 n21 c21,.map (some M3)]]) ?_ ?_
 ·refine W ?_;refine gR (bJ 0 J aQ J KP) ?_;refine W ?_;refine cv (fun m s L=> ∃p24 p25 p26 p27 A26 n26 c26,gZ N p7 m p24 p25 p26 p27=some r∧s=[(0,pV B1 0),(6,iV 0),(7,iV 0),(8,iV p24),(51,U A7 n7 c7),(52,iV (p7.length:Int)),(53,iV p25)]∧L=[tN A7 n7 c7 p7,d6 A26 n26 c26 p26,aP aL dE M3 p27,al B1 205 [U A26 n26 c26,.map (some M3)]]) N _ _ ⟨p6,0,a0.shapes_,a0.next_,A2,n2,c2,h,J,J⟩ sA (cS [0,1,2,3] 4) ?_;rintro (_|m23) _ _ ⟨p24,p25,p26,p27,A26,n26,c26,h,rfl,rfl⟩
  ·exact bq h
  rw [gZ.eq_2] at h;refine W ?_;refine aB ?_;refine av J (fun g28=> ?_) (fun g28=> ?_)
  ·replace h:=ad g28 h;refine W ?_;refine aB ?_;refine W ?_;obtain ⟨x29,hx29,h⟩:=aa h;obtain ⟨lx29,ux29,hx29⟩:=aJ hx29;refine gR (bn 0 J aQ J J KP dJ lx29 ux29) ?_;refine gR (br (us:=eJ x29) 0 J aQ J hx29 oZ (fun _ _ _ h=>by rw [show _=_ from h];rfl)) ?_;refine gD (aM pA J) ?_;rintro _ _ ⟨B30,rfl,rfl⟩;refine gO (aw (us:=eJ x29) (cs':=eJ x29) 0 J J J J dJ J J J) ?_;rintro _ _ rfl;refine W ?_;refine aB ?_;refine bx O _ (ac _) ?_;refine zE 0 J (au J) ?_;refine zE 1 J (aX J) ?_;refine zE 2 J (bT J wx) ?_;refine zR 3 J (aW 4 J J BO J) ?_;refine zE 4 J (au J) ?_;refine zE 5 J (bT J sY) ?_;refine zR 6 J (aj (us:=cn x29.Key) 0 J J bI J) ?_;refine zE 7 J (bT J ph) ?_;refine zR 8 J (aW 0 J J dH J) ?_;refine zE 9 J (bg J (r7 _ _ _ _ _)) ?_;refine zE 10 J (au J) ?_;refine zE 11 J (aX J) ?_;refine zE 12 J (dD J pf) ?_;refine zR 13 J (aW 4 J J nI J) ?_;refine zR 14 J (bJ 2 J aC J KP) ?_;refine oL 15 J O O (sM (a:=(⟨p24,x29.Key,x29.Attrs⟩:Lb)) (b:=(p26.length:Int)) 3 J J J J Tryz.underlying203 wt) ?_;rintro _ _ rfl;refine bj O ?_;refine d8 ?_;refine aB ?_;obtain ⟨x31,hx31,h⟩:=aa h;obtain ⟨lx31,ux31,hx31⟩:=aJ hx31;obtain ⟨q32,h⟩:=aA h;refine jf (t:=[(0,pV B1 0),(6,iV 0),(7,iV 0),(8,iV p24),(13,pV B30 0),(51,U A7 n7 c7),(52,iV (p7.length:Int)),(53,iV p25)]) ?_ lD (ac _)
   refine jg O 21 [0] [0,4,20] [72,73,74,75,76,77,78,79,80,81,82,83,84,85,86,87,88,89,90,91,92] [[],[],[1],[2],[3],[],[],[6],[],[8],[],[10],[11],[12],[],[13,14],[15],[16],[17],[5,7,9,18],[19]] [aV (pV B1 0),
aV (pV B1 0),
aV (pV B1 0),
aV (pV B1 0),
aV (U A26 n26 c26),
aV (iV p24),
aV (pV B30 1),
aV ((gk x29.Key)),
aV (pV B30 4),
aV (iV x29.Attrs),
aV (pV B1 0),
aV (pV B1 0),
aV (pV B1 0),
aV (U A26 n26 c26),
aV (iV p24),
aV (eQ (U A26 n26 c26) p24.toNat 6 0),
aV (eQ (U A26 n26 c26) p24.toNat 6 5),
aV (iV x31.Len),
aV (iV (x31.Len+1)),
aV (.agg #[iV p24,iV x29.Key.Kind,iV x29.Key.N,.string x29.Key.S,iV x29.Attrs,iV (x31.Len+1)]),
aX3 (fun (A34:Option Addr) (n34 c34:Nat)=> U A34 n34 c34) (fun A34 n34 c34=> [d6 A34 n34 c34 ([(⟨p24,x29.Key,x29.Attrs,x31.Len+1⟩:Lh)]:List Lh)])] [] (ac _) (fU rfl la) O rfl rfl ?_ ?_ ?_
   ·refine fT J ?_ ?_
    ·exact lB (au J) J (bf J (ac _))
    exact kZ
   ·refine am J ?_ ?_
    ·refine o0 (ce (R:=rj) (vss:=[[iV p24,iV x29.Key.Kind,iV x29.Key.N,.string x29.Key.S,iV x29.Attrs,iV (x31.Len+1)]]) (xs:=[(⟨p24,x29.Key,x29.Attrs,x31.Len+1⟩:Lh)]) J (t5 _ _ _ _ _ _) J J (fun _ _ hr=> .cons J All2.nil)) J ?_;rintro _ _ ⟨A33,n33,c33,rfl,rfl⟩;exact Ed A33 n33 c33 (ac _)
    refine am J ?_ ?_
    ·exact bX (bg J (uP _ _ _ _ _ _)) J (bf J (ac _))
    refine am J ?_ ?_
    ·exact bX (bF J J q32.1 q32.2) J (bf J (ac _))
    refine am J ?_ ?_
    ·exact gn (eV (u:=iV x31.Len) 2 J aC J hx31 dH (fun _ _ _ h=>by rw [show _=_ from h];rfl)) J (bf J (ac _))
    refine am J ?_ ?_
    ·exact gn (o6 2 J aC J (toNat_lt lx31 ux31) sX) J (bf J (ac _))
    refine am J ?_ ?_
    ·exact gn (bn 2 J aC J J KP dJ lx31 ux31) J (bf J (ac _))
    refine am J ?_ ?_
    ·exact bX (au J) J (bf J (ac _))
    refine am J ?_ ?_
    ·exact gn (aW 4 J J nI J) J (bf J (ac _))
    refine am J ?_ ?_
    ·exact bX (dD J pf) J (bf J (ac _))
    refine am J ?_ ?_
    ·exact bX (aX J) J (bf J (ac _))
    refine am J ?_ ?_
    ·exact bX (au J) J (bf J (ac _))
    refine am J ?_ ?_
    ·exact gn (aW 0 J J dH J) J (bf J (ac _))
    refine am J ?_ ?_
    ·exact bX (bT J ph) J (bf J (ac _))
    refine am J ?_ ?_
    ·exact gn (aj (us:=cn x29.Key) 0 J J bI J) J (bf J (ac _))
    refine am J ?_ ?_
    ·exact bX (bT J sY) J (bf J (ac _))
    refine am J ?_ ?_
    ·exact bX (au J) J (bf J (ac _))
    refine am J ?_ ?_
    ·exact gn (aW 4 J J nI J) J (bf J (ac _))
    refine am J ?_ ?_
    ·exact bX (dD J pf) J (bf J (ac _))
    refine am J ?_ ?_
    ·exact bX (aX J) J (bf J (ac _))
    refine am J ?_ ?_
    ·exact bX (au J) J (bf J (ac _))
    refine am J ?_ ?_
    ·exact bX (au J) J (bf J (ac _))
    exact fG
   intro A34 n34 c34;refine nY (t:=[(72,pV B1 0),(76,U A26 n26 c26),(92,U A34 n34 c34),(0,pV B1 0),(6,iV 0),(7,iV 0),(8,iV p24),(13,pV B30 0),(51,U A7 n7 c7),(52,iV (p7.length:Int)),(53,iV p25)]) (L':=[d6 A34 n34 c34 ([(⟨p24,x29.Key,x29.Attrs,x31.Len+1⟩:Lh)]:List Lh),al B30 201 (eJ x29),tN A7 n7 c7 p7,d6 A26 n26 c26 p26,aP aL dE M3 (BE p27 (⟨p24,x29.Key,x29.Attrs⟩:Lb) (p26.length:Int)),al B1 205 [U A26 n26 c26,.map (some M3)]]) ?_ lD (ac _);obtain ⟨q35,h⟩:=aA h;refine uC 21 J O (ew 3 0 J J aC J J KP Ji J J q35) J J J ?_;rintro _ _ ⟨A36,n36,c36,rfl,rfl⟩;refine xh 22 J O (aX J) J J J ?_;refine xh 23 J O (dD J pf) J J J ?_;refine nZ 24 J O (aw (us:=[U A36 n36 c36]) (cs':=[U A36 n36 c36,.map (some M3)]) 5 J J J J Gg J J J) J J ?_;rintro _ _ rfl;refine wo ?_;refine lC O ?_;refine W ?_;refine gR (bJ 3 J aC J KP) ?_;obtain ⟨q37,h⟩:=aA h;refine gE (dC J J q37.1 q37.2) ?_;refine W ?_;obtain ⟨q38,h⟩:=aA h;refine gE (bF J J q38.1 q38.2) ?_;refine W ?_;exact ⟨m23,_,_,Lo _,⟨((p26++([(⟨p24,x29.Key,x29.Attrs,x31.Len+1⟩:Lh)]:List Lh)).length:Int) - 1,p25+1,p26++([(⟨p24,x29.Key,x29.Attrs,x31.Len+1⟩:Lh)]:List Lh),BE p27 (⟨p24,x29.Key,x29.Attrs⟩:Lb) (p26.length:Int),A36,n36,c36,h,J,J⟩,sA,cS [2,3,4,5] 6⟩
  replace h:=ae g28 h;refine W ?_;exact ⟨_,_,⟨p24,p26,p27,A26,n26,c26,h,J,J⟩,sA,cS [1,2,3] 4⟩
 rintro _ _ ⟨p20,p21,p22,A21,n21,c21,h,rfl,rfl⟩;refine W ?_;obtain rfl:=ao h;exact dA J J J (cS [2,0,1] 3) ⟨_,_,_,_,J,J⟩
def eU (N:Nat)(a0:K9)(a1:Int)(a2:Lj):Option (Int×Int×K9):=
 (eO N a0 a1 a2 0).bind fun y5=>bif !decide (y5=0) then (some (0,y5,a0)) else ((dM N a0 a1 a2).bind fun y7=>bif !y7.2.2 then (some (0,3,a0)) else ((fw N a0 a1 y7.1).bind fun y9=>(eG N a0 a1).bind fun y10=>cV (bC (y7.1+1)) (cV ((0:Int)≤y7.1+1∧(y7.1+1).toNat≤y10.length∧y10.length≤y10.length) ((gI N a0 y9 ((y10.drop ((y7.1+1).toNat)).take (y10.length - (y7.1+1).toNat))).bind fun y15=>some (y15.1,y15.2.1,y15.2.2)))))
theorem pC {N:Nat}{a0:K9}{a1:Int}{a2:Lj}{r:(Int×Int×K9)}(h:eU N a0 a1 a2=some r):Okc Tryz.prog 119 [pV B1 0,iV a1,(gk a2)] ([al B1 205 [U A2 n2 c2,.map (some M3)],d6 A2 n2 c2 a0.shapes_,aP aL dE M3 a0.next_]) (fun u post=> ∃A0 n0 c0 M1,u=.tuple #[iV r.1,iV r.2.1]∧post=[al B1 205 [U A0 n0 c0,.map (some M1)],d6 A0 n0 c0 r.2.2.shapes_,aP aL dE M1 r.2.2.next_]):=by
 refine bB Tryz.func119 J J ?_;simp only [ba];refine W ?_;refine gD (aT J J) ?_;rintro _ _ ⟨B4,rfl,rfl⟩;refine W ?_;refine aB ?_;refine W ?_;refine gR (aj (us:=cn a2) 0 J J bI J) ?_;obtain ⟨y5,hy5,h⟩:=aa h;refine gD (ap (jl hy5) zT J (hJ (az (i:=1) J) (hJ (ar (i:=2) J) (hJ (aU (i:=3) J) ai))) iH) ?_;rintro _ _ ⟨_,⟨rfl,rfl⟩,rfl⟩;refine W ?_;refine av J (fun g6=> ?_) (fun g6=> ?_)
 ·replace h:=ad g6 h;refine W ?_;obtain rfl:=ao h;exact dA J J J (cS [1,2,3] 4) ⟨_,_,_,_,J,J⟩
 replace h:=ae g6 h;refine W ?_;refine gR (aj (us:=cn a2) 0 J J bI J) ?_;obtain ⟨y7,hy7,h⟩:=aa h;refine gD (ap (ib hy7) vq J (hJ (az (i:=1) J) (hJ (ar (i:=2) J) (hJ (aU (i:=3) J) ai))) gq) ?_;rintro _ _ ⟨_,⟨rfl,rfl⟩,rfl⟩;refine W ?_;refine aB ?_;refine W ?_;refine av J (fun g8=> ?_) (fun g8=> ?_)
 ·replace h:=ad g8 h;refine W ?_;obtain rfl:=ao h;exact dA J J J (cS [1,2,3] 4) ⟨_,_,_,_,J,J⟩
 replace h:=ae g8 h;refine W ?_;obtain ⟨y9,hy9,h⟩:=aa h;refine gD (ap (lE hy9) Dk J (hJ (az (i:=1) J) (hJ (ar (i:=2) J) (hJ (aU (i:=3) J) ai))) kJ) ?_;rintro _ _ ⟨_,⟨rfl,rfl⟩,rfl⟩;refine W ?_;obtain ⟨y10,hy10,h⟩:=aa h;refine gD (ap (iF hy10) vm J (hJ (az (i:=1) J) (hJ (ar (i:=2) J) (hJ (aU (i:=3) J) ai))) gH) ?_;rintro _ _ ⟨_,⟨A11,n11,c11,rfl,rfl⟩,rfl⟩;refine W ?_;obtain ⟨q12,h⟩:=aA h;refine gE (bF J J q12.1 q12.2) ?_;refine kO (cQ 0 J) ?_;obtain ⟨q13,h⟩:=aA h;refine Im 0 J (l:=(y7.1+1).toNat) (h:=y10.length) q13.2.1 q13.2.2 ?_;rintro A14 n14 c14 e14;refine gR (uT 1 J e14 J KP dJ J (by rw [Int.toNat_of_nonneg q13.1];rfl) q13.2.1) ?_;obtain ⟨y15,hy15,h⟩:=aa h;refine gD (aI (ky hy15) zS J (aG [0] [3,4,5] [0,1,2] 6 J)) ?_;rintro _ _ ⟨_,⟨A16,n16,c16,M17,rfl,rfl⟩,rfl⟩;refine W ?_;obtain rfl:=ao h;exact dA J J J (cS [0,1,2] 6) ⟨_,_,_,_,J,J⟩
def sD (N:Nat)(a0:Int):Option Bool:=
 (bif decide (0<a0) then (some (decide (a0.tmod 2=0))) else (some false)).bind fun b1=>some b1
theorem xu {N:Nat}{a0:Int}{r:Bool}(h:sD N a0=some r):Okc Tryz.prog 234 [iV a0] ([]) (fun u post=>u=.bool r∧post=[]):=by
 refine bB Tryz.func234 J J ?_;simp only [ba];refine W ?_;obtain ⟨b1,hb1,h⟩:=aa h;refine aH 4 9 b1 ?_ ?_
 ·clear h;refine aD 5 J (fun g1=> ?_) (fun g1=> ?_)
  ·have h:=ad g1 hb1;refine W ?_;refine eR (nS J J (by decide)) J (bi g1 J) J ?_;refine W ?_;obtain rfl:=ao h;exact ab sA (cS [] 0)
  have h:=ae g1 hb1;refine W ?_;obtain rfl:=ao h;exact ab sA (cS [] 0)
 refine W ?_;obtain rfl:=ao h;exact aO J J (cS [] 0) ⟨J,J⟩
theorem uH {r:Bool}: ∀v post,((fun (u:Value) (post:List Chunk)=>u=.bool r∧post=[])) v post→ ∀c∈post,cF c:=by
 rintro _ _ ⟨rfl,rfl⟩;exact ai
def tj (N:Nat)(a0:Lf):Option Bool:=
 (bif decide (a0.Kind=7) then (some true) else (some (decide (a0.Kind=9)))).bind fun b2=>some b2
theorem xJ {N:Nat}{a0:Lf}{r:Bool}(h:tj N a0=some r):Okc Tryz.prog 263 [(bQ a0)] ([]) (fun u post=>u=.bool r∧post=[]):=by
 refine bB Tryz.func263 J J ?_;simp only [ba];refine W ?_;refine gD (aT J J) ?_;rintro _ _ ⟨B1,rfl,rfl⟩;refine W ?_;obtain ⟨b2,hb2,h⟩:=aa h;refine aH 4 10 b2 ?_ ?_
 ·clear h;refine aD 6 J (fun g2=> ?_) (fun g2=> ?_)
  ·have h:=ad g2 hb2;refine W ?_;obtain rfl:=ao h;exact ab sA (cS [0] 1)
  have h:=ae g2 hb2;refine W ?_;obtain rfl:=ao h;exact ab sA (cS [0] 1)
 refine W ?_;obtain rfl:=ao h;exact aO J J (cS [] 1) ⟨J,J⟩
theorem uN {r:Bool}: ∀v post,((fun (u:Value) (post:List Chunk)=>u=.bool r∧post=[])) v post→ ∀c∈post,cF c:=by
 rintro _ _ ⟨rfl,rfl⟩;exact ai
def lv (N:Nat)(a1:Bool)(x8:Bool×Lf):((List Int))→Option (Option Exit×(List Int))
 |p9=>(bif x8.1==a1 then ((tj N x8.2).bind fun y14=>some y14) else (some false)).bind fun b13=>bif b13 then (cV (gv (p9.length+([x8.2.N]:List Int).length)) (some (none,p9++([x8.2.N]:List Int)))) else (some (none,p9))
def lV (N:Nat)(a0:La)(a1:Bool):Option (List Int):=
 (so N a0).bind fun y6=>(gU N a0 (iP (fun x st=>lv N a1 x st)) (none,[])).bind fun y10=>uy y10.1 (some y10.2) none (fun _=>none)
theorem oH {N:Nat}{a0:La}{a1:Bool}{r:(List Int)}(h:lV N a0 a1=some r):Okc Tryz.prog 256 [.agg #[iV a0.Kind,iV a0.Shape,iV a0.Flags,iV a0.Age,U A1 n1 c1,U A2 n2 c2],.bool a1] ([dK A1 n1 c1 a0.Slots,dK A2 n2 c2 a0.More]) (fun u post=> ∃A0 n0 c0,u=U A0 n0 c0∧post=[dn (mA .i64) 3 (U A0 n0 c0) r]):=by
 refine bB Tryz.func256 J J ?_;simp only [ba];refine W ?_;refine gD (aT J J) ?_;rintro _ _ ⟨B3,rfl,rfl⟩;refine gD (aT J J) ?_;rintro _ _ ⟨B4,rfl,rfl⟩;refine W ?_;refine gD (aM F3 J) ?_;rintro _ _ ⟨B5,rfl,rfl⟩;refine W ?_;refine aB ?_;refine W ?_;refine gR (aj (us:=[iV a0.Kind,iV a0.Shape,iV a0.Flags,iV a0.Age,U A1 n1 c1,U A2 n2 c2]) 2 J J cb J) ?_;obtain ⟨y6,hy6,h⟩:=aa h;refine gD (ap (ux hy6) Dg J (hJ (aq (i:=3) J J) (hJ (aq (i:=4) J J) ai)) rZ) ?_;rintro _ _ ⟨_,⟨B7,rfl,rfl⟩,rfl⟩;refine kM ?_;refine d8 ?_;refine jf ?_ cj (pp 0 J);obtain ⟨y10,hy10,h⟩:=aa h;refine xi (en:=(fun x=> [.bool x.1,.agg #[iV x.2.Kind,iV x.2.N,.string x.2.S]])) (fun x st=>lv N a1 x st) (fun (st:(List Int)) (mz:((Option Addr×Nat×Nat)))=> [al B4 4 [.bool a1],dn (mA .i64) 3 (.slice mz.1 mz.2.1 mz.2.2) st,al B5 211 [.slice mz.1 mz.2.1 mz.2.2]]) [bd B7 138 [iV a0.Kind,iV a0.Shape,iV a0.Flags,iV a0.Age,U A1 n1 c1,U A2 n2 c2],dK A1 n1 c1 a0.Slots,dK A2 n2 c2 a0.More] ([]) ((none,0,0)) J J Dd J (fun _=>J) (fun l G hY=>(qR hy10 hY).mono fun _ _ hh=>hh.2) ((gy (mA .i64) 3 _).trans (aG [1,5,6] [] [3,0,2] 7 J)) h ?_ ?_ ?_ ?_
 ·rintro l x8 p9 je sr8 ⟨A9,n9,c9⟩ h;replace h:lv N a1 x8 p9=some (je,sr8):=h;simp only [xF,List.zip_cons_cons,List.zip_nil_left,List.zip_nil_right,List.reverse_cons,List.reverse_nil,List.nil_append,List.cons_append];refine W ?_;refine gD (aM eA J) ?_;rintro _ _ ⟨B12,rfl,rfl⟩;refine gO (aw (us:=[iV x8.2.Kind,iV x8.2.N,.string x8.2.S]) (cs':=[iV x8.2.Kind,iV x8.2.N,.string x8.2.S]) 0 J J J J be J J J) ?_;rintro _ _ rfl;refine W ?_;refine gE (IP J J KU) ?_;refine W ?_;obtain ⟨b13,hb13,h⟩:=aa h;refine aH 3 18 b13 ?_ ?_
  ·clear h;refine aD 15 J (fun g13=> ?_) (fun g13=> ?_)
   ·have h:=ad g13 hb13;refine bY (aj (us:=[iV x8.2.Kind,iV x8.2.N,.string x8.2.S]) 0 J J aN J) J (bi g13 J) J ?_;obtain ⟨y14,hy14,h⟩:=aa h;refine cc (ap (xJ hy14) G4 J (ai) uN) J (bi g13 J) J ?_;rintro _ _ ⟨_,⟨rfl,rfl⟩,rfl⟩;refine W ?_;obtain rfl:=ao h;exact ab sA (cS [0,1,2,3] 4)
   have h:=ae g13 hb13;refine W ?_;obtain rfl:=ao h;exact ab sA (cS [0,1,2,3] 4)
  refine W ?_;refine av J (fun g15=> ?_) (fun g15=> ?_)
  ·replace h:=ad g15 h;refine W ?_;refine gD (ce (R:=(mA .i64)) (vss:=[[iV x8.2.N]]) (xs:=[x8.2.N]) J (yx _) J J (fun _ _ hr=> .cons J All2.nil)) ?_;rintro _ _ ⟨A16,n16,c16,rfl,rfl⟩;obtain ⟨q17,h⟩:=aA h;refine gD (ew 3 0 J J aC J J KQ J4 J J q17) ?_;rintro _ _ ⟨A18,n18,c18,rfl,rfl⟩;refine bG ?_;refine gO (aw (us:=[U A18 n18 c18]) (cs':=[U A18 n18 c18]) 4 J J J J Gf J J J) ?_;rintro _ _ rfl;refine W ?_;obtain ⟨rfl,rfl⟩:=Prod.mk.inj (Option.some.inj h);exact FS ((cS [2,3,4] 5).trans (kj (A18,n18,c18) J))
  replace h:=ae g15 h;refine W ?_;obtain ⟨rfl,rfl⟩:=Prod.mk.inj (Option.some.inj h);exact FS ((cS [1,2,3] 4).trans (kj (A9,n9,c9) J))
 ·rintro ⟨A9,n9,c9⟩ h;refine rB ([al B4 4 [.bool a1],dn (mA .i64) 3 (U A9 n9 c9) y10.2,al B5 211 [U A9 n9 c9]]) J ?_;refine W ?_;obtain rfl:=ao h;exact aO J J (cS [1] 3) ⟨_,_,_,J,J⟩
 ·rintro ⟨A9,n9,c9⟩ h;exact bq h
 rintro i ⟨A9,n9,c9⟩ h;exact bq h
theorem mX {r:(List Int)}: ∀v post,((fun (u:Value) (post:List Chunk)=> ∃A0 n0 c0,u=U A0 n0 c0∧post=[dn (mA .i64) 3 (U A0 n0 c0) r])) v post→ ∀c∈post,cF c:=by
 rintro _ _ ⟨_,_,_,rfl,rfl⟩;exact hJ fz (ai)
def tk (N:Nat)(a0:La):Option (List Int):=
 (lV N a0 true).bind fun y4=>some y4
theorem xL {N:Nat}{a0:La}{r:(List Int)}(h:tk N a0=some r):Okc Tryz.prog 246 [.agg #[iV a0.Kind,iV a0.Shape,iV a0.Flags,iV a0.Age,U A1 n1 c1,U A2 n2 c2]] ([dK A1 n1 c1 a0.Slots,dK A2 n2 c2 a0.More]) (fun u post=> ∃A0 n0 c0,u=U A0 n0 c0∧post=[dn (mA .i64) 3 (U A0 n0 c0) r]):=by
 refine bB Tryz.func246 J J ?_;simp only [ba];refine W ?_;refine gD (aT J J) ?_;rintro _ _ ⟨B3,rfl,rfl⟩;refine W ?_;refine gR (aj (us:=[iV a0.Kind,iV a0.Shape,iV a0.Flags,iV a0.Age,U A1 n1 c1,U A2 n2 c2]) 0 J J cb J) ?_;obtain ⟨y4,hy4,h⟩:=aa h;refine gD (ap (oH hy4) C9 J (hJ (aq (i:=1) J J) (hJ (aq (i:=2) J J) ai)) mX) ?_;rintro _ _ ⟨_,⟨A5,n5,c5,rfl,rfl⟩,rfl⟩;refine W ?_;obtain rfl:=ao h;exact aO J J (cS [0] 4) ⟨_,_,_,J,J⟩
theorem uO {r:(List Int)}: ∀v post,((fun (u:Value) (post:List Chunk)=> ∃A0 n0 c0,u=U A0 n0 c0∧post=[dn (mA .i64) 3 (U A0 n0 c0) r])) v post→ ∀c∈post,cF c:=by
 rintro _ _ ⟨_,_,_,rfl,rfl⟩;exact hJ fz (ai)
def mN (N:Nat)(ff:Int→Option Bool):Option Int:=
 some (-1)
def jQ (N:Nat)(ff:Int→Option Bool)(a0:(List Int)):Nat→Int→Option Int
 |0,_=>none
 |m3+1,p4=>bif decide (p4<(a0.length:Int)) then ((bE a0 p4).bind fun x6=>(ff x6).bind fun y7=>bif y7 then (some p4) else (cV (bC (p4+1)) ((jQ N ff a0 m3) (p4+1)))) else (mN N ff)
def nA (N:Nat)(a0:(List Int))(ff:Int→Option Bool):Option Int:=
 jQ N ff a0 N 0
theorem rC {N:Nat}{a0:(List Int)}{ff:Int→Option Bool}{r:Int}(h:nA N a0 ff=some r){vf:Value}{G:List Chunk}(hf:Jd Tryz.prog vf G (fun x=> [iV x]) (fun r=> .bool r) ff):Okc Tryz.prog 255 [U A1 n1 c1,vf] (kS (mA .i64) (U A1 n1 c1) a0::G) (fun u post=>u=iV r∧post=[]):=by
 refine bB Tryz.func255 J J ?_;simp only [ba];refine W ?_;refine bc (fun s L=>mN N ff=some r∧s=[(4,iV 0)]∧L=G) ?_ ?_
 ·refine W ?_;refine gR (bJ 0 J aQ J KQ) ?_;refine W ?_;refine cv (fun m s L=> ∃p4,jQ N ff a0 m p4=some r∧s=[(0,U A1 n1 c1),(1,vf),(4,iV 0),(7,iV (a0.length:Int)),(8,iV p4)]∧L=kS (mA .i64) (U A1 n1 c1) a0::G) N _ _ ⟨0,h,J,J⟩ sA (cS [0] 1) ?_;rintro (_|m3) _ _ ⟨p4,h,rfl,rfl⟩
  ·exact bq h
  rw [jQ.eq_2] at h;refine W ?_;refine aB ?_;refine av J (fun g5=> ?_) (fun g5=> ?_)
  ·replace h:=ad g5 h;refine W ?_;refine aB ?_;refine W ?_;obtain ⟨x6,hx6,h⟩:=aa h;obtain ⟨lx6,ux6,hx6⟩:=aJ hx6;refine gR (bn 0 J aQ J J KQ il lx6 ux6) ?_;refine gR (eV (u:=iV x6) 0 J aQ J hx6 dH (fun _ _ _ h=>by rw [show _=_ from h];rfl)) ?_;obtain ⟨y7,hy7,h⟩:=aa h;refine gD (EQ (a:=x6) [kS (mA .i64) (U A1 n1 c1) a0] hf hy7 J J) ?_;rintro _ _ ⟨rfl,rfl⟩;refine W ?_;refine av J (fun g8=> ?_) (fun g8=> ?_)
   ·replace h:=ad g8 h;refine W ?_;obtain rfl:=ao h;exact aO J J (zA [] 1 J J) ⟨J,J⟩
   replace h:=ae g8 h;refine W ?_;obtain ⟨q9,h⟩:=aA h;refine gE (bF J J q9.1 q9.2) ?_;refine W ?_;exact ⟨m3,_,_,Lo _,⟨p4+1,h,J,J⟩,sA,cS [0] 1⟩
  replace h:=ae g5 h;refine W ?_;exact ⟨_,_,⟨h,J,J⟩,sA,cS [] 1⟩
 rintro _ _ ⟨h,rfl,rfl⟩;refine W ?_;obtain rfl:=ao h;exact aO J J (zA [] 0 J J) ⟨J,J⟩
theorem qf {r:Int}: ∀v post,((fun (u:Value) (post:List Chunk)=>u=iV r∧post=[])) v post→ ∀c∈post,cF c:=by
 rintro _ _ ⟨rfl,rfl⟩;exact ai
def i2 (N:Nat)(a0:(List Int))(ff:Int→Option Bool):Option Bool:=
 (nA N a0 ff).bind fun y2=>some (decide (0≤y2))
theorem kR {N:Nat}{a0:(List Int)}{ff:Int→Option Bool}{r:Bool}(h:i2 N a0 ff=some r){vf:Value}{G:List Chunk}(hf:Jd Tryz.prog vf G (fun x=> [iV x]) (fun r=> .bool r) ff):Okc Tryz.prog 245 [U A1 n1 c1,vf] (kS (mA .i64) (U A1 n1 c1) a0::G) (fun u post=>u=.bool r∧post=[]):=by
 refine bB Tryz.func245 J J ?_;simp only [ba];refine W ?_;obtain ⟨y2,hy2,h⟩:=aa h;refine gD (ap (rC hy2 hf) G6 J (hJ (aq (i:=0) J J) (yf (E:=[kS (mA .i64) (U A1 n1 c1) a0]) hf.1)) qf) ?_;rintro _ _ ⟨_,⟨rfl,rfl⟩,rfl⟩;refine W ?_;obtain rfl:=ao h;exact aO J J (zA [] 1 J J) ⟨J,J⟩
theorem jY {r:Bool}: ∀v post,((fun (u:Value) (post:List Chunk)=>u=.bool r∧post=[])) v post→ ∀c∈post,cF c:=by
 rintro _ _ ⟨rfl,rfl⟩;exact ai
def nF (N:Nat)(a0:Int):Option Bool:=
 (bif decide (0<a0) then (some (decide (a0.tmod 2=1))) else (some false)).bind fun b1=>some b1
theorem pX {N:Nat}{a0:Int}{r:Bool}(h:nF N a0=some r):Okc Tryz.prog 247 [iV a0] ([]) (fun u post=>u=.bool r∧post=[]):=by
 refine bB Tryz.func247 J J ?_;simp only [ba];refine W ?_;obtain ⟨b1,hb1,h⟩:=aa h;refine aH 4 9 b1 ?_ ?_
 ·clear h;refine aD 5 J (fun g1=> ?_) (fun g1=> ?_)
  ·have h:=ad g1 hb1;refine W ?_;refine eR (nS J J (by decide)) J (bi g1 J) J ?_;refine W ?_;obtain rfl:=ao h;exact ab sA (cS [] 0)
  have h:=ae g1 hb1;refine W ?_;obtain rfl:=ao h;exact ab sA (cS [] 0)
 refine W ?_;obtain rfl:=ao h;exact aO J J (cS [] 0) ⟨J,J⟩
def r6 (N:Nat)(a0:La):Option (List Int):=
 (lV N a0 false).bind fun y4=>some y4
theorem wQ {N:Nat}{a0:La}{r:(List Int)}(h:r6 N a0=some r):Okc Tryz.prog 248 [.agg #[iV a0.Kind,iV a0.Shape,iV a0.Flags,iV a0.Age,U A1 n1 c1,U A2 n2 c2]] ([dK A1 n1 c1 a0.Slots,dK A2 n2 c2 a0.More]) (fun u post=> ∃A0 n0 c0,u=U A0 n0 c0∧post=[dn (mA .i64) 3 (U A0 n0 c0) r]):=by
 refine bB Tryz.func248 J J ?_;simp only [ba];refine W ?_;refine gD (aT J J) ?_;rintro _ _ ⟨B3,rfl,rfl⟩;refine W ?_;refine gR (aj (us:=[iV a0.Kind,iV a0.Shape,iV a0.Flags,iV a0.Age,U A1 n1 c1,U A2 n2 c2]) 0 J J cb J) ?_;obtain ⟨y4,hy4,h⟩:=aa h;refine gD (ap (oH hy4) C9 J (hJ (aq (i:=1) J J) (hJ (aq (i:=2) J J) ai)) mX) ?_;rintro _ _ ⟨_,⟨A5,n5,c5,rfl,rfl⟩,rfl⟩;refine W ?_;obtain rfl:=ao h;exact aO J J (cS [0] 4) ⟨_,_,_,J,J⟩
theorem tZ {r:(List Int)}: ∀v post,((fun (u:Value) (post:List Chunk)=> ∃A0 n0 c0,u=U A0 n0 c0∧post=[dn (mA .i64) 3 (U A0 n0 c0) r])) v post→ ∀c∈post,cF c:=by
 rintro _ _ ⟨_,_,_,rfl,rfl⟩;exact hJ fz (ai)
def qu (N:Nat)(a0:La):Option Bool:=
 (tk N a0).bind fun y4=>(i2 N y4 (fun x=>nF N x)).bind fun y6=>(bif y6 then (some true) else ((r6 N a0).bind fun y8=>(i2 N y8 (fun x=>nF N x)).bind fun y10=>some y10)).bind fun b7=>some b7
theorem uI {N:Nat}{a0:La}{r:Bool}(h:qu N a0=some r):Okc Tryz.prog 235 [.agg #[iV a0.Kind,iV a0.Shape,iV a0.Flags,iV a0.Age,U A1 n1 c1,U A2 n2 c2]] ([dK A1 n1 c1 a0.Slots,dK A2 n2 c2 a0.More]) (fun u post=>u=.bool r∧post=[]):=by
 refine bB Tryz.func235 J J ?_;simp only [ba];refine W ?_;refine gD (aT J J) ?_;rintro _ _ ⟨B3,rfl,rfl⟩;refine W ?_;refine gR (aj (us:=[iV a0.Kind,iV a0.Shape,iV a0.Flags,iV a0.Age,U A1 n1 c1,U A2 n2 c2]) 0 J J cb J) ?_;obtain ⟨y4,hy4,h⟩:=aa h;refine gD (ap (xL hy4) G9 J (hJ (aq (i:=1) J J) (hJ (aq (i:=2) J J) ai)) uO) ?_;rintro _ _ ⟨_,⟨A5,n5,c5,rfl,rfl⟩,rfl⟩;obtain ⟨y6,hy6,h⟩:=aa h;refine gD (ap (kR hy6 ⟨ai,247, #[], #[],J,Da,fun _ _ hh=>pX hh⟩) Db J (hJ (ar (i:=0) J) ai) jY) ?_;rintro _ _ ⟨_,⟨rfl,rfl⟩,rfl⟩;refine W ?_;obtain ⟨b7,hb7,h⟩:=aa h;refine aH 4 10 b7 ?_ ?_
 ·clear h;refine aD 6 J (fun g7=> ?_) (fun g7=> ?_)
  ·have h:=ad g7 hb7;refine W ?_;obtain rfl:=ao h;exact ab sA (cS [0,1,2,3] 4)
  have h:=ae g7 hb7;refine bY (aj (us:=[iV a0.Kind,iV a0.Shape,iV a0.Flags,iV a0.Age,U A1 n1 c1,U A2 n2 c2]) 1 J J cb J) J (co g7 J) J ?_;obtain ⟨y8,hy8,h⟩:=aa h;refine cc (ap (wQ hy8) G8 J (hJ (aq (i:=2) J J) (hJ (aq (i:=3) J J) ai)) tZ) J (co g7 J) J ?_;rintro _ _ ⟨_,⟨A9,n9,c9,rfl,rfl⟩,rfl⟩;obtain ⟨y10,hy10,h⟩:=aa h;refine cc (ap (kR hy10 ⟨ai,247, #[], #[],J,Da,fun _ _ hh=>pX hh⟩) Db J (hJ (ar (i:=0) J) ai) jY) J (co g7 J) J ?_;rintro _ _ ⟨_,⟨rfl,rfl⟩,rfl⟩;refine W ?_;obtain rfl:=ao h;exact ab sA (cS [1,2,3,4] 5)
 refine W ?_;obtain rfl:=ao h;exact aO J J (cS [] 4) ⟨J,J⟩
theorem sE {r:Bool}: ∀v post,((fun (u:Value) (post:List Chunk)=>u=.bool r∧post=[])) v post→ ∀c∈post,cF c:=by
 rintro _ _ ⟨rfl,rfl⟩;exact ai
def mS (N:Nat)(a1:Int)(a0:Lc):Option (Bool×Lc):=
 some (true,(⟨BE a0.at_ a1 true⟩:Lc))
def gM (N:Nat)(a0:Lc)(a1:Int)(a2:La):Option (Bool×Lc):=
 (sD N a1).bind fun y6=>bif !y6 then (some (false,a0)) else ((qu N a2).bind fun y8=>bif !y8 then (some (false,(⟨Ec a0.at_ a1⟩:Lc))) else (mS N a1 a0))
theorem iJ {N:Nat}{a0:Lc}{a1:Int}{a2:La}{r:(Bool×Lc)}(h:gM N a0 a1 a2=some r):Okc Tryz.prog 211 [pV B1 0,iV a1,.agg #[iV a2.Kind,iV a2.Shape,iV a2.Flags,iV a2.Age,U A3 n3 c3,U A4 n4 c4]] ([dK A3 n3 c3 a2.Slots,dK A4 n4 c4 a2.More,al B1 247 [.map (some M2)],aP dG dL M2 a0.at_]) (fun u post=> ∃M0,u=.bool r.1∧post=[al B1 247 [.map (some M0)],aP dG dL M0 r.2.at_]):=by
 refine bB Tryz.func211 J J ?_;simp only [ba];refine W ?_;refine gD (aT J J) ?_;rintro _ _ ⟨B5,rfl,rfl⟩;refine W ?_;refine aB ?_;refine W ?_;refine gE (fJ J Tryz.underlying193) ?_;refine W ?_;obtain ⟨y6,hy6,h⟩:=aa h;refine gD (ap (xu hy6) He J (ai) uH) ?_;rintro _ _ ⟨_,⟨rfl,rfl⟩,rfl⟩;refine W ?_;refine av J (fun g7=> ?_) (fun g7=> ?_)
 ·replace h:=ad g7 h;refine W ?_;obtain rfl:=ao h;exact aO J J (cS [3,4] 5) ⟨_,J,J⟩
 replace h:=ae g7 h;refine W ?_;refine aB ?_;refine W ?_;refine gR (aj (us:=[iV a2.Kind,iV a2.Shape,iV a2.Flags,iV a2.Age,U A3 n3 c3,U A4 n4 c4]) 0 J J cb J) ?_;obtain ⟨y8,hy8,h⟩:=aa h;refine gD (ap (uI hy8) Hd J (hJ (aq (i:=1) J J) (hJ (aq (i:=2) J J) ai)) sE) ?_;rintro _ _ ⟨_,⟨rfl,rfl⟩,rfl⟩;refine W ?_;refine av J (fun g9=> ?_) (fun g9=> ?_)
 ·replace h:=ad g9 h;refine W ?_;refine gO (DR (a:=a1) 4 J J J KV (yh KM)) ?_;rintro _ _ rfl;refine W ?_;obtain rfl:=ao h;exact aO J J (cS [3,4] 5) ⟨_,J,J⟩
 replace h:=ae g9 h;refine W ?_;refine bc (fun s L=>mS N a1 a0=some r∧s=[(0,pV B1 0),(1,iV a1),(6,.bool false)]∧L=[aP dG dL M2 a0.at_,al B1 247 [.map (some M2)]]) ?_ ?_
 ·refine W ?_;refine gE (Ea J KV) ?_;refine W ?_;refine iX J ?_;refine W ?_;exact ⟨_,_,⟨h,J,J⟩,sA,cS [4,3] 5⟩
 rintro _ _ ⟨h,rfl,rfl⟩;refine W ?_;refine gO (sM (a:=a1) (b:=true) 0 J J J J KV (yh KM)) ?_;rintro _ _ rfl;refine W ?_;obtain rfl:=ao h;exact aO J J (cS [1,0] 2) ⟨_,J,J⟩
theorem lH {r:(Bool×Lc)}{B1:Nat}: ∀v post,((fun (u:Value) (post:List Chunk)=> ∃M0,u=.bool r.1∧post=[al B1 247 [.map (some M0)],aP dG dL M0 r.2.at_])) v post→ ∀c∈post,cF c:=by
 rintro _ _ ⟨_,rfl,rfl⟩;exact hJ qH (hJ D4 (ai))
def BA (N:Nat)(a1:Int)(a2:La):Option Bool:=
 some false
end Go.Proofs.YtanojiedimeegaaGreatDoor