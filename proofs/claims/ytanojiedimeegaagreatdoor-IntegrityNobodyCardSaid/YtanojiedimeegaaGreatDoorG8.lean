/- Merged texts: part 8. No conditions of their own. -/
import Derived.Test.YtanojiedimeegaaGreatDoorG7
namespace Go.Proofs.YtanojiedimeegaaGreatDoor
variable {A10 A12 A13 A14 A2 A3 A4 A5 A6:Option Addr} {B1 B2 B7 B9 M11 M3 M8 c10 c12 c13 c14 c2 c3 c4 c5 c6 n10 n12 n13 n14 n2 n3 n4 n5 n6:Nat}
open Go.RowKit Asn
set_option maxRecDepth 20000
def ko (N:Nat)(a1:DX)(p27:Int)(y29:(Int))(a2:D6)(p31:Int)(p32:Int)(p33:ByteArray)(p37:Int)(p38:Int)(p39:ByteArray)(p43:Int)(p44:Int)(p45:ByteArray):Option D0:=
 some (⟨a1,cn .i64 (cp .i64 p27 y29) (aS .i64 a2.Attrs y29),(⟨p31,p32,p33⟩:Ea),(⟨p37,p38,p39⟩:Ea),(⟨p43,p44,p45⟩:Ea)⟩:D0)
def kp (N:Nat)(a2:D6)(a1:DX)(p27:Int)(y29:(Int))(p31:Int)(p32:Int)(p33:ByteArray)(p14:Int)(p15:Int)(p16:ByteArray)(p37:Int)(p38:Int)(p39:ByteArray):Option D0:=
 (bK N a2 8).bind fun y46=>bif y46 then (ko N a1 p27 y29 a2 p31 p32 p33 p37 p38 p39 a2.Set.Kind a2.Set.N a2.Set.S) else (ko N a1 p27 y29 a2 p31 p32 p33 p37 p38 p39 p14 p15 p16)
def kq (N:Nat)(a2:D6)(a1:DX)(p27:Int)(y29:(Int))(p11:Int)(p12:Int)(p13:ByteArray)(p14:Int)(p15:Int)(p16:ByteArray)(p31:Int)(p32:Int)(p33:ByteArray):Option D0:=
 (bK N a2 4).bind fun y40=>bif y40 then (kp N a2 a1 p27 y29 p31 p32 p33 p14 p15 p16 a2.Get.Kind a2.Get.N a2.Get.S) else (kp N a2 a1 p27 y29 p31 p32 p33 p14 p15 p16 p11 p12 p13)
def kr (N:Nat)(a2:D6)(a1:DX)(p21:Int)(p22:Int)(p23:ByteArray)(p11:Int)(p12:Int)(p13:ByteArray)(p14:Int)(p15:Int)(p16:ByteArray)(p27:Int):Option D0:=
 (nI N a2).bind fun y29=>(bK N a2 1).bind fun y34=>bif y34 then (kq N a2 a1 p27 y29 p11 p12 p13 p14 p15 p16 a2.Value.Kind a2.Value.N a2.Value.S) else (kq N a2 a1 p27 y29 p11 p12 p13 p14 p15 p16 p21 p22 p23)
def ku (N:Nat)(b6:Bool)(a0:D0)(a2:D6)(a1:DX)(p11:Int)(p12:Int)(p13:ByteArray)(p14:Int)(p15:Int)(p16:ByteArray)(p20:Int)(p21:Int)(p22:Int)(p23:ByteArray):Option D0:=
 bif b6 then (kr N a2 a1 p21 p22 p23 p11 p12 p13 p14 p15 p16 (cn .i64 (cn .i64 p20 (aS .i64 a0.Attrs 6)) 8)) else (kr N a2 a1 p21 p22 p23 p11 p12 p13 p14 p15 p16 (cn .i64 p20 (aS .i64 a0.Attrs 6)))
def kw (N:Nat)(a0:D0)(b6:Bool)(a2:D6)(a1:DX)(p11:Int)(p12:Int)(p13:ByteArray)(p14:Int)(p15:Int)(p16:ByteArray):Option D0:=
 (bif !b6 then (some (!(!decide (aS .i64 a0.Attrs 8=0)))) else (some false)).bind fun b24=>bif b24 then (ku N b6 a0 a2 a1 p11 p12 p13 p14 p15 p16 (aS .i64 a0.Attrs 1) a0.Value.Kind a0.Value.N a0.Value.S) else (ku N b6 a0 a2 a1 p11 p12 p13 p14 p15 p16 0 0 0 (⟨#[]⟩))
def mD (N:Nat)(a0:D0)(a1:DX)(a2:D6):Option D0:=
 (bK N a2 12).bind fun y5=>(bif y5 then (some true) else ((bif !decide (aS .i64 a0.Attrs 8=0) then ((bK N a2 3).bind fun y8=>some (!y8)) else (some false)).bind fun b7=>some b7)).bind fun b6=>(bif b6 then (some (!decide (aS .i64 a0.Attrs 8=0))) else (some false)).bind fun b17=>bif b17 then (kw N a0 b6 a2 a1 a0.Get.Kind a0.Get.N a0.Get.S a0.Set.Kind a0.Set.N a0.Set.S) else (kw N a0 b6 a2 a1 0 0 (⟨#[]⟩) 0 0 (⟨#[]⟩))
theorem oX {N:Nat}{a0:D0}{a1:DX}{a2:D6}{r:D0}(h:mD N a0 a1 a2=some r):Okc Tryz.prog 172 [.agg #[iV a0.Key.Kind,iV a0.Key.N,.string a0.Key.S,iV a0.Attrs,iV a0.Value.Kind,iV a0.Value.N,.string a0.Value.S,iV a0.Get.Kind,iV a0.Get.N,.string a0.Get.S,iV a0.Set.Kind,iV a0.Set.N,.string a0.Set.S],.agg #[iV a1.Kind,iV a1.N,.string a1.S],.agg #[iV a2.Has,iV a2.Attrs,iV a2.Value.Kind,iV a2.Value.N,.string a2.Value.S,iV a2.Get.Kind,iV a2.Get.N,.string a2.Get.S,iV a2.Set.Kind,iV a2.Set.N,.string a2.Set.S]] ([]) (fun u post=>u=.agg #[iV r.Key.Kind,iV r.Key.N,.string r.Key.S,iV r.Attrs,iV r.Value.Kind,iV r.Value.N,.string r.Value.S,iV r.Get.Kind,iV r.Get.N,.string r.Get.S,iV r.Set.Kind,iV r.Set.N,.string r.Set.S]∧post=[]):=by
 refine be Tryz.func172 J J ?_;simp only [aM];refine U ?_;refine gD (aE J J) ?_;rintro _ _ ⟨B1,rfl,rfl⟩;refine gD (aE J J) ?_;rintro _ _ ⟨B2,rfl,rfl⟩;refine gD (aE J J) ?_;rintro _ _ ⟨B3,rfl,rfl⟩;refine gD (aF ci J) ?_;rintro _ _ ⟨B4,rfl,rfl⟩;refine U ?_;refine gE (bj J J) ?_;refine U ?_;refine gR (ab (us:=[iV a2.Has,iV a2.Attrs,iV a2.Value.Kind,iV a2.Value.N,.string a2.Value.S,iV a2.Get.Kind,iV a2.Get.N,.string a2.Get.S,iV a2.Set.Kind,iV a2.Set.N,.string a2.Set.S]) 1 J J cI J) ?_;obtain ⟨y5,hy5,h⟩:=aa h;refine gD (ak (bF hy5) dB J (ac) br) ?_;rintro _ _ ⟨_,⟨rfl,rfl⟩,rfl⟩;refine U ?_;obtain ⟨b6,hb6,h⟩:=aa h;refine aJ 7 24 b6 ?_ ?_
 ·clear h;refine aH 17 J (fun g6=> ?_) (fun g6=> ?_)
  ·have h:=ag g6 hb6;refine U ?_;obtain rfl:=am h;exact ae sA (cS [0,1,2,3] 4)
  have h:=ah g6 hb6;refine U ?_;obtain ⟨b7,hb7,h⟩:=aa h;refine aJ 4 23 b7 ?_ ?_
  ·clear h;refine aH 19 J (fun g7=> ?_) (fun g7=> ?_)
   ·have h:=ag g7 hb7;refine bH (ab (us:=[iV a2.Has,iV a2.Attrs,iV a2.Value.Kind,iV a2.Value.N,.string a2.Value.S,iV a2.Get.Kind,iV a2.Get.N,.string a2.Get.S,iV a2.Set.Kind,iV a2.Set.N,.string a2.Set.S]) 1 J J cI J) J (aX g7 J) J ?_;obtain ⟨y8,hy8,h⟩:=aa h;refine bX (ak (bF hy8) dB J (ac) br) J (aX g7 J) J ?_;rintro _ _ ⟨_,⟨rfl,rfl⟩,rfl⟩;refine U ?_;obtain rfl:=am h;exact ae sA (cS [0,1,2,3] 4)
   have h:=ah g7 hb7;refine U ?_;obtain rfl:=am h;exact ae sA (cS [0,1,2,3] 4)
  refine U ?_;obtain rfl:=am h;exact ae sA (cS [0,1,2,3] 4)
 refine U ?_;refine gR (ab (us:=[iV a1.Kind,iV a1.N,.string a1.S]) 2 J J bp J) ?_;refine gE (aY J (zz _ _ _)) ?_;refine gD (aF ci J) ?_;rintro _ _ ⟨B9,rfl,rfl⟩;refine gO (ao (us:=[iV a1.Kind,iV a1.N,.string a1.S,iV 0,iV 0,iV 0,.string (⟨#[]⟩),iV 0,iV 0,.string (⟨#[]⟩),iV 0,iV 0,.string (⟨#[]⟩)]) (cs':=[iV a1.Kind,iV a1.N,.string a1.S,iV 0,iV 0,iV 0,.string (⟨#[]⟩),iV 0,iV 0,.string (⟨#[]⟩),iV 0,iV 0,.string (⟨#[]⟩)]) 0 J J J J bz J J J) ?_;rintro _ _ rfl;refine U ?_;refine aW (fun s L=> ∃p11 p12 p13 p14 p15 p16,kw N a0 b6 a2 a1 p11 p12 p13 p14 p15 p16=some r∧s=[(3,pV B1 0),(5,pV B3 0),(6,pV B4 0),(7,.bool (!decide (aS .i64 a0.Attrs 8=0))),(8,.bool b6),(9,pV B9 0)]∧L=[ad B1 42 [iV a0.Key.Kind,iV a0.Key.N,.string a0.Key.S,iV a0.Attrs,iV a0.Value.Kind,iV a0.Value.N,.string a0.Value.S,iV a0.Get.Kind,iV a0.Get.N,.string a0.Get.S,iV a0.Set.Kind,iV a0.Set.N,.string a0.Set.S],ad B3 32 [iV a2.Has,iV a2.Attrs,iV a2.Value.Kind,iV a2.Value.N,.string a2.Value.S,iV a2.Get.Kind,iV a2.Get.N,.string a2.Get.S,iV a2.Set.Kind,iV a2.Set.N,.string a2.Set.S],ad B4 42 [iV 0,iV 0,.string (⟨#[]⟩),iV 0,iV 0,iV 0,.string (⟨#[]⟩),iV 0,iV 0,.string (⟨#[]⟩),iV 0,iV 0,.string (⟨#[]⟩)],ad B9 42 [iV a1.Kind,iV a1.N,.string a1.S,iV 0,iV 0,iV 0,.string (⟨#[]⟩),iV p11,iV p12,.string p13,iV p14,iV p15,.string p16]]) ?_ ?_
 ·refine U ?_;obtain ⟨b17,hb17,h⟩:=aa h;refine aJ 2 30 b17 ?_ ?_
  ·clear h;refine aH 28 J (fun g17=> ?_) (fun g17=> ?_)
   ·have h:=ag g17 hb17;refine U ?_;obtain rfl:=am h;exact ae sA (cS [0,1,2,3,4] 5)
   have h:=ah g17 hb17;refine U ?_;obtain rfl:=am h;exact ae sA (cS [0,1,2,3,4] 5)
  refine U ?_;refine aq J (fun g18=> ?_) (fun g18=> ?_)
  ·replace h:=ag g18 h;refine bq O ([ad B4 42 [iV 0,iV 0,.string (⟨#[]⟩),iV 0,iV 0,iV 0,.string (⟨#[]⟩),iV 0,iV 0,.string (⟨#[]⟩),iV 0,iV 0,.string (⟨#[]⟩)],ad B3 32 [iV a2.Has,iV a2.Attrs,iV a2.Value.Kind,iV a2.Value.N,.string a2.Value.S,iV a2.Get.Kind,iV a2.Get.N,.string a2.Get.S,iV a2.Set.Kind,iV a2.Set.N,.string a2.Set.S],ad B2 24 [iV a1.Kind,iV a1.N,.string a1.S],ad B1 42 [iV a0.Key.Kind,iV a0.Key.N,.string a0.Key.S,iV a0.Attrs,iV a0.Value.Kind,iV a0.Value.N,.string a0.Value.S,iV a0.Get.Kind,iV a0.Get.N,.string a0.Get.S,iV a0.Set.Kind,iV a0.Set.N,.string a0.Set.S]]) (cS [1,2,3,4] 5) ?_;refine zE 0 J (bB J sB) ?_;refine zR 1 J (ab (us:=[iV a0.Get.Kind,iV a0.Get.N,.string a0.Get.S]) 3 J J aC J) ?_;refine zE 2 J (bB J sy) ?_;refine zR 3 J (ab (us:=[iV a0.Set.Kind,iV a0.Set.N,.string a0.Set.S]) 3 J J aC J) ?_;refine zE 4 J (bB J sB) ?_;refine zO 5 J (ao (us:=[iV a0.Get.Kind,iV a0.Get.N,.string a0.Get.S]) (cs':=[iV a1.Kind,iV a1.N,.string a1.S,iV 0,iV 0,iV 0,.string (⟨#[]⟩),iV a0.Get.Kind,iV a0.Get.N,.string a0.Get.S,iV 0,iV 0,.string (⟨#[]⟩)]) 0 J J J J ba J J J) ?_;rintro _ _ rfl;refine cN (cS [1,2,3,4] 5) ?_;refine zE 6 J (bB J sy) ?_;refine zO 7 J (ao (us:=[iV a0.Set.Kind,iV a0.Set.N,.string a0.Set.S]) (cs':=[iV a1.Kind,iV a1.N,.string a1.S,iV 0,iV 0,iV 0,.string (⟨#[]⟩),iV a0.Get.Kind,iV a0.Get.N,.string a0.Get.S,iV a0.Set.Kind,iV a0.Set.N,.string a0.Set.S]) 0 J J J J ba J J J) ?_;rintro _ _ rfl
   refine cN (cS [1,2,3,4] 5) ?_;refine bh O ?_;refine dT ?_;exact ⟨_,_,⟨a0.Get.Kind,a0.Get.N,a0.Get.S,a0.Set.Kind,a0.Set.N,a0.Set.S,h,J,J⟩,sA,cS [4,2,1,0] 5⟩
  replace h:=ah g18 h;refine U ?_;exact ⟨_,_,⟨0,0,⟨#[]⟩,0,0,⟨#[]⟩,h,J,J⟩,sA,cS [4,2,1,0] 5⟩
 rintro _ _ ⟨p11,p12,p13,p14,p15,p16,h,rfl,rfl⟩;refine aW (fun s L=> ∃p20 p21 p22 p23,ku N b6 a0 a2 a1 p11 p12 p13 p14 p15 p16 p20 p21 p22 p23=some r∧s=[(3,pV B1 0),(5,pV B3 0),(6,pV B4 0),(8,.bool b6),(9,pV B9 0)]∧L=[ad B1 42 [iV a0.Key.Kind,iV a0.Key.N,.string a0.Key.S,iV a0.Attrs,iV a0.Value.Kind,iV a0.Value.N,.string a0.Value.S,iV a0.Get.Kind,iV a0.Get.N,.string a0.Get.S,iV a0.Set.Kind,iV a0.Set.N,.string a0.Set.S],ad B3 32 [iV a2.Has,iV a2.Attrs,iV a2.Value.Kind,iV a2.Value.N,.string a2.Value.S,iV a2.Get.Kind,iV a2.Get.N,.string a2.Get.S,iV a2.Set.Kind,iV a2.Set.N,.string a2.Set.S],ad B4 42 [iV 0,iV 0,.string (⟨#[]⟩),iV 0,iV 0,iV 0,.string (⟨#[]⟩),iV 0,iV 0,.string (⟨#[]⟩),iV 0,iV 0,.string (⟨#[]⟩)],ad B9 42 [iV a1.Kind,iV a1.N,.string a1.S,iV p20,iV p21,iV p22,.string p23,iV p11,iV p12,.string p13,iV p14,iV p15,.string p16]]) ?_ ?_
 ·refine U ?_;obtain ⟨b24,hb24,h⟩:=aa h;refine aJ 3 42 b24 ?_ ?_
  ·clear h;refine aH 39 J (fun g24=> ?_) (fun g24=> ?_)
   ·have h:=ag g24 hb24;refine U ?_;obtain rfl:=am h;exact ae sA (cS [0,1,2,3] 4)
   have h:=ah g24 hb24;refine U ?_;obtain rfl:=am h;exact ae sA (cS [0,1,2,3] 4)
  refine U ?_;refine aq J (fun g25=> ?_) (fun g25=> ?_)
  ·replace h:=ag g25 h;refine U ?_;refine gR (ab (us:=[iV a0.Value.Kind,iV a0.Value.N,.string a0.Value.S]) 0 J J aC J) ?_;refine U ?_;refine gO (ao (us:=[iV a0.Value.Kind,iV a0.Value.N,.string a0.Value.S]) (cs':=[iV a1.Kind,iV a1.N,.string a1.S,iV 0,iV a0.Value.Kind,iV a0.Value.N,.string a0.Value.S,iV p11,iV p12,.string p13,iV p14,iV p15,.string p16]) 3 J J J J ba J J J) ?_;rintro _ _ rfl;refine U ?_;refine gE (bj J J) ?_;refine U ?_;refine gO (ao (us:=[iV (aS .i64 a0.Attrs 1)]) (cs':=[iV a1.Kind,iV a1.N,.string a1.S,iV (aS .i64 a0.Attrs 1),iV a0.Value.Kind,iV a0.Value.N,.string a0.Value.S,iV p11,iV p12,.string p13,iV p14,iV p15,.string p16]) 3 J J J J f7 J J J) ?_;rintro _ _ rfl;refine bA ?_;refine U ?_;exact ⟨_,_,⟨aS .i64 a0.Attrs 1,a0.Value.Kind,a0.Value.N,a0.Value.S,h,J,J⟩,sA,cS [0,1,2,3] 4⟩
  replace h:=ah g25 h;refine U ?_;exact ⟨_,_,⟨0,0,0,⟨#[]⟩,h,J,J⟩,sA,cS [0,1,2,3] 4⟩
 rintro _ _ ⟨p20,p21,p22,p23,h,rfl,rfl⟩;refine U ?_;refine gE (bj J J) ?_;refine gE (iE J J) ?_;refine U ?_;refine gO (ao (us:=[iV (cn .i64 p20 (aS .i64 a0.Attrs 6))]) (cs':=[iV a1.Kind,iV a1.N,.string a1.S,iV (cn .i64 p20 (aS .i64 a0.Attrs 6)),iV p21,iV p22,.string p23,iV p11,iV p12,.string p13,iV p14,iV p15,.string p16]) 3 J J J J f7 J J J) ?_;rintro _ _ rfl;refine U ?_;refine aW (fun s L=> ∃p27,kr N a2 a1 p21 p22 p23 p11 p12 p13 p14 p15 p16 p27=some r∧s=[(5,pV B3 0),(6,pV B4 0),(9,pV B9 0)]∧L=[ad B3 32 [iV a2.Has,iV a2.Attrs,iV a2.Value.Kind,iV a2.Value.N,.string a2.Value.S,iV a2.Get.Kind,iV a2.Get.N,.string a2.Get.S,iV a2.Set.Kind,iV a2.Set.N,.string a2.Set.S],ad B4 42 [iV 0,iV 0,.string (⟨#[]⟩),iV 0,iV 0,iV 0,.string (⟨#[]⟩),iV 0,iV 0,.string (⟨#[]⟩),iV 0,iV 0,.string (⟨#[]⟩)],ad B9 42 [iV a1.Kind,iV a1.N,.string a1.S,iV p27,iV p21,iV p22,.string p23,iV p11,iV p12,.string p13,iV p14,iV p15,.string p16]]) ?_ ?_
 ·refine U ?_;refine aq J (fun g28=> ?_) (fun g28=> ?_)
  ·replace h:=ag g28 h;refine U ?_;refine gE (iE J J) ?_;refine U ?_;refine gO (ao (us:=[iV (cn .i64 (cn .i64 p20 (aS .i64 a0.Attrs 6)) 8)]) (cs':=[iV a1.Kind,iV a1.N,.string a1.S,iV (cn .i64 (cn .i64 p20 (aS .i64 a0.Attrs 6)) 8),iV p21,iV p22,.string p23,iV p11,iV p12,.string p13,iV p14,iV p15,.string p16]) 3 J J J J f7 J J J) ?_;rintro _ _ rfl;refine U ?_;exact ⟨_,_,⟨cn .i64 (cn .i64 p20 (aS .i64 a0.Attrs 6)) 8,h,J,J⟩,sA,cS [1,2,3] 4⟩
  replace h:=ah g28 h;refine U ?_;exact ⟨_,_,⟨cn .i64 p20 (aS .i64 a0.Attrs 6),h,J,J⟩,sA,cS [1,2,3] 4⟩
 rintro _ _ ⟨p27,h,rfl,rfl⟩;refine U ?_;refine gR (ab (us:=[iV a2.Has,iV a2.Attrs,iV a2.Value.Kind,iV a2.Value.N,.string a2.Value.S,iV a2.Get.Kind,iV a2.Get.N,.string a2.Get.S,iV a2.Set.Kind,iV a2.Set.N,.string a2.Set.S]) 0 J J cI J) ?_;obtain ⟨y29,hy29,h⟩:=aa h;refine gD (ak (pT hy29) xF J (ac) oc) ?_;rintro _ _ ⟨_,⟨rfl,rfl⟩,rfl⟩;refine U ?_;refine gE (jK J J) ?_;refine U ?_;refine gE (bj J J) ?_;refine gE (iE J J) ?_;refine U ?_;refine gO (ao (us:=[iV (cn .i64 (cp .i64 p27 y29) (aS .i64 a2.Attrs y29))]) (cs':=[iV a1.Kind,iV a1.N,.string a1.S,iV (cn .i64 (cp .i64 p27 y29) (aS .i64 a2.Attrs y29)),iV p21,iV p22,.string p23,iV p11,iV p12,.string p13,iV p14,iV p15,.string p16]) 2 J J J J f7 J J J) ?_;rintro _ _ rfl;refine bA ?_;refine U ?_;refine aW (fun s L=> ∃p31 p32 p33,kq N a2 a1 p27 y29 p11 p12 p13 p14 p15 p16 p31 p32 p33=some r∧s=[(5,pV B3 0),(6,pV B4 0),(9,pV B9 0)]∧L=[ad B3 32 [iV a2.Has,iV a2.Attrs,iV a2.Value.Kind,iV a2.Value.N,.string a2.Value.S,iV a2.Get.Kind,iV a2.Get.N,.string a2.Get.S,iV a2.Set.Kind,iV a2.Set.N,.string a2.Set.S],ad B4 42 [iV 0,iV 0,.string (⟨#[]⟩),iV 0,iV 0,iV 0,.string (⟨#[]⟩),iV 0,iV 0,.string (⟨#[]⟩),iV 0,iV 0,.string (⟨#[]⟩)],ad B9 42 [iV a1.Kind,iV a1.N,.string a1.S,iV (cn .i64 (cp .i64 p27 y29) (aS .i64 a2.Attrs y29)),iV p31,iV p32,.string p33,iV p11,iV p12,.string p13,iV p14,iV p15,.string p16]]) ?_ ?_
 ·refine U ?_;refine gR (ab (us:=[iV a2.Has,iV a2.Attrs,iV a2.Value.Kind,iV a2.Value.N,.string a2.Value.S,iV a2.Get.Kind,iV a2.Get.N,.string a2.Get.S,iV a2.Set.Kind,iV a2.Set.N,.string a2.Set.S]) 0 J J cI J) ?_;obtain ⟨y34,hy34,h⟩:=aa h;refine gD (ak (bF hy34) dB J (ac) br) ?_;rintro _ _ ⟨_,⟨rfl,rfl⟩,rfl⟩;refine U ?_;refine aq J (fun g35=> ?_) (fun g35=> ?_)
  ·replace h:=ag g35 h;refine U ?_;refine gR (ab (us:=[iV a2.Value.Kind,iV a2.Value.N,.string a2.Value.S]) 0 J J aC J) ?_;refine U ?_;refine gO (ao (us:=[iV a2.Value.Kind,iV a2.Value.N,.string a2.Value.S]) (cs':=[iV a1.Kind,iV a1.N,.string a1.S,iV (cn .i64 (cp .i64 p27 y29) (aS .i64 a2.Attrs y29)),iV a2.Value.Kind,iV a2.Value.N,.string a2.Value.S,iV p11,iV p12,.string p13,iV p14,iV p15,.string p16]) 2 J J J J ba J J J) ?_;rintro _ _ rfl;refine U ?_;exact ⟨_,_,⟨a2.Value.Kind,a2.Value.N,a2.Value.S,h,J,J⟩,sA,cS [0,1,2] 3⟩
  replace h:=ah g35 h;refine U ?_;exact ⟨_,_,⟨p21,p22,p23,h,J,J⟩,sA,cS [0,1,2] 3⟩
 rintro _ _ ⟨p31,p32,p33,h,rfl,rfl⟩;refine aW (fun s L=> ∃p37 p38 p39,kp N a2 a1 p27 y29 p31 p32 p33 p14 p15 p16 p37 p38 p39=some r∧s=[(5,pV B3 0),(6,pV B4 0),(9,pV B9 0)]∧L=[ad B3 32 [iV a2.Has,iV a2.Attrs,iV a2.Value.Kind,iV a2.Value.N,.string a2.Value.S,iV a2.Get.Kind,iV a2.Get.N,.string a2.Get.S,iV a2.Set.Kind,iV a2.Set.N,.string a2.Set.S],ad B4 42 [iV 0,iV 0,.string (⟨#[]⟩),iV 0,iV 0,iV 0,.string (⟨#[]⟩),iV 0,iV 0,.string (⟨#[]⟩),iV 0,iV 0,.string (⟨#[]⟩)],ad B9 42 [iV a1.Kind,iV a1.N,.string a1.S,iV (cn .i64 (cp .i64 p27 y29) (aS .i64 a2.Attrs y29)),iV p31,iV p32,.string p33,iV p37,iV p38,.string p39,iV p14,iV p15,.string p16]]) ?_ ?_
 ·refine U ?_;refine gR (ab (us:=[iV a2.Has,iV a2.Attrs,iV a2.Value.Kind,iV a2.Value.N,.string a2.Value.S,iV a2.Get.Kind,iV a2.Get.N,.string a2.Get.S,iV a2.Set.Kind,iV a2.Set.N,.string a2.Set.S]) 0 J J cI J) ?_;obtain ⟨y40,hy40,h⟩:=aa h;refine gD (ak (bF hy40) dB J (ac) br) ?_;rintro _ _ ⟨_,⟨rfl,rfl⟩,rfl⟩;refine U ?_;refine aq J (fun g41=> ?_) (fun g41=> ?_)
  ·replace h:=ag g41 h;refine U ?_;refine gR (ab (us:=[iV a2.Get.Kind,iV a2.Get.N,.string a2.Get.S]) 0 J J aC J) ?_;refine U ?_;refine gO (ao (us:=[iV a2.Get.Kind,iV a2.Get.N,.string a2.Get.S]) (cs':=[iV a1.Kind,iV a1.N,.string a1.S,iV (cn .i64 (cp .i64 p27 y29) (aS .i64 a2.Attrs y29)),iV p31,iV p32,.string p33,iV a2.Get.Kind,iV a2.Get.N,.string a2.Get.S,iV p14,iV p15,.string p16]) 2 J J J J ba J J J) ?_;rintro _ _ rfl;refine U ?_;exact ⟨_,_,⟨a2.Get.Kind,a2.Get.N,a2.Get.S,h,J,J⟩,sA,cS [0,1,2] 3⟩
  replace h:=ah g41 h;refine U ?_;exact ⟨_,_,⟨p11,p12,p13,h,J,J⟩,sA,cS [0,1,2] 3⟩
 rintro _ _ ⟨p37,p38,p39,h,rfl,rfl⟩;refine aW (fun s L=> ∃p43 p44 p45,ko N a1 p27 y29 a2 p31 p32 p33 p37 p38 p39 p43 p44 p45=some r∧s=[(6,pV B4 0),(9,pV B9 0)]∧L=[ad B4 42 [iV 0,iV 0,.string (⟨#[]⟩),iV 0,iV 0,iV 0,.string (⟨#[]⟩),iV 0,iV 0,.string (⟨#[]⟩),iV 0,iV 0,.string (⟨#[]⟩)],ad B9 42 [iV a1.Kind,iV a1.N,.string a1.S,iV (cn .i64 (cp .i64 p27 y29) (aS .i64 a2.Attrs y29)),iV p31,iV p32,.string p33,iV p37,iV p38,.string p39,iV p43,iV p44,.string p45]]) ?_ ?_
 ·refine U ?_;refine gR (ab (us:=[iV a2.Has,iV a2.Attrs,iV a2.Value.Kind,iV a2.Value.N,.string a2.Value.S,iV a2.Get.Kind,iV a2.Get.N,.string a2.Get.S,iV a2.Set.Kind,iV a2.Set.N,.string a2.Set.S]) 0 J J cI J) ?_;obtain ⟨y46,hy46,h⟩:=aa h;refine gD (ak (bF hy46) dB J (ac) br) ?_;rintro _ _ ⟨_,⟨rfl,rfl⟩,rfl⟩;refine U ?_;refine aq J (fun g47=> ?_) (fun g47=> ?_)
  ·replace h:=ag g47 h;refine U ?_;refine gR (ab (us:=[iV a2.Set.Kind,iV a2.Set.N,.string a2.Set.S]) 0 J J aC J) ?_;refine U ?_;refine gO (ao (us:=[iV a2.Set.Kind,iV a2.Set.N,.string a2.Set.S]) (cs':=[iV a1.Kind,iV a1.N,.string a1.S,iV (cn .i64 (cp .i64 p27 y29) (aS .i64 a2.Attrs y29)),iV p31,iV p32,.string p33,iV p37,iV p38,.string p39,iV a2.Set.Kind,iV a2.Set.N,.string a2.Set.S]) 2 J J J J ba J J J) ?_;rintro _ _ rfl;refine bA ?_;refine U ?_;exact ⟨_,_,⟨a2.Set.Kind,a2.Set.N,a2.Set.S,h,J,J⟩,sA,cS [1,2] 3⟩
  replace h:=ah g47 h;refine U ?_;exact ⟨_,_,⟨p14,p15,p16,h,J,J⟩,sA,cS [1,2] 3⟩
 rintro _ _ ⟨p43,p44,p45,h,rfl,rfl⟩;refine U ?_;refine gR (ab (us:=[iV a1.Kind,iV a1.N,.string a1.S,iV (cn .i64 (cp .i64 p27 y29) (aS .i64 a2.Attrs y29)),iV p31,iV p32,.string p33,iV p37,iV p38,.string p39,iV p43,iV p44,.string p45]) 1 J J ce J) ?_;refine gO (ao (us:=[iV a1.Kind,iV a1.N,.string a1.S,iV (cn .i64 (cp .i64 p27 y29) (aS .i64 a2.Attrs y29)),iV p31,iV p32,.string p33,iV p37,iV p38,.string p39,iV p43,iV p44,.string p45]) (cs':=[iV a1.Kind,iV a1.N,.string a1.S,iV (cn .i64 (cp .i64 p27 y29) (aS .i64 a2.Attrs y29)),iV p31,iV p32,.string p33,iV p37,iV p38,.string p39,iV p43,iV p44,.string p45]) 0 J J J J bz J J J) ?_;rintro _ _ rfl;refine U ?_;obtain rfl:=am h;exact bJ (rs:=[.cell 6 42]) (vs:=[.agg #[iV a1.Kind,iV a1.N,.string a1.S,iV (cn .i64 (cp .i64 p27 y29) (aS .i64 a2.Attrs y29)),iV p31,iV p32,.string p33,iV p37,iV p38,.string p39,iV p43,iV p44,.string p45]]) J (.cons (bg 0 J J ce) .nil) J (cS [] 2) ⟨J,J⟩
theorem ng {r:D0}: ∀v post,((fun (u:Value) (post:List Chunk)=>u=.agg #[iV r.Key.Kind,iV r.Key.N,.string r.Key.S,iV r.Attrs,iV r.Value.Kind,iV r.Value.N,.string r.Value.S,iV r.Get.Kind,iV r.Get.N,.string r.Get.S,iV r.Set.Kind,iV r.Set.N,.string r.Set.S]∧post=[])) v post→ ∀c∈post,bI c:=by
 rintro _ _ ⟨rfl,rfl⟩;exact ac
def rX (N:Nat)(a0:D6)(a1:DX):Option D0:=
 (mD N (⟨(⟨0,0,⟨#[]⟩⟩:DX),0,(⟨0,0,⟨#[]⟩⟩:Ea),(⟨0,0,⟨#[]⟩⟩:Ea),(⟨0,0,⟨#[]⟩⟩:Ea)⟩:D0) a1 a0).bind fun y4=>some y4
theorem uO {N:Nat}{a0:D6}{a1:DX}{r:D0}(h:rX N a0 a1=some r):Okc Tryz.prog 170 [.agg #[iV a0.Has,iV a0.Attrs,iV a0.Value.Kind,iV a0.Value.N,.string a0.Value.S,iV a0.Get.Kind,iV a0.Get.N,.string a0.Get.S,iV a0.Set.Kind,iV a0.Set.N,.string a0.Set.S],.agg #[iV a1.Kind,iV a1.N,.string a1.S]] ([]) (fun u post=>u=.agg #[iV r.Key.Kind,iV r.Key.N,.string r.Key.S,iV r.Attrs,iV r.Value.Kind,iV r.Value.N,.string r.Value.S,iV r.Get.Kind,iV r.Get.N,.string r.Get.S,iV r.Set.Kind,iV r.Set.N,.string r.Set.S]∧post=[]):=by
 refine be Tryz.func170 J J ?_;simp only [aM];refine U ?_;refine gD (aE J J) ?_;rintro _ _ ⟨B1,rfl,rfl⟩;refine gD (aE J J) ?_;rintro _ _ ⟨B2,rfl,rfl⟩;refine gD (aF ci J) ?_;rintro _ _ ⟨B3,rfl,rfl⟩;refine U ?_;refine gE (aY J (mp)) ?_;refine gR (ab (us:=[iV a1.Kind,iV a1.N,.string a1.S]) 1 J J bp J) ?_;refine gR (ab (us:=[iV a0.Has,iV a0.Attrs,iV a0.Value.Kind,iV a0.Value.N,.string a0.Value.S,iV a0.Get.Kind,iV a0.Get.N,.string a0.Get.S,iV a0.Set.Kind,iV a0.Set.N,.string a0.Set.S]) 2 J J cI J) ?_;obtain ⟨y4,hy4,h⟩:=aa h;refine gD (ak (oX hy4) xx J (ac) ng) ?_;rintro _ _ ⟨_,⟨rfl,rfl⟩,rfl⟩;refine gO (ao (us:=[iV y4.Key.Kind,iV y4.Key.N,.string y4.Key.S,iV y4.Attrs,iV y4.Value.Kind,iV y4.Value.N,.string y4.Value.S,iV y4.Get.Kind,iV y4.Get.N,.string y4.Get.S,iV y4.Set.Kind,iV y4.Set.N,.string y4.Set.S]) (cs':=[iV y4.Key.Kind,iV y4.Key.N,.string y4.Key.S,iV y4.Attrs,iV y4.Value.Kind,iV y4.Value.N,.string y4.Value.S,iV y4.Get.Kind,iV y4.Get.N,.string y4.Get.S,iV y4.Set.Kind,iV y4.Set.N,.string y4.Set.S]) 0 J J J J bz J J J) ?_;rintro _ _ rfl;refine U ?_;obtain rfl:=am h;exact bJ (rs:=[.cell 4 42]) (vs:=[.agg #[iV y4.Key.Kind,iV y4.Key.N,.string y4.Key.S,iV y4.Attrs,iV y4.Value.Kind,iV y4.Value.N,.string y4.Value.S,iV y4.Get.Kind,iV y4.Get.N,.string y4.Get.S,iV y4.Set.Kind,iV y4.Set.N,.string y4.Set.S]]) J (.cons (bg 0 J J ce) .nil) J (cS [] 3) ⟨J,J⟩
theorem tC {r:D0}: ∀v post,((fun (u:Value) (post:List Chunk)=>u=.agg #[iV r.Key.Kind,iV r.Key.N,.string r.Key.S,iV r.Attrs,iV r.Value.Kind,iV r.Value.N,.string r.Value.S,iV r.Get.Kind,iV r.Get.N,.string r.Get.S,iV r.Set.Kind,iV r.Set.N,.string r.Set.S]∧post=[])) v post→ ∀c∈post,bI c:=by
 rintro _ _ ⟨rfl,rfl⟩;exact ac
def kY (N:Nat)(a0:Ea)(a1:Ea):Option Bool:=
 some (decide (a0=a1))
theorem mG {N:Nat}{a0:Ea}{a1:Ea}{r:Bool}(h:kY N a0 a1=some r):Okc Tryz.prog 214 [.agg #[iV a0.Kind,iV a0.N,.string a0.S],.agg #[iV a1.Kind,iV a1.N,.string a1.S]] ([]) (fun u post=>u=.bool r∧post=[]):=by
 refine be Tryz.func214 J J ?_;simp only [aM];refine U ?_;refine gD (aE J J) ?_;rintro _ _ ⟨B1,rfl,rfl⟩;refine gD (aE J J) ?_;rintro _ _ ⟨B2,rfl,rfl⟩;refine U ?_;refine gR (ab (us:=[iV a0.Kind,iV a0.N,.string a0.S]) 1 J J aC J) ?_;refine gR (ab (us:=[iV a1.Kind,iV a1.N,.string a1.S]) 0 J J aC J) ?_;refine gE (oS (x:=a0) (y:=a1) J J) ?_;refine U ?_;obtain rfl:=am h;exact aI J J (cS [] 2) ⟨J,J⟩
theorem kx {r:Bool}: ∀v post,((fun (u:Value) (post:List Chunk)=>u=.bool r∧post=[])) v post→ ∀c∈post,bI c:=by
 rintro _ _ ⟨rfl,rfl⟩;exact ac
def rW (N:Nat)(a0:D0)(a1:D6):Option Bool:=
 (bK N a1 32).bind fun y3=>(bif y3 then (some (!decide (aS .i64 a1.Attrs 4=0))) else (some false)).bind fun b4=>(bif b4 then (some true) else ((bK N a1 16).bind fun y6=>(bif y6 then (some (!decide (aS .i64 (xO .i64 a1.Attrs a0.Attrs) 2=0))) else (some false)).bind fun b7=>some b7)).bind fun b5=>bif b5 then (some true) else (bif !decide (aS .i64 a0.Attrs 8=0) then ((bK N a1 3).bind fun y10=>(bif y10 then (some true) else ((bK N a1 4).bind fun y12=>(bif y12 then ((kY N a1.Get a0.Get).bind fun y14=>some (!y14)) else (some false)).bind fun b13=>some b13)).bind fun b11=>(bif b11 then (some true) else ((bK N a1 8).bind fun y16=>(bif y16 then ((kY N a1.Set a0.Set).bind fun y18=>some (!y18)) else (some false)).bind fun b17=>some b17)).bind fun b15=>some b15) else ((bK N a1 12).bind fun y19=>bif y19 then (some true) else ((bif decide (aS .i64 a0.Attrs 1=0) then ((bK N a1 2).bind fun y22=>(bif y22 then (some (!decide (aS .i64 a1.Attrs 1=0))) else (some false)).bind fun b23=>(bif b23 then (some true) else ((bK N a1 1).bind fun y25=>(bif y25 then ((kY N a1.Value a0.Value).bind fun y27=>some (!y27)) else (some false)).bind fun b26=>some b26)).bind fun b24=>some b24) else (some false)).bind fun b21=>some b21)))
set_option maxHeartbeats 4000000 in
theorem uN {N:Nat}{a0:D0}{a1:D6}{r:Bool}(h:rW N a0 a1=some r):Okc Tryz.prog 171 [.agg #[iV a0.Key.Kind,iV a0.Key.N,.string a0.Key.S,iV a0.Attrs,iV a0.Value.Kind,iV a0.Value.N,.string a0.Value.S,iV a0.Get.Kind,iV a0.Get.N,.string a0.Get.S,iV a0.Set.Kind,iV a0.Set.N,.string a0.Set.S],.agg #[iV a1.Has,iV a1.Attrs,iV a1.Value.Kind,iV a1.Value.N,.string a1.Value.S,iV a1.Get.Kind,iV a1.Get.N,.string a1.Get.S,iV a1.Set.Kind,iV a1.Set.N,.string a1.Set.S]] ([]) (fun u post=>u=.bool r∧post=[]):=by
 refine be Tryz.func171 J J ?_;simp only [aM];refine U ?_;refine gD (aE J J) ?_;rintro _ _ ⟨B1,rfl,rfl⟩;refine gD (aE J J) ?_;rintro _ _ ⟨B2,rfl,rfl⟩;refine U ?_;refine ax ?_;refine U ?_;refine gR (ab (us:=[iV a1.Has,iV a1.Attrs,iV a1.Value.Kind,iV a1.Value.N,.string a1.Value.S,iV a1.Get.Kind,iV a1.Get.N,.string a1.Get.S,iV a1.Set.Kind,iV a1.Set.N,.string a1.Set.S]) 0 J J cI J) ?_;obtain ⟨y3,hy3,h⟩:=aa h;refine gD (ak (bF hy3) dB J (ac) br) ?_;rintro _ _ ⟨_,⟨rfl,rfl⟩,rfl⟩;refine U ?_;obtain ⟨b4,hb4,h⟩:=aa h;refine aJ 5 12 b4 ?_ ?_
 ·clear h;refine aH 7 J (fun g4=> ?_) (fun g4=> ?_)
  ·have h:=ag g4 hb4;refine U ?_;refine iG (bj J J) J (aX g4 J) J ?_;refine U ?_;obtain rfl:=am h;exact ae sA (cS [0,1] 2)
  have h:=ah g4 hb4;refine U ?_;obtain rfl:=am h;exact ae sA (cS [0,1] 2)
 refine U ?_;obtain ⟨b5,hb5,h⟩:=aa h;refine aJ 12 25 b5 ?_ ?_
 ·clear h;refine aH 13 J (fun g5=> ?_) (fun g5=> ?_)
  ·have h:=ag g5 hb5;refine U ?_;obtain rfl:=am h;exact ae sA (cS [0,1] 2)
  have h:=ah g5 hb5;refine bH (ab (us:=[iV a1.Has,iV a1.Attrs,iV a1.Value.Kind,iV a1.Value.N,.string a1.Value.S,iV a1.Get.Kind,iV a1.Get.N,.string a1.Get.S,iV a1.Set.Kind,iV a1.Set.N,.string a1.Set.S]) 0 J J cI J) J (cB g5 J) J ?_;obtain ⟨y6,hy6,h⟩:=aa h;refine bX (ak (bF hy6) dB J (ac) br) J (cB g5 J) J ?_;rintro _ _ ⟨_,⟨rfl,rfl⟩,rfl⟩;refine U ?_;obtain ⟨b7,hb7,h⟩:=aa h;refine aJ 8 24 b7 ?_ ?_
  ·clear h;refine aH 16 J (fun g7=> ?_) (fun g7=> ?_)
   ·have h:=ag g7 hb7;refine U ?_;refine iG (wz J J) J (aX g7 J) J ?_;refine iG (bj J J) J (aX g7 J) J ?_;refine U ?_;obtain rfl:=am h;exact ae sA (cS [0,1] 2)
   have h:=ah g7 hb7;refine U ?_;obtain rfl:=am h;exact ae sA (cS [0,1] 2)
  refine U ?_;obtain rfl:=am h;exact ae sA (cS [0,1] 2)
 refine U ?_;refine aq J (fun g8=> ?_) (fun g8=> ?_)
 ·replace h:=ag g8 h;refine U ?_;obtain rfl:=am h;exact aI J J (cS [] 2) ⟨J,J⟩
 replace h:=ah g8 h;refine U ?_;refine ax ?_;refine U ?_;refine gE (bj J J) ?_;refine U ?_;refine aq J (fun g9=> ?_) (fun g9=> ?_)
 ·replace h:=ag g9 h;refine U ?_;refine gR (ab (us:=[iV a1.Has,iV a1.Attrs,iV a1.Value.Kind,iV a1.Value.N,.string a1.Value.S,iV a1.Get.Kind,iV a1.Get.N,.string a1.Get.S,iV a1.Set.Kind,iV a1.Set.N,.string a1.Set.S]) 0 J J cI J) ?_;obtain ⟨y10,hy10,h⟩:=aa h;refine gD (ak (bF hy10) dB J (ac) br) ?_;rintro _ _ ⟨_,⟨rfl,rfl⟩,rfl⟩;refine U ?_;obtain ⟨b11,hb11,h⟩:=aa h;refine aJ 11 43 b11 ?_ ?_
  ·clear h;refine aH 32 J (fun g11=> ?_) (fun g11=> ?_)
   ·have h:=ag g11 hb11;refine U ?_;obtain rfl:=am h;exact ae sA (cS [0,1] 2)
   have h:=ah g11 hb11;refine bH (ab (us:=[iV a1.Has,iV a1.Attrs,iV a1.Value.Kind,iV a1.Value.N,.string a1.Value.S,iV a1.Get.Kind,iV a1.Get.N,.string a1.Get.S,iV a1.Set.Kind,iV a1.Set.N,.string a1.Set.S]) 0 J J cI J) J (cB g11 J) J ?_;obtain ⟨y12,hy12,h⟩:=aa h;refine bX (ak (bF hy12) dB J (ac) br) J (cB g11 J) J ?_;rintro _ _ ⟨_,⟨rfl,rfl⟩,rfl⟩;refine U ?_;obtain ⟨b13,hb13,h⟩:=aa h;refine aJ 7 42 b13 ?_ ?_
   ·clear h;refine aH 35 J (fun g13=> ?_) (fun g13=> ?_)
    ·have h:=ag g13 hb13;refine U ?_;refine bH (ab (us:=[iV a1.Get.Kind,iV a1.Get.N,.string a1.Get.S]) 0 J J aC J) J (aX g13 J) J ?_;refine U ?_;refine bH (ab (us:=[iV a0.Get.Kind,iV a0.Get.N,.string a0.Get.S]) 1 J J aC J) J (aX g13 J) J ?_;obtain ⟨y14,hy14,h⟩:=aa h;refine bX (ak (mG hy14) uX J (ac) kx) J (aX g13 J) J ?_;rintro _ _ ⟨_,⟨rfl,rfl⟩,rfl⟩;refine U ?_;obtain rfl:=am h;exact ae sA (cS [0,1] 2)
    have h:=ah g13 hb13;refine U ?_;obtain rfl:=am h;exact ae sA (cS [0,1] 2)
   refine U ?_;obtain rfl:=am h;exact ae sA (cS [0,1] 2)
  refine U ?_;obtain ⟨b15,hb15,h⟩:=aa h;refine aJ 11 55 b15 ?_ ?_
  ·clear h;refine aH 44 J (fun g15=> ?_) (fun g15=> ?_)
   ·have h:=ag g15 hb15;refine U ?_;obtain rfl:=am h;exact ae sA (cS [0,1] 2)
   have h:=ah g15 hb15;refine bH (ab (us:=[iV a1.Has,iV a1.Attrs,iV a1.Value.Kind,iV a1.Value.N,.string a1.Value.S,iV a1.Get.Kind,iV a1.Get.N,.string a1.Get.S,iV a1.Set.Kind,iV a1.Set.N,.string a1.Set.S]) 0 J J cI J) J (cB g15 J) J ?_;obtain ⟨y16,hy16,h⟩:=aa h;refine bX (ak (bF hy16) dB J (ac) br) J (cB g15 J) J ?_;rintro _ _ ⟨_,⟨rfl,rfl⟩,rfl⟩;refine U ?_;obtain ⟨b17,hb17,h⟩:=aa h;refine aJ 7 54 b17 ?_ ?_
   ·clear h;refine aH 47 J (fun g17=> ?_) (fun g17=> ?_)
    ·have h:=ag g17 hb17;refine U ?_;refine bH (ab (us:=[iV a1.Set.Kind,iV a1.Set.N,.string a1.Set.S]) 0 J J aC J) J (aX g17 J) J ?_;refine U ?_;refine bH (ab (us:=[iV a0.Set.Kind,iV a0.Set.N,.string a0.Set.S]) 1 J J aC J) J (aX g17 J) J ?_;obtain ⟨y18,hy18,h⟩:=aa h;refine bX (ak (mG hy18) uX J (ac) kx) J (aX g17 J) J ?_;rintro _ _ ⟨_,⟨rfl,rfl⟩,rfl⟩;refine U ?_;obtain rfl:=am h;exact ae sA (cS [0,1] 2)
    have h:=ah g17 hb17;refine U ?_;obtain rfl:=am h;exact ae sA (cS [0,1] 2)
   refine U ?_;obtain rfl:=am h;exact ae sA (cS [0,1] 2)
  refine U ?_;obtain rfl:=am h;exact aI J J (cS [] 2) ⟨J,J⟩
 replace h:=ah g9 h;refine U ?_;refine ax ?_;refine U ?_;refine gR (ab (us:=[iV a1.Has,iV a1.Attrs,iV a1.Value.Kind,iV a1.Value.N,.string a1.Value.S,iV a1.Get.Kind,iV a1.Get.N,.string a1.Get.S,iV a1.Set.Kind,iV a1.Set.N,.string a1.Set.S]) 0 J J cI J) ?_;obtain ⟨y19,hy19,h⟩:=aa h;refine gD (ak (bF hy19) dB J (ac) br) ?_;rintro _ _ ⟨_,⟨rfl,rfl⟩,rfl⟩;refine U ?_;refine aq J (fun g20=> ?_) (fun g20=> ?_)
 ·replace h:=ag g20 h;refine U ?_;obtain rfl:=am h;exact aI J J (cS [] 2) ⟨J,J⟩
 replace h:=ah g20 h;refine U ?_;refine gE (bj J J) ?_;refine U ?_;obtain ⟨b21,hb21,h⟩:=aa h;refine aJ 21 83 b21 ?_ ?_
 ·clear h;refine aH 62 J (fun g21=> ?_) (fun g21=> ?_)
  ·have h:=ag g21 hb21;refine bH (ab (us:=[iV a1.Has,iV a1.Attrs,iV a1.Value.Kind,iV a1.Value.N,.string a1.Value.S,iV a1.Get.Kind,iV a1.Get.N,.string a1.Get.S,iV a1.Set.Kind,iV a1.Set.N,.string a1.Set.S]) 0 J J cI J) J (aX g21 J) J ?_;obtain ⟨y22,hy22,h⟩:=aa h;refine bX (ak (bF hy22) dB J (ac) br) J (aX g21 J) J ?_;rintro _ _ ⟨_,⟨rfl,rfl⟩,rfl⟩;refine U ?_;obtain ⟨b23,hb23,h⟩:=aa h;refine aJ 5 70 b23 ?_ ?_
   ·clear h;refine aH 65 J (fun g23=> ?_) (fun g23=> ?_)
    ·have h:=ag g23 hb23;refine U ?_;refine iG (bj J J) J (aX g23 J) J ?_;refine U ?_;obtain rfl:=am h;exact ae sA (cS [0,1] 2)
    have h:=ah g23 hb23;refine U ?_;obtain rfl:=am h;exact ae sA (cS [0,1] 2)
   refine U ?_;obtain ⟨b24,hb24,h⟩:=aa h;refine aJ 11 82 b24 ?_ ?_
   ·clear h;refine aH 71 J (fun g24=> ?_) (fun g24=> ?_)
    ·have h:=ag g24 hb24;refine U ?_;obtain rfl:=am h;exact ae sA (cS [0,1] 2)
    have h:=ah g24 hb24;refine bH (ab (us:=[iV a1.Has,iV a1.Attrs,iV a1.Value.Kind,iV a1.Value.N,.string a1.Value.S,iV a1.Get.Kind,iV a1.Get.N,.string a1.Get.S,iV a1.Set.Kind,iV a1.Set.N,.string a1.Set.S]) 0 J J cI J) J (cB g24 J) J ?_;obtain ⟨y25,hy25,h⟩:=aa h;refine bX (ak (bF hy25) dB J (ac) br) J (cB g24 J) J ?_;rintro _ _ ⟨_,⟨rfl,rfl⟩,rfl⟩;refine U ?_;obtain ⟨b26,hb26,h⟩:=aa h;refine aJ 7 81 b26 ?_ ?_
    ·clear h;refine aH 74 J (fun g26=> ?_) (fun g26=> ?_)
     ·have h:=ag g26 hb26;refine U ?_;refine bH (ab (us:=[iV a1.Value.Kind,iV a1.Value.N,.string a1.Value.S]) 0 J J aC J) J (aX g26 J) J ?_;refine U ?_;refine bH (ab (us:=[iV a0.Value.Kind,iV a0.Value.N,.string a0.Value.S]) 1 J J aC J) J (aX g26 J) J ?_;obtain ⟨y27,hy27,h⟩:=aa h;refine bX (ak (mG hy27) uX J (ac) kx) J (aX g26 J) J ?_;rintro _ _ ⟨_,⟨rfl,rfl⟩,rfl⟩;refine U ?_;obtain rfl:=am h;exact ae sA (cS [0,1] 2)
     have h:=ah g26 hb26;refine U ?_;obtain rfl:=am h;exact ae sA (cS [0,1] 2)
    refine U ?_;obtain rfl:=am h;exact ae sA (cS [0,1] 2)
   refine U ?_;obtain rfl:=am h;exact ae sA (cS [0,1] 2)
  have h:=ah g21 hb21;refine U ?_;obtain rfl:=am h;exact ae sA (cS [0,1] 2)
 refine U ?_;obtain rfl:=am h;exact aI J J (cS [] 2) ⟨J,J⟩
theorem tz {r:Bool}: ∀v post,((fun (u:Value) (post:List Chunk)=>u=.bool r∧post=[])) v post→ ∀c∈post,bI c:=by
 rintro _ _ ⟨rfl,rfl⟩;exact ac
def gy (N:Nat)(a0:D0)(a1:Bool)(a2:Bool)(a3:DX)(a4:D6):Option (D0×Bool):=
 bif !a1 then (bif !a2 then (some ((⟨(⟨0,0,⟨#[]⟩⟩:DX),0,(⟨0,0,⟨#[]⟩⟩:Ea),(⟨0,0,⟨#[]⟩⟩:Ea),(⟨0,0,⟨#[]⟩⟩:Ea)⟩:D0),false)) else ((rX N a4 a3).bind fun y7=>some (y7,true))) else ((bif decide (aS .i64 a0.Attrs 4=0) then ((rW N a0 a4).bind fun y9=>some y9) else (some false)).bind fun b8=>bif b8 then (some ((⟨(⟨0,0,⟨#[]⟩⟩:DX),0,(⟨0,0,⟨#[]⟩⟩:Ea),(⟨0,0,⟨#[]⟩⟩:Ea),(⟨0,0,⟨#[]⟩⟩:Ea)⟩:D0),false)) else ((mD N a0 a3 a4).bind fun y11=>some (y11,true)))
theorem gY {N:Nat}{a0:D0}{a1:Bool}{a2:Bool}{a3:DX}{a4:D6}{r:(D0×Bool)}(h:gy N a0 a1 a2 a3 a4=some r):Okc Tryz.prog 122 [.agg #[iV a0.Key.Kind,iV a0.Key.N,.string a0.Key.S,iV a0.Attrs,iV a0.Value.Kind,iV a0.Value.N,.string a0.Value.S,iV a0.Get.Kind,iV a0.Get.N,.string a0.Get.S,iV a0.Set.Kind,iV a0.Set.N,.string a0.Set.S],.bool a1,.bool a2,.agg #[iV a3.Kind,iV a3.N,.string a3.S],.agg #[iV a4.Has,iV a4.Attrs,iV a4.Value.Kind,iV a4.Value.N,.string a4.Value.S,iV a4.Get.Kind,iV a4.Get.N,.string a4.Get.S,iV a4.Set.Kind,iV a4.Set.N,.string a4.Set.S]] ([]) (fun u post=>u=.tuple #[.agg #[iV r.1.Key.Kind,iV r.1.Key.N,.string r.1.Key.S,iV r.1.Attrs,iV r.1.Value.Kind,iV r.1.Value.N,.string r.1.Value.S,iV r.1.Get.Kind,iV r.1.Get.N,.string r.1.Get.S,iV r.1.Set.Kind,iV r.1.Set.N,.string r.1.Set.S],.bool r.2]∧post=[]):=by
 refine be Tryz.func122 J J ?_;simp only [aM];refine U ?_;refine gD (aE J J) ?_;rintro _ _ ⟨B1,rfl,rfl⟩;refine gD (aE J J) ?_;rintro _ _ ⟨B2,rfl,rfl⟩;refine gD (aE J J) ?_;rintro _ _ ⟨B3,rfl,rfl⟩;refine gD (aF ci J) ?_;rintro _ _ ⟨B4,rfl,rfl⟩;refine U ?_;refine ax ?_;refine U ?_;refine aq J (fun g5=> ?_) (fun g5=> ?_)
 ·replace h:=ag g5 h;refine ax ?_;refine U ?_;refine aq J (fun g6=> ?_) (fun g6=> ?_)
  ·replace h:=ag g6 h;refine U ?_;refine gE (aY J (mp)) ?_;refine gO (ao (us:=[iV 0,iV 0,.string (⟨#[]⟩),iV 0,iV 0,iV 0,.string (⟨#[]⟩),iV 0,iV 0,.string (⟨#[]⟩),iV 0,iV 0,.string (⟨#[]⟩)]) (cs':=[iV 0,iV 0,.string (⟨#[]⟩),iV 0,iV 0,iV 0,.string (⟨#[]⟩),iV 0,iV 0,.string (⟨#[]⟩),iV 0,iV 0,.string (⟨#[]⟩)]) 0 J J J J bz J J J) ?_;rintro _ _ rfl;refine U ?_;obtain rfl:=am h;exact bJ (rs:=[.cell 10 42,.tmp 11]) (vs:=[.agg #[iV 0,iV 0,.string (⟨#[]⟩),iV 0,iV 0,iV 0,.string (⟨#[]⟩),iV 0,iV 0,.string (⟨#[]⟩),iV 0,iV 0,.string (⟨#[]⟩)],.bool false]) J (.cons (bg 0 J J ce) (.cons (cD J) .nil)) J (cS [] 4) ⟨J,J⟩
  replace h:=ah g6 h;refine U ?_;refine gR (ab (us:=[iV a4.Has,iV a4.Attrs,iV a4.Value.Kind,iV a4.Value.N,.string a4.Value.S,iV a4.Get.Kind,iV a4.Get.N,.string a4.Get.S,iV a4.Set.Kind,iV a4.Set.N,.string a4.Set.S]) 1 J J cI J) ?_;refine gR (ab (us:=[iV a3.Kind,iV a3.N,.string a3.S]) 2 J J bp J) ?_;obtain ⟨y7,hy7,h⟩:=aa h;refine gD (ak (uO hy7) AZ J (ac) tC) ?_;rintro _ _ ⟨_,⟨rfl,rfl⟩,rfl⟩;refine gO (ao (us:=[iV y7.Key.Kind,iV y7.Key.N,.string y7.Key.S,iV y7.Attrs,iV y7.Value.Kind,iV y7.Value.N,.string y7.Value.S,iV y7.Get.Kind,iV y7.Get.N,.string y7.Get.S,iV y7.Set.Kind,iV y7.Set.N,.string y7.Set.S]) (cs':=[iV y7.Key.Kind,iV y7.Key.N,.string y7.Key.S,iV y7.Attrs,iV y7.Value.Kind,iV y7.Value.N,.string y7.Value.S,iV y7.Get.Kind,iV y7.Get.N,.string y7.Get.S,iV y7.Set.Kind,iV y7.Set.N,.string y7.Set.S]) 0 J J J J bz J J J) ?_;rintro _ _ rfl;refine U ?_;obtain rfl:=am h;exact bJ (rs:=[.cell 10 42,.tmp 11]) (vs:=[.agg #[iV y7.Key.Kind,iV y7.Key.N,.string y7.Key.S,iV y7.Attrs,iV y7.Value.Kind,iV y7.Value.N,.string y7.Value.S,iV y7.Get.Kind,iV y7.Get.N,.string y7.Get.S,iV y7.Set.Kind,iV y7.Set.N,.string y7.Set.S],.bool true]) J (.cons (bg 0 J J ce) (.cons (cD J) .nil)) J (cS [] 4) ⟨J,J⟩
 replace h:=ah g5 h;refine U ?_;refine ax ?_;refine U ?_;refine gE (bj J J) ?_;refine U ?_;obtain ⟨b8,hb8,h⟩:=aa h;refine aJ 4 28 b8 ?_ ?_
 ·clear h;refine aH 24 J (fun g8=> ?_) (fun g8=> ?_)
  ·have h:=ag g8 hb8;refine bH (ab (us:=[iV a0.Key.Kind,iV a0.Key.N,.string a0.Key.S,iV a0.Attrs,iV a0.Value.Kind,iV a0.Value.N,.string a0.Value.S,iV a0.Get.Kind,iV a0.Get.N,.string a0.Get.S,iV a0.Set.Kind,iV a0.Set.N,.string a0.Set.S]) 3 J J ce J) J (aX g8 J) J ?_;refine bH (ab (us:=[iV a4.Has,iV a4.Attrs,iV a4.Value.Kind,iV a4.Value.N,.string a4.Value.S,iV a4.Get.Kind,iV a4.Get.N,.string a4.Get.S,iV a4.Set.Kind,iV a4.Set.N,.string a4.Set.S]) 1 J J cI J) J (aX g8 J) J ?_;obtain ⟨y9,hy9,h⟩:=aa h;refine bX (ak (uN hy9) AY J (ac) tz) J (aX g8 J) J ?_;rintro _ _ ⟨_,⟨rfl,rfl⟩,rfl⟩;refine U ?_;obtain rfl:=am h;exact ae sA (cS [0,1,2,3] 4)
  have h:=ah g8 hb8;refine U ?_;obtain rfl:=am h;exact ae sA (cS [0,1,2,3] 4)
 refine U ?_;refine aq J (fun g10=> ?_) (fun g10=> ?_)
 ·replace h:=ag g10 h;refine U ?_;refine gE (aY J (mp)) ?_;refine gO (ao (us:=[iV 0,iV 0,.string (⟨#[]⟩),iV 0,iV 0,iV 0,.string (⟨#[]⟩),iV 0,iV 0,.string (⟨#[]⟩),iV 0,iV 0,.string (⟨#[]⟩)]) (cs':=[iV 0,iV 0,.string (⟨#[]⟩),iV 0,iV 0,iV 0,.string (⟨#[]⟩),iV 0,iV 0,.string (⟨#[]⟩),iV 0,iV 0,.string (⟨#[]⟩)]) 0 J J J J bz J J J) ?_;rintro _ _ rfl;refine bA ?_;refine U ?_;obtain rfl:=am h;exact bJ (rs:=[.cell 10 42,.tmp 11]) (vs:=[.agg #[iV 0,iV 0,.string (⟨#[]⟩),iV 0,iV 0,iV 0,.string (⟨#[]⟩),iV 0,iV 0,.string (⟨#[]⟩),iV 0,iV 0,.string (⟨#[]⟩)],.bool false]) J (.cons (bg 0 J J ce) (.cons (cD J) .nil)) J (cS [] 4) ⟨J,J⟩
 replace h:=ah g10 h;refine U ?_;refine gR (ab (us:=[iV a0.Key.Kind,iV a0.Key.N,.string a0.Key.S,iV a0.Attrs,iV a0.Value.Kind,iV a0.Value.N,.string a0.Value.S,iV a0.Get.Kind,iV a0.Get.N,.string a0.Get.S,iV a0.Set.Kind,iV a0.Set.N,.string a0.Set.S]) 3 J J ce J) ?_;refine gR (ab (us:=[iV a3.Kind,iV a3.N,.string a3.S]) 2 J J bp J) ?_;refine gR (ab (us:=[iV a4.Has,iV a4.Attrs,iV a4.Value.Kind,iV a4.Value.N,.string a4.Value.S,iV a4.Get.Kind,iV a4.Get.N,.string a4.Get.S,iV a4.Set.Kind,iV a4.Set.N,.string a4.Set.S]) 1 J J cI J) ?_;obtain ⟨y11,hy11,h⟩:=aa h;refine gD (ak (oX hy11) xx J (ac) ng) ?_;rintro _ _ ⟨_,⟨rfl,rfl⟩,rfl⟩;refine gO (ao (us:=[iV y11.Key.Kind,iV y11.Key.N,.string y11.Key.S,iV y11.Attrs,iV y11.Value.Kind,iV y11.Value.N,.string y11.Value.S,iV y11.Get.Kind,iV y11.Get.N,.string y11.Get.S,iV y11.Set.Kind,iV y11.Set.N,.string y11.Set.S]) (cs':=[iV y11.Key.Kind,iV y11.Key.N,.string y11.Key.S,iV y11.Attrs,iV y11.Value.Kind,iV y11.Value.N,.string y11.Value.S,iV y11.Get.Kind,iV y11.Get.N,.string y11.Get.S,iV y11.Set.Kind,iV y11.Set.N,.string y11.Set.S]) 0 J J J J bz J J J) ?_;rintro _ _ rfl;refine U ?_;obtain rfl:=am h
 exact bJ (rs:=[.cell 10 42,.tmp 11]) (vs:=[.agg #[iV y11.Key.Kind,iV y11.Key.N,.string y11.Key.S,iV y11.Attrs,iV y11.Value.Kind,iV y11.Value.N,.string y11.Value.S,iV y11.Get.Kind,iV y11.Get.N,.string y11.Get.S,iV y11.Set.Kind,iV y11.Set.N,.string y11.Set.S],.bool true]) J (.cons (bg 0 J J ce) (.cons (cD J) .nil)) J (cS [] 4) ⟨J,J⟩
theorem fE {r:(D0×Bool)}: ∀v post,((fun (u:Value) (post:List Chunk)=>u=.tuple #[.agg #[iV r.1.Key.Kind,iV r.1.Key.N,.string r.1.Key.S,iV r.1.Attrs,iV r.1.Value.Kind,iV r.1.Value.N,.string r.1.Value.S,iV r.1.Get.Kind,iV r.1.Get.N,.string r.1.Get.S,iV r.1.Set.Kind,iV r.1.Set.N,.string r.1.Set.S],.bool r.2]∧post=[])) v post→ ∀c∈post,bI c:=by
 rintro _ _ ⟨rfl,rfl⟩;exact ac
def fB (N:Nat):Option DX:=
 some (⟨1,0,(⟨#[108,101,110,103,116,104]⟩:ByteArray)⟩:DX)
theorem gu {N:Nat}{r:DX}(h:fB N=some r):Okc Tryz.prog 82 [] ([]) (fun u post=>u=.agg #[iV r.Kind,iV r.N,.string r.S]∧post=[]):=by
 refine be Tryz.func82 J J ?_;simp only [aM];refine U ?_;refine gD (aF mt J) ?_;rintro _ _ ⟨B1,rfl,rfl⟩;refine U ?_;refine gE (aY J (tR _ _)) ?_;refine gO (ao (us:=[iV 1,iV 0,.string (⟨#[108,101,110,103,116,104]⟩:ByteArray)]) (cs':=[iV 1,iV 0,.string (⟨#[108,101,110,103,116,104]⟩:ByteArray)]) 0 J J J J dE J J J) ?_;rintro _ _ rfl;refine U ?_;obtain rfl:=am h;exact bJ (rs:=[.cell 0 24]) (vs:=[.agg #[iV 1,iV 0,.string (⟨#[108,101,110,103,116,104]⟩:ByteArray)]]) J (.cons (bg 0 J J bp) .nil) J (cS [] 1) ⟨J,J⟩
theorem fl {r:DX}: ∀v post,((fun (u:Value) (post:List Chunk)=>u=.agg #[iV r.Kind,iV r.N,.string r.S]∧post=[])) v post→ ∀c∈post,bI c:=by
 rintro _ _ ⟨rfl,rfl⟩;exact ac
def pa (N:Nat)(a0:D4)(a1:Ea):Option Int:=
 (dk N a0 a1).bind fun y16=>bif !y16.2 then (some 0) else (some (y16.1.More.length:Int))
theorem rd {N:Nat}{a0:D4}{a1:Ea}{r:Int}(h:pa N a0 a1=some r):Okc Tryz.prog 28 [pV B1 0,.agg #[iV a1.Kind,iV a1.N,.string a1.S]] ([aL B1 151 [iV a0.spent_.steps_,iV a0.spent_.made_,iV a0.spent_.calls_,iV a0.config_.Way,iV a0.config_.Steps,iV a0.config_.Calls,iV a0.config_.Made,iV a0.config_.Young,iV a0.config_.Full,iV a0.config_.Sites,.nilIface,pV B2 0,pV B9 0,I A12 n12 c12,iV a0.epoch_,iV a0.serial_,iV a0.sleepers_,I A13 n13 c13,I A14 n14 c14],aL B2 199 [I A3 n3 c3,I A4 n4 c4,I A5 n5 c5,I A6 n6 c6,pV B7 0],nZ A3 n3 c3 a0.heap_.m_.Young,nZ A4 n4 c4 a0.heap_.m_.Old,cx A5 n5 c5 a0.heap_.roots_,cx A6 n6 c6 a0.heap_.pending_,aL B7 247 [.map (some M8)],eY bS bU M8 a0.heap_.set_.at_,aL B9 205 [I A10 n10 c10,.map (some M11)],ri A10 n10 c10 a0.shapes_.shapes_,eY az bR M11 a0.shapes_.next_,aZ A12 n12 c12 a0.symbols_,cb A13 n13 c13 a0.events_,aZ A14 n14 c14 a0.out_]) (fun u post=>u=iV r∧post=[]):=by
 refine be Tryz.func28 J J ?_;simp only [aM];refine U ?_;refine gD (aE J J) ?_;rintro _ _ ⟨B15,rfl,rfl⟩;refine U ?_;refine gR (ab (us:=[iV a1.Kind,iV a1.N,.string a1.S]) 0 J J aC J) ?_;obtain ⟨y16,hy16,h⟩:=aa h;refine gD (ak (di hy16) jA J (hE (ai (i:=1) J J) (hE (ai (i:=2) J J) (hE (ai (i:=3) J J) (hE (ai (i:=4) J J) (hE (ai (i:=5) J J) (hE (ai (i:=6) J J) (hE (ai (i:=7) J J) (hE (ai (i:=8) J J) (hE (ai (i:=9) J J) (hE (ai (i:=10) J J) (hE (ai (i:=11) J J) (hE (ai (i:=12) J J) (hE (ai (i:=13) J J) (hE (ai (i:=14) J J) ac)))))))))))))) cJ) ?_;rintro _ _ ⟨_,⟨A17,n17,c17,A18,n18,c18,rfl,rfl⟩,rfl⟩;refine U ?_;refine gD (aF dm J) ?_;rintro _ _ ⟨B19,rfl,rfl⟩;refine gO (ao (us:=[iV y16.1.Kind,iV y16.1.Shape,iV y16.1.Flags,iV y16.1.Age,I A17 n17 c17,I A18 n18 c18]) (cs':=[iV y16.1.Kind,iV y16.1.Shape,iV y16.1.Flags,iV y16.1.Age,I A17 n17 c17,I A18 n18 c18]) 0 J J J J bY J J J) ?_;rintro _ _ rfl;refine U ?_;refine ax ?_;refine U ?_;refine aq J (fun g20=> ?_) (fun g20=> ?_)
 ·replace h:=ag g20 h;refine U ?_;obtain rfl:=am h;exact aI J J (cS [] 18) ⟨J,J⟩
 replace h:=ah g20 h;refine U ?_;refine gR (bu 2 J aA J hN) ?_;refine U ?_;obtain rfl:=am h;exact aI J J (cS [] 18) ⟨J,J⟩
theorem o9 {r:Int}: ∀v post,((fun (u:Value) (post:List Chunk)=>u=iV r∧post=[])) v post→ ∀c∈post,bI c:=by
 rintro _ _ ⟨rfl,rfl⟩;exact ac
def jk (N:Nat)(a0:D4)(a1:Ea)(a2:DX)(a3:D0)(a4:Bool):Option Int:=
 (fB N).bind fun y18=>(kd N a0 a1 y18).bind fun y19=>(iM N a0 a1 a2).bind fun y22=>bif decide (4096≤a2.N) then (some 16) else ((pa N a0 a1).bind fun y25=>(bif decide (y25≤a2.N) then (some (decide (aS .i64 y19.1.Attrs 1=0))) else (some false)).bind fun b26=>bif b26 then (some 9) else ((bif !decide (a3.Attrs=7) then (some (!y22.2)) else (some false)).bind fun b28=>(bif b28 then (some a4) else (some false)).bind fun b29=>bif b29 then (some 14) else (some 0)))
theorem nB {N:Nat}{a0:D4}{a1:Ea}{a2:DX}{a3:D0}{a4:Bool}{r:Int}(h:jk N a0 a1 a2 a3 a4=some r):Okc Tryz.prog 145 [pV B1 0,.agg #[iV a1.Kind,iV a1.N,.string a1.S],.agg #[iV a2.Kind,iV a2.N,.string a2.S],.agg #[iV a3.Key.Kind,iV a3.Key.N,.string a3.Key.S,iV a3.Attrs,iV a3.Value.Kind,iV a3.Value.N,.string a3.Value.S,iV a3.Get.Kind,iV a3.Get.N,.string a3.Get.S,iV a3.Set.Kind,iV a3.Set.N,.string a3.Set.S],.bool a4] ([aZ A12 n12 c12 a0.symbols_,cb A13 n13 c13 a0.events_,aZ A14 n14 c14 a0.out_,aL 0 30 [iV 8,iV 0,.string (⟨#[]⟩:ByteArray)],ad B1 151 [iV a0.spent_.steps_,iV a0.spent_.made_,iV a0.spent_.calls_,iV a0.config_.Way,iV a0.config_.Steps,iV a0.config_.Calls,iV a0.config_.Made,iV a0.config_.Young,iV a0.config_.Full,iV a0.config_.Sites,.nilIface,pV B2 0,pV B9 0,I A12 n12 c12,iV a0.epoch_,iV a0.serial_,iV a0.sleepers_,I A13 n13 c13,I A14 n14 c14],ad B2 199 [I A3 n3 c3,I A4 n4 c4,I A5 n5 c5,I A6 n6 c6,pV B7 0],bd A3 n3 c3 a0.heap_.m_.Young,bd A4 n4 c4 a0.heap_.m_.Old,aQ A5 n5 c5 a0.heap_.roots_,aQ A6 n6 c6 a0.heap_.pending_,ad B7 247 [.map (some M8)],aD bS bU M8 a0.heap_.set_.at_,ad B9 205 [I A10 n10 c10,.map (some M11)],cf A10 n10 c10 a0.shapes_.shapes_,aD az bR M11 a0.shapes_.next_]) (fun u post=>u=iV r∧post=[ad B1 151 [iV a0.spent_.steps_,iV a0.spent_.made_,iV a0.spent_.calls_,iV a0.config_.Way,iV a0.config_.Steps,iV a0.config_.Calls,iV a0.config_.Made,iV a0.config_.Young,iV a0.config_.Full,iV a0.config_.Sites,.nilIface,pV B2 0,pV B9 0,I A12 n12 c12,iV a0.epoch_,iV a0.serial_,iV a0.sleepers_,I A13 n13 c13,I A14 n14 c14],ad B2 199 [I A3 n3 c3,I A4 n4 c4,I A5 n5 c5,I A6 n6 c6,pV B7 0],bd A3 n3 c3 a0.heap_.m_.Young,bd A4 n4 c4 a0.heap_.m_.Old,aQ A5 n5 c5 a0.heap_.roots_,aQ A6 n6 c6 a0.heap_.pending_,ad B7 247 [.map (some M8)],aD bS bU M8 a0.heap_.set_.at_,ad B9 205 [I A10 n10 c10,.map (some M11)],cf A10 n10 c10 a0.shapes_.shapes_,aD az bR M11 a0.shapes_.next_]):=by
 refine be Tryz.func145 J J ?_;simp only [aM];refine U ?_;refine gD (aE J J) ?_;rintro _ _ ⟨B15,rfl,rfl⟩;refine gD (aE J J) ?_;rintro _ _ ⟨B16,rfl,rfl⟩;refine gD (aE J J) ?_;rintro _ _ ⟨B17,rfl,rfl⟩;refine U ?_;refine ax ?_;obtain ⟨y18,hy18,h⟩:=aa h;obtain ⟨y19,hy19,h⟩:=aa h;refine eX (t:=[(0,pV B1 0),(4,.bool a4),(6,pV B15 0),(7,pV B16 0),(8,pV B17 0),(10,iV 0)]) ?_ jd (aj _)
 refine f4 O 8 [6] [5,6,7] [16,17,18,19,15,20,21,11] [[],[],[],[0,1,2],[3],[4],[4],[]] [aV (pV B1 0),
 aV (.agg #[iV a1.Kind,iV a1.N,.string a1.S]),
 aV (.agg #[iV y18.Kind,iV y18.N,.string y18.S]),
 aV (.tuple #[.agg #[iV y19.1.Key.Kind,iV y19.1.Key.N,.string y19.1.Key.S,iV y19.1.Attrs,iV y19.1.Value.Kind,iV y19.1.Value.N,.string y19.1.Value.S,iV y19.1.Get.Kind,iV y19.1.Get.N,.string y19.1.Get.S,iV y19.1.Set.Kind,iV y19.1.Set.N,.string y19.1.Set.S],.bool y19.2]),
 aV (.tuple #[.agg #[iV y19.1.Key.Kind,iV y19.1.Key.N,.string y19.1.Key.S,iV y19.1.Attrs,iV y19.1.Value.Kind,iV y19.1.Value.N,.string y19.1.Value.S,iV y19.1.Get.Kind,iV y19.1.Get.N,.string y19.1.Get.S,iV y19.1.Set.Kind,iV y19.1.Set.N,.string y19.1.Set.S],.bool y19.2]),
 aV (.agg #[iV y19.1.Key.Kind,iV y19.1.Key.N,.string y19.1.Key.S,iV y19.1.Attrs,iV y19.1.Value.Kind,iV y19.1.Value.N,.string y19.1.Value.S,iV y19.1.Get.Kind,iV y19.1.Get.N,.string y19.1.Get.S,iV y19.1.Set.Kind,iV y19.1.Set.N,.string y19.1.Set.S]),
 aV (.bool y19.2),
 aX1 (fun (B21:Nat)=>pV B21 0) (fun B21=> [ad B21 42 [iV 0,iV 0,.string (⟨#[]⟩),iV 0,iV 0,iV 0,.string (⟨#[]⟩),iV 0,iV 0,.string (⟨#[]⟩),iV 0,iV 0,.string (⟨#[]⟩)]])] [] (aj _) (gt rfl iJ) O rfl rfl ?_ ?_ ?_
 ·refine gr J ?_ ?_
  ·exact nr (aU J J) J (bn J (aj _))
  exact iI
 ·refine ap J ?_ ?_
  ·refine ja (aF ci J) J ?_;rintro _ _ ⟨B20,rfl,rfl⟩;exact vW B20 (aj _)
  refine ap J ?_ ?_
  ·exact cq (aU J J) J (bn J (aj _))
  refine ap J ?_ ?_
  ·exact cq (aU J J) J (bn J (aj _))
  refine ap J ?_ ?_
  ·exact cq (aw J) J (bn J (aj _))
  refine ap J ?_ ?_
  ·refine ja (aB (ld hy19) tM J (ay [3,4,5,6] [7,8,9,10,11,12,13,14,15,16,17] [0,1,2,3,4,5,6] 18 J)) J ?_;rintro _ _ ⟨_,⟨rfl,rfl⟩,rfl⟩;exact bn J (cS [11,12,13,14,15,16,17,0,1,2,3,4,5,6,7,8,9,10] 18)
  refine ap J ?_ ?_
  ·refine ja (ak (gu hy18) uT J (ac) fl) J ?_;rintro _ _ ⟨_,⟨rfl,rfl⟩,rfl⟩;exact bn J (aj _)
  refine ap J ?_ ?_
  ·exact fF (ab (us:=[iV a1.Kind,iV a1.N,.string a1.S]) 2 J J aC J) J (bn J (aj _))
  refine ap J ?_ ?_
  ·exact cq (aw J) J (bn J (aj _))
  exact dJ
 intro B21
 refine lU (t:=[(20,.agg #[iV y19.1.Key.Kind,iV y19.1.Key.N,.string y19.1.Key.S,iV y19.1.Attrs,iV y19.1.Value.Kind,iV y19.1.Value.N,.string y19.1.Value.S,iV y19.1.Get.Kind,iV y19.1.Get.N,.string y19.1.Get.S,iV y19.1.Set.Kind,iV y19.1.Set.N,.string y19.1.Set.S]),(21,.bool y19.2),(11,pV B21 0),(0,pV B1 0),(4,.bool a4),(6,pV B15 0),(7,pV B16 0),(8,pV B17 0),(10,iV 0)]) (L':=[ad B21 42 [iV 0,iV 0,.string (⟨#[]⟩),iV 0,iV 0,iV 0,.string (⟨#[]⟩),iV 0,iV 0,.string (⟨#[]⟩),iV 0,iV 0,.string (⟨#[]⟩)],ad B17 42 [iV a3.Key.Kind,iV a3.Key.N,.string a3.Key.S,iV a3.Attrs,iV a3.Value.Kind,iV a3.Value.N,.string a3.Value.S,iV a3.Get.Kind,iV a3.Get.N,.string a3.Get.S,iV a3.Set.Kind,iV a3.Set.N,.string a3.Set.S],ad B16 24 [iV a2.Kind,iV a2.N,.string a2.S],ad B15 30 [iV a1.Kind,iV a1.N,.string a1.S],aZ A12 n12 c12 a0.symbols_,cb A13 n13 c13 a0.events_,aZ A14 n14 c14 a0.out_,aL 0 30 [iV 8,iV 0,.string (⟨#[]⟩:ByteArray)],ad B1 151 [iV a0.spent_.steps_,iV a0.spent_.made_,iV a0.spent_.calls_,iV a0.config_.Way,iV a0.config_.Steps,iV a0.config_.Calls,iV a0.config_.Made,iV a0.config_.Young,iV a0.config_.Full,iV a0.config_.Sites,.nilIface,pV B2 0,pV B9 0,I A12 n12 c12,iV a0.epoch_,iV a0.serial_,iV a0.sleepers_,I A13 n13 c13,I A14 n14 c14],ad B2 199 [I A3 n3 c3,I A4 n4 c4,I A5 n5 c5,I A6 n6 c6,pV B7 0],bd A3 n3 c3 a0.heap_.m_.Young,bd A4 n4 c4 a0.heap_.m_.Old,aQ A5 n5 c5 a0.heap_.roots_,aQ A6 n6 c6 a0.heap_.pending_,ad B7 247 [.map (some M8)],aD bS bU M8 a0.heap_.set_.at_,ad B9 205 [I A10 n10 c10,.map (some M11)],cf A10 n10 c10 a0.shapes_.shapes_,aD az bR M11 a0.shapes_.next_]) ?_ jd (aj _)
 refine ns 8 J O (ao (us:=[iV y19.1.Key.Kind,iV y19.1.Key.N,.string y19.1.Key.S,iV y19.1.Attrs,iV y19.1.Value.Kind,iV y19.1.Value.N,.string y19.1.Value.S,iV y19.1.Get.Kind,iV y19.1.Get.N,.string y19.1.Get.S,iV y19.1.Set.Kind,iV y19.1.Set.N,.string y19.1.Set.S]) (cs':=[iV y19.1.Key.Kind,iV y19.1.Key.N,.string y19.1.Key.S,iV y19.1.Attrs,iV y19.1.Value.Kind,iV y19.1.Value.N,.string y19.1.Value.S,iV y19.1.Get.Kind,iV y19.1.Get.N,.string y19.1.Get.S,iV y19.1.Set.Kind,iV y19.1.Set.N,.string y19.1.Set.S]) 0 J J J J bz J J J) J J ?_;rintro _ _ rfl;refine rg 9 J O (aT J) J J J ?_;refine jb O ?_;refine U ?_;refine gR (ab (us:=[iV a1.Kind,iV a1.N,.string a1.S]) 3 J J aC J) ?_;refine gR (ab (us:=[iV a2.Kind,iV a2.N,.string a2.S]) 2 J J bp J) ?_;obtain ⟨y22,hy22,h⟩:=aa h;refine gD (aB (jJ hy22) rG J (ay [4,5,6] [8,9,10,11,12,13,14,15,16,17,18] [0,1,2,3,4,5,6,7] 19 J)) ?_;rintro _ _ ⟨_,⟨rfl,rfl⟩,rfl⟩;refine U ?_;refine gD (aF ci J) ?_;rintro _ _ ⟨B23,rfl,rfl⟩
 refine gO (ao (us:=[iV y22.1.Key.Kind,iV y22.1.Key.N,.string y22.1.Key.S,iV y22.1.Attrs,iV y22.1.Value.Kind,iV y22.1.Value.N,.string y22.1.Value.S,iV y22.1.Get.Kind,iV y22.1.Get.N,.string y22.1.Get.S,iV y22.1.Set.Kind,iV y22.1.Set.N,.string y22.1.Set.S]) (cs':=[iV y22.1.Key.Kind,iV y22.1.Key.N,.string y22.1.Key.S,iV y22.1.Attrs,iV y22.1.Value.Kind,iV y22.1.Value.N,.string y22.1.Value.S,iV y22.1.Get.Kind,iV y22.1.Get.N,.string y22.1.Get.S,iV y22.1.Set.Kind,iV y22.1.Set.N,.string y22.1.Set.S]) 0 J J J J bz J J J) ?_;rintro _ _ rfl;refine bA ?_;refine U ?_;refine ax ?_;refine U ?_;refine gR (aO 14 J J cv J) ?_;refine U ?_;refine aq J (fun g24=> ?_) (fun g24=> ?_)
 ·replace h:=ag g24 h;refine U ?_;obtain rfl:=am h;exact aI J J (cS [1,2,3,4,5,6,7,8,9,10,11] 20) ⟨J,J⟩
 replace h:=ah g24 h;refine ax ?_;refine bq O _ (aj _) ?_;refine zE 0 J (bB J sD) ?_;refine zR 1 J (aO 14 J J cv J) ?_;refine zE 2 J (aw J) ?_;refine zR 3 J (ab (us:=[iV a1.Kind,iV a1.N,.string a1.S]) 15 J J aC J) ?_;obtain ⟨y25,hy25,h⟩:=aa h;refine zD 4 J (ak (rd hy25) zv J (hE (ar (i:=1) J) (hE (ar (i:=2) J) (hE (al (i:=3) J) (hE (al (i:=4) J) (hE (al (i:=5) J) (hE (al (i:=6) J) (hE (ar (i:=7) J) (hE (aN (i:=8) J) (hE (ar (i:=9) J) (hE (al (i:=10) J) (hE (aN (i:=11) J) (hE (ai (i:=16) J J) (hE (ai (i:=17) J J) (hE (ai (i:=18) J J) ac)))))))))))))) o9) ?_;rintro _ _ ⟨_,⟨rfl,rfl⟩,rfl⟩;refine ⟨_,aj _,aj _,?_⟩;refine zE 5 J (zh J J) ?_;refine zE 6 J (aw J) ?_;obtain ⟨b26,hb26,h⟩:=aa h;refine eW (fun l=>(((((l.setIfInBounds 7 true).setIfInBounds 8 true).setIfInBounds 9 true).setIfInBounds 10 true).setIfInBounds 11 true)) 1 45 b26 (fun rest=> ?_) ?_
 ·clear h;refine f3 40 J (fun g26=> ?_) (fun g26=> ?_)
  ·have h:=ag g26 hb26;refine dA 7 J O (bB J qK) (aX g26 J) J ?_;refine gA 8 J O (aO 12 J J cv J) (aX g26 J) J ?_;refine dA 9 J O (bj J J) (aX g26 J) J ?_;refine dA 10 J O (tw J J) (aX g26 J) J ?_;refine zE 11 J (cX g26 J J) ?_;obtain rfl:=am h;exact dz rest (cj J (av (av (av (av (av bv J) J) J) J) J)) (aj _) (aj _)
  have h:=ah g26 hb26;refine bN 7 J O (dy g26 J) J ?_;refine bN 8 J O (dy g26 J) J ?_;refine bN 9 J O (dy g26 J) J ?_;refine bN 10 J O (dy g26 J) J ?_;refine zE 11 J (cY g26 J J) ?_;obtain rfl:=am h;exact dz rest (cj J (av (av (av (av (av bv J) J) J) J) J)) (aj _) (aj _)
 refine zE 12 J (aT J) ?_;refine bh O ?_;refine dT ?_;refine aq J (fun g27=> ?_) (fun g27=> ?_)
 ·replace h:=ag g27 h;refine U ?_;obtain rfl:=am h;exact aI J J (cS [1,2,3,4,5,6,7,8,9,10,11] 20) ⟨J,J⟩
 replace h:=ah g27 h;refine U ?_;refine gR (aO 13 J J cv J) ?_;refine U ?_;obtain ⟨b28,hb28,h⟩:=aa h;refine aJ 3 53 b28 ?_ ?_
 ·clear h;refine aH 50 J (fun g28=> ?_) (fun g28=> ?_)
  ·have h:=ag g28 hb28;refine U ?_;obtain rfl:=am h;exact ae sA (cS [0,1,2,3,4,5,6,7,8,9,10,11,12,13,14,15,16,17,18,19] 20)
  have h:=ah g28 hb28;refine U ?_;obtain rfl:=am h;exact ae sA (cS [0,1,2,3,4,5,6,7,8,9,10,11,12,13,14,15,16,17,18,19] 20)
 refine U ?_;obtain ⟨b29,hb29,h⟩:=aa h;refine aJ 2 56 b29 ?_ ?_
 ·clear h;refine aH 54 J (fun g29=> ?_) (fun g29=> ?_)
  ·have h:=ag g29 hb29;refine U ?_;obtain rfl:=am h;exact ae sA (cS [0,1,2,3,4,5,6,7,8,9,10,11,12,13,14,15,16,17,18,19] 20)
  have h:=ah g29 hb29;refine U ?_;obtain rfl:=am h;exact ae sA (cS [0,1,2,3,4,5,6,7,8,9,10,11,12,13,14,15,16,17,18,19] 20)
 refine U ?_;refine aq J (fun g30=> ?_) (fun g30=> ?_)
 ·replace h:=ag g30 h;refine U ?_;obtain rfl:=am h;exact aI J J (cS [1,2,3,4,5,6,7,8,9,10,11] 20) ⟨J,J⟩
 replace h:=ah g30 h;refine U ?_;obtain rfl:=am h;exact aI J J (cS [1,2,3,4,5,6,7,8,9,10,11] 20) ⟨J,J⟩
def lB (N:Nat)(a0:D4)(a1:Ea)(a2:DX)(a3:D6):Option Int:=
 (fm N a0 a1 a2).bind fun y18=>(kV N a0 a1).bind fun y20=>(gy N y18.1 y18.2 y20 a2 a3).bind fun y21=>(bif !y18.2 then (some (!y21.2)) else (some false)).bind fun b24=>bif b24 then (some 10) else (bif !y21.2 then (some 11) else ((eN N a0 a1).bind fun y27=>(lS N a0 a1).bind fun y29=>(bif !y29 then (some true) else (some (!decide (a2.Kind=0)))).bind fun b30=>bif b30 then ((bif !y18.2 then (some (decide (1024≤(y27.length:Int)))) else (some false)).bind fun b32=>bif b32 then (some 14) else (some 0)) else ((jk N a0 a1 a2 y21.1 (decide (1024≤(y27.length:Int)))).bind fun y34=>some y34)))
theorem nX {N:Nat}{a0:D4}{a1:Ea}{a2:DX}{a3:D6}{r:Int}(h:lB N a0 a1 a2 a3=some r):Okc Tryz.prog 80 [pV B1 0,.agg #[iV a1.Kind,iV a1.N,.string a1.S],.agg #[iV a2.Kind,iV a2.N,.string a2.S],.agg #[iV a3.Has,iV a3.Attrs,iV a3.Value.Kind,iV a3.Value.N,.string a3.Value.S,iV a3.Get.Kind,iV a3.Get.N,.string a3.Get.S,iV a3.Set.Kind,iV a3.Set.N,.string a3.Set.S]] ([aZ A12 n12 c12 a0.symbols_,cb A13 n13 c13 a0.events_,aZ A14 n14 c14 a0.out_,aL 0 30 [iV 8,iV 0,.string (⟨#[]⟩:ByteArray)],ad B1 151 [iV a0.spent_.steps_,iV a0.spent_.made_,iV a0.spent_.calls_,iV a0.config_.Way,iV a0.config_.Steps,iV a0.config_.Calls,iV a0.config_.Made,iV a0.config_.Young,iV a0.config_.Full,iV a0.config_.Sites,.nilIface,pV B2 0,pV B9 0,I A12 n12 c12,iV a0.epoch_,iV a0.serial_,iV a0.sleepers_,I A13 n13 c13,I A14 n14 c14],ad B2 199 [I A3 n3 c3,I A4 n4 c4,I A5 n5 c5,I A6 n6 c6,pV B7 0],bd A3 n3 c3 a0.heap_.m_.Young,bd A4 n4 c4 a0.heap_.m_.Old,aQ A5 n5 c5 a0.heap_.roots_,aQ A6 n6 c6 a0.heap_.pending_,ad B7 247 [.map (some M8)],aD bS bU M8 a0.heap_.set_.at_,ad B9 205 [I A10 n10 c10,.map (some M11)],cf A10 n10 c10 a0.shapes_.shapes_,aD az bR M11 a0.shapes_.next_]) (fun u post=>u=iV r∧post=[ad B1 151 [iV a0.spent_.steps_,iV a0.spent_.made_,iV a0.spent_.calls_,iV a0.config_.Way,iV a0.config_.Steps,iV a0.config_.Calls,iV a0.config_.Made,iV a0.config_.Young,iV a0.config_.Full,iV a0.config_.Sites,.nilIface,pV B2 0,pV B9 0,I A12 n12 c12,iV a0.epoch_,iV a0.serial_,iV a0.sleepers_,I A13 n13 c13,I A14 n14 c14],ad B2 199 [I A3 n3 c3,I A4 n4 c4,I A5 n5 c5,I A6 n6 c6,pV B7 0],bd A3 n3 c3 a0.heap_.m_.Young,bd A4 n4 c4 a0.heap_.m_.Old,aQ A5 n5 c5 a0.heap_.roots_,aQ A6 n6 c6 a0.heap_.pending_,ad B7 247 [.map (some M8)],aD bS bU M8 a0.heap_.set_.at_,ad B9 205 [I A10 n10 c10,.map (some M11)],cf A10 n10 c10 a0.shapes_.shapes_,aD az bR M11 a0.shapes_.next_]):=by
 refine be Tryz.func80 J J ?_;simp only [aM];refine U ?_;refine gD (aE J J) ?_;rintro _ _ ⟨B15,rfl,rfl⟩;refine gD (aE J J) ?_;rintro _ _ ⟨B16,rfl,rfl⟩;refine gD (aE J J) ?_;rintro _ _ ⟨B17,rfl,rfl⟩;refine U ?_;refine gR (ab (us:=[iV a1.Kind,iV a1.N,.string a1.S]) 2 J J aC J) ?_;refine gR (ab (us:=[iV a2.Kind,iV a2.N,.string a2.S]) 1 J J bp J) ?_;obtain ⟨y18,hy18,h⟩:=aa h;refine gD (aB (fG hy18) o5 J (ay [3,4,5,6] [7,8,9,10,11,12,13,14,15,16,17] [0,1,2,3,4,5,6] 18 J)) ?_;rintro _ _ ⟨_,⟨rfl,rfl⟩,rfl⟩;refine U ?_;refine gD (aF ci J) ?_;rintro _ _ ⟨B19,rfl,rfl⟩;refine gO (ao (us:=[iV y18.1.Key.Kind,iV y18.1.Key.N,.string y18.1.Key.S,iV y18.1.Attrs,iV y18.1.Value.Kind,iV y18.1.Value.N,.string y18.1.Value.S,iV y18.1.Get.Kind,iV y18.1.Get.N,.string y18.1.Get.S,iV y18.1.Set.Kind,iV y18.1.Set.N,.string y18.1.Set.S]) (cs':=[iV y18.1.Key.Kind,iV y18.1.Key.N,.string y18.1.Key.S,iV y18.1.Attrs,iV y18.1.Value.Kind,iV y18.1.Value.N,.string y18.1.Value.S,iV y18.1.Get.Kind,iV y18.1.Get.N,.string y18.1.Get.S,iV y18.1.Set.Kind,iV y18.1.Set.N,.string y18.1.Set.S]) 0 J J J J bz J J J) ?_;rintro _ _ rfl;refine U ?_;refine ax ?_;obtain ⟨y20,hy20,h⟩:=aa h;obtain ⟨y21,hy21,h⟩:=aa h;refine eX (t:=[(0,pV B1 0),(5,pV B15 0),(6,pV B16 0),(7,pV B17 0),(8,iV 0),(9,pV B19 0),(10,.bool y18.2)]) ?_ jd (aj _)
 refine f4 O 12 [10] [9,10,11] [22,23,24,25,26,27,28,29,21,30,31,11] [[],[],[],[],[2,3],[],[],[0,1,4,5,6],[7],[8],[8],[]] [aV (.agg #[iV y18.1.Key.Kind,iV y18.1.Key.N,.string y18.1.Key.S,iV y18.1.Attrs,iV y18.1.Value.Kind,iV y18.1.Value.N,.string y18.1.Value.S,iV y18.1.Get.Kind,iV y18.1.Get.N,.string y18.1.Get.S,iV y18.1.Set.Kind,iV y18.1.Set.N,.string y18.1.Set.S]),
 aV (.bool y18.2),
 aV (pV B1 0),
 aV (.agg #[iV a1.Kind,iV a1.N,.string a1.S]),
 aV (.bool y20),
 aV (.agg #[iV a2.Kind,iV a2.N,.string a2.S]),
 aV (.agg #[iV a3.Has,iV a3.Attrs,iV a3.Value.Kind,iV a3.Value.N,.string a3.Value.S,iV a3.Get.Kind,iV a3.Get.N,.string a3.Get.S,iV a3.Set.Kind,iV a3.Set.N,.string a3.Set.S]),
 aV (.tuple #[.agg #[iV y21.1.Key.Kind,iV y21.1.Key.N,.string y21.1.Key.S,iV y21.1.Attrs,iV y21.1.Value.Kind,iV y21.1.Value.N,.string y21.1.Value.S,iV y21.1.Get.Kind,iV y21.1.Get.N,.string y21.1.Get.S,iV y21.1.Set.Kind,iV y21.1.Set.N,.string y21.1.Set.S],.bool y21.2]),
 aV (.tuple #[.agg #[iV y21.1.Key.Kind,iV y21.1.Key.N,.string y21.1.Key.S,iV y21.1.Attrs,iV y21.1.Value.Kind,iV y21.1.Value.N,.string y21.1.Value.S,iV y21.1.Get.Kind,iV y21.1.Get.N,.string y21.1.Get.S,iV y21.1.Set.Kind,iV y21.1.Set.N,.string y21.1.Set.S],.bool y21.2]),
 aV (.agg #[iV y21.1.Key.Kind,iV y21.1.Key.N,.string y21.1.Key.S,iV y21.1.Attrs,iV y21.1.Value.Kind,iV y21.1.Value.N,.string y21.1.Value.S,iV y21.1.Get.Kind,iV y21.1.Get.N,.string y21.1.Get.S,iV y21.1.Set.Kind,iV y21.1.Set.N,.string y21.1.Set.S]),
 aV (.bool y21.2),
 aX1 (fun (B23:Nat)=>pV B23 0) (fun B23=> [ad B23 42 [iV 0,iV 0,.string (⟨#[]⟩),iV 0,iV 0,iV 0,.string (⟨#[]⟩),iV 0,iV 0,.string (⟨#[]⟩),iV 0,iV 0,.string (⟨#[]⟩)]])] [] (aj _) (gt rfl iJ) O rfl rfl ?_ ?_ ?_
 ·refine gr J ?_ ?_
  ·exact nr (aU J J) J (bn J (aj _))
  exact iI
 ·refine ap J ?_ ?_
  ·refine ja (aF ci J) J ?_;rintro _ _ ⟨B22,rfl,rfl⟩;exact vW B22 (aj _)
  refine ap J ?_ ?_
  ·exact cq (aU J J) J (bn J (aj _))
  refine ap J ?_ ?_
  ·exact cq (aU J J) J (bn J (aj _))
  refine ap J ?_ ?_
  ·exact cq (aw J) J (bn J (aj _))
  refine ap J ?_ ?_
  ·refine ja (ak (gY hy21) qX J (ac) fE) J ?_;rintro _ _ ⟨_,⟨rfl,rfl⟩,rfl⟩;exact bn J (aj _)
  refine ap J ?_ ?_
  ·exact fF (ab (us:=[iV a3.Has,iV a3.Attrs,iV a3.Value.Kind,iV a3.Value.N,.string a3.Value.S,iV a3.Get.Kind,iV a3.Get.N,.string a3.Get.S,iV a3.Set.Kind,iV a3.Set.N,.string a3.Set.S]) 12 J J cI J) J (bn J (aj _))
  refine ap J ?_ ?_
  ·exact fF (ab (us:=[iV a2.Kind,iV a2.N,.string a2.S]) 13 J J bp J) J (bn J (aj _))
  refine ap J ?_ ?_
  ·refine ja (aB (mw hy20) vb J (ay [15,16,17] [1,2,3,4,5,6,7,8,9,10,11] [0,12,13,14,15,16,17,18] 19 J)) J ?_;rintro _ _ ⟨_,⟨rfl,rfl⟩,rfl⟩;exact bn J (cS [11,0,1,2,3,4,5,6,7,8,9,10,12,13,14,15,16,17,18] 19)
  refine ap J ?_ ?_
  ·exact fF (ab (us:=[iV a1.Kind,iV a1.N,.string a1.S]) 14 J J aC J) J (bn J (aj _))
  refine ap J ?_ ?_
  ·exact cq (aw J) J (bn J (aj _))
  refine ap J ?_ ?_
  ·exact cq (aw J) J (bn J (aj _))
  refine ap J ?_ ?_
  ·exact fF (ab (us:=[iV y18.1.Key.Kind,iV y18.1.Key.N,.string y18.1.Key.S,iV y18.1.Attrs,iV y18.1.Value.Kind,iV y18.1.Value.N,.string y18.1.Value.S,iV y18.1.Get.Kind,iV y18.1.Get.N,.string y18.1.Get.S,iV y18.1.Set.Kind,iV y18.1.Set.N,.string y18.1.Set.S]) 0 J J ce J) J (bn J (aj _))
  exact dJ
 intro B23
 refine lU (t:=[(30,.agg #[iV y21.1.Key.Kind,iV y21.1.Key.N,.string y21.1.Key.S,iV y21.1.Attrs,iV y21.1.Value.Kind,iV y21.1.Value.N,.string y21.1.Value.S,iV y21.1.Get.Kind,iV y21.1.Get.N,.string y21.1.Get.S,iV y21.1.Set.Kind,iV y21.1.Set.N,.string y21.1.Set.S]),(31,.bool y21.2),(11,pV B23 0),(0,pV B1 0),(5,pV B15 0),(6,pV B16 0),(7,pV B17 0),(8,iV 0),(9,pV B19 0),(10,.bool y18.2)]) (L':=[ad B23 42 [iV 0,iV 0,.string (⟨#[]⟩),iV 0,iV 0,iV 0,.string (⟨#[]⟩),iV 0,iV 0,.string (⟨#[]⟩),iV 0,iV 0,.string (⟨#[]⟩)],ad B19 42 [iV y18.1.Key.Kind,iV y18.1.Key.N,.string y18.1.Key.S,iV y18.1.Attrs,iV y18.1.Value.Kind,iV y18.1.Value.N,.string y18.1.Value.S,iV y18.1.Get.Kind,iV y18.1.Get.N,.string y18.1.Get.S,iV y18.1.Set.Kind,iV y18.1.Set.N,.string y18.1.Set.S],ad B1 151 [iV a0.spent_.steps_,iV a0.spent_.made_,iV a0.spent_.calls_,iV a0.config_.Way,iV a0.config_.Steps,iV a0.config_.Calls,iV a0.config_.Made,iV a0.config_.Young,iV a0.config_.Full,iV a0.config_.Sites,.nilIface,pV B2 0,pV B9 0,I A12 n12 c12,iV a0.epoch_,iV a0.serial_,iV a0.sleepers_,I A13 n13 c13,I A14 n14 c14],ad B2 199 [I A3 n3 c3,I A4 n4 c4,I A5 n5 c5,I A6 n6 c6,pV B7 0],bd A3 n3 c3 a0.heap_.m_.Young,bd A4 n4 c4 a0.heap_.m_.Old,aQ A5 n5 c5 a0.heap_.roots_,aQ A6 n6 c6 a0.heap_.pending_,ad B7 247 [.map (some M8)],aD bS bU M8 a0.heap_.set_.at_,ad B9 205 [I A10 n10 c10,.map (some M11)],cf A10 n10 c10 a0.shapes_.shapes_,aD az bR M11 a0.shapes_.next_,ad B17 32 [iV a3.Has,iV a3.Attrs,iV a3.Value.Kind,iV a3.Value.N,.string a3.Value.S,iV a3.Get.Kind,iV a3.Get.N,.string a3.Get.S,iV a3.Set.Kind,iV a3.Set.N,.string a3.Set.S],ad B16 24 [iV a2.Kind,iV a2.N,.string a2.S],ad B15 30 [iV a1.Kind,iV a1.N,.string a1.S],aZ A12 n12 c12 a0.symbols_,cb A13 n13 c13 a0.events_,aZ A14 n14 c14 a0.out_,aL 0 30 [iV 8,iV 0,.string (⟨#[]⟩:ByteArray)]]) ?_ jd (aj _)
 refine ns 12 J O (ao (us:=[iV y21.1.Key.Kind,iV y21.1.Key.N,.string y21.1.Key.S,iV y21.1.Attrs,iV y21.1.Value.Kind,iV y21.1.Value.N,.string y21.1.Value.S,iV y21.1.Get.Kind,iV y21.1.Get.N,.string y21.1.Get.S,iV y21.1.Set.Kind,iV y21.1.Set.N,.string y21.1.Set.S]) (cs':=[iV y21.1.Key.Kind,iV y21.1.Key.N,.string y21.1.Key.S,iV y21.1.Attrs,iV y21.1.Value.Kind,iV y21.1.Value.N,.string y21.1.Value.S,iV y21.1.Get.Kind,iV y21.1.Get.N,.string y21.1.Get.S,iV y21.1.Set.Kind,iV y21.1.Set.N,.string y21.1.Set.S]) 0 J J J J bz J J J) J J ?_;rintro _ _ rfl;refine wX ?_;refine rg 13 J O (aT J) J J J ?_;refine jb O ?_;refine dT ?_;refine ax ?_;refine U ?_;obtain ⟨b24,hb24,h⟩:=aa h;refine aJ 3 38 b24 ?_ ?_
 ·clear h;refine aH 35 J (fun g24=> ?_) (fun g24=> ?_)
  ·have h:=ag g24 hb24;refine U ?_;obtain rfl:=am h;exact ae sA (cS [0,1,2,3,4,5,6,7,8,9,10,11,12,13,14,15,16,17,18,19] 20)
  have h:=ah g24 hb24;refine U ?_;obtain rfl:=am h;exact ae sA (cS [0,1,2,3,4,5,6,7,8,9,10,11,12,13,14,15,16,17,18,19] 20)
 refine U ?_;refine aq J (fun g25=> ?_) (fun g25=> ?_)
 ·replace h:=ag g25 h;refine U ?_;obtain rfl:=am h;exact aI J J (cS [2,3,4,5,6,7,8,9,10,11,12] 20) ⟨J,J⟩
 replace h:=ah g25 h;refine U ?_;refine aq J (fun g26=> ?_) (fun g26=> ?_)
 ·replace h:=ag g26 h;refine U ?_;obtain rfl:=am h;exact aI J J (cS [2,3,4,5,6,7,8,9,10,11,12] 20) ⟨J,J⟩
 replace h:=ah g26 h;refine U ?_;refine gR (ab (us:=[iV a1.Kind,iV a1.N,.string a1.S]) 15 J J aC J) ?_;obtain ⟨y27,hy27,h⟩:=aa h;refine gD (aB (fA hy27) pC J (ay [16,17,18] [2,3,4,5,6,7,8,9,10,11,12] [0,1,13,14,15,16,17,18,19] 20 J)) ?_;rintro _ _ ⟨_,⟨A28,n28,c28,rfl,rfl⟩,rfl⟩;refine gR (bu 0 J aA J DU) ?_;refine U ?_;refine ax ?_;refine U ?_;refine gR (ab (us:=[iV a1.Kind,iV a1.N,.string a1.S]) 16 J J aC J) ?_;obtain ⟨y29,hy29,h⟩:=aa h;refine gD (ak (ms hy29) rH J (hE (ar (i:=1) J) (hE (ar (i:=2) J) (hE (al (i:=3) J) (hE (al (i:=4) J) (hE (al (i:=5) J) (hE (al (i:=6) J) (hE (ar (i:=7) J) (hE (aN (i:=8) J) (hE (ar (i:=9) J) (hE (al (i:=10) J) (hE (aN (i:=11) J) (hE (ai (i:=17) J J) (hE (ai (i:=18) J J) (hE (ai (i:=19) J J) ac)))))))))))))) jM) ?_;rintro _ _ ⟨_,⟨rfl,rfl⟩,rfl⟩;refine U ?_;obtain ⟨b30,hb30,h⟩:=aa h;refine aJ 4 55 b30 ?_ ?_
 ·clear h;refine aH 51 J (fun g30=> ?_) (fun g30=> ?_)
  ·have h:=ag g30 hb30;refine U ?_;obtain rfl:=am h;exact ae sA (cS [0,1,2,3,4,5,6,7,8,9,10,11,12,13,14,15,16,17,18,19,20] 21)
  have h:=ah g30 hb30;refine U ?_;refine bH (aO 15 J J cv J) J (cB g30 J) J ?_;refine U ?_;obtain rfl:=am h;exact ae sA (cS [0,1,2,3,4,5,6,7,8,9,10,11,12,13,14,15,16,17,18,19,20] 21)
 refine U ?_;refine aq J (fun g31=> ?_) (fun g31=> ?_)
 ·replace h:=ag g31 h;refine ax ?_;refine U ?_;obtain ⟨b32,hb32,h⟩:=aa h;refine aJ 2 60 b32 ?_ ?_
  ·clear h;refine aH 58 J (fun g32=> ?_) (fun g32=> ?_)
   ·have h:=ag g32 hb32;refine U ?_;obtain rfl:=am h;exact ae sA (cS [0,1,2,3,4,5,6,7,8,9,10,11,12,13,14,15,16,17,18,19,20] 21)
   have h:=ah g32 hb32;refine U ?_;obtain rfl:=am h;exact ae sA (cS [0,1,2,3,4,5,6,7,8,9,10,11,12,13,14,15,16,17,18,19,20] 21)
  refine U ?_;refine aq J (fun g33=> ?_) (fun g33=> ?_)
  ·replace h:=ag g33 h;refine U ?_;obtain rfl:=am h;exact aI J J (cS [1,2,3,4,5,6,7,8,9,10,11] 21) ⟨J,J⟩
  replace h:=ah g33 h;refine U ?_;obtain rfl:=am h;exact aI J J (cS [1,2,3,4,5,6,7,8,9,10,11] 21) ⟨J,J⟩
 replace h:=ah g31 h;refine U ?_;refine gR (ab (us:=[iV a1.Kind,iV a1.N,.string a1.S]) 16 J J aC J) ?_;refine gR (ab (us:=[iV a2.Kind,iV a2.N,.string a2.S]) 15 J J bp J) ?_;refine gR (ab (us:=[iV y21.1.Key.Kind,iV y21.1.Key.N,.string y21.1.Key.S,iV y21.1.Attrs,iV y21.1.Value.Kind,iV y21.1.Value.N,.string y21.1.Value.S,iV y21.1.Get.Kind,iV y21.1.Get.N,.string y21.1.Get.S,iV y21.1.Set.Kind,iV y21.1.Set.N,.string y21.1.Set.S]) 12 J J ce J) ?_;refine U ?_;obtain ⟨y34,hy34,h⟩:=aa h;refine gD (aB (nB hy34) Bf J (ay [17,18,19,20] [1,2,3,4,5,6,7,8,9,10,11] [0,12,13,14,15,16,17,18,19,20] 21 J)) ?_;rintro _ _ ⟨_,⟨rfl,rfl⟩,rfl⟩;refine U ?_;obtain rfl:=am h;exact aI J J (cS [0,1,2,3,4,5,6,7,8,9,10] 21) ⟨J,J⟩
def rM (N:Nat)(a0:Int):Option Bool:=
 (bif decide (0≤a0) then (some (decide (a0≤15))) else (some false)).bind fun b1=>(bif b1 then (some (!decide (aS .i64 a0 9=9))) else (some false)).bind fun b2=>some b2
theorem uy {N:Nat}{a0:Int}{r:Bool}(h:rM N a0=some r):Okc Tryz.prog 213 [iV a0] ([]) (fun u post=>u=.bool r∧post=[]):=by
 refine be Tryz.func213 J J ?_;simp only [aM];refine U ?_;obtain ⟨b1,hb1,h⟩:=aa h;refine aJ 3 8 b1 ?_ ?_
 ·clear h;refine aH 5 J (fun g1=> ?_) (fun g1=> ?_)
  ·have h:=ag g1 hb1;refine U ?_;obtain rfl:=am h;exact ae sA (cS [] 0)
  have h:=ah g1 hb1;refine U ?_;obtain rfl:=am h;exact ae sA (cS [] 0)
 refine U ?_;obtain ⟨b2,hb2,h⟩:=aa h;refine aJ 4 13 b2 ?_ ?_
 ·clear h;refine aH 9 J (fun g2=> ?_) (fun g2=> ?_)
  ·have h:=ag g2 hb2;refine U ?_;refine iG (bj J J) J (aX g2 J) J ?_;refine U ?_;obtain rfl:=am h;exact ae sA (cS [] 0)
  have h:=ah g2 hb2;refine U ?_;obtain rfl:=am h;exact ae sA (cS [] 0)
 refine U ?_;obtain rfl:=am h;exact aI J J (cS [] 0) ⟨J,J⟩
theorem sR {r:Bool}: ∀v post,((fun (u:Value) (post:List Chunk)=>u=.bool r∧post=[])) v post→ ∀c∈post,bI c:=by
 rintro _ _ ⟨rfl,rfl⟩;exact ac
def eE (N:Nat)(a0:D9)(a1:Int)(a2:DX)(a3:Int):Option Int:=
 (fR N a0 a1).bind fun y5=>bif !y5 then (some 2) else ((fd N a2).bind fun y7=>(bif !y7 then (some true) else ((rM N a3).bind fun y9=>some (!y9))).bind fun b8=>bif b8 then (some 1) else (some 0))
theorem ga {N:Nat}{a0:D9}{a1:Int}{a2:DX}{a3:Int}{r:Int}(h:eE N a0 a1 a2 a3=some r):Okc Tryz.prog 165 [pV B1 0,iV a1,.agg #[iV a2.Kind,iV a2.N,.string a2.S],iV a3] ([aL B1 205 [I A2 n2 c2,.map (some M3)],ri A2 n2 c2 a0.shapes_,eY az bR M3 a0.next_]) (fun u post=>u=iV r∧post=[]):=by
 refine be Tryz.func165 J J ?_;simp only [aM];refine U ?_;refine gD (aE J J) ?_;rintro _ _ ⟨B4,rfl,rfl⟩;refine U ?_;refine ax ?_;refine U ?_;refine gE (cA J Tryz.underlying144) ?_;refine U ?_;refine dS J ?_;refine U ?_;obtain ⟨y5,hy5,h⟩:=aa h;refine gD (ak (ik hy5) uY J (hE (ai (i:=1) J J) (hE (ai (i:=2) J J) (hE (ai (i:=3) J J) ac))) f8) ?_;rintro _ _ ⟨_,⟨rfl,rfl⟩,rfl⟩;refine U ?_;refine aq J (fun g6=> ?_) (fun g6=> ?_)
 ·replace h:=ag g6 h;refine U ?_;obtain rfl:=am h;exact aI J J (cS [] 4) ⟨J,J⟩
 replace h:=ah g6 h;refine U ?_;refine gR (ab (us:=[iV a2.Kind,iV a2.N,.string a2.S]) 0 J J bp J) ?_;obtain ⟨y7,hy7,h⟩:=aa h;refine gD (ak (fq hy7) qm J (ac) ea) ?_;rintro _ _ ⟨_,⟨rfl,rfl⟩,rfl⟩;refine U ?_;obtain ⟨b8,hb8,h⟩:=aa h;refine aJ 4 25 b8 ?_ ?_
 ·clear h;refine aH 21 J (fun g8=> ?_) (fun g8=> ?_)
  ·have h:=ag g8 hb8;refine U ?_;obtain rfl:=am h;exact ae sA (cS [0,1,2,3] 4)
  have h:=ah g8 hb8;refine U ?_;obtain ⟨y9,hy9,h⟩:=aa h;refine bX (ak (uy hy9) AT J (ac) sR) J (cB g8 J) J ?_;rintro _ _ ⟨_,⟨rfl,rfl⟩,rfl⟩;refine U ?_;obtain rfl:=am h;exact ae sA (cS [0,1,2,3] 4)
 refine U ?_;refine aq J (fun g10=> ?_) (fun g10=> ?_)
 ·replace h:=ag g10 h;refine U ?_;obtain rfl:=am h;exact aI J J (cS [] 4) ⟨J,J⟩
 replace h:=ah g10 h;refine U ?_;obtain rfl:=am h;exact aI J J (cS [] 4) ⟨J,J⟩
theorem fi {r:Int}: ∀v post,((fun (u:Value) (post:List Chunk)=>u=iV r∧post=[])) v post→ ∀c∈post,bI c:=by
 rintro _ _ ⟨rfl,rfl⟩;exact ac
def kE (N:Nat)(p20:Int)(p21:(List Ed))(p22:(List (D3×Int))):Option (Int×Int×D9):=
 some (p20,0,(⟨p21,p22⟩:D9))
def gF (N:Nat)(p7:(List Ed)):Nat→Int→Int→(List Ed)→(List (D3×Int))→Option (Int×Int×D9)
 |0,_,_,_,_=>none
 |m23+1,p24,p25,p26,p27=>bif decide (p25<(p7.length:Int)) then ((cm p7 p25).bind fun x29=>(cm p26 p24).bind fun x31=>dC (cg (x31.Len+1)) (dC (iD (p26.length+([(⟨p24,x29.Key,x29.Attrs,x31.Len+1⟩:Ed)]:List Ed).length)) (dC (cg (((p26++([(⟨p24,x29.Key,x29.Attrs,x31.Len+1⟩:Ed)]:List Ed)).length:Int) - 1)) (dC (cg (p25+1)) ((gF N p7 m23) (((p26++([(⟨p24,x29.Key,x29.Attrs,x31.Len+1⟩:Ed)]:List Ed)).length:Int) - 1) (p25+1) (p26++([(⟨p24,x29.Key,x29.Attrs,x31.Len+1⟩:Ed)]:List Ed)) (zT p27 (⟨p24,x29.Key,x29.Attrs⟩:D3) (p26.length:Int))))))) else (kE N p24 p26 p27)
def ij (N:Nat)(a0:D9)(p6:Int)(p7:(List Ed)):Option (Int×Int×D9):=
 dC (cg (1073741824 - (a0.shapes_.length:Int))) (bif decide (1073741824 - (a0.shapes_.length:Int)<(p7.length:Int)) then (some (0,5,a0)) else (gF N p7 N p6 0 a0.shapes_ a0.next_))
def ii (N:Nat)(a0:D9):Nat→Int→(List Ed)→Option (Int×Int×D9)
 |0,_,_=>none
 |m8+1,p9,p10=>bif decide (0<(p10.length:Int)) then ((cm p10 0).bind fun x12=>(cm p10 0).bind fun x13=>bif !((lk a0.next_ (⟨p9,x12.Key,x13.Attrs⟩:D3)).isSome) then (ij N a0 p9 p10) else (dC ((0:Int)≤1∧(1:Int).toNat≤p10.length∧p10.length≤p10.length) ((ii N a0 m8) ((lk a0.next_ (⟨p9,x12.Key,x13.Attrs⟩:D3)).getD 0) ((p10.drop ((1:Int).toNat)).take (p10.length - (1:Int).toNat))))) else (ij N a0 p9 p10)
def fQ (N:Nat)(a0:D9)(a1:Int)(a2:(List Ed)):Option (Int×Int×D9):=
 ii N a0 N a1 a2
theorem ig {N:Nat}{a0:D9}{a1:Int}{a2:(List Ed)}{r:(Int×Int×D9)}(h:fQ N a0 a1 a2=some r):Okc Tryz.prog 166 [pV B1 0,iV a1,I A4 n4 c4] ([ri A4 n4 c4 a2,ad B1 205 [I A2 n2 c2,.map (some M3)],cf A2 n2 c2 a0.shapes_,aD az bR M3 a0.next_]) (fun u post=> ∃A0 n0 c0 M1,u=.tuple #[iV r.1,iV r.2.1]∧post=[ad B1 205 [I A0 n0 c0,.map (some M1)],cf A0 n0 c0 r.2.2.shapes_,aD az bR M1 r.2.2.next_]):=by
 refine be Tryz.func166 J J ?_;simp only [aM];refine U ?_;refine aW (fun s L=> ∃p6 p7 A7 n7 c7,ij N a0 p6 p7=some r∧s=[(0,pV B1 0),(6,iV 0),(7,iV 0),(8,iV p6),(9,I A7 n7 c7)]∧L=[ri A7 n7 c7 p7,cf A2 n2 c2 a0.shapes_,aD az bR M3 a0.next_,ad B1 205 [I A2 n2 c2,.map (some M3)]]) ?_ ?_
 ·refine f5 ?_;refine bV (fun m s L=> ∃p9 p10 A10 n10 c10,ii N a0 m p9 p10=some r∧s=[(0,pV B1 0),(6,iV 0),(7,iV 0),(8,iV p9),(9,I A10 n10 c10)]∧L=[ri A10 n10 c10 p10,cf A2 n2 c2 a0.shapes_,aD az bR M3 a0.next_,ad B1 205 [I A2 n2 c2,.map (some M3)]]) N _ _ ⟨a1,a2,A4,n4,c4,h,J,J⟩ sA (cS [0,2,3,1] 4) ?_;rintro (_|m8) _ _ ⟨p9,p10,A10,n10,c10,h,rfl,rfl⟩
  ·exact bc h
  rw [ii.eq_2] at h;refine ax ?_;refine U ?_;refine gR (bu 0 J aP J DS) ?_;refine U ?_;refine aq J (fun g11=> ?_) (fun g11=> ?_)
  ·replace h:=ag g11 h;refine U ?_;refine ax ?_;refine bq O _ (aj _) ?_;refine zE 0 J (aw J) ?_;refine zE 1 J (aR J) ?_;refine zE 2 J (bB J tp) ?_;refine zR 3 J (aO 3 J J wt J) ?_;refine zE 4 J (aw J) ?_;refine zE 5 J (aw J) ?_;obtain ⟨x12,hx12,h⟩:=aa h;obtain ⟨lx12,ux12,hx12⟩:=aK hx12;refine zR 6 J (bi 0 J aP J J DS cC lx12 ux12) ?_;refine zR 7 J (mR 0 J aP J (bf lx12 ux12) qM) ?_;refine zR 8 J (bm (us:=[iV x12.Key.Kind,iV x12.Key.N,.string x12.Key.S]) 0 J aP J hx12 bp (fun _ _ _ h=>by rw [show _=_ from h];rfl)) ?_;refine zE 9 J (aw J) ?_;obtain ⟨x13,hx13,h⟩:=aa h;obtain ⟨lx13,ux13,hx13⟩:=aK hx13;refine zR 10 J (bi 0 J aP J J DS cC lx13 ux13) ?_;refine zR 11 J (mR 0 J aP J (bf lx13 ux13) ne) ?_;refine zR 12 J (dp (u:=iV x13.Attrs) 0 J aP J hx13 cv (fun _ _ _ h=>by rw [show _=_ from h];rfl)) ?_;refine zE 13 J (aY J (pX _ _ _ _ _)) ?_;refine zR 14 J (yI (a:=(⟨p9,x12.Key,x13.Attrs⟩:D3)) (z:=0) 2 J BP J J Tryz.underlying203 ti CA) ?_;refine zE 15 J (aw J) ?_;refine zE 16 J (aU J J) ?_;refine zE 17 J (aU J J) ?_;refine zE 18 J (aT J) ?_;refine zE 19 J (aT J) ?_;refine bh O ?_;refine dT ?_;refine ax ?_;refine U ?_;refine aq J (fun g14=> ?_) (fun g14=> ?_)
   ·replace h:=ag g14 h;refine U ?_;refine C7 J ?_;refine U ?_;exact ⟨_,_,⟨p9,p10,A10,n10,c10,h,J,J⟩,sA,cS [0,1,2,3] 4⟩
   replace h:=ah g14 h;refine U ?_;refine bq O _ (aj _) ?_;refine zE 0 J (aw J) ?_;refine zE 1 J (aw J) ?_;obtain ⟨q15,h⟩:=aG h;refine zH 0 J (l:=(1:Int).toNat) (h:=p10.length) q15.2.1 q15.2.2 ?_;rintro A16 n16 c16 e16;refine zR 2 J (sv 1 J e16 J DS cC J (by rw [Int.toNat_of_nonneg q15.1];rfl) q15.2.1) ?_;refine zE 3 J (aT J) ?_;refine zE 4 J (aT J) ?_;refine bh O ?_;refine U ?_;exact ⟨m8,_,_,Eg _,⟨(lk a0.next_ (⟨p9,x12.Key,x13.Attrs⟩:D3)).getD 0,(p10.drop ((1:Int).toNat)).take (p10.length - (1:Int).toNat),A16,n16,c16,h,J,J⟩,sA,cS [0,2,3,4] 5⟩
  replace h:=ah g11 h;refine U ?_;exact ⟨_,_,⟨p9,p10,A10,n10,c10,h,J,J⟩,sA,cS [0,1,2,3] 4⟩
 rintro _ _ ⟨p6,p7,A7,n7,c7,h,rfl,rfl⟩;refine ax ?_;refine U ?_;refine gR (bu 0 J aP J DS) ?_;refine U ?_;refine gR (bu 1 J aA J DS) ?_;obtain ⟨q17,h⟩:=aG h;refine gE (iZ J J q17.1 q17.2) ?_;refine U ?_;refine aq J (fun g18=> ?_) (fun g18=> ?_)
 ·replace h:=ag g18 h;refine U ?_;obtain rfl:=am h;exact cw J J J (cS [3,1,2] 4) ⟨_,_,_,_,J,J⟩
 replace h:=ah g18 h;refine U ?_;refine aW (fun s L=> ∃p20 p21 p22 A21 n21 c21,kE N p20 p21 p22=some r∧s=[(6,iV 0),(7,iV 0),(8,iV p20)]∧L=[cf A21 n21 c21 p21,aD az bR M3 p22,ad B1 205 [I A21 n21 c21,.map (some M3)]]) ?_ ?_
 ·refine U ?_;refine gR (bu 0 J aP J DS) ?_;refine U ?_;refine bV (fun m s L=> ∃p24 p25 p26 p27 A26 n26 c26,gF N p7 m p24 p25 p26 p27=some r∧s=[(0,pV B1 0),(6,iV 0),(7,iV 0),(8,iV p24),(51,I A7 n7 c7),(52,iV (p7.length:Int)),(53,iV p25)]∧L=[ri A7 n7 c7 p7,cf A26 n26 c26 p26,aD az bR M3 p27,ad B1 205 [I A26 n26 c26,.map (some M3)]]) N _ _ ⟨p6,0,a0.shapes_,a0.next_,A2,n2,c2,h,J,J⟩ sA (cS [0,1,2,3] 4) ?_;rintro (_|m23) _ _ ⟨p24,p25,p26,p27,A26,n26,c26,h,rfl,rfl⟩
  ·exact bc h
  rw [gF.eq_2] at h;refine U ?_;refine ax ?_;refine aq J (fun g28=> ?_) (fun g28=> ?_)
  ·replace h:=ag g28 h;refine U ?_;refine ax ?_;refine U ?_;obtain ⟨x29,hx29,h⟩:=aa h;obtain ⟨lx29,ux29,hx29⟩:=aK hx29;refine gR (bi 0 J aP J J DS cC lx29 ux29) ?_;refine gR (bm (us:=[iV x29.Up,iV x29.Key.Kind,iV x29.Key.N,.string x29.Key.S,iV x29.Attrs,iV x29.Len]) 0 J aP J hx29 mM (fun _ _ _ h=>by rw [show _=_ from h];rfl)) ?_;refine gD (aF nt J) ?_;rintro _ _ ⟨B30,rfl,rfl⟩;refine gO (ao (us:=[iV x29.Up,iV x29.Key.Kind,iV x29.Key.N,.string x29.Key.S,iV x29.Attrs,iV x29.Len]) (cs':=[iV x29.Up,iV x29.Key.Kind,iV x29.Key.N,.string x29.Key.S,iV x29.Attrs,iV x29.Len]) 0 J J J J cC J J J) ?_;rintro _ _ rfl;refine U ?_;refine ax ?_;refine bq O _ (aj _) ?_;refine zE 0 J (aw J) ?_;refine zE 1 J (aR J) ?_;refine zE 2 J (bB J tp) ?_;refine zR 3 J (aO 4 J J wt J) ?_;refine zE 4 J (aw J) ?_;refine zE 5 J (bB J qM) ?_;refine zR 6 J (ab (us:=[iV x29.Key.Kind,iV x29.Key.N,.string x29.Key.S]) 0 J J bp J) ?_;refine zE 7 J (bB J ne) ?_;refine zR 8 J (aO 0 J J cv J) ?_;refine zE 9 J (aY J (pX _ _ _ _ _)) ?_;refine zE 10 J (aw J) ?_;refine zE 11 J (aR J) ?_;refine zE 12 J (cP J nd) ?_;refine zR 13 J (aO 4 J J ly J) ?_;refine zR 14 J (bu 2 J aA J DS) ?_;refine jN 15 J O O (qy (a:=(⟨p24,x29.Key,x29.Attrs⟩:D3)) (b:=(p26.length:Int)) 3 J J J J Tryz.underlying203 ti) ?_;rintro _ _ rfl
   refine bh O ?_;refine dT ?_;refine ax ?_;obtain ⟨x31,hx31,h⟩:=aa h;obtain ⟨lx31,ux31,hx31⟩:=aK hx31;obtain ⟨q32,h⟩:=aG h;refine eX (t:=[(0,pV B1 0),(6,iV 0),(7,iV 0),(8,iV p24),(13,pV B30 0),(51,I A7 n7 c7),(52,iV (p7.length:Int)),(53,iV p25)]) ?_ jd (aj _)
   refine f4 O 21 [0] [0,4,20] [72,73,74,75,76,77,78,79,80,81,82,83,84,85,86,87,88,89,90,91,92] [[],[],[1],[2],[3],[],[],[6],[],[8],[],[10],[11],[12],[],[13,14],[15],[16],[17],[5,7,9,18],[19]] [aV (pV B1 0),
aV (pV B1 0),
aV (pV B1 0),
aV (pV B1 0),
aV (I A26 n26 c26),
aV (iV p24),
aV (pV B30 1),
aV (.agg #[iV x29.Key.Kind,iV x29.Key.N,.string x29.Key.S]),
aV (pV B30 4),
aV (iV x29.Attrs),
aV (pV B1 0),
aV (pV B1 0),
aV (pV B1 0),
aV (I A26 n26 c26),
aV (iV p24),
aV (d3 (I A26 n26 c26) p24.toNat 6 0),
aV (d3 (I A26 n26 c26) p24.toNat 6 5),
aV (iV x31.Len),
aV (iV (x31.Len+1)),
aV (.agg #[iV p24,iV x29.Key.Kind,iV x29.Key.N,.string x29.Key.S,iV x29.Attrs,iV (x31.Len+1)]),
aX3 (fun (A34:Option Addr) (n34 c34:Nat)=> I A34 n34 c34) (fun A34 n34 c34=> [cf A34 n34 c34 ([(⟨p24,x29.Key,x29.Attrs,x31.Len+1⟩:Ed)]:List Ed)])] [] (aj _) (gt rfl iJ) O rfl rfl ?_ ?_ ?_
   ·refine gr J ?_ ?_
    ·exact nr (aw J) J (bn J (aj _))
    exact iI
   ·refine ap J ?_ ?_
    ·refine ja (bM (R:=pp) (vss:=[[iV p24,iV x29.Key.Kind,iV x29.Key.N,.string x29.Key.S,iV x29.Attrs,iV (x31.Len+1)]]) (xs:=[(⟨p24,x29.Key,x29.Attrs,x31.Len+1⟩:Ed)]) J (rI _ _ _ _ _ _) J J (fun _ _ hr=> .cons J All2.nil)) J ?_;rintro _ _ ⟨A33,n33,c33,rfl,rfl⟩;exact AC A33 n33 c33 (aj _)
    refine ap J ?_ ?_
    ·exact cq (aY J (sk _ _ _ _ _ _)) J (bn J (aj _))
    refine ap J ?_ ?_
    ·exact cq (bO J J q32.1 q32.2) J (bn J (aj _))
    refine ap J ?_ ?_
    ·exact fF (dp (u:=iV x31.Len) 2 J aA J hx31 cv (fun _ _ _ h=>by rw [show _=_ from h];rfl)) J (bn J (aj _))
    refine ap J ?_ ?_
    ·exact fF (mR 2 J aA J (bf lx31 ux31) qL) J (bn J (aj _))
    refine ap J ?_ ?_
    ·exact fF (bi 2 J aA J J DS cC lx31 ux31) J (bn J (aj _))
    refine ap J ?_ ?_
    ·exact cq (aw J) J (bn J (aj _))
    refine ap J ?_ ?_
    ·exact fF (aO 4 J J ly J) J (bn J (aj _))
    refine ap J ?_ ?_
    ·exact cq (cP J nd) J (bn J (aj _))
    refine ap J ?_ ?_
    ·exact cq (aR J) J (bn J (aj _))
    refine ap J ?_ ?_
    ·exact cq (aw J) J (bn J (aj _))
    refine ap J ?_ ?_
    ·exact fF (aO 0 J J cv J) J (bn J (aj _))
    refine ap J ?_ ?_
    ·exact cq (bB J ne) J (bn J (aj _))
    refine ap J ?_ ?_
    ·exact fF (ab (us:=[iV x29.Key.Kind,iV x29.Key.N,.string x29.Key.S]) 0 J J bp J) J (bn J (aj _))
    refine ap J ?_ ?_
    ·exact cq (bB J qM) J (bn J (aj _))
    refine ap J ?_ ?_
    ·exact cq (aw J) J (bn J (aj _))
    refine ap J ?_ ?_
    ·exact fF (aO 4 J J ly J) J (bn J (aj _))
    refine ap J ?_ ?_
    ·exact cq (cP J nd) J (bn J (aj _))
    refine ap J ?_ ?_
    ·exact cq (aR J) J (bn J (aj _))
    refine ap J ?_ ?_
    ·exact cq (aw J) J (bn J (aj _))
    refine ap J ?_ ?_
    ·exact cq (aw J) J (bn J (aj _))
    exact dJ
   intro A34 n34 c34;refine lU (t:=[(72,pV B1 0),(76,I A26 n26 c26),(92,I A34 n34 c34),(0,pV B1 0),(6,iV 0),(7,iV 0),(8,iV p24),(13,pV B30 0),(51,I A7 n7 c7),(52,iV (p7.length:Int)),(53,iV p25)]) (L':=[cf A34 n34 c34 ([(⟨p24,x29.Key,x29.Attrs,x31.Len+1⟩:Ed)]:List Ed),ad B30 201 [iV x29.Up,iV x29.Key.Kind,iV x29.Key.N,.string x29.Key.S,iV x29.Attrs,iV x29.Len],ri A7 n7 c7 p7,cf A26 n26 c26 p26,aD az bR M3 (zT p27 (⟨p24,x29.Key,x29.Attrs⟩:D3) (p26.length:Int)),ad B1 205 [I A26 n26 c26,.map (some M3)]]) ?_ jd (aj _);obtain ⟨q35,h⟩:=aG h;refine r7 21 J O (ct 3 0 J J aA J J DS CB J J q35) J J J ?_;rintro _ _ ⟨A36,n36,c36,rfl,rfl⟩;refine rg 22 J O (aR J) J J J ?_;refine rg 23 J O (cP J nd) J J J ?_;refine ns 24 J O (ao (us:=[I A36 n36 c36]) (cs':=[I A36 n36 c36,.map (some M3)]) 5 J J J J zZ J J J) J J ?_;rintro _ _ rfl;refine wX ?_;refine jb O ?_;refine U ?_;refine gR (bu 3 J aA J DS) ?_;obtain ⟨q37,h⟩:=aG h;refine gE (iZ J J q37.1 q37.2) ?_;refine U ?_;obtain ⟨q38,h⟩:=aG h;refine gE (bO J J q38.1 q38.2) ?_;refine U ?_
   exact ⟨m23,_,_,Eg _,⟨((p26++([(⟨p24,x29.Key,x29.Attrs,x31.Len+1⟩:Ed)]:List Ed)).length:Int) - 1,p25+1,p26++([(⟨p24,x29.Key,x29.Attrs,x31.Len+1⟩:Ed)]:List Ed),zT p27 (⟨p24,x29.Key,x29.Attrs⟩:D3) (p26.length:Int),A36,n36,c36,h,J,J⟩,sA,cS [2,3,4,5] 6⟩
  replace h:=ah g28 h;refine U ?_;exact ⟨_,_,⟨p24,p26,p27,A26,n26,c26,h,J,J⟩,sA,cS [1,2,3] 4⟩
 rintro _ _ ⟨p20,p21,p22,A21,n21,c21,h,rfl,rfl⟩;refine U ?_;obtain rfl:=am h;exact cw J J J (cS [2,0,1] 3) ⟨_,_,_,_,J,J⟩
def lq (N:Nat)(a0:D9)(a1:Int)(a2:DX)(a3:Int):Option (Int×Int×D9):=
 (eE N a0 a1 a2 a3).bind fun y5=>bif !decide (y5=0) then (some (0,y5,a0)) else ((d6 N a0 a1 a2).bind fun y7=>bif y7.2.2 then (some (0,4,a0)) else ((fS N a0 a1).bind fun y9=>bif decide (1024≤y9) then (some (0,9,a0)) else ((fQ N a0 a1 ([(⟨0,a2,a3,0⟩:Ed)]:List Ed)).bind fun y12=>some (y12.1,y12.2.1,y12.2.2))))
theorem pF {N:Nat}{a0:D9}{a1:Int}{a2:DX}{a3:Int}{r:(Int×Int×D9)}(h:lq N a0 a1 a2 a3=some r):Okc Tryz.prog 174 [pV B1 0,iV a1,.agg #[iV a2.Kind,iV a2.N,.string a2.S],iV a3] ([ad B1 205 [I A2 n2 c2,.map (some M3)],cf A2 n2 c2 a0.shapes_,aD az bR M3 a0.next_]) (fun u post=> ∃A0 n0 c0 M1,u=.tuple #[iV r.1,iV r.2.1]∧post=[ad B1 205 [I A0 n0 c0,.map (some M1)],cf A0 n0 c0 r.2.2.shapes_,aD az bR M1 r.2.2.next_]):=by
 refine be Tryz.func174 J J ?_;simp only [aM];refine U ?_;refine gD (aE J J) ?_;rintro _ _ ⟨B4,rfl,rfl⟩;refine U ?_;refine ax ?_;refine U ?_;refine gR (ab (us:=[iV a2.Kind,iV a2.N,.string a2.S]) 0 J J bp J) ?_;refine U ?_;obtain ⟨y5,hy5,h⟩:=aa h;refine gD (ak (ga hy5) vh J (hE (ar (i:=1) J) (hE (al (i:=2) J) (hE (aN (i:=3) J) ac))) fi) ?_;rintro _ _ ⟨_,⟨rfl,rfl⟩,rfl⟩;refine U ?_;refine aq J (fun g6=> ?_) (fun g6=> ?_)
 ·replace h:=ag g6 h;refine U ?_;obtain rfl:=am h;exact cw J J J (cS [1,2,3] 4) ⟨_,_,_,_,J,J⟩
 replace h:=ah g6 h;refine U ?_;refine ax ?_;refine U ?_;refine gR (ab (us:=[iV a2.Kind,iV a2.N,.string a2.S]) 0 J J bp J) ?_;obtain ⟨y7,hy7,h⟩:=aa h;refine gD (ak (eF hy7) sI J (hE (ar (i:=1) J) (hE (al (i:=2) J) (hE (aN (i:=3) J) ac))) ee) ?_;rintro _ _ ⟨_,⟨rfl,rfl⟩,rfl⟩;refine U ?_;refine aq J (fun g8=> ?_) (fun g8=> ?_)
 ·replace h:=ag g8 h;refine U ?_;obtain rfl:=am h;exact cw J J J (cS [1,2,3] 4) ⟨_,_,_,_,J,J⟩
 replace h:=ah g8 h;refine U ?_;refine ax ?_;refine U ?_;obtain ⟨y9,hy9,h⟩:=aa h;refine gD (ak (il hy9) vd J (hE (ar (i:=1) J) (hE (al (i:=2) J) (hE (aN (i:=3) J) ac))) gb) ?_;rintro _ _ ⟨_,⟨rfl,rfl⟩,rfl⟩;refine U ?_;refine aq J (fun g10=> ?_) (fun g10=> ?_)
 ·replace h:=ag g10 h;refine U ?_;obtain rfl:=am h;exact cw J J J (cS [1,2,3] 4) ⟨_,_,_,_,J,J⟩
 replace h:=ah g10 h;refine U ?_;refine gR (ab (us:=[iV a2.Kind,iV a2.N,.string a2.S]) 0 J J bp J) ?_;refine U ?_;refine gE (aY J (we _ _ _ _)) ?_;refine gD (bM (R:=pp) (vss:=[[iV 0,iV a2.Kind,iV a2.N,.string a2.S,iV a3,iV 0]]) (xs:=[(⟨0,a2,a3,0⟩:Ed)]) J (rI _ _ _ _ _ _) J J (fun _ _ hr=> .cons J All2.nil)) ?_;rintro _ _ ⟨A11,n11,c11,rfl,rfl⟩;refine jG (cy 0 J) ?_;obtain ⟨y12,hy12,h⟩:=aa h;refine gD (aB (ig hy12) ve J (ay [0] [2,3,4] [0,1] 5 J)) ?_;rintro _ _ ⟨_,⟨A13,n13,c13,M14,rfl,rfl⟩,rfl⟩;refine U ?_;obtain rfl:=am h;exact cw J J J (cS [0,1,2] 5) ⟨_,_,_,_,J,J⟩
end Go.Proofs.YtanojiedimeegaaGreatDoor