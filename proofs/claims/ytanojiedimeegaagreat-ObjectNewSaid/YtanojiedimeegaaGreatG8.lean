/- Merged texts: part 8. No conditions of their own. -/
import Derived.Test.YtanojiedimeegaaGreatG7
import Derived.Test.YtanojiedimeegaaGreatG1
import Derived.KernelRfl
namespace Go.Proofs.YtanojiedimeegaaGreat
section
variable {A10 A12 A13 A14 A3 A4 A5 A6:Option Addr} {B1 B2 B7 B9 M11 M8 c10 c12 c13 c14 c3 c4 c5 c6 n10 n12 n13 n14 n3 n4 n5 n6:Nat}
open Go.RowKit Asn
set_option maxRecDepth 20000
def om (N:Nat)(a0:zS)(a1:zK):Option Bool:=
 (bN N a1 32).bind fun y3=>(bif y3 then (some (!decide (aS .i64 a1.Attrs 4=0))) else (some false)).bind fun b4=>(bif b4 then (some true) else ((bN N a1 16).bind fun y6=>(bif y6 then (some (!decide (aS .i64 (te .i64 a1.Attrs a0.Attrs) 2=0))) else (some false)).bind fun b7=>some b7)).bind fun b5=>bif b5 then (some true) else (bif !decide (aS .i64 a0.Attrs 8=0) then ((bN N a1 3).bind fun y10=>(bif y10 then (some true) else ((bN N a1 4).bind fun y12=>(bif y12 then ((iN N a1.Get a0.Get).bind fun y14=>some (!y14)) else (some false)).bind fun b13=>some b13)).bind fun b11=>(bif b11 then (some true) else ((bN N a1 8).bind fun y16=>(bif y16 then ((iN N a1.Set a0.Set).bind fun y18=>some (!y18)) else (some false)).bind fun b17=>some b17)).bind fun b15=>some b15) else ((bN N a1 12).bind fun y19=>bif y19 then (some true) else ((bif decide (aS .i64 a0.Attrs 1=0) then ((bN N a1 2).bind fun y22=>(bif y22 then (some (!decide (aS .i64 a1.Attrs 1=0))) else (some false)).bind fun b23=>(bif b23 then (some true) else ((bN N a1 1).bind fun y25=>(bif y25 then ((iN N a1.Value a0.Value).bind fun y27=>some (!y27)) else (some false)).bind fun b26=>some b26)).bind fun b24=>some b24) else (some false)).bind fun b21=>some b21)))
set_option maxHeartbeats 4000000 in
theorem qQ {N:Nat}{a0:zS}{a1:zK}{r:Bool}(h:om N a0 a1=some r):Okc Tryz.prog 73 [.agg #[iV a0.Key.Kind,iV a0.Key.N,.string a0.Key.S,iV a0.Attrs,iV a0.Value.Kind,iV a0.Value.N,.string a0.Value.S,iV a0.Get.Kind,iV a0.Get.N,.string a0.Get.S,iV a0.Set.Kind,iV a0.Set.N,.string a0.Set.S],.agg #[iV a1.Has,iV a1.Attrs,iV a1.Value.Kind,iV a1.Value.N,.string a1.Value.S,iV a1.Get.Kind,iV a1.Get.N,.string a1.Get.S,iV a1.Set.Kind,iV a1.Set.N,.string a1.Set.S]] ([]) (fun u post=>u=.bool r∧post=[]):=by
 refine bm Tryz.func73 J J ?_;simp only [aP];refine I ?_;refine gD (aO J J) ?_;rintro _ _ ⟨B1,rfl,rfl⟩;refine gD (aO J J) ?_;rintro _ _ ⟨B2,rfl,rfl⟩;refine I ?_;refine ax ?_;refine I ?_;refine gR (am (us:=[iV a1.Has,iV a1.Attrs,iV a1.Value.Kind,iV a1.Value.N,.string a1.Value.S,iV a1.Get.Kind,iV a1.Get.N,.string a1.Get.S,iV a1.Set.Kind,iV a1.Set.N,.string a1.Set.S]) 0 J J eL J) ?_;obtain ⟨y3,hy3,h⟩:=aa h;refine gD (aj (bI hy3) fe J (ae) br) ?_;rintro _ _ ⟨_,⟨rfl,rfl⟩,rfl⟩;refine I ?_;obtain ⟨b4,hb4,h⟩:=aa h;refine az 5 12 b4 ?_ ?_
 ·clear h;refine ay 7 J (fun g4=> ?_) (fun g4=> ?_)
  ·have h:=ag g4 hb4;refine I ?_;refine fX (bB J J) J (aK g4 J) J ?_;refine I ?_;obtain rfl:=ak h;exact ac sA (cS [0,1] 2)
  have h:=ah g4 hb4;refine I ?_;obtain rfl:=ak h;exact ac sA (cS [0,1] 2)
 refine I ?_;obtain ⟨b5,hb5,h⟩:=aa h;refine az 12 25 b5 ?_ ?_
 ·clear h;refine ay 13 J (fun g5=> ?_) (fun g5=> ?_)
  ·have h:=ag g5 hb5;refine I ?_;obtain rfl:=ak h;exact ac sA (cS [0,1] 2)
  have h:=ah g5 hb5;refine bC (am (us:=[iV a1.Has,iV a1.Attrs,iV a1.Value.Kind,iV a1.Value.N,.string a1.Value.S,iV a1.Get.Kind,iV a1.Get.N,.string a1.Get.S,iV a1.Set.Kind,iV a1.Set.N,.string a1.Set.S]) 0 J J eL J) J (eI g5 J) J ?_;obtain ⟨y6,hy6,h⟩:=aa h;refine ck (aj (bI hy6) fe J (ae) br) J (eI g5 J) J ?_;rintro _ _ ⟨_,⟨rfl,rfl⟩,rfl⟩;refine I ?_;obtain ⟨b7,hb7,h⟩:=aa h;refine az 8 24 b7 ?_ ?_
  ·clear h;refine ay 16 J (fun g7=> ?_) (fun g7=> ?_)
   ·have h:=ag g7 hb7;refine I ?_;refine fX (r6 J J) J (aK g7 J) J ?_;refine fX (bB J J) J (aK g7 J) J ?_;refine I ?_;obtain rfl:=ak h;exact ac sA (cS [0,1] 2)
   have h:=ah g7 hb7;refine I ?_;obtain rfl:=ak h;exact ac sA (cS [0,1] 2)
  refine I ?_;obtain rfl:=ak h;exact ac sA (cS [0,1] 2)
 refine I ?_;refine ar J (fun g8=> ?_) (fun g8=> ?_)
 ·replace h:=ag g8 h;refine I ?_;obtain rfl:=ak h;exact aF J J (cS [] 2) ⟨J,J⟩
 replace h:=ah g8 h;refine I ?_;refine ax ?_;refine I ?_;refine gE (bB J J) ?_;refine I ?_;refine ar J (fun g9=> ?_) (fun g9=> ?_)
 ·replace h:=ag g9 h;refine I ?_;refine gR (am (us:=[iV a1.Has,iV a1.Attrs,iV a1.Value.Kind,iV a1.Value.N,.string a1.Value.S,iV a1.Get.Kind,iV a1.Get.N,.string a1.Get.S,iV a1.Set.Kind,iV a1.Set.N,.string a1.Set.S]) 0 J J eL J) ?_;obtain ⟨y10,hy10,h⟩:=aa h;refine gD (aj (bI hy10) fe J (ae) br) ?_;rintro _ _ ⟨_,⟨rfl,rfl⟩,rfl⟩;refine I ?_;obtain ⟨b11,hb11,h⟩:=aa h;refine az 11 43 b11 ?_ ?_
  ·clear h;refine ay 32 J (fun g11=> ?_) (fun g11=> ?_)
   ·have h:=ag g11 hb11;refine I ?_;obtain rfl:=ak h;exact ac sA (cS [0,1] 2)
   have h:=ah g11 hb11;refine bC (am (us:=[iV a1.Has,iV a1.Attrs,iV a1.Value.Kind,iV a1.Value.N,.string a1.Value.S,iV a1.Get.Kind,iV a1.Get.N,.string a1.Get.S,iV a1.Set.Kind,iV a1.Set.N,.string a1.Set.S]) 0 J J eL J) J (eI g11 J) J ?_;obtain ⟨y12,hy12,h⟩:=aa h;refine ck (aj (bI hy12) fe J (ae) br) J (eI g11 J) J ?_;rintro _ _ ⟨_,⟨rfl,rfl⟩,rfl⟩;refine I ?_;obtain ⟨b13,hb13,h⟩:=aa h;refine az 7 42 b13 ?_ ?_
   ·clear h;refine ay 35 J (fun g13=> ?_) (fun g13=> ?_)
    ·have h:=ag g13 hb13;refine I ?_;refine bC (am (us:=[iV a1.Get.Kind,iV a1.Get.N,.string a1.Get.S]) 0 J J aL J) J (aK g13 J) J ?_;refine I ?_;refine bC (am (us:=[iV a0.Get.Kind,iV a0.Get.N,.string a0.Get.S]) 1 J J aL J) J (aK g13 J) J ?_;obtain ⟨y14,hy14,h⟩:=aa h;refine ck (aj (jI hy14) sa J (ae) ig) J (aK g13 J) J ?_;rintro _ _ ⟨_,⟨rfl,rfl⟩,rfl⟩;refine I ?_;obtain rfl:=ak h;exact ac sA (cS [0,1] 2)
    have h:=ah g13 hb13;refine I ?_;obtain rfl:=ak h;exact ac sA (cS [0,1] 2)
   refine I ?_;obtain rfl:=ak h;exact ac sA (cS [0,1] 2)
  refine I ?_;obtain ⟨b15,hb15,h⟩:=aa h;refine az 11 55 b15 ?_ ?_
  ·clear h;refine ay 44 J (fun g15=> ?_) (fun g15=> ?_)
   ·have h:=ag g15 hb15;refine I ?_;obtain rfl:=ak h;exact ac sA (cS [0,1] 2)
   have h:=ah g15 hb15;refine bC (am (us:=[iV a1.Has,iV a1.Attrs,iV a1.Value.Kind,iV a1.Value.N,.string a1.Value.S,iV a1.Get.Kind,iV a1.Get.N,.string a1.Get.S,iV a1.Set.Kind,iV a1.Set.N,.string a1.Set.S]) 0 J J eL J) J (eI g15 J) J ?_;obtain ⟨y16,hy16,h⟩:=aa h;refine ck (aj (bI hy16) fe J (ae) br) J (eI g15 J) J ?_;rintro _ _ ⟨_,⟨rfl,rfl⟩,rfl⟩;refine I ?_;obtain ⟨b17,hb17,h⟩:=aa h;refine az 7 54 b17 ?_ ?_
   ·clear h;refine ay 47 J (fun g17=> ?_) (fun g17=> ?_)
    ·have h:=ag g17 hb17;refine I ?_;refine bC (am (us:=[iV a1.Set.Kind,iV a1.Set.N,.string a1.Set.S]) 0 J J aL J) J (aK g17 J) J ?_;refine I ?_;refine bC (am (us:=[iV a0.Set.Kind,iV a0.Set.N,.string a0.Set.S]) 1 J J aL J) J (aK g17 J) J ?_;obtain ⟨y18,hy18,h⟩:=aa h;refine ck (aj (jI hy18) sa J (ae) ig) J (aK g17 J) J ?_;rintro _ _ ⟨_,⟨rfl,rfl⟩,rfl⟩;refine I ?_;obtain rfl:=ak h;exact ac sA (cS [0,1] 2)
    have h:=ah g17 hb17;refine I ?_;obtain rfl:=ak h;exact ac sA (cS [0,1] 2)
   refine I ?_;obtain rfl:=ak h;exact ac sA (cS [0,1] 2)
  refine I ?_;obtain rfl:=ak h;exact aF J J (cS [] 2) ⟨J,J⟩
 replace h:=ah g9 h;refine I ?_;refine ax ?_;refine I ?_;refine gR (am (us:=[iV a1.Has,iV a1.Attrs,iV a1.Value.Kind,iV a1.Value.N,.string a1.Value.S,iV a1.Get.Kind,iV a1.Get.N,.string a1.Get.S,iV a1.Set.Kind,iV a1.Set.N,.string a1.Set.S]) 0 J J eL J) ?_;obtain ⟨y19,hy19,h⟩:=aa h;refine gD (aj (bI hy19) fe J (ae) br) ?_;rintro _ _ ⟨_,⟨rfl,rfl⟩,rfl⟩;refine I ?_;refine ar J (fun g20=> ?_) (fun g20=> ?_)
 ·replace h:=ag g20 h;refine I ?_;obtain rfl:=ak h;exact aF J J (cS [] 2) ⟨J,J⟩
 replace h:=ah g20 h;refine I ?_;refine gE (bB J J) ?_;refine I ?_;obtain ⟨b21,hb21,h⟩:=aa h;refine az 21 83 b21 ?_ ?_
 ·clear h;refine ay 62 J (fun g21=> ?_) (fun g21=> ?_)
  ·have h:=ag g21 hb21;refine bC (am (us:=[iV a1.Has,iV a1.Attrs,iV a1.Value.Kind,iV a1.Value.N,.string a1.Value.S,iV a1.Get.Kind,iV a1.Get.N,.string a1.Get.S,iV a1.Set.Kind,iV a1.Set.N,.string a1.Set.S]) 0 J J eL J) J (aK g21 J) J ?_;obtain ⟨y22,hy22,h⟩:=aa h;refine ck (aj (bI hy22) fe J (ae) br) J (aK g21 J) J ?_;rintro _ _ ⟨_,⟨rfl,rfl⟩,rfl⟩;refine I ?_;obtain ⟨b23,hb23,h⟩:=aa h;refine az 5 70 b23 ?_ ?_
   ·clear h;refine ay 65 J (fun g23=> ?_) (fun g23=> ?_)
    ·have h:=ag g23 hb23;refine I ?_;refine fX (bB J J) J (aK g23 J) J ?_;refine I ?_;obtain rfl:=ak h;exact ac sA (cS [0,1] 2)
    have h:=ah g23 hb23;refine I ?_;obtain rfl:=ak h;exact ac sA (cS [0,1] 2)
   refine I ?_;obtain ⟨b24,hb24,h⟩:=aa h;refine az 11 82 b24 ?_ ?_
   ·clear h;refine ay 71 J (fun g24=> ?_) (fun g24=> ?_)
    ·have h:=ag g24 hb24;refine I ?_;obtain rfl:=ak h;exact ac sA (cS [0,1] 2)
    have h:=ah g24 hb24;refine bC (am (us:=[iV a1.Has,iV a1.Attrs,iV a1.Value.Kind,iV a1.Value.N,.string a1.Value.S,iV a1.Get.Kind,iV a1.Get.N,.string a1.Get.S,iV a1.Set.Kind,iV a1.Set.N,.string a1.Set.S]) 0 J J eL J) J (eI g24 J) J ?_;obtain ⟨y25,hy25,h⟩:=aa h;refine ck (aj (bI hy25) fe J (ae) br) J (eI g24 J) J ?_;rintro _ _ ⟨_,⟨rfl,rfl⟩,rfl⟩;refine I ?_;obtain ⟨b26,hb26,h⟩:=aa h;refine az 7 81 b26 ?_ ?_
    ·clear h;refine ay 74 J (fun g26=> ?_) (fun g26=> ?_)
     ·have h:=ag g26 hb26;refine I ?_;refine bC (am (us:=[iV a1.Value.Kind,iV a1.Value.N,.string a1.Value.S]) 0 J J aL J) J (aK g26 J) J ?_;refine I ?_;refine bC (am (us:=[iV a0.Value.Kind,iV a0.Value.N,.string a0.Value.S]) 1 J J aL J) J (aK g26 J) J ?_;obtain ⟨y27,hy27,h⟩:=aa h;refine ck (aj (jI hy27) sa J (ae) ig) J (aK g26 J) J ?_;rintro _ _ ⟨_,⟨rfl,rfl⟩,rfl⟩;refine I ?_;obtain rfl:=ak h;exact ac sA (cS [0,1] 2)
     have h:=ah g26 hb26;refine I ?_;obtain rfl:=ak h;exact ac sA (cS [0,1] 2)
    refine I ?_;obtain rfl:=ak h;exact ac sA (cS [0,1] 2)
   refine I ?_;obtain rfl:=ak h;exact ac sA (cS [0,1] 2)
  have h:=ah g21 hb21;refine I ?_;obtain rfl:=ak h;exact ac sA (cS [0,1] 2)
 refine I ?_;obtain rfl:=ak h;exact aF J J (cS [] 2) ⟨J,J⟩
theorem pB {r:Bool}: ∀v post,((fun (u:Value) (post:List Chunk)=>u=.bool r∧post=[])) v post→ ∀c∈post,bJ c:=by
 rintro _ _ ⟨rfl,rfl⟩;exact ae
def nm (N:Nat)(a0:zS)(a1:Bool)(a2:Bool)(a3:zV)(a4:zK):Option (zS×Bool):=
 bif !a1 then (bif !a2 then (some ((⟨(⟨0,0,⟨#[]⟩⟩:zV),0,(⟨0,0,⟨#[]⟩⟩:zT),(⟨0,0,⟨#[]⟩⟩:zT),(⟨0,0,⟨#[]⟩⟩:zT)⟩:zS),false)) else ((oo N a4 a3).bind fun y7=>some (y7,true))) else ((bif decide (aS .i64 a0.Attrs 4=0) then ((om N a0 a4).bind fun y9=>some y9) else (some false)).bind fun b8=>bif b8 then (some ((⟨(⟨0,0,⟨#[]⟩⟩:zV),0,(⟨0,0,⟨#[]⟩⟩:zT),(⟨0,0,⟨#[]⟩⟩:zT),(⟨0,0,⟨#[]⟩⟩:zT)⟩:zS),false)) else ((jF N a0 a3 a4).bind fun y11=>some (y11,true)))
theorem pX {N:Nat}{a0:zS}{a1:Bool}{a2:Bool}{a3:zV}{a4:zK}{r:(zS×Bool)}(h:nm N a0 a1 a2 a3 a4=some r):Okc Tryz.prog 53 [.agg #[iV a0.Key.Kind,iV a0.Key.N,.string a0.Key.S,iV a0.Attrs,iV a0.Value.Kind,iV a0.Value.N,.string a0.Value.S,iV a0.Get.Kind,iV a0.Get.N,.string a0.Get.S,iV a0.Set.Kind,iV a0.Set.N,.string a0.Set.S],.bool a1,.bool a2,.agg #[iV a3.Kind,iV a3.N,.string a3.S],.agg #[iV a4.Has,iV a4.Attrs,iV a4.Value.Kind,iV a4.Value.N,.string a4.Value.S,iV a4.Get.Kind,iV a4.Get.N,.string a4.Get.S,iV a4.Set.Kind,iV a4.Set.N,.string a4.Set.S]] ([]) (fun u post=>u=.tuple #[.agg #[iV r.1.Key.Kind,iV r.1.Key.N,.string r.1.Key.S,iV r.1.Attrs,iV r.1.Value.Kind,iV r.1.Value.N,.string r.1.Value.S,iV r.1.Get.Kind,iV r.1.Get.N,.string r.1.Get.S,iV r.1.Set.Kind,iV r.1.Set.N,.string r.1.Set.S],.bool r.2]∧post=[]):=by
 refine bm Tryz.func53 J J ?_;simp only [aP];refine I ?_;refine gD (aO J J) ?_;rintro _ _ ⟨B1,rfl,rfl⟩;refine gD (aO J J) ?_;rintro _ _ ⟨B2,rfl,rfl⟩;refine gD (aO J J) ?_;rintro _ _ ⟨B3,rfl,rfl⟩;refine gD (aM jz J) ?_;rintro _ _ ⟨B4,rfl,rfl⟩;refine I ?_;refine ax ?_;refine I ?_;refine ar J (fun g5=> ?_) (fun g5=> ?_)
 ·replace h:=ag g5 h;refine ax ?_;refine I ?_;refine ar J (fun g6=> ?_) (fun g6=> ?_)
  ·replace h:=ag g6 h;refine I ?_;refine gE (aI J (o0)) ?_;refine gO (ap (us:=[iV 0,iV 0,.string (⟨#[]⟩),iV 0,iV 0,iV 0,.string (⟨#[]⟩),iV 0,iV 0,.string (⟨#[]⟩),iV 0,iV 0,.string (⟨#[]⟩)]) (cs':=[iV 0,iV 0,.string (⟨#[]⟩),iV 0,iV 0,iV 0,.string (⟨#[]⟩),iV 0,iV 0,.string (⟨#[]⟩),iV 0,iV 0,.string (⟨#[]⟩)]) 0 J J J J eg J J J) ?_;rintro _ _ rfl;refine I ?_;obtain rfl:=ak h;exact bM (rs:=[.cell 10 52,.tmp 11]) (vs:=[.agg #[iV 0,iV 0,.string (⟨#[]⟩),iV 0,iV 0,iV 0,.string (⟨#[]⟩),iV 0,iV 0,.string (⟨#[]⟩),iV 0,iV 0,.string (⟨#[]⟩)],.bool false]) J (.cons (bf 0 J J fi) (.cons (db J) .nil)) J (cS [] 4) ⟨J,J⟩
  replace h:=ah g6 h;refine I ?_;refine gR (am (us:=[iV a4.Has,iV a4.Attrs,iV a4.Value.Kind,iV a4.Value.N,.string a4.Value.S,iV a4.Get.Kind,iV a4.Get.N,.string a4.Get.S,iV a4.Set.Kind,iV a4.Set.N,.string a4.Set.S]) 1 J J eL J) ?_;refine gR (am (us:=[iV a3.Kind,iV a3.N,.string a3.S]) 2 J J cR J) ?_;obtain ⟨y7,hy7,h⟩:=aa h;refine gD (aj (qR hy7) xy J (ae) pC) ?_;rintro _ _ ⟨_,⟨rfl,rfl⟩,rfl⟩;refine gO (ap (us:=[iV y7.Key.Kind,iV y7.Key.N,.string y7.Key.S,iV y7.Attrs,iV y7.Value.Kind,iV y7.Value.N,.string y7.Value.S,iV y7.Get.Kind,iV y7.Get.N,.string y7.Get.S,iV y7.Set.Kind,iV y7.Set.N,.string y7.Set.S]) (cs':=[iV y7.Key.Kind,iV y7.Key.N,.string y7.Key.S,iV y7.Attrs,iV y7.Value.Kind,iV y7.Value.N,.string y7.Value.S,iV y7.Get.Kind,iV y7.Get.N,.string y7.Get.S,iV y7.Set.Kind,iV y7.Set.N,.string y7.Set.S]) 0 J J J J eg J J J) ?_;rintro _ _ rfl;refine I ?_;obtain rfl:=ak h;exact bM (rs:=[.cell 10 52,.tmp 11]) (vs:=[.agg #[iV y7.Key.Kind,iV y7.Key.N,.string y7.Key.S,iV y7.Attrs,iV y7.Value.Kind,iV y7.Value.N,.string y7.Value.S,iV y7.Get.Kind,iV y7.Get.N,.string y7.Get.S,iV y7.Set.Kind,iV y7.Set.N,.string y7.Set.S],.bool true]) J (.cons (bf 0 J J fi) (.cons (db J) .nil)) J (cS [] 4) ⟨J,J⟩
 replace h:=ah g5 h;refine I ?_;refine ax ?_;refine I ?_;refine gE (bB J J) ?_;refine I ?_;obtain ⟨b8,hb8,h⟩:=aa h;refine az 4 28 b8 ?_ ?_
 ·clear h;refine ay 24 J (fun g8=> ?_) (fun g8=> ?_)
  ·have h:=ag g8 hb8;refine bC (am (us:=[iV a0.Key.Kind,iV a0.Key.N,.string a0.Key.S,iV a0.Attrs,iV a0.Value.Kind,iV a0.Value.N,.string a0.Value.S,iV a0.Get.Kind,iV a0.Get.N,.string a0.Get.S,iV a0.Set.Kind,iV a0.Set.N,.string a0.Set.S]) 3 J J fi J) J (aK g8 J) J ?_;refine bC (am (us:=[iV a4.Has,iV a4.Attrs,iV a4.Value.Kind,iV a4.Value.N,.string a4.Value.S,iV a4.Get.Kind,iV a4.Get.N,.string a4.Get.S,iV a4.Set.Kind,iV a4.Set.N,.string a4.Set.S]) 1 J J eL J) J (aK g8 J) J ?_;obtain ⟨y9,hy9,h⟩:=aa h;refine ck (aj (qQ hy9) xx J (ae) pB) J (aK g8 J) J ?_;rintro _ _ ⟨_,⟨rfl,rfl⟩,rfl⟩;refine I ?_;obtain rfl:=ak h;exact ac sA (cS [0,1,2,3] 4)
  have h:=ah g8 hb8;refine I ?_;obtain rfl:=ak h;exact ac sA (cS [0,1,2,3] 4)
 refine I ?_;refine ar J (fun g10=> ?_) (fun g10=> ?_)
 ·replace h:=ag g10 h;refine I ?_;refine gE (aI J (o0)) ?_;refine gO (ap (us:=[iV 0,iV 0,.string (⟨#[]⟩),iV 0,iV 0,iV 0,.string (⟨#[]⟩),iV 0,iV 0,.string (⟨#[]⟩),iV 0,iV 0,.string (⟨#[]⟩)]) (cs':=[iV 0,iV 0,.string (⟨#[]⟩),iV 0,iV 0,iV 0,.string (⟨#[]⟩),iV 0,iV 0,.string (⟨#[]⟩),iV 0,iV 0,.string (⟨#[]⟩)]) 0 J J J J eg J J J) ?_;rintro _ _ rfl;refine bQ ?_;refine I ?_;obtain rfl:=ak h;exact bM (rs:=[.cell 10 52,.tmp 11]) (vs:=[.agg #[iV 0,iV 0,.string (⟨#[]⟩),iV 0,iV 0,iV 0,.string (⟨#[]⟩),iV 0,iV 0,.string (⟨#[]⟩),iV 0,iV 0,.string (⟨#[]⟩)],.bool false]) J (.cons (bf 0 J J fi) (.cons (db J) .nil)) J (cS [] 4) ⟨J,J⟩
 replace h:=ah g10 h;refine I ?_;refine gR (am (us:=[iV a0.Key.Kind,iV a0.Key.N,.string a0.Key.S,iV a0.Attrs,iV a0.Value.Kind,iV a0.Value.N,.string a0.Value.S,iV a0.Get.Kind,iV a0.Get.N,.string a0.Get.S,iV a0.Set.Kind,iV a0.Set.N,.string a0.Set.S]) 3 J J fi J) ?_;refine gR (am (us:=[iV a3.Kind,iV a3.N,.string a3.S]) 2 J J cR J) ?_;refine gR (am (us:=[iV a4.Has,iV a4.Attrs,iV a4.Value.Kind,iV a4.Value.N,.string a4.Value.S,iV a4.Get.Kind,iV a4.Get.N,.string a4.Get.S,iV a4.Set.Kind,iV a4.Set.N,.string a4.Set.S]) 1 J J eL J) ?_;obtain ⟨y11,hy11,h⟩:=aa h;refine gD (aj (lm hy11) uv J (ae) kb) ?_;rintro _ _ ⟨_,⟨rfl,rfl⟩,rfl⟩;refine gO (ap (us:=[iV y11.Key.Kind,iV y11.Key.N,.string y11.Key.S,iV y11.Attrs,iV y11.Value.Kind,iV y11.Value.N,.string y11.Value.S,iV y11.Get.Kind,iV y11.Get.N,.string y11.Get.S,iV y11.Set.Kind,iV y11.Set.N,.string y11.Set.S]) (cs':=[iV y11.Key.Kind,iV y11.Key.N,.string y11.Key.S,iV y11.Attrs,iV y11.Value.Kind,iV y11.Value.N,.string y11.Value.S,iV y11.Get.Kind,iV y11.Get.N,.string y11.Get.S,iV y11.Set.Kind,iV y11.Set.N,.string y11.Set.S]) 0 J J J J eg J J J) ?_;rintro _ _ rfl;refine I ?_;obtain rfl:=ak h
 exact bM (rs:=[.cell 10 52,.tmp 11]) (vs:=[.agg #[iV y11.Key.Kind,iV y11.Key.N,.string y11.Key.S,iV y11.Attrs,iV y11.Value.Kind,iV y11.Value.N,.string y11.Value.S,iV y11.Get.Kind,iV y11.Get.N,.string y11.Get.S,iV y11.Set.Kind,iV y11.Set.N,.string y11.Set.S],.bool true]) J (.cons (bf 0 J J fi) (.cons (db J) .nil)) J (cS [] 4) ⟨J,J⟩
theorem oM {r:(zS×Bool)}: ∀v post,((fun (u:Value) (post:List Chunk)=>u=.tuple #[.agg #[iV r.1.Key.Kind,iV r.1.Key.N,.string r.1.Key.S,iV r.1.Attrs,iV r.1.Value.Kind,iV r.1.Value.N,.string r.1.Value.S,iV r.1.Get.Kind,iV r.1.Get.N,.string r.1.Get.S,iV r.1.Set.Kind,iV r.1.Set.N,.string r.1.Set.S],.bool r.2]∧post=[])) v post→ ∀c∈post,bJ c:=by
 rintro _ _ ⟨rfl,rfl⟩;exact ae
def kB (N:Nat)(a0:zP)(a1:zT)(a2:zV)(a3:zK):Option (Bool×zP):=
 (cx N a0 a1).bind fun y18=>rl y18 (fun y18_0=>some (false,a0)) (fun y18_1=>(gP N a2).bind fun y36=>bif !y36 then (some (false,a0)) else ((fx N (⟨y18_1.Cell,a0,y18_1.at_⟩:zM) a2).bind fun y38=>(nm N y38.1 y38.2.2 (!decide (aS .i64 y18_1.Cell.Flags 1=0)) a2 a3).bind fun y40=>bif y40.2 then ((fA N (⟨y18_1.Cell,a0,y18_1.at_⟩:zM) y40.1).bind fun y44=>some (y44.1,y44.2.w_)) else (some (false,a0))))
theorem nH {N:Nat}{a0:zP}{a1:zT}{a2:zV}{a3:zK}{r:(Bool×zP)}(h:kB N a0 a1 a2 a3=some r):Okc Tryz.prog 20 [pV B1 0,.agg #[iV a1.Kind,iV a1.N,.string a1.S],.agg #[iV a2.Kind,iV a2.N,.string a2.S],.agg #[iV a3.Has,iV a3.Attrs,iV a3.Value.Kind,iV a3.Value.N,.string a3.Value.S,iV a3.Get.Kind,iV a3.Get.N,.string a3.Get.S,iV a3.Set.Kind,iV a3.Set.N,.string a3.Set.S]] ([bv A12 n12 c12 a0.symbols_,cY A13 n13 c13 a0.events_,bv A14 n14 c14 a0.out_,al B1 73 [iV a0.spent_.steps_,iV a0.spent_.made_,iV a0.spent_.calls_,iV a0.config_.Way,iV a0.config_.Steps,iV a0.config_.Calls,iV a0.config_.Made,iV a0.config_.Young,iV a0.config_.Full,iV a0.config_.Sites,.nilIface,pV B2 0,pV B9 0,Y A12 n12 c12,iV a0.epoch_,iV a0.serial_,iV a0.sleepers_,Y A13 n13 c13,Y A14 n14 c14],al B2 99 [Y A3 n3 c3,Y A4 n4 c4,Y A5 n5 c5,Y A6 n6 c6,pV B7 0],bL A3 n3 c3 a0.heap_.m_.Young,bL A4 n4 c4 a0.heap_.m_.Old,aY A5 n5 c5 a0.heap_.roots_,aY A6 n6 c6 a0.heap_.pending_,al B7 143 [.map (some M8)],aQ dc dj M8 a0.heap_.set_.at_,al B9 118 [Y A10 n10 c10,.map (some M11)],dG A10 n10 c10 a0.shapes_.shapes_,aQ aJ di M11 a0.shapes_.next_]) (fun u post=> ∃A0 n0 c0 A1 n1 c1 A2 n2 c2 A3 n3 c3 M4 A5 n5 c5 M6 A7 n7 c7 A8 n8 c8 A9 n9 c9,u=.bool r.1∧post=[al B1 73 [iV r.2.spent_.steps_,iV r.2.spent_.made_,iV r.2.spent_.calls_,iV r.2.config_.Way,iV r.2.config_.Steps,iV r.2.config_.Calls,iV r.2.config_.Made,iV r.2.config_.Young,iV r.2.config_.Full,iV r.2.config_.Sites,.nilIface,pV B2 0,pV B9 0,Y A7 n7 c7,iV r.2.epoch_,iV r.2.serial_,iV r.2.sleepers_,Y A8 n8 c8,Y A9 n9 c9],al B2 99 [Y A0 n0 c0,Y A1 n1 c1,Y A2 n2 c2,Y A3 n3 c3,pV B7 0],bL A0 n0 c0 r.2.heap_.m_.Young,bL A1 n1 c1 r.2.heap_.m_.Old,aY A2 n2 c2 r.2.heap_.roots_,aY A3 n3 c3 r.2.heap_.pending_,al B7 143 [.map (some M4)],aQ dc dj M4 r.2.heap_.set_.at_,al B9 118 [Y A5 n5 c5,.map (some M6)],dG A5 n5 c5 r.2.shapes_.shapes_,aQ aJ di M6 r.2.shapes_.next_,bv A7 n7 c7 r.2.symbols_,cY A8 n8 c8 r.2.events_,bv A9 n9 c9 r.2.out_]):=by
 refine bm Tryz.func20 J J ?_;simp only [aP];refine I ?_;refine gD (aO J J) ?_;rintro _ _ ⟨B15,rfl,rfl⟩;refine gD (aO J J) ?_;rintro _ _ ⟨B16,rfl,rfl⟩;refine gD (aO J J) ?_;rintro _ _ ⟨B17,rfl,rfl⟩;refine I ?_;refine gR (am (us:=[iV a1.Kind,iV a1.N,.string a1.S]) 2 J J aL J) ?_;obtain ⟨y18,hy18,h⟩:=aa h;rcases y18 with y18_0|y18_1
 ·replace h:=rR h;refine gD (aG (bi hy18) dp J (aE [3,4,5] [6,7,8,9,10,11,12,13,14,15,16] [0,1,2,3,4,5] 17 J)) ?_;rintro _ _ ⟨_,⟨rfl,rfl⟩,rfl⟩;refine I ?_;refine ax ?_;refine I ?_;refine da J ?_;refine I ?_;obtain rfl:=ak h;exact aF J J (cS [0,1,2,3,4,5,6,7,8,9,10,14,15,16] 17) ⟨_,_,_,_,_,_,_,_,_,_,_,_,_,_,_,_,_,_,_,_,_,_,_,_,_,_,J,J⟩
 replace h:=rQ h;refine gD (aG (bi hy18) dp J (aE [3,4,5] [6,7,8,9,10,11,12,13,14,15,16] [0,1,2,3,4,5] 17 J)) ?_;rintro _ _ ⟨_,⟨B19,A20,n20,c20,A21,n21,c21,rfl,rfl⟩,rfl⟩;refine I ?_;refine ax ?_;refine I ?_;refine gR (am (us:=[iV a2.Kind,iV a2.N,.string a2.S]) 15 J J cR J) ?_;obtain ⟨y36,hy36,h⟩:=aa h;refine gD (aj (iI hy36) qV J (ae) fN) ?_;rintro _ _ ⟨_,⟨rfl,rfl⟩,rfl⟩;refine I ?_;refine ar J (fun g37=> ?_) (fun g37=> ?_)
 ·replace h:=ag g37 h;refine I ?_;obtain rfl:=ak h;exact aF J J (cS [3,4,5,6,7,8,9,10,11,12,13,17,18,19] 20) ⟨_,_,_,_,_,_,_,_,_,_,_,_,_,_,_,_,_,_,_,_,_,_,_,_,_,_,J,J⟩
 replace h:=ah g37 h;refine I ?_;refine gR (am (us:=[iV a2.Kind,iV a2.N,.string a2.S]) 15 J J cR J) ?_;obtain ⟨y38,hy38,h⟩:=aa h;refine gD (aj (iA hy38) uB J (hD (av (i:=0) J) (hD (ao (i:=1) J) (hD (ao (i:=2) J) (hD (av (i:=3) J) (hD (av (i:=4) J) (hD (ao (i:=5) J) (hD (ao (i:=6) J) (hD (ao (i:=7) J) (hD (ao (i:=8) J) (hD (av (i:=9) J) (hD (aU (i:=10) J) (hD (av (i:=11) J) (hD (ao (i:=12) J) (hD (aU (i:=13) J) (hD (ai (i:=17) J J) (hD (ai (i:=18) J J) (hD (ai (i:=19) J J) ae))))))))))))))))) gc) ?_;rintro _ _ ⟨_,⟨rfl,rfl⟩,rfl⟩;refine I ?_;refine gD (aM jz J) ?_;rintro _ _ ⟨B39,rfl,rfl⟩;refine gO (ap (us:=[iV y38.1.Key.Kind,iV y38.1.Key.N,.string y38.1.Key.S,iV y38.1.Attrs,iV y38.1.Value.Kind,iV y38.1.Value.N,.string y38.1.Value.S,iV y38.1.Get.Kind,iV y38.1.Get.N,.string y38.1.Get.S,iV y38.1.Set.Kind,iV y38.1.Set.N,.string y38.1.Set.S]) (cs':=[iV y38.1.Key.Kind,iV y38.1.Key.N,.string y38.1.Key.S,iV y38.1.Attrs,iV y38.1.Value.Kind,iV y38.1.Value.N,.string y38.1.Value.S,iV y38.1.Get.Kind,iV y38.1.Get.N,.string y38.1.Get.S,iV y38.1.Set.Kind,iV y38.1.Set.N,.string y38.1.Set.S]) 0 J J J J eg J J J) ?_;rintro _ _ rfl;refine bQ ?_;refine I ?_;refine ax ?_;obtain ⟨y40,hy40,h⟩:=aa h;refine gS (t:=[(6,pV B16 0),(7,pV B17 0),(8,.bool false),(9,pV B19 0),(10,.bool true),(11,pV B39 0),(13,.bool y38.2.2)]) ?_ jQ (ab _)
 refine gx V 16 [14] [13,14,15] [36,37,38,39,40,41,42,43,44,45,46,47,35,48,49,14] [[],[],[],[2],[3],[4],[5],[6],[7],[],[],[0,1,8,9,10],[11],[12],[12],[]] [aV (.agg #[iV y38.1.Key.Kind,iV y38.1.Key.N,.string y38.1.Key.S,iV y38.1.Attrs,iV y38.1.Value.Kind,iV y38.1.Value.N,.string y38.1.Value.S,iV y38.1.Get.Kind,iV y38.1.Get.N,.string y38.1.Get.S,iV y38.1.Set.Kind,iV y38.1.Set.N,.string y38.1.Set.S]),
aV (.bool y38.2.2),
aV (pV B19 0),
aV (pV B19 0),
aV (pV B19 0),
aV (pV B19 2),
aV (iV y18_1.Cell.Flags),
aV (iV (aS .i64 y18_1.Cell.Flags 1)),
aV (.bool (!decide (aS .i64 y18_1.Cell.Flags 1=0))),
aV (.agg #[iV a2.Kind,iV a2.N,.string a2.S]),
aV (.agg #[iV a3.Has,iV a3.Attrs,iV a3.Value.Kind,iV a3.Value.N,.string a3.Value.S,iV a3.Get.Kind,iV a3.Get.N,.string a3.Get.S,iV a3.Set.Kind,iV a3.Set.N,.string a3.Set.S]),
aV (.tuple #[.agg #[iV y40.1.Key.Kind,iV y40.1.Key.N,.string y40.1.Key.S,iV y40.1.Attrs,iV y40.1.Value.Kind,iV y40.1.Value.N,.string y40.1.Value.S,iV y40.1.Get.Kind,iV y40.1.Get.N,.string y40.1.Get.S,iV y40.1.Set.Kind,iV y40.1.Set.N,.string y40.1.Set.S],.bool y40.2]),
aV (.tuple #[.agg #[iV y40.1.Key.Kind,iV y40.1.Key.N,.string y40.1.Key.S,iV y40.1.Attrs,iV y40.1.Value.Kind,iV y40.1.Value.N,.string y40.1.Value.S,iV y40.1.Get.Kind,iV y40.1.Get.N,.string y40.1.Get.S,iV y40.1.Set.Kind,iV y40.1.Set.N,.string y40.1.Set.S],.bool y40.2]),
aV (.agg #[iV y40.1.Key.Kind,iV y40.1.Key.N,.string y40.1.Key.S,iV y40.1.Attrs,iV y40.1.Value.Kind,iV y40.1.Value.N,.string y40.1.Value.S,iV y40.1.Get.Kind,iV y40.1.Get.N,.string y40.1.Get.S,iV y40.1.Set.Kind,iV y40.1.Set.N,.string y40.1.Set.S]),
aV (.bool y40.2),
aX1 (fun (B42:Nat)=>pV B42 0) (fun B42=> [al B42 52 [iV 0,iV 0,.string (⟨#[]⟩),iV 0,iV 0,iV 0,.string (⟨#[]⟩),iV 0,iV 0,.string (⟨#[]⟩),iV 0,iV 0,.string (⟨#[]⟩)]])] [] (ab _) (jq rfl jD) V rfl rfl ?_ ?_ ?_
 ·refine jp J ?_ ?_
  ·exact ov (bA J J) J (aA J (ab _))
  exact jC
 ·refine ad J ?_ ?_
  ·refine jO (aM jz J) J ?_;rintro _ _ ⟨B41,rfl,rfl⟩;exact yh B41 (ab _)
  refine ad J ?_ ?_
  ·exact ba (bA J J) J (aA J (ab _))
  refine ad J ?_ ?_
  ·exact ba (bA J J) J (aA J (ab _))
  refine ad J ?_ ?_
  ·exact ba (aq J) J (aA J (ab _))
  refine ad J ?_ ?_
  ·refine jO (aj (pX hy40) xD J (ae) oM) J ?_;rintro _ _ ⟨_,⟨rfl,rfl⟩,rfl⟩;exact aA J (ab _)
  refine ad J ?_ ?_
  ·exact dz (am (us:=[iV a3.Has,iV a3.Attrs,iV a3.Value.Kind,iV a3.Value.N,.string a3.Value.S,iV a3.Get.Kind,iV a3.Get.N,.string a3.Get.S,iV a3.Set.Kind,iV a3.Set.N,.string a3.Set.S]) 15 J J eL J) J (aA J (ab _))
  refine ad J ?_ ?_
  ·exact dz (am (us:=[iV a2.Kind,iV a2.N,.string a2.S]) 16 J J cR J) J (aA J (ab _))
  refine ad J ?_ ?_
  ·exact ba (wB J J) J (aA J (ab _))
  refine ad J ?_ ?_
  ·exact ba (bB J J) J (aA J (ab _))
  refine ad J ?_ ?_
  ·exact dz (aR 1 J J cX J) J (aA J (ab _))
  refine ad J ?_ ?_
  ·exact ba (bp J sN) J (aA J (ab _))
  refine ad J ?_ ?_
  ·exact ba (ce J dI) J (aA J (ab _))
  refine ad J ?_ ?_
  ·exact ba (aC J) J (aA J (ab _))
  refine ad J ?_ ?_
  ·exact ba (aq J) J (aA J (ab _))
  refine ad J ?_ ?_
  ·exact ba (aq J) J (aA J (ab _))
  refine ad J ?_ ?_
  ·exact dz (am (us:=[iV y38.1.Key.Kind,iV y38.1.Key.N,.string y38.1.Key.S,iV y38.1.Attrs,iV y38.1.Value.Kind,iV y38.1.Value.N,.string y38.1.Value.S,iV y38.1.Get.Kind,iV y38.1.Get.N,.string y38.1.Get.S,iV y38.1.Set.Kind,iV y38.1.Set.N,.string y38.1.Set.S]) 0 J J fi J) J (aA J (ab _))
  exact ee
 intro B42
 refine lz (t:=[(48,.agg #[iV y40.1.Key.Kind,iV y40.1.Key.N,.string y40.1.Key.S,iV y40.1.Attrs,iV y40.1.Value.Kind,iV y40.1.Value.N,.string y40.1.Value.S,iV y40.1.Get.Kind,iV y40.1.Get.N,.string y40.1.Get.S,iV y40.1.Set.Kind,iV y40.1.Set.N,.string y40.1.Set.S]),(49,.bool y40.2),(14,pV B42 0),(6,pV B16 0),(7,pV B17 0),(8,.bool false),(9,pV B19 0),(10,.bool true),(11,pV B39 0),(13,.bool y38.2.2)]) (L':=[al B42 52 [iV 0,iV 0,.string (⟨#[]⟩),iV 0,iV 0,iV 0,.string (⟨#[]⟩),iV 0,iV 0,.string (⟨#[]⟩),iV 0,iV 0,.string (⟨#[]⟩)],al B39 52 [iV y38.1.Key.Kind,iV y38.1.Key.N,.string y38.1.Key.S,iV y38.1.Attrs,iV y38.1.Value.Kind,iV y38.1.Value.N,.string y38.1.Value.S,iV y38.1.Get.Kind,iV y38.1.Get.N,.string y38.1.Get.S,iV y38.1.Set.Kind,iV y38.1.Set.N,.string y38.1.Set.S],al B19 88 [iV y18_1.Cell.Kind,iV y18_1.Cell.Shape,iV y18_1.Cell.Flags,iV y18_1.Cell.Age,Y A20 n20 c20,Y A21 n21 c21,pV B1 0,iV y18_1.at_.Kind,iV y18_1.at_.N,.string y18_1.at_.S],aY A20 n20 c20 y18_1.Cell.Slots,aY A21 n21 c21 y18_1.Cell.More,al B1 73 [iV a0.spent_.steps_,iV a0.spent_.made_,iV a0.spent_.calls_,iV a0.config_.Way,iV a0.config_.Steps,iV a0.config_.Calls,iV a0.config_.Made,iV a0.config_.Young,iV a0.config_.Full,iV a0.config_.Sites,.nilIface,pV B2 0,pV B9 0,Y A12 n12 c12,iV a0.epoch_,iV a0.serial_,iV a0.sleepers_,Y A13 n13 c13,Y A14 n14 c14],al B2 99 [Y A3 n3 c3,Y A4 n4 c4,Y A5 n5 c5,Y A6 n6 c6,pV B7 0],bL A3 n3 c3 a0.heap_.m_.Young,bL A4 n4 c4 a0.heap_.m_.Old,aY A5 n5 c5 a0.heap_.roots_,aY A6 n6 c6 a0.heap_.pending_,al B7 143 [.map (some M8)],aQ dc dj M8 a0.heap_.set_.at_,al B9 118 [Y A10 n10 c10,.map (some M11)],dG A10 n10 c10 a0.shapes_.shapes_,aQ aJ di M11 a0.shapes_.next_,al B17 46 [iV a3.Has,iV a3.Attrs,iV a3.Value.Kind,iV a3.Value.N,.string a3.Value.S,iV a3.Get.Kind,iV a3.Get.N,.string a3.Get.S,iV a3.Set.Kind,iV a3.Set.N,.string a3.Set.S],al B16 44 [iV a2.Kind,iV a2.N,.string a2.S],al B15 29 [iV a1.Kind,iV a1.N,.string a1.S],bv A12 n12 c12 a0.symbols_,cY A13 n13 c13 a0.events_,bv A14 n14 c14 a0.out_]) ?_ jQ (ab _)
 refine pM 16 J V (ap (us:=[iV y40.1.Key.Kind,iV y40.1.Key.N,.string y40.1.Key.S,iV y40.1.Attrs,iV y40.1.Value.Kind,iV y40.1.Value.N,.string y40.1.Value.S,iV y40.1.Get.Kind,iV y40.1.Get.N,.string y40.1.Get.S,iV y40.1.Set.Kind,iV y40.1.Set.N,.string y40.1.Set.S]) (cs':=[iV y40.1.Key.Kind,iV y40.1.Key.N,.string y40.1.Key.S,iV y40.1.Attrs,iV y40.1.Value.Kind,iV y40.1.Value.N,.string y40.1.Value.S,iV y40.1.Get.Kind,iV y40.1.Get.N,.string y40.1.Get.S,iV y40.1.Set.Kind,iV y40.1.Set.N,.string y40.1.Set.S]) 0 J J J J eg J J J) J J ?_;rintro _ _ rfl;refine pN 17 J V (aZ J) J J J ?_;refine jP V ?_;refine I ?_;refine ay 51 J (fun g43=> ?_) (fun g43=> ?_)
 ·replace h:=ag g43 h;refine I ?_;refine bC (am (us:=[iV y40.1.Key.Kind,iV y40.1.Key.N,.string y40.1.Key.S,iV y40.1.Attrs,iV y40.1.Value.Kind,iV y40.1.Value.N,.string y40.1.Value.S,iV y40.1.Get.Kind,iV y40.1.Get.N,.string y40.1.Get.S,iV y40.1.Set.Kind,iV y40.1.Set.N,.string y40.1.Set.S]) 0 J J fi J) J (aK g43 J) J ?_;obtain ⟨y44,hy44,h⟩:=aa h;refine ck (aG (iB hy44) uA J (aE [19,20,21] [2,3,4,5,6,7,8,9,10,11,12,13,14,15] [0,1,16,17,18,19,20,21] 22 J)) J (aK g43 J) J ?_;rintro _ _ ⟨_,⟨A45,n45,c45,A46,n46,c46,A47,n47,c47,A48,n48,c48,A49,n49,c49,A50,n50,c50,M51,A52,n52,c52,M53,A54,n54,c54,A55,n55,c55,A56,n56,c56,rfl,rfl⟩,rfl⟩;refine I ?_;obtain rfl:=ak h;exact aF J J (cS [3,4,5,6,7,8,9,10,11,12,13,14,15,16] 25) ⟨_,_,_,_,_,_,_,_,_,_,_,_,_,_,_,_,_,_,_,_,_,_,_,_,_,_,J,J⟩
 replace h:=ah g43 h;refine I ?_;obtain rfl:=ak h;exact aF J J (cS [5,6,7,8,9,10,11,12,13,14,15,19,20,21] 22) ⟨_,_,_,_,_,_,_,_,_,_,_,_,_,_,_,_,_,_,_,_,_,_,_,_,_,_,J,J⟩
def iH (N:Nat)(a0:zP)(a1:zT):Option Bool:=
 (cx N a0 a1).bind fun y16=>rl y16 (fun y16_0=>some false) (fun y16_1=>some (!decide (aS .i64 y16_1.Cell.Flags 1=0)))
theorem mh {N:Nat}{a0:zP}{a1:zT}{r:Bool}(h:iH N a0 a1=some r):Okc Tryz.prog 12 [pV B1 0,.agg #[iV a1.Kind,iV a1.N,.string a1.S]] ([bv A12 n12 c12 a0.symbols_,cY A13 n13 c13 a0.events_,bv A14 n14 c14 a0.out_,al B1 73 [iV a0.spent_.steps_,iV a0.spent_.made_,iV a0.spent_.calls_,iV a0.config_.Way,iV a0.config_.Steps,iV a0.config_.Calls,iV a0.config_.Made,iV a0.config_.Young,iV a0.config_.Full,iV a0.config_.Sites,.nilIface,pV B2 0,pV B9 0,Y A12 n12 c12,iV a0.epoch_,iV a0.serial_,iV a0.sleepers_,Y A13 n13 c13,Y A14 n14 c14],al B2 99 [Y A3 n3 c3,Y A4 n4 c4,Y A5 n5 c5,Y A6 n6 c6,pV B7 0],bL A3 n3 c3 a0.heap_.m_.Young,bL A4 n4 c4 a0.heap_.m_.Old,aY A5 n5 c5 a0.heap_.roots_,aY A6 n6 c6 a0.heap_.pending_,al B7 143 [.map (some M8)],aQ dc dj M8 a0.heap_.set_.at_,al B9 118 [Y A10 n10 c10,.map (some M11)],dG A10 n10 c10 a0.shapes_.shapes_,aQ aJ di M11 a0.shapes_.next_]) (fun u post=>u=.bool r∧post=[al B1 73 [iV a0.spent_.steps_,iV a0.spent_.made_,iV a0.spent_.calls_,iV a0.config_.Way,iV a0.config_.Steps,iV a0.config_.Calls,iV a0.config_.Made,iV a0.config_.Young,iV a0.config_.Full,iV a0.config_.Sites,.nilIface,pV B2 0,pV B9 0,Y A12 n12 c12,iV a0.epoch_,iV a0.serial_,iV a0.sleepers_,Y A13 n13 c13,Y A14 n14 c14],al B2 99 [Y A3 n3 c3,Y A4 n4 c4,Y A5 n5 c5,Y A6 n6 c6,pV B7 0],bL A3 n3 c3 a0.heap_.m_.Young,bL A4 n4 c4 a0.heap_.m_.Old,aY A5 n5 c5 a0.heap_.roots_,aY A6 n6 c6 a0.heap_.pending_,al B7 143 [.map (some M8)],aQ dc dj M8 a0.heap_.set_.at_,al B9 118 [Y A10 n10 c10,.map (some M11)],dG A10 n10 c10 a0.shapes_.shapes_,aQ aJ di M11 a0.shapes_.next_]):=by
 refine bm Tryz.func12 J J ?_;simp only [aP];refine I ?_;refine gD (aO J J) ?_;rintro _ _ ⟨B15,rfl,rfl⟩;refine I ?_;refine gR (am (us:=[iV a1.Kind,iV a1.N,.string a1.S]) 0 J J aL J) ?_;obtain ⟨y16,hy16,h⟩:=aa h;rcases y16 with y16_0|y16_1
 ·replace h:=rR h;refine gD (aG (bi hy16) dp J (aE [1,2,3] [4,5,6,7,8,9,10,11,12,13,14] [0,1,2,3] 15 J)) ?_;rintro _ _ ⟨_,⟨rfl,rfl⟩,rfl⟩;refine I ?_;obtain rfl:=ak h;exact aF J J (cS [0,1,2,3,4,5,6,7,8,9,10] 15) ⟨J,J⟩
 replace h:=rQ h;refine gD (aG (bi hy16) dp J (aE [1,2,3] [4,5,6,7,8,9,10,11,12,13,14] [0,1,2,3] 15 J)) ?_;rintro _ _ ⟨_,⟨B17,A18,n18,c18,A19,n19,c19,rfl,rfl⟩,rfl⟩;refine I ?_;refine gE (bB J J) ?_;refine I ?_;obtain rfl:=ak h;exact aF J J (cS [3,4,5,6,7,8,9,10,11,12,13] 18) ⟨J,J⟩
def jc (N:Nat)(a1:zT):Option Bool:=
 (dv N a1).bind fun y2=>some false
theorem oK {N:Nat}{a1:zT}{r:Bool}(h:jc N a1=some r):Okc Tryz.prog 12 [.pointer none,.agg #[iV a1.Kind,iV a1.N,.string a1.S]] ([]) (fun u post=>u=.bool r∧post=[]):=by
 refine bm Tryz.func12 J J ?_;simp only [aP];refine I ?_;refine gD (aO J J) ?_;rintro _ _ ⟨B1,rfl,rfl⟩;refine I ?_;refine gR (am (us:=[iV a1.Kind,iV a1.N,.string a1.S]) 0 J J aL J) ?_;obtain ⟨y2,hy2,h⟩:=aa h;refine gD (aj (dP hy2) dp J (ae) dm) ?_;rintro _ _ ⟨_,⟨rfl,rfl⟩,rfl⟩;refine I ?_;obtain rfl:=ak h;exact aF J J (cS [] 1) ⟨J,J⟩
theorem mZ {r:Bool}: ∀v post,((fun (u:Value) (post:List Chunk)=>u=.bool r∧post=[])) v post→ ∀c∈post,bJ c:=by
 rintro _ _ ⟨rfl,rfl⟩;exact ae
def dU (N:Nat):Option Bool:=
 (ms N).bind fun y1=>rl y1 (fun y1_0=>some false) (fun y1_1=>(iG N y1_1 (⟨1,0,⟨#[]⟩⟩:zT) 1).bind fun y16=>(mr N (⟨#[97]⟩:ByteArray)).bind fun y28=>(km N y16.2.2 y16.1 y28 (⟨3,1,⟨#[]⟩⟩:zT) 7).bind fun y29=>(km N y29.2 y16.1 (⟨0,5,⟨#[]⟩⟩:zV) (⟨0,0,⟨#[]⟩⟩:zT) 7).bind fun y40=>(gv N y40.2 y16.1).bind fun y51=>(ld N y40.2 y16.1).bind fun y53=>(le N y40.2 y16.1).bind fun y55=>(mr N (⟨#[98]⟩:ByteArray)).bind fun y66=>(pe N (⟨0,0,⟨#[]⟩⟩:zT) 7).bind fun y67=>(kB N y55 y16.1 y66 y67).bind fun y68=>(bif y16.2.1 then (some y29.1) else (some false)).bind fun b79=>(bif b79 then (some y40.1) else (some false)).bind fun b80=>(bif b80 then (some (!y68.1)) else (some false)).bind fun b81=>(bif b81 then (some (decide ((y51.length:Int)=2))) else (some false)).bind fun b82=>(bif b82 then ((cj y51 0).bind fun x84=>some (decide (x84.N=5))) else (some false)).bind fun b83=>(bif b83 then ((cj y51 1).bind fun x86=>some (x86.S.toList==(⟨#[97]⟩:ByteArray).toList)) else (some false)).bind fun b85=>(bif b85 then (some (decide ((y53.length:Int)=2))) else (some false)).bind fun b87=>(bif b87 then ((cj y53 0).bind fun x89=>some (x89.Key.S.toList==(⟨#[97]⟩:ByteArray).toList)) else (some false)).bind fun b88=>(bif b88 then ((cj y53 0).bind fun x91=>some (decide (x91.Value.N=1))) else (some false)).bind fun b90=>(bif b90 then ((iH N y68.2 y16.1).bind fun y93=>some (!y93)) else (some false)).bind fun b92=>some b92)
set_option maxHeartbeats 4000000 in
theorem iD {N:Nat}{r:Bool}(h:dU N=some r):Okc Tryz.prog 9 [] ([]) (fun u post=>u=.bool r∧post=[]):=by
 refine bm Tryz.func9 J J ?_;simp only [aP];refine I ?_;obtain ⟨y1,hy1,h⟩:=aa h;rcases y1 with y1_0|y1_1
 ·replace h:=rR h;refine gD (aG (nV hy1) uL J (aE [] [] [] 0 J)) ?_;rintro _ _ ⟨_,⟨rfl,rfl⟩,rfl⟩;refine I ?_;refine ax ?_;refine I ?_;refine gE (ci J hO) ?_;refine I ?_;refine da J ?_;refine I ?_;obtain rfl:=ak h;exact aF J J (cS [] 0) ⟨J,J⟩
 replace h:=rQ h;refine gD (aG (nV hy1) uL J (aE [] [] [] 0 J)) ?_;rintro _ _ ⟨_,⟨B2,B3,A4,n4,c4,A5,n5,c5,A6,n6,c6,A7,n7,c7,B8,M9,B10,A11,n11,c11,M12,A13,n13,c13,A14,n14,c14,A15,n15,c15,rfl,rfl⟩,rfl⟩;refine I ?_;refine ax ?_;refine I ?_;refine gE (ci J hO) ?_;refine I ?_;refine ed J ?_;refine I ?_;refine gE (aI J (lw _)) ?_;obtain ⟨y16,hy16,h⟩:=aa h;refine gD (aG (mg hy16) ux J (aE [11,12,13] [0,1,2,3,4,5,6,7,8,9,10] [11,12,13] 14 J)) ?_;rintro _ _ ⟨_,⟨A17,n17,c17,A18,n18,c18,A19,n19,c19,A20,n20,c20,M21,A22,n22,c22,M23,A24,n24,c24,A25,n25,c25,A26,n26,c26,rfl,rfl⟩,rfl⟩;refine bQ ?_;refine I ?_;refine gD (aM cP J) ?_;rintro _ _ ⟨B27,rfl,rfl⟩;refine gO (ap (us:=[iV y16.1.Kind,iV y16.1.N,.string y16.1.S]) (cs':=[iV y16.1.Kind,iV y16.1.N,.string y16.1.S]) 0 J J J J aN J J J) ?_;rintro _ _ rfl;refine I ?_;refine ax ?_;refine bn V _ (ab _) ?_;refine zE 0 J (aq J) ?_;refine zR 1 J (am (us:=[iV y16.1.Kind,iV y16.1.N,.string y16.1.S]) 0 J J aL J) ?_;refine zE 3 J (aI J (gq _ _)) ?_;obtain ⟨y28,hy28,h⟩:=aa h;refine zD 2 J (aj (nU hy28) uE J (ae) lX) ?_;rintro _ _ ⟨_,⟨rfl,rfl⟩,rfl⟩;refine ⟨_,ab _,ab _,?_⟩;obtain ⟨y29,hy29,h⟩:=aa h;refine wm 4 J V V (aG (mf hy29) uK J (aE [12,13,14] [1,2,3,4,5,6,7,8,9,10,11] [0,12,13,14,15,16,17] 18 J)) ?_
 rintro _ _ ⟨_,⟨A30,n30,c30,A31,n31,c31,A32,n32,c32,A33,n33,c33,M34,A35,n35,c35,M36,A37,n37,c37,A38,n38,c38,A39,n39,c39,rfl,rfl⟩,rfl⟩;refine bX ?_;refine zE 5 J (aZ J) ?_;refine be V ?_;refine I ?_;refine gR (am (us:=[iV y16.1.Kind,iV y16.1.N,.string y16.1.S]) 14 J J aL J) ?_;refine gE (aI J (uT _)) ?_;refine gE (aI J (cu)) ?_;obtain ⟨y40,hy40,h⟩:=aa h;refine gD (aG (mf hy40) uK J (aE [11,12,13] [0,1,2,3,4,5,6,7,8,9,10] [11,12,13,14,15,16,17,18,19,20] 21 J)) ?_;rintro _ _ ⟨_,⟨A41,n41,c41,A42,n42,c42,A43,n43,c43,A44,n44,c44,M45,A46,n46,c46,M47,A48,n48,c48,A49,n49,c49,A50,n50,c50,rfl,rfl⟩,rfl⟩;refine I ?_;refine ax ?_;refine bn V _ (ab _) ?_;refine zE 0 J (aq J) ?_;refine zR 1 J (am (us:=[iV y16.1.Kind,iV y16.1.N,.string y16.1.S]) 17 J J aL J) ?_;refine zE 3 J (aq J) ?_;refine zR 4 J (am (us:=[iV y16.1.Kind,iV y16.1.N,.string y16.1.S]) 17 J J aL J) ?_;obtain ⟨y51,hy51,h⟩:=aa h;refine zD 2 J (aG (lf hy51) sk J (aE [11,12,13] [0,1,2,3,4,5,6,7,8,9,10] [11,12,13,14,15,16,17,18,19,20,21,22,23] 24 J)) ?_;rintro _ _ ⟨_,⟨A52,n52,c52,rfl,rfl⟩,rfl⟩;refine cA (cS [1,2,3,4,5,6,7,8,9,10,11,12,13,14,15,16,17,18,19,20,21,22,23,24] 25) ?_;refine bX ?_;obtain ⟨y53,hy53,h⟩:=aa h;refine zD 5 J (aG (oH hy53) xJ J (aE [12,13,14] [1,2,3,4,5,6,7,8,9,10,11] [0,12,13,14,15,16,17,18,19,20,21,22,23,24] 25 J)) ?_;rintro _ _ ⟨_,⟨A54,n54,c54,rfl,rfl⟩,rfl⟩
 refine cA (cS [1,2,3,4,5,6,7,8,9,10,11,13,14,15,16,17,18,19,20,21,22,23,24,25] 26) ?_;refine bX ?_;refine zE 6 J (aZ J) ?_;refine zE 7 J (aZ J) ?_;refine be V ?_;refine I ?_;refine gR (am (us:=[iV y16.1.Kind,iV y16.1.N,.string y16.1.S]) 19 J J aL J) ?_;obtain ⟨y55,hy55,h⟩:=aa h;refine gD (aG (oI hy55) xK J (aE [13,14,15] [1,2,3,4,5,6,7,8,9,10,11] [0,12,13,14,15,16,17,18,19,20,21,22,23,24,25] 26 J)) ?_;rintro _ _ ⟨_,⟨A56,n56,c56,A57,n57,c57,A58,n58,c58,A59,n59,c59,M60,A61,n61,c61,M62,A63,n63,c63,A64,n64,c64,A65,n65,c65,rfl,rfl⟩,rfl⟩;refine bQ ?_;refine I ?_;refine ax ?_;refine bn V ([bv A63 n63 c63 y55.symbols_,cY A64 n64 c64 y55.events_,bv A65 n65 c65 y55.out_,dl kX 52 (Y A54 n54 c54) y53,js A52 n52 c52 y51,bv A48 n48 c48 y40.2.symbols_,cY A49 n49 c49 y40.2.events_,bv A50 n50 c50 y40.2.out_,bv A37 n37 c37 y29.2.symbols_,cY A38 n38 c38 y29.2.events_,bv A39 n39 c39 y29.2.out_,al B27 29 [iV y16.1.Kind,iV y16.1.N,.string y16.1.S],bv A24 n24 c24 y16.2.2.symbols_,cY A25 n25 c25 y16.2.2.events_,bv A26 n26 c26 y16.2.2.out_,bv A13 n13 c13 y1_1.symbols_,cY A14 n14 c14 y1_1.events_,bv A15 n15 c15 y1_1.out_]) (cS [11,12,13,14,15,16,17,18,19,20,21,22,23,24,25,26,27,28] 29) ?_;refine zE 0 J (aq J) ?_;refine zR 1 J (am (us:=[iV y16.1.Kind,iV y16.1.N,.string y16.1.S]) 11 J J aL J) ?_;refine zE 3 J (aI J (cu)) ?_;obtain ⟨y66,hy66,h⟩:=aa h;refine zD 2 J (aj (nU hy66) uE J (ae) lX) ?_;rintro _ _ ⟨_,⟨rfl,rfl⟩,rfl⟩
 refine cA (cS [11,12,13,14,15,16,17,18,19,20,21,22,23,24,25,26,27,28] 29) ?_;obtain ⟨y67,hy67,h⟩:=aa h;refine zD 4 J (aj (rq hy67) xF J (ae) pS) ?_;rintro _ _ ⟨_,⟨rfl,rfl⟩,rfl⟩;refine cA (cS [11,12,13,14,15,16,17,18,19,20,21,22,23,24,25,26,27,28] 29) ?_;obtain ⟨y68,hy68,h⟩:=aa h;refine zD 5 J (aG (nH hy68) xL J (aE [11,12,13] [0,1,2,3,4,5,6,7,8,9,10] [11,12,13,14,15,16,17,18,19,20,21,22,23,24,25,26,27,28] 29 J)) ?_;rintro _ _ ⟨_,⟨A69,n69,c69,A70,n70,c70,A71,n71,c71,A72,n72,c72,M73,A74,n74,c74,M75,A76,n76,c76,A77,n77,c77,A78,n78,c78,rfl,rfl⟩,rfl⟩;refine ⟨_,cS [11,12,13,14,15,16,17,18,19,20,21,22,23,24,25,26,27,28,29,30,31] 32,(cv_tl).trans ((cv_tl).trans (cv_tl)),?_⟩;refine bX ?_;refine zE 6 J (aZ J) ?_;refine be V ?_;refine I ?_;obtain ⟨b79,hb79,h⟩:=aa h;refine az 2 46 b79 ?_ ?_
 ·clear h;refine ay 44 J (fun g79=> ?_) (fun g79=> ?_)
  ·have h:=ag g79 hb79;refine I ?_;obtain rfl:=ak h;exact ac sA (cS [0,1,2,3,4,5,6,7,8,9,10,11,12,13,14,15,16,17,18,19,20,21,22,23,24,25,26,27,28,29,30,31] 32)
  have h:=ah g79 hb79;refine I ?_;obtain rfl:=ak h;exact ac sA (cS [0,1,2,3,4,5,6,7,8,9,10,11,12,13,14,15,16,17,18,19,20,21,22,23,24,25,26,27,28,29,30,31] 32)
 refine I ?_;obtain ⟨b80,hb80,h⟩:=aa h;refine az 2 49 b80 ?_ ?_
 ·clear h;refine ay 47 J (fun g80=> ?_) (fun g80=> ?_)
  ·have h:=ag g80 hb80;refine I ?_;obtain rfl:=ak h;exact ac sA (cS [0,1,2,3,4,5,6,7,8,9,10,11,12,13,14,15,16,17,18,19,20,21,22,23,24,25,26,27,28,29,30,31] 32)
  have h:=ah g80 hb80;refine I ?_;obtain rfl:=ak h;exact ac sA (cS [0,1,2,3,4,5,6,7,8,9,10,11,12,13,14,15,16,17,18,19,20,21,22,23,24,25,26,27,28,29,30,31] 32)
 refine I ?_;obtain ⟨b81,hb81,h⟩:=aa h;refine az 3 53 b81 ?_ ?_
 ·clear h;refine ay 50 J (fun g81=> ?_) (fun g81=> ?_)
  ·have h:=ag g81 hb81;refine I ?_;obtain rfl:=ak h;exact ac sA (cS [0,1,2,3,4,5,6,7,8,9,10,11,12,13,14,15,16,17,18,19,20,21,22,23,24,25,26,27,28,29,30,31] 32)
  have h:=ah g81 hb81;refine I ?_;obtain rfl:=ak h;exact ac sA (cS [0,1,2,3,4,5,6,7,8,9,10,11,12,13,14,15,16,17,18,19,20,21,22,23,24,25,26,27,28,29,30,31] 32)
 refine I ?_;obtain ⟨b82,hb82,h⟩:=aa h;refine az 4 58 b82 ?_ ?_
 ·clear h;refine ay 54 J (fun g82=> ?_) (fun g82=> ?_)
  ·have h:=ag g82 hb82;refine I ?_;refine bC (bz 18 J aw J zC) J (aK g82 J) J ?_;refine I ?_;obtain rfl:=ak h;exact ac sA (cS [0,1,2,3,4,5,6,7,8,9,10,11,12,13,14,15,16,17,18,19,20,21,22,23,24,25,26,27,28,29,30,31] 32)
  have h:=ah g82 hb82;refine I ?_;obtain rfl:=ak h;exact ac sA (cS [0,1,2,3,4,5,6,7,8,9,10,11,12,13,14,15,16,17,18,19,20,21,22,23,24,25,26,27,28,29,30,31] 32)
 refine I ?_;obtain ⟨b83,hb83,h⟩:=aa h;refine az 6 65 b83 ?_ ?_
 ·clear h;refine ay 59 J (fun g83=> ?_) (fun g83=> ?_)
  ·have h:=ag g83 hb83;refine I ?_;obtain ⟨x84,hx84,h⟩:=aa h;obtain ⟨lx84,ux84,hx84⟩:=aD hx84;refine bC (bh 18 J aw J J zC fm lx84 ux84) J (aK g83 J) J ?_;refine bC (iz 18 J aw J (aT lx84 ux84) sM) J (aK g83 J) J ?_;refine bC (cq (u:=iV x84.N) 18 J aw J hx84 cX (fun _ _ _ h=>by rw [show _=_ from h];rfl)) J (aK g83 J) J ?_;refine I ?_;obtain rfl:=ak h;exact ac sA (cS [0,1,2,3,4,5,6,7,8,9,10,11,12,13,14,15,16,17,18,19,20,21,22,23,24,25,26,27,28,29,30,31] 32)
  have h:=ah g83 hb83;refine I ?_;obtain rfl:=ak h;exact ac sA (cS [0,1,2,3,4,5,6,7,8,9,10,11,12,13,14,15,16,17,18,19,20,21,22,23,24,25,26,27,28,29,30,31] 32)
 refine I ?_;obtain ⟨b85,hb85,h⟩:=aa h;refine az 6 72 b85 ?_ ?_
 ·clear h;refine ay 66 J (fun g85=> ?_) (fun g85=> ?_)
  ·have h:=ag g85 hb85;refine I ?_;obtain ⟨x86,hx86,h⟩:=aa h;obtain ⟨lx86,ux86,hx86⟩:=aD hx86;refine bC (bh 18 J aw J J zC fm lx86 ux86) J (aK g85 J) J ?_;refine bC (iz 18 J aw J (aT lx86 ux86) qJ) J (aK g85 J) J ?_;refine bC (cq (u:=.string x86.S) 18 J aw J hx86 wT (fun _ _ _ h=>by rw [show _=_ from h];rfl)) J (aK g85 J) J ?_;refine fX (ll J J) J (aK g85 J) J ?_;refine I ?_;obtain rfl:=ak h;exact ac sA (cS [0,1,2,3,4,5,6,7,8,9,10,11,12,13,14,15,16,17,18,19,20,21,22,23,24,25,26,27,28,29,30,31] 32)
  have h:=ah g85 hb85;refine I ?_;obtain rfl:=ak h;exact ac sA (cS [0,1,2,3,4,5,6,7,8,9,10,11,12,13,14,15,16,17,18,19,20,21,22,23,24,25,26,27,28,29,30,31] 32)
 refine I ?_;obtain ⟨b87,hb87,h⟩:=aa h;refine az 4 77 b87 ?_ ?_
 ·clear h;refine ay 73 J (fun g87=> ?_) (fun g87=> ?_)
  ·have h:=ag g87 hb87;refine I ?_;refine bC (bz 17 J aw J zF) J (aK g87 J) J ?_;refine I ?_;obtain rfl:=ak h;exact ac sA (cS [0,1,2,3,4,5,6,7,8,9,10,11,12,13,14,15,16,17,18,19,20,21,22,23,24,25,26,27,28,29,30,31] 32)
  have h:=ah g87 hb87;refine I ?_;obtain rfl:=ak h;exact ac sA (cS [0,1,2,3,4,5,6,7,8,9,10,11,12,13,14,15,16,17,18,19,20,21,22,23,24,25,26,27,28,29,30,31] 32)
 refine I ?_;obtain ⟨b88,hb88,h⟩:=aa h;refine az 7 85 b88 ?_ ?_
 ·clear h;refine ay 78 J (fun g88=> ?_) (fun g88=> ?_)
  ·have h:=ag g88 hb88;refine I ?_;obtain ⟨x89,hx89,h⟩:=aa h;obtain ⟨lx89,ux89,hx89⟩:=aD hx89;refine bC (bh 17 J aw J J zF eg lx89 ux89) J (aK g88 J) J ?_;refine bC (kk 17 J aw J (aT lx89 ux89) oX) J (aK g88 J) J ?_;refine bC (iz 17 J aw J (aT lx89 ux89) qJ) J (aK g88 J) J ?_;refine bC (cq (u:=.string x89.Key.S) 17 J aw J hx89 wT (fun _ _ _ h=>by rw [show _=_ from h];rfl)) J (aK g88 J) J ?_;refine fX (ll J J) J (aK g88 J) J ?_;refine I ?_;obtain rfl:=ak h;exact ac sA (cS [0,1,2,3,4,5,6,7,8,9,10,11,12,13,14,15,16,17,18,19,20,21,22,23,24,25,26,27,28,29,30,31] 32)
  have h:=ah g88 hb88;refine I ?_;obtain rfl:=ak h;exact ac sA (cS [0,1,2,3,4,5,6,7,8,9,10,11,12,13,14,15,16,17,18,19,20,21,22,23,24,25,26,27,28,29,30,31] 32)
 refine I ?_;obtain ⟨b90,hb90,h⟩:=aa h;refine az 7 93 b90 ?_ ?_
 ·clear h;refine ay 86 J (fun g90=> ?_) (fun g90=> ?_)
  ·have h:=ag g90 hb90;refine I ?_;obtain ⟨x91,hx91,h⟩:=aa h;obtain ⟨lx91,ux91,hx91⟩:=aD hx91;refine bC (bh 17 J aw J J zF eg lx91 ux91) J (aK g90 J) J ?_;refine bC (iz 17 J aw J (aT lx91 ux91) sL) J (aK g90 J) J ?_;refine bC (iz 17 J aw J (aT lx91 ux91) nh) J (aK g90 J) J ?_;refine bC (cq (u:=iV x91.Value.N) 17 J aw J hx91 cX (fun _ _ _ h=>by rw [show _=_ from h];rfl)) J (aK g90 J) J ?_;refine I ?_;obtain rfl:=ak h;exact ac sA (cS [0,1,2,3,4,5,6,7,8,9,10,11,12,13,14,15,16,17,18,19,20,21,22,23,24,25,26,27,28,29,30,31] 32)
  have h:=ah g90 hb90;refine I ?_;obtain rfl:=ak h;exact ac sA (cS [0,1,2,3,4,5,6,7,8,9,10,11,12,13,14,15,16,17,18,19,20,21,22,23,24,25,26,27,28,29,30,31] 32)
 refine I ?_;obtain ⟨b92,hb92,h⟩:=aa h;refine az 5 99 b92 ?_ ?_
 ·clear h;refine ay 94 J (fun g92=> ?_) (fun g92=> ?_)
  ·have h:=ag g92 hb92;refine I ?_;refine bC (am (us:=[iV y16.1.Kind,iV y16.1.N,.string y16.1.S]) 25 J J aL J) J (aK g92 J) J ?_;obtain ⟨y93,hy93,h⟩:=aa h;refine ck (aG (mh hy93) sm J (aE [11,12,13] [0,1,2,3,4,5,6,7,8,9,10] [11,12,13,14,15,16,17,18,19,20,21,22,23,24,25,26,27,28,29,30,31] 32 J)) J (aK g92 J) J ?_;rintro _ _ ⟨_,⟨rfl,rfl⟩,rfl⟩;refine I ?_;obtain rfl:=ak h;exact ac sA (cS [0,1,2,3,4,5,6,7,8,9,10,11,12,13,14,15,16,17,18,19,20,21,22,23,24,25,26,27,28,29,30,31] 32)
  have h:=ah g92 hb92;refine I ?_;obtain rfl:=ak h;exact ac sA (cS [0,1,2,3,4,5,6,7,8,9,10,11,12,13,14,15,16,17,18,19,20,21,22,23,24,25,26,27,28,29,30,31] 32)
 refine I ?_;obtain rfl:=ak h;exact aF J J (cS [] 32) ⟨J,J⟩
theorem fH {r:Bool}: ∀v post,((fun (u:Value) (post:List Chunk)=>u=.bool r∧post=[])) v post→ ∀c∈post,bJ c:=by
 rintro _ _ ⟨rfl,rfl⟩;exact ae
def ja (N:Nat)(a0:zP)(a1:zT):Option zT:=
 (cx N a0 a1).bind fun y17=>rl y17 (fun y17_0=>some (⟨0,0,⟨#[]⟩⟩:zT)) (fun y17_1=>(cj y17_1.Cell.Slots 0).bind fun x35=>some x35)
theorem oG {N:Nat}{a0:zP}{a1:zT}{r:zT}(h:ja N a0 a1=some r):Okc Tryz.prog 11 [pV B1 0,.agg #[iV a1.Kind,iV a1.N,.string a1.S]] ([bv A12 n12 c12 a0.symbols_,cY A13 n13 c13 a0.events_,bv A14 n14 c14 a0.out_,al B1 73 [iV a0.spent_.steps_,iV a0.spent_.made_,iV a0.spent_.calls_,iV a0.config_.Way,iV a0.config_.Steps,iV a0.config_.Calls,iV a0.config_.Made,iV a0.config_.Young,iV a0.config_.Full,iV a0.config_.Sites,.nilIface,pV B2 0,pV B9 0,Y A12 n12 c12,iV a0.epoch_,iV a0.serial_,iV a0.sleepers_,Y A13 n13 c13,Y A14 n14 c14],al B2 99 [Y A3 n3 c3,Y A4 n4 c4,Y A5 n5 c5,Y A6 n6 c6,pV B7 0],bL A3 n3 c3 a0.heap_.m_.Young,bL A4 n4 c4 a0.heap_.m_.Old,aY A5 n5 c5 a0.heap_.roots_,aY A6 n6 c6 a0.heap_.pending_,al B7 143 [.map (some M8)],aQ dc dj M8 a0.heap_.set_.at_,al B9 118 [Y A10 n10 c10,.map (some M11)],dG A10 n10 c10 a0.shapes_.shapes_,aQ aJ di M11 a0.shapes_.next_]) (fun u post=>u=.agg #[iV r.Kind,iV r.N,.string r.S]∧post=[al B1 73 [iV a0.spent_.steps_,iV a0.spent_.made_,iV a0.spent_.calls_,iV a0.config_.Way,iV a0.config_.Steps,iV a0.config_.Calls,iV a0.config_.Made,iV a0.config_.Young,iV a0.config_.Full,iV a0.config_.Sites,.nilIface,pV B2 0,pV B9 0,Y A12 n12 c12,iV a0.epoch_,iV a0.serial_,iV a0.sleepers_,Y A13 n13 c13,Y A14 n14 c14],al B2 99 [Y A3 n3 c3,Y A4 n4 c4,Y A5 n5 c5,Y A6 n6 c6,pV B7 0],bL A3 n3 c3 a0.heap_.m_.Young,bL A4 n4 c4 a0.heap_.m_.Old,aY A5 n5 c5 a0.heap_.roots_,aY A6 n6 c6 a0.heap_.pending_,al B7 143 [.map (some M8)],aQ dc dj M8 a0.heap_.set_.at_,al B9 118 [Y A10 n10 c10,.map (some M11)],dG A10 n10 c10 a0.shapes_.shapes_,aQ aJ di M11 a0.shapes_.next_]):=by
 refine bm Tryz.func11 J J ?_;simp only [aP];refine I ?_;refine gD (aO J J) ?_;rintro _ _ ⟨B15,rfl,rfl⟩;refine gD (aM cP J) ?_;rintro _ _ ⟨B16,rfl,rfl⟩;refine I ?_;refine gR (am (us:=[iV a1.Kind,iV a1.N,.string a1.S]) 1 J J aL J) ?_;obtain ⟨y17,hy17,h⟩:=aa h;rcases y17 with y17_0|y17_1
 ·replace h:=rR h;refine gD (aG (bi hy17) dp J (aE [2,3,4] [5,6,7,8,9,10,11,12,13,14,15] [0,1,2,3,4] 16 J)) ?_;rintro _ _ ⟨_,⟨rfl,rfl⟩,rfl⟩;refine I ?_;refine ax ?_;refine I ?_;refine da J ?_;refine I ?_;refine gE (aI J (cu)) ?_;refine gO (ap (us:=[iV 0,iV 0,.string (⟨#[]⟩)]) (cs':=[iV 0,iV 0,.string (⟨#[]⟩)]) 11 J J J J aN J J J) ?_;rintro _ _ rfl;refine I ?_;obtain rfl:=ak h;exact bM (rs:=[.cell 4 29]) (vs:=[.agg #[iV 0,iV 0,.string (⟨#[]⟩)]]) J (.cons (bf 11 J J aL) .nil) J (cS [0,1,2,3,4,5,6,7,8,9,10] 16) ⟨J,J⟩
 replace h:=rQ h;refine gD (aG (bi hy17) dp J (aE [2,3,4] [5,6,7,8,9,10,11,12,13,14,15] [0,1,2,3,4] 16 J)) ?_;rintro _ _ ⟨_,⟨B18,A19,n19,c19,A20,n20,c20,rfl,rfl⟩,rfl⟩;refine bQ ?_;refine I ?_;refine ax ?_;refine I ?_;refine ed J ?_;refine I ?_;obtain ⟨x35,hx35,h⟩:=aa h;obtain ⟨lx35,ux35,hx35⟩:=aD hx35;refine gR (bh 1 J aw J J hE aN lx35 ux35) ?_;refine gR (bo (us:=[iV x35.Kind,iV x35.N,.string x35.S]) 1 J aw J hx35 aL (fun _ _ _ h=>by rw [show _=_ from h];rfl)) ?_;refine gO (ap (us:=[iV x35.Kind,iV x35.N,.string x35.S]) (cs':=[iV x35.Kind,iV x35.N,.string x35.S]) 14 J J J J aN J J J) ?_;rintro _ _ rfl;refine I ?_;obtain rfl:=ak h;exact bM (rs:=[.cell 4 29]) (vs:=[.agg #[iV x35.Kind,iV x35.N,.string x35.S]]) J (.cons (bf 14 J J aL) .nil) J (cS [3,4,5,6,7,8,9,10,11,12,13] 19) ⟨J,J⟩
def gj (N:Nat)(a1:zT):Option zT:=
 (dv N a1).bind fun y3=>some (⟨0,0,⟨#[]⟩⟩:zT)
theorem mX {N:Nat}{a1:zT}{r:zT}(h:gj N a1=some r):Okc Tryz.prog 11 [.pointer none,.agg #[iV a1.Kind,iV a1.N,.string a1.S]] ([]) (fun u post=>u=.agg #[iV r.Kind,iV r.N,.string r.S]∧post=[]):=by
 refine bm Tryz.func11 J J ?_;simp only [aP];refine I ?_;refine gD (aO J J) ?_;rintro _ _ ⟨B1,rfl,rfl⟩;refine gD (aM cP J) ?_;rintro _ _ ⟨B2,rfl,rfl⟩;refine I ?_;refine gR (am (us:=[iV a1.Kind,iV a1.N,.string a1.S]) 1 J J aL J) ?_;obtain ⟨y3,hy3,h⟩:=aa h;refine gD (aj (dP hy3) dp J (ae) dm) ?_;rintro _ _ ⟨_,⟨rfl,rfl⟩,rfl⟩;refine I ?_;refine ax ?_;refine I ?_;refine da J ?_;refine I ?_;refine gE (aI J (cu)) ?_;refine gO (ap (us:=[iV 0,iV 0,.string (⟨#[]⟩)]) (cs':=[iV 0,iV 0,.string (⟨#[]⟩)]) 0 J J J J aN J J J) ?_;rintro _ _ rfl;refine I ?_;obtain rfl:=ak h;exact bM (rs:=[.cell 4 29]) (vs:=[.agg #[iV 0,iV 0,.string (⟨#[]⟩)]]) J (.cons (bf 0 J J aL) .nil) J (cS [] 2) ⟨J,J⟩
theorem lV {r:zT}: ∀v post,((fun (u:Value) (post:List Chunk)=>u=.agg #[iV r.Kind,iV r.N,.string r.S]∧post=[])) v post→ ∀c∈post,bJ c:=by
 rintro _ _ ⟨rfl,rfl⟩;exact ae
def df (N:Nat)(a0:Int)(a1:Int)(a2:Int)(p5:Int)(p6:Int)(p7:ByteArray):Option Bool:=
 (bif decide (a0=1) then (some true) else (some (decide (a0=2)))).bind fun b12=>(bif b12 then (some true) else (some (decide (a0=8)))).bind fun b13=>(bif b13 then (some true) else (some (decide (a0=6)))).bind fun b14=>(bif b14 then (some true) else (some (decide (a0=9)))).bind fun b15=>(bif b15 then (some true) else (some (decide (a0=7)))).bind fun b16=>(bif b16 then (some (decide (aS .i64 a1 3<2))) else (some false)).bind fun b17=>(bif b17 then (some (decide (0<aS .i64 a2 3))) else (some false)).bind fun b18=>(jb N (⟨p5,p6,p7⟩:zT) a0).bind fun y19=>(bif !(y19.2==b18) then (some true) else ((bif !y19.2 then (some (!decide (y19.1=(⟨0,0,⟨#[]⟩⟩:zT)))) else (some false)).bind fun b22=>some b22)).bind fun b21=>bif b21 then (some false) else (bif !y19.2 then ((eC N).bind fun y25=>(bif decide (y25=0) then ((dU N).bind fun y27=>some y27) else (some false)).bind fun b26=>some b26) else ((gK N y19.1).bind fun y28=>(eC N).bind fun y32=>(bif decide (y32=1) then (some (decide (y28.Kind=a0))) else (some false)).bind fun b33=>((bif b33 then (some (decide (y28.Shape=0))) else (some false)).bind fun b34=>((bif b34 then (some (decide ((y28.Slots.length:Int)=1))) else (some false)).bind fun b35=>((bif b35 then ((gj N y19.1).bind fun y37=>some (decide (y37=(⟨p5,p6,p7⟩:zT)))) else (some false)).bind fun b36=>((bif b36 then ((jc N y19.1).bind fun y39=>some y39) else (some false)).bind fun b38=>((bif b38 then ((gW N y19.1).bind fun y41=>some (decide ((y41.length:Int)=0))) else (some false)).bind fun b40=>((bif b40 then ((dU N).bind fun y45=>some y45) else (some false)).bind fun b44=>(some b44)))))))))
def cT (N:Nat)(a0:Int)(a1:Int)(a2:Int)(y1_1:(zP×Int))(p63:Int)(p64:Int)(p65:ByteArray):Option Bool:=
 (bif decide (a0=1) then (some true) else (some (decide (a0=2)))).bind fun b70=>(bif b70 then (some true) else (some (decide (a0=8)))).bind fun b71=>(bif b71 then (some true) else (some (decide (a0=6)))).bind fun b72=>(bif b72 then (some true) else (some (decide (a0=9)))).bind fun b73=>(bif b73 then (some true) else (some (decide (a0=7)))).bind fun b74=>(bif b74 then (some (decide (aS .i64 a1 3<2))) else (some false)).bind fun b75=>(bif b75 then (some (decide (0<aS .i64 a2 3))) else (some false)).bind fun b76=>(iG N y1_1.1 (⟨p63,p64,p65⟩:zT) a0).bind fun y77=>(bif !(y77.2.1==b76) then (some true) else ((bif !y77.2.1 then (some (!decide (y77.1=(⟨0,0,⟨#[]⟩⟩:zT)))) else (some false)).bind fun b90=>some b90)).bind fun b89=>bif b89 then (some false) else (bif !y77.2.1 then ((fw N y77.2.2).bind fun y93=>(bif decide (y93=0) then ((dU N).bind fun y95=>some y95) else (some false)).bind fun b94=>some b94) else ((dk N y77.2.2 y77.1).bind fun y96=>(fw N y77.2.2).bind fun y100=>(bif decide (y100=1) then (some (decide (y96.Kind=a0))) else (some false)).bind fun b101=>((bif b101 then (some (decide (y96.Shape=0))) else (some false)).bind fun b102=>((bif b102 then (some (decide ((y96.Slots.length:Int)=1))) else (some false)).bind fun b103=>((bif b103 then ((ja N y77.2.2 y77.1).bind fun y105=>some (decide (y105=(⟨p63,p64,p65⟩:zT)))) else (some false)).bind fun b104=>((bif b104 then ((iH N y77.2.2 y77.1).bind fun y107=>some y107) else (some false)).bind fun b106=>((bif b106 then ((gv N y77.2.2 y77.1).bind fun y109=>some (decide ((y109.length:Int)=0))) else (some false)).bind fun b108=>((bif b108 then ((dU N).bind fun y113=>some y113) else (some false)).bind fun b112=>(some b112)))))))))
def gT (N:Nat)(a0:Int)(a1:Int)(a2:Int):Option Bool:=
 (kV N (⟨0,10,1,aS .i64 a2 3,0,0,0⟩:zG)).bind fun y1=>rl y1 (fun y1_0=>bif !decide (y1_0=0) then (some false) else (bif decide (aS .i64 a1 3=1) then ((eQ N 0).bind fun y9=>df N a0 a1 a2 y9.Kind y9.N y9.S) else (bif decide (aS .i64 a1 3=2) then (df N a0 a1 a2 0 0 (⟨#[]⟩)) else (bif decide (aS .i64 a1 3=3) then (df N a0 a1 a2 3 1 (⟨#[]⟩)) else (df N a0 a1 a2 1 0 (⟨#[]⟩)))))) (fun y1_1=>bif !decide (y1_1.2=0) then (some false) else (bif decide (aS .i64 a1 3=1) then ((fF N y1_1.1 0).bind fun y67=>cT N a0 a1 a2 y1_1 y67.Kind y67.N y67.S) else (bif decide (aS .i64 a1 3=2) then (cT N a0 a1 a2 y1_1 0 0 (⟨#[]⟩)) else (bif decide (aS .i64 a1 3=3) then (cT N a0 a1 a2 y1_1 3 1 (⟨#[]⟩)) else (cT N a0 a1 a2 y1_1 1 0 (⟨#[]⟩))))))
set_option maxHeartbeats 4000000 in
theorem nz {N:Nat}{a0:Int}{a1:Int}{a2:Int}{r:Bool}(h:gT N a0 a1 a2=some r):Okc Tryz.prog 3 [iV a0,iV a1,iV a2] ([]) (fun u post=>u=.bool r∧post=[]):=by
 refine bm Tryz.func3 J J ?_;simp only [aP];refine I ?_;refine gE (bB J J) ?_;refine I ?_;refine gE (aI J (re _ _ _)) ?_;obtain ⟨y1,hy1,h⟩:=aa h;rcases y1 with y1_0|y1_1
 ·replace h:=rR h;refine gD (aG (iE hy1) sX J (aE [] [] [] 0 J)) ?_;rintro _ _ ⟨_,⟨rfl,rfl⟩,rfl⟩;refine bQ ?_;refine I ?_;refine ax ?_;refine I ?_;refine ar J (fun g2=> ?_) (fun g2=> ?_)
  ·replace h:=ag g2 h;refine I ?_;obtain rfl:=ak h;exact aF J J (cS [] 0) ⟨J,J⟩
  replace h:=ah g2 h;refine I ?_;refine gE (aI J (lw _)) ?_;refine gD (aM cP J) ?_;rintro _ _ ⟨B3,rfl,rfl⟩;refine gO (ap (us:=[iV 1,iV 0,.string (⟨#[]⟩)]) (cs':=[iV 1,iV 0,.string (⟨#[]⟩)]) 0 J J J J aN J J J) ?_;rintro _ _ rfl;refine bQ ?_;refine I ?_;refine aW (fun s L=> ∃p5 p6 p7,df N a0 a1 a2 p5 p6 p7=some r∧s=[(0,iV a0),(1,iV a1),(2,iV (aS .i64 a2 3)),(6,.bool false),(7,.pointer none),(9,pV B3 0)]∧L=[al B3 29 [iV p5,iV p6,.string p7]]) ?_ ?_
  ·refine I ?_;refine gE (bB J J) ?_;refine I ?_;refine ar J (fun g8=> ?_) (fun g8=> ?_)
   ·replace h:=ag g8 h;refine I ?_;obtain ⟨y9,hy9,h⟩:=aa h;refine gD (aj (i6 hy9) wG J (ae) gV) ?_;rintro _ _ ⟨_,⟨rfl,rfl⟩,rfl⟩;refine gO (ap (us:=[iV y9.Kind,iV y9.N,.string y9.S]) (cs':=[iV y9.Kind,iV y9.N,.string y9.S]) 0 J J J J aN J J J) ?_;rintro _ _ rfl;refine bQ ?_;refine I ?_;exact ⟨_,_,⟨y9.Kind,y9.N,y9.S,h,J,J⟩,sA,cS [0] 1⟩
   replace h:=ah g8 h;refine I ?_;refine ar J (fun g10=> ?_) (fun g10=> ?_)
   ·replace h:=ag g10 h;refine eM ?_;refine gE (aI J (cu)) ?_;refine gO (ap (us:=[iV 0,iV 0,.string (⟨#[]⟩)]) (cs':=[iV 0,iV 0,.string (⟨#[]⟩)]) 0 J J J J aN J J J) ?_;rintro _ _ rfl;refine bQ ?_;refine I ?_;exact ⟨_,_,⟨0,0,⟨#[]⟩,h,J,J⟩,sA,cS [0] 1⟩
   replace h:=ah g10 h;refine I ?_;refine ar J (fun g11=> ?_) (fun g11=> ?_)
   ·replace h:=ag g11 h;refine eM ?_;refine gE (aI J (gq _ _)) ?_;refine gO (ap (us:=[iV 3,iV 1,.string (⟨#[]⟩)]) (cs':=[iV 3,iV 1,.string (⟨#[]⟩)]) 0 J J J J aN J J J) ?_;rintro _ _ rfl;refine bQ ?_;refine I ?_;exact ⟨_,_,⟨3,1,⟨#[]⟩,h,J,J⟩,sA,cS [0] 1⟩
   replace h:=ah g11 h;refine I ?_;exact ⟨_,_,⟨1,0,⟨#[]⟩,h,J,J⟩,sA,cS [0] 1⟩
  rintro _ _ ⟨p5,p6,p7,h,rfl,rfl⟩;refine I ?_;obtain ⟨b12,hb12,h⟩:=aa h;refine az 3 42 b12 ?_ ?_
  ·clear h;refine ay 39 J (fun g12=> ?_) (fun g12=> ?_)
   ·have h:=ag g12 hb12;refine I ?_;obtain rfl:=ak h;exact ac sA (cS [0] 1)
   have h:=ah g12 hb12;refine I ?_;obtain rfl:=ak h;exact ac sA (cS [0] 1)
  refine I ?_;obtain ⟨b13,hb13,h⟩:=aa h;refine az 3 46 b13 ?_ ?_
  ·clear h;refine ay 43 J (fun g13=> ?_) (fun g13=> ?_)
   ·have h:=ag g13 hb13;refine I ?_;obtain rfl:=ak h;exact ac sA (cS [0] 1)
   have h:=ah g13 hb13;refine I ?_;obtain rfl:=ak h;exact ac sA (cS [0] 1)
  refine I ?_;obtain ⟨b14,hb14,h⟩:=aa h;refine az 3 50 b14 ?_ ?_
  ·clear h;refine ay 47 J (fun g14=> ?_) (fun g14=> ?_)
   ·have h:=ag g14 hb14;refine I ?_;obtain rfl:=ak h;exact ac sA (cS [0] 1)
   have h:=ah g14 hb14;refine I ?_;obtain rfl:=ak h;exact ac sA (cS [0] 1)
  refine I ?_;obtain ⟨b15,hb15,h⟩:=aa h;refine az 3 54 b15 ?_ ?_
  ·clear h;refine ay 51 J (fun g15=> ?_) (fun g15=> ?_)
   ·have h:=ag g15 hb15;refine I ?_;obtain rfl:=ak h;exact ac sA (cS [0] 1)
   have h:=ah g15 hb15;refine I ?_;obtain rfl:=ak h;exact ac sA (cS [0] 1)
  refine I ?_;obtain ⟨b16,hb16,h⟩:=aa h;refine az 3 58 b16 ?_ ?_
  ·clear h;refine ay 55 J (fun g16=> ?_) (fun g16=> ?_)
   ·have h:=ag g16 hb16;refine I ?_;obtain rfl:=ak h;exact ac sA (cS [0] 1)
   have h:=ah g16 hb16;refine I ?_;obtain rfl:=ak h;exact ac sA (cS [0] 1)
  refine I ?_;obtain ⟨b17,hb17,h⟩:=aa h;refine az 4 64 b17 ?_ ?_
  ·clear h;refine ay 60 J (fun g17=> ?_) (fun g17=> ?_)
   ·have h:=ag g17 hb17;refine I ?_;refine fX (bB J J) J (aK g17 J) J ?_;refine I ?_;obtain rfl:=ak h;exact ac sA (cS [0] 1)
   have h:=ah g17 hb17;refine I ?_;obtain rfl:=ak h;exact ac sA (cS [0] 1)
  refine I ?_;obtain ⟨b18,hb18,h⟩:=aa h;refine az 3 68 b18 ?_ ?_
  ·clear h;refine ay 65 J (fun g18=> ?_) (fun g18=> ?_)
   ·have h:=ag g18 hb18;refine I ?_;obtain rfl:=ak h;exact ac sA (cS [0] 1)
   have h:=ah g18 hb18;refine I ?_;obtain rfl:=ak h;exact ac sA (cS [0] 1)
  refine I ?_;refine gR (am (us:=[iV p5,iV p6,.string p7]) 0 J J aL J) ?_;refine I ?_;obtain ⟨y19,hy19,h⟩:=aa h;refine gD (aj (oJ hy19) ux J (ae) mY) ?_;rintro _ _ ⟨_,⟨rfl,rfl⟩,rfl⟩;refine I ?_;refine gD (aM cP J) ?_;rintro _ _ ⟨B20,rfl,rfl⟩;refine gO (ap (us:=[iV y19.1.Kind,iV y19.1.N,.string y19.1.S]) (cs':=[iV y19.1.Kind,iV y19.1.N,.string y19.1.S]) 0 J J J J aN J J J) ?_;rintro _ _ rfl;refine bQ ?_;refine I ?_;refine ax ?_;refine I ?_;refine gE (uj J J hP) ?_;refine I ?_;obtain ⟨b21,hb21,h⟩:=aa h;refine az 8 87 b21 ?_ ?_
  ·clear h;refine ay 79 J (fun g21=> ?_) (fun g21=> ?_)
   ·have h:=ag g21 hb21;refine I ?_;obtain rfl:=ak h;exact ac sA (cS [0,1] 2)
   have h:=ah g21 hb21;refine I ?_;obtain ⟨b22,hb22,h⟩:=aa h;refine az 4 86 b22 ?_ ?_
   ·clear h;refine ay 82 J (fun g22=> ?_) (fun g22=> ?_)
    ·have h:=ag g22 hb22;refine bC (am (us:=[iV y19.1.Kind,iV y19.1.N,.string y19.1.S]) 0 J J aL J) J (aK g22 J) J ?_;refine fX (aI J (cu)) J (aK g22 J) J ?_;refine fX (ql (x:=y19.1) (y:=(⟨0,0,⟨#[]⟩⟩:zT)) J J) J (aK g22 J) J ?_;refine I ?_;obtain rfl:=ak h;exact ac sA (cS [0,1] 2)
    have h:=ah g22 hb22;refine I ?_;obtain rfl:=ak h;exact ac sA (cS [0,1] 2)
   refine I ?_;obtain rfl:=ak h;exact ac sA (cS [0,1] 2)
  refine I ?_;refine ar J (fun g23=> ?_) (fun g23=> ?_)
  ·replace h:=ag g23 h;refine I ?_;obtain rfl:=ak h;exact aF J J (cS [] 2) ⟨J,J⟩
  replace h:=ah g23 h;refine I ?_;refine ax ?_;refine I ?_;refine ar J (fun g24=> ?_) (fun g24=> ?_)
  ·replace h:=ag g24 h;refine I ?_;obtain ⟨y25,hy25,h⟩:=aa h;refine gD (aj (ga hy25) sW J (ae) fE) ?_;rintro _ _ ⟨_,⟨rfl,rfl⟩,rfl⟩;refine I ?_;obtain ⟨b26,hb26,h⟩:=aa h;refine az 2 95 b26 ?_ ?_
   ·clear h;refine ay 93 J (fun g26=> ?_) (fun g26=> ?_)
    ·have h:=ag g26 hb26;obtain ⟨y27,hy27,h⟩:=aa h;refine ck (aj (iD hy27) sV J (ae) fH) J (aK g26 J) J ?_;rintro _ _ ⟨_,⟨rfl,rfl⟩,rfl⟩;refine I ?_;obtain rfl:=ak h;exact ac sA (cS [0,1] 2)
    have h:=ah g26 hb26;refine I ?_;obtain rfl:=ak h;exact ac sA (cS [0,1] 2)
   refine I ?_;obtain rfl:=ak h;exact aF J J (cS [] 2) ⟨J,J⟩
  replace h:=ah g24 h;refine I ?_;refine gR (am (us:=[iV y19.1.Kind,iV y19.1.N,.string y19.1.S]) 0 J J aL J) ?_;obtain ⟨y28,hy28,h⟩:=aa h;refine gD (aj (kK hy28) pI J (ae) jU) ?_;rintro _ _ ⟨_,⟨A29,n29,c29,A30,n30,c30,rfl,rfl⟩,rfl⟩;refine gD (aM iS J) ?_;rintro _ _ ⟨B31,rfl,rfl⟩;refine gO (ap (us:=[iV y28.Kind,iV y28.Shape,iV y28.Flags,iV y28.Age,Y A29 n29 c29,Y A30 n30 c30]) (cs':=[iV y28.Kind,iV y28.Shape,iV y28.Flags,iV y28.Age,Y A29 n29 c29,Y A30 n30 c30]) 0 J J J J dA J J J) ?_;rintro _ _ rfl;refine bQ ?_;refine I ?_;refine ax ?_;obtain ⟨y32,hy32,h⟩:=aa h;obtain ⟨b33,hb33,h⟩:=aa h;obtain ⟨c33,hc33⟩: ∃c,decide (y32=1)=c:=⟨_,rfl⟩
  obtain hs33:c33=true→((decide (y28.Kind=a0))=b33):=by
   cases c33
   ·exact fun e=>by cases e
   replace hb33:=ag hc33 hb33
   exact fun _=>Option.some.inj hb33
  have ho33:c33=false→b33=false:=fun e=>(Option.some.inj (ah (hc33.trans e) hb33)).symm
  obtain ⟨b34,hb34,h⟩:=aa h;obtain ⟨c34,hc34⟩: ∃c,b33=c:=⟨_,rfl⟩
  obtain hs34:c34=true→((decide (y28.Shape=0))=b34):=by
   cases c34
   ·exact fun e=>by cases e
   replace hb34:=ag hc34 hb34
   exact fun _=>Option.some.inj hb34
  have ho34:c34=false→b34=false:=fun e=>(Option.some.inj (ah (hc34.trans e) hb34)).symm
  obtain ⟨b35,hb35,h⟩:=aa h;obtain ⟨c35,hc35⟩: ∃c,b34=c:=⟨_,rfl⟩
  obtain hs35:c35=true→((decide ((y28.Slots.length:Int)=1))=b35):=by
   cases c35
   ·exact fun e=>by cases e
   replace hb35:=ag hc35 hb35
   exact fun _=>Option.some.inj hb35
  have ho35:c35=false→b35=false:=fun e=>(Option.some.inj (ah (hc35.trans e) hb35)).symm
  obtain ⟨b36,hb36,h⟩:=aa h;obtain ⟨c36,hc36⟩: ∃c,b35=c:=⟨_,rfl⟩
  obtain ⟨y37,hs36⟩: ∃(y37:(zT)),c36=true→((gj N y19.1)=some y37∧(decide (y37=(⟨p5,p6,p7⟩:zT)))=b36):=by
   cases c36
   ·exact ⟨default,fun e=>by cases e⟩
   replace hb36:=ag hc36 hb36;obtain ⟨y37,hy37,hb36⟩:=aa hb36;exact ⟨y37,fun _=>⟨hy37,Option.some.inj hb36⟩⟩
  have ho36:c36=false→b36=false:=fun e=>(Option.some.inj (ah (hc36.trans e) hb36)).symm
  obtain ⟨b38,hb38,h⟩:=aa h;obtain ⟨c38,hc38⟩: ∃c,b36=c:=⟨_,rfl⟩
  obtain ⟨y39,hs38⟩: ∃(y39:(Bool)),c38=true→((jc N y19.1)=some y39∧y39=b38):=by
   cases c38
   ·exact ⟨default,fun e=>by cases e⟩
   replace hb38:=ag hc38 hb38;obtain ⟨y39,hy39,hb38⟩:=aa hb38;exact ⟨y39,fun _=>⟨hy39,Option.some.inj hb38⟩⟩
  have ho38:c38=false→b38=false:=fun e=>(Option.some.inj (ah (hc38.trans e) hb38)).symm
  obtain ⟨b40,hb40,h⟩:=aa h;obtain ⟨c40,hc40⟩: ∃c,b38=c:=⟨_,rfl⟩
  obtain ⟨y41,hs40⟩: ∃(y41:((List zV))),c40=true→((gW N y19.1)=some y41∧(decide ((y41.length:Int)=0))=b40):=by
   cases c40
   ·exact ⟨default,fun e=>by cases e⟩
   replace hb40:=ag hc40 hb40;obtain ⟨y41,hy41,hb40⟩:=aa hb40;exact ⟨y41,fun _=>⟨hy41,Option.some.inj hb40⟩⟩
  have ho40:c40=false→b40=false:=fun e=>(Option.some.inj (ah (hc40.trans e) hb40)).symm
  obtain ⟨b44,hb44,h⟩:=aa h;obtain ⟨c44,hc44⟩: ∃c,b40=c:=⟨_,rfl⟩
  obtain ⟨y45,hs44⟩: ∃(y45:(Bool)),c44=true→((dU N)=some y45∧y45=b44):=by
   cases c44
   ·exact ⟨default,fun e=>by cases e⟩
   replace hb44:=ag hc44 hb44;obtain ⟨y45,hy45,hb44⟩:=aa hb44;exact ⟨y45,fun _=>⟨hy45,Option.some.inj hb44⟩⟩
  have ho44:c44=false→b44=false:=fun e=>(Option.some.inj (ah (hc44.trans e) hb44)).symm
  refine gS (t:=[(0,iV a0),(6,.bool false),(7,.pointer none),(9,pV B3 0),(11,pV B20 0),(13,pV B31 0)]) ?_ jQ (ab _)
  refine gx V 42 [] [41] [99,100,101,102,103,104,105,106,107,108,109,110,111,112,113,114,115,116,117,118,119,120,121,122,123,124,125,126,127,128,129,130,131,132,133,134,135,136,137,138,139,140] [[],[0],[1],[2],[3],[3,4],[3],[3,5,6],[3,7],[8],[9],[9,10],[9,11],[9,12],[13],[14],[14,15],[14,16],[14,17],[14,18],[19],[20],[20],[20,21,22],[20],[20,23,24],[20,25],[26],[27],[27],[27,28,29],[27,30],[31],[32],[32],[32,33,34],[32,35],[32,36],[32,37],[38],[39],[39,40]] [aV (.pointer none),
aV (iV y32),
aV (.bool (decide (y32=1))),
aV (.bool (decide (y32=1))),
(bif c33 then aV (pV B31 0) else aV undef),
(bif c33 then aV (iV y28.Kind) else aV undef),
(bif c33 then aV (iV a0) else aV undef),
(bif c33 then aV (.bool (decide (y28.Kind=a0))) else aV undef),
aV (.bool b33),
aV (.bool b33),
(bif c34 then aV (pV B31 1) else aV undef),
(bif c34 then aV (iV y28.Shape) else aV undef),
(bif c34 then aV (.bool (decide (y28.Shape=0))) else aV undef),
aV (.bool b34),
aV (.bool b34),
(bif c35 then aV (pV B31 4) else aV undef),
(bif c35 then aV (Y A29 n29 c29) else aV undef),
(bif c35 then aV (iV (y28.Slots.length:Int)) else aV undef),
(bif c35 then aV (.bool (decide ((y28.Slots.length:Int)=1))) else aV undef),
aV (.bool b35),
aV (.bool b35),
(bif c36 then aV (.pointer none) else aV undef),
(bif c36 then aV (.agg #[iV y19.1.Kind,iV y19.1.N,.string y19.1.S]) else aV undef),
(bif c36 then aV (.agg #[iV y37.Kind,iV y37.N,.string y37.S]) else aV undef),
(bif c36 then aV (.agg #[iV p5,iV p6,.string p7]) else aV undef),
(bif c36 then aV (.bool (decide (y37=(⟨p5,p6,p7⟩:zT)))) else aV undef),
aV (.bool b36),
aV (.bool b36),
(bif c38 then aV (.pointer none) else aV undef),
(bif c38 then aV (.agg #[iV y19.1.Kind,iV y19.1.N,.string y19.1.S]) else aV undef),
(bif c38 then aV (.bool y39) else aV undef),
aV (.bool b38),
aV (.bool b38),
(bif c40 then aV (.pointer none) else aV undef),
(bif c40 then aV (.agg #[iV y19.1.Kind,iV y19.1.N,.string y19.1.S]) else aV undef),
(bif c40 then aX3 (fun (A43:Option Addr) (n43 c43:Nat)=> Y A43 n43 c43) (fun A43 n43 c43=> [js A43 n43 c43 y41]) else aV undef),
(bif c40 then aV (iV (y41.length:Int)) else aV undef),
(bif c40 then aV (.bool (decide ((y41.length:Int)=0))) else aV undef),
aV (.bool b40),
aV (.bool b40),
(bif c44 then aV (.bool y45) else aV undef),
aV (.bool b44)] [] (ab _) (jD) V rfl rfl ?_ ?_ ?_
  ·exact jC
  ·refine ad J ?_ ?_
   ·cases c44
    ·exact ba (bV hc44 J J) J (aA (by rw [ho44 rfl]) (ab _))
    obtain ⟨hy45,hv44⟩:=hs44 rfl;exact ba (bU hc44 J J) J (aA (by rw [hv44]) (ab _))
   refine ad J ?_ ?_
   ·cases c44
    ·exact cZ (bT hc44 J) (aA J (ab _))
    obtain ⟨hy45,hv44⟩:=hs44 rfl;refine jO (aj (iD hy45) sV J (ae) fH) (aK hc44 J) ?_;rintro _ _ ⟨_,⟨rfl,rfl⟩,rfl⟩;exact aA J (ab _)
   refine ad J ?_ ?_
   ·exact ba (aq J) J (aA J (ab _))
   refine ad J ?_ ?_
   ·cases c40
    ·exact ba (bV hc40 J J) J (aA (by rw [ho40 rfl]) (ab _))
    obtain ⟨hy41,hv40⟩:=hs40 rfl;exact ba (bU hc40 J J) J (aA (by rw [hv40]) (ab _))
   refine ad J ?_ ?_
   ·cases c40
    ·exact cZ (bT hc40 J) (aA J (ab _))
    obtain ⟨hy41,hv40⟩:=hs40 rfl;exact ba (ka J J) (aK hc40 J) (aA J (ab _))
   refine ad J ?_ ?_
   ·cases c40
    ·exact cZ (bT hc40 J) (aA J (ab _))
    obtain ⟨hy41,hv40⟩:=hs40 rfl;intro A43 n43 c43;exact dz (bz 0 J aw J zC) (aK hc40 J) (aA J (ab _))
   refine ad J ?_ ?_
   ·cases c40
    ·exact cZ (bT hc40 J) (aA J (ab _))
    obtain ⟨hy41,hv40⟩:=hs40 rfl;refine jO (aj (nG hy41) sk J (ae) my) (aK hc40 J) ?_;rintro _ _ ⟨_,⟨A42,n42,c42,rfl,rfl⟩,rfl⟩;exact tI A42 n42 c42 (ab _)
   refine ad J ?_ ?_
   ·cases c40
    ·exact cZ (bT hc40 J) (aA J (ab _))
    obtain ⟨hy41,hv40⟩:=hs40 rfl;exact dz (am (us:=[iV y19.1.Kind,iV y19.1.N,.string y19.1.S]) 3 J J aL J) (aK hc40 J) (aA J (ab _))
   refine ad J ?_ ?_
   ·cases c40
    ·exact cZ (bT hc40 J) (aA J (ab _))
    obtain ⟨hy41,hv40⟩:=hs40 rfl;exact ba (aq J) (aK hc40 J) (aA J (ab _))
   refine ad J ?_ ?_
   ·exact ba (aq J) J (aA J (ab _))
   refine ad J ?_ ?_
   ·cases c38
    ·exact ba (bV hc38 J J) J (aA (by rw [ho38 rfl]) (ab _))
    obtain ⟨hy39,hv38⟩:=hs38 rfl;exact ba (bU hc38 J J) J (aA (by rw [hv38]) (ab _))
   refine ad J ?_ ?_
   ·cases c38
    ·exact cZ (bT hc38 J) (aA J (ab _))
    obtain ⟨hy39,hv38⟩:=hs38 rfl;refine jO (aj (oK hy39) sm J (ae) mZ) (aK hc38 J) ?_;rintro _ _ ⟨_,⟨rfl,rfl⟩,rfl⟩;exact aA J (ab _)
   refine ad J ?_ ?_
   ·cases c38
    ·exact cZ (bT hc38 J) (aA J (ab _))
    obtain ⟨hy39,hv38⟩:=hs38 rfl;exact dz (am (us:=[iV y19.1.Kind,iV y19.1.N,.string y19.1.S]) 3 J J aL J) (aK hc38 J) (aA J (ab _))
   refine ad J ?_ ?_
   ·cases c38
    ·exact cZ (bT hc38 J) (aA J (ab _))
    obtain ⟨hy39,hv38⟩:=hs38 rfl;exact ba (aq J) (aK hc38 J) (aA J (ab _))
   refine ad J ?_ ?_
   ·exact ba (aq J) J (aA J (ab _))
   refine ad J ?_ ?_
   ·cases c36
    ·exact ba (bV hc36 J J) J (aA (by rw [ho36 rfl]) (ab _))
    obtain ⟨hy37,hv36⟩:=hs36 rfl;exact ba (bU hc36 J J) J (aA (by rw [hv36]) (ab _))
   refine ad J ?_ ?_
   ·cases c36
    ·exact cZ (bT hc36 J) (aA J (ab _))
    obtain ⟨hy37,hv36⟩:=hs36 rfl;exact ba (pz (x:=y37) (y:=(⟨p5,p6,p7⟩:zT)) J J) (aK hc36 J) (aA J (ab _))
   refine ad J ?_ ?_
   ·cases c36
    ·exact cZ (bT hc36 J) (aA J (ab _))
    obtain ⟨hy37,hv36⟩:=hs36 rfl;exact dz (am (us:=[iV p5,iV p6,.string p7]) 4 J J aL J) (aK hc36 J) (aA J (ab _))
   refine ad J ?_ ?_
   ·cases c36
    ·exact cZ (bT hc36 J) (aA J (ab _))
    obtain ⟨hy37,hv36⟩:=hs36 rfl;refine jO (aj (mX hy37) uM J (ae) lV) (aK hc36 J) ?_;rintro _ _ ⟨_,⟨rfl,rfl⟩,rfl⟩;exact aA J (ab _)
   refine ad J ?_ ?_
   ·cases c36
    ·exact cZ (bT hc36 J) (aA J (ab _))
    obtain ⟨hy37,hv36⟩:=hs36 rfl;exact dz (am (us:=[iV y19.1.Kind,iV y19.1.N,.string y19.1.S]) 3 J J aL J) (aK hc36 J) (aA J (ab _))
   refine ad J ?_ ?_
   ·cases c36
    ·exact cZ (bT hc36 J) (aA J (ab _))
    obtain ⟨hy37,hv36⟩:=hs36 rfl;exact ba (aq J) (aK hc36 J) (aA J (ab _))
   refine ad J ?_ ?_
   ·exact ba (aq J) J (aA J (ab _))
   refine ad J ?_ ?_
   ·cases c35
    ·exact ba (bV hc35 J J) J (aA (by rw [ho35 rfl]) (ab _))
    have hv35:=hs35 rfl;exact ba (bU hc35 J J) J (aA (by rw [hv35]) (ab _))
   refine ad J ?_ ?_
   ·cases c35
    ·exact cZ (bT hc35 J) (aA J (ab _))
    have hv35:=hs35 rfl;exact ba (ka J J) (aK hc35 J) (aA J (ab _))
   refine ad J ?_ ?_
   ·cases c35
    ·exact cZ (bT hc35 J) (aA J (ab _))
    have hv35:=hs35 rfl;exact dz (bz 1 J aw J hE) (aK hc35 J) (aA J (ab _))
   refine ad J ?_ ?_
   ·cases c35
    ·exact cZ (bT hc35 J) (aA J (ab _))
    have hv35:=hs35 rfl;exact dz (aR 0 J J eR J) (aK hc35 J) (aA J (ab _))
   refine ad J ?_ ?_
   ·cases c35
    ·exact cZ (bT hc35 J) (aA J (ab _))
    have hv35:=hs35 rfl;exact ba (bp J eP) (aK hc35 J) (aA J (ab _))
   refine ad J ?_ ?_
   ·exact ba (aq J) J (aA J (ab _))
   refine ad J ?_ ?_
   ·cases c34
    ·exact ba (bV hc34 J J) J (aA (by rw [ho34 rfl]) (ab _))
    have hv34:=hs34 rfl;exact ba (bU hc34 J J) J (aA (by rw [hv34]) (ab _))
   refine ad J ?_ ?_
   ·cases c34
    ·exact cZ (bT hc34 J) (aA J (ab _))
    have hv34:=hs34 rfl;exact ba (ka J J) (aK hc34 J) (aA J (ab _))
   refine ad J ?_ ?_
   ·cases c34
    ·exact cZ (bT hc34 J) (aA J (ab _))
    have hv34:=hs34 rfl;exact dz (aR 0 J J cX J) (aK hc34 J) (aA J (ab _))
   refine ad J ?_ ?_
   ·cases c34
    ·exact cZ (bT hc34 J) (aA J (ab _))
    have hv34:=hs34 rfl;exact ba (bp J iK) (aK hc34 J) (aA J (ab _))
   refine ad J ?_ ?_
   ·exact ba (aq J) J (aA J (ab _))
   refine ad J ?_ ?_
   ·cases c33
    ·exact ba (bV hc33 J J) J (aA (by rw [ho33 rfl]) (ab _))
    have hv33:=hs33 rfl;exact ba (bU hc33 J J) J (aA (by rw [hv33]) (ab _))
   refine ad J ?_ ?_
   ·cases c33
    ·exact cZ (bT hc33 J) (aA J (ab _))
    have hv33:=hs33 rfl;exact ba (ka J J) (aK hc33 J) (aA J (ab _))
   refine ad J ?_ ?_
   ·cases c33
    ·exact cZ (bT hc33 J) (aA J (ab _))
    have hv33:=hs33 rfl;exact ba (aq J) (aK hc33 J) (aA J (ab _))
   refine ad J ?_ ?_
   ·cases c33
    ·exact cZ (bT hc33 J) (aA J (ab _))
    have hv33:=hs33 rfl;exact dz (aR 0 J J cX J) (aK hc33 J) (aA J (ab _))
   refine ad J ?_ ?_
   ·cases c33
    ·exact cZ (bT hc33 J) (aA J (ab _))
    have hv33:=hs33 rfl;exact ba (ce J qL) (aK hc33 J) (aA J (ab _))
   refine ad J ?_ ?_
   ·exact ba (aq J) J (aA J (ab _))
   refine ad J ?_ ?_
   ·exact ba (ka J J) J (aA J (ab _))
   refine ad J ?_ ?_
   ·refine jO (aj (ga hy32) sW J (ae) fE) J ?_;rintro _ _ ⟨_,⟨rfl,rfl⟩,rfl⟩;exact aA J (ab _)
   refine ad J ?_ ?_
   ·exact ba (aq J) J (aA J (ab _))
   exact ee
  refine lz (t:=[(140,.bool b44),(0,iV a0),(6,.bool false),(7,.pointer none),(9,pV B3 0),(11,pV B20 0),(13,pV B31 0)]) (L':=[al B31 37 [iV y28.Kind,iV y28.Shape,iV y28.Flags,iV y28.Age,Y A29 n29 c29,Y A30 n30 c30],aY A29 n29 c29 y28.Slots,aY A30 n30 c30 y28.More,al B20 29 [iV y19.1.Kind,iV y19.1.N,.string y19.1.S],al B3 29 [iV p5,iV p6,.string p7]]) ?_ jQ (ab _);refine pN 42 J V (aZ J) J J J ?_;refine jP V ?_;refine I ?_;obtain rfl:=ak h;exact aF J J (cS [] 5) ⟨J,J⟩
 replace h:=rQ h;refine gD (aG (iE hy1) sX J (aE [] [] [] 0 J)) ?_;rintro _ _ ⟨_,⟨B46,B47,A48,n48,c48,A49,n49,c49,A50,n50,c50,A51,n51,c51,B52,M53,B54,A55,n55,c55,M56,A57,n57,c57,A58,n58,c58,A59,n59,c59,rfl,rfl⟩,rfl⟩;refine bQ ?_;refine I ?_;refine ax ?_;refine I ?_;refine ar J (fun g60=> ?_) (fun g60=> ?_)
 ·replace h:=ag g60 h;refine I ?_;obtain rfl:=ak h;exact aF J J (cS [] 14) ⟨J,J⟩
 replace h:=ah g60 h;refine I ?_;refine gE (aI J (lw _)) ?_;refine gD (aM cP J) ?_;rintro _ _ ⟨B61,rfl,rfl⟩;refine gO (ap (us:=[iV 1,iV 0,.string (⟨#[]⟩)]) (cs':=[iV 1,iV 0,.string (⟨#[]⟩)]) 0 J J J J aN J J J) ?_;rintro _ _ rfl;refine bQ ?_;refine I ?_;refine aW (fun s L=> ∃p63 p64 p65,cT N a0 a1 a2 y1_1 p63 p64 p65=some r∧s=[(0,iV a0),(1,iV a1),(2,iV (aS .i64 a2 3)),(6,.bool false),(7,pV B46 0),(9,pV B61 0)]∧L=[bv A57 n57 c57 y1_1.1.symbols_,cY A58 n58 c58 y1_1.1.events_,bv A59 n59 c59 y1_1.1.out_,al B46 73 [iV y1_1.1.spent_.steps_,iV y1_1.1.spent_.made_,iV y1_1.1.spent_.calls_,iV y1_1.1.config_.Way,iV y1_1.1.config_.Steps,iV y1_1.1.config_.Calls,iV y1_1.1.config_.Made,iV y1_1.1.config_.Young,iV y1_1.1.config_.Full,iV y1_1.1.config_.Sites,.nilIface,pV B47 0,pV B54 0,Y A57 n57 c57,iV y1_1.1.epoch_,iV y1_1.1.serial_,iV y1_1.1.sleepers_,Y A58 n58 c58,Y A59 n59 c59],al B61 29 [iV p63,iV p64,.string p65],bL A48 n48 c48 y1_1.1.heap_.m_.Young,bL A49 n49 c49 y1_1.1.heap_.m_.Old,aY A50 n50 c50 y1_1.1.heap_.roots_,aY A51 n51 c51 y1_1.1.heap_.pending_,al B47 99 [Y A48 n48 c48,Y A49 n49 c49,Y A50 n50 c50,Y A51 n51 c51,pV B52 0],dG A55 n55 c55 y1_1.1.shapes_.shapes_,aQ aJ di M56 y1_1.1.shapes_.next_,al B54 118 [Y A55 n55 c55,.map (some M56)],aQ dc dj M53 y1_1.1.heap_.set_.at_,al B52 143 [.map (some M53)]]) ?_ ?_
 ·refine I ?_;refine gE (bB J J) ?_;refine I ?_;refine ar J (fun g66=> ?_) (fun g66=> ?_)
  ·replace h:=ag g66 h;refine I ?_;obtain ⟨y67,hy67,h⟩:=aa h;refine gD (aj (jB hy67) wG J (hD (av (i:=1) J) (hD (av (i:=2) J) (hD (ao (i:=3) J) (hD (ao (i:=4) J) (hD (ao (i:=5) J) (hD (ao (i:=6) J) (hD (av (i:=7) J) (hD (aU (i:=8) J) (hD (av (i:=9) J) (hD (ao (i:=10) J) (hD (aU (i:=11) J) (hD (ai (i:=12) J J) (hD (ai (i:=13) J J) (hD (ai (i:=14) J J) ae)))))))))))))) i7) ?_;rintro _ _ ⟨_,⟨rfl,rfl⟩,rfl⟩;refine gO (ap (us:=[iV y67.Kind,iV y67.N,.string y67.S]) (cs':=[iV y67.Kind,iV y67.N,.string y67.S]) 0 J J J J aN J J J) ?_;rintro _ _ rfl;refine bQ ?_;refine I ?_;exact ⟨_,_,⟨y67.Kind,y67.N,y67.S,h,J,J⟩,sA,cS [12,13,14,1,0,3,4,5,6,2,10,11,9,8,7] 15⟩
  replace h:=ah g66 h;refine I ?_;refine ar J (fun g68=> ?_) (fun g68=> ?_)
  ·replace h:=ag g68 h;refine eM ?_;refine gE (aI J (cu)) ?_;refine gO (ap (us:=[iV 0,iV 0,.string (⟨#[]⟩)]) (cs':=[iV 0,iV 0,.string (⟨#[]⟩)]) 0 J J J J aN J J J) ?_;rintro _ _ rfl;refine bQ ?_;refine I ?_;exact ⟨_,_,⟨0,0,⟨#[]⟩,h,J,J⟩,sA,cS [12,13,14,1,0,3,4,5,6,2,10,11,9,8,7] 15⟩
  replace h:=ah g68 h;refine I ?_;refine ar J (fun g69=> ?_) (fun g69=> ?_)
  ·replace h:=ag g69 h;refine eM ?_;refine gE (aI J (gq _ _)) ?_;refine gO (ap (us:=[iV 3,iV 1,.string (⟨#[]⟩)]) (cs':=[iV 3,iV 1,.string (⟨#[]⟩)]) 0 J J J J aN J J J) ?_;rintro _ _ rfl;refine bQ ?_;refine I ?_;exact ⟨_,_,⟨3,1,⟨#[]⟩,h,J,J⟩,sA,cS [12,13,14,1,0,3,4,5,6,2,10,11,9,8,7] 15⟩
  replace h:=ah g69 h;refine I ?_;exact ⟨_,_,⟨1,0,⟨#[]⟩,h,J,J⟩,sA,cS [12,13,14,1,0,3,4,5,6,2,10,11,9,8,7] 15⟩
 rintro _ _ ⟨p63,p64,p65,h,rfl,rfl⟩;refine I ?_;obtain ⟨b70,hb70,h⟩:=aa h;refine az 3 42 b70 ?_ ?_
 ·clear h;refine ay 39 J (fun g70=> ?_) (fun g70=> ?_)
  ·have h:=ag g70 hb70;refine I ?_;obtain rfl:=ak h;exact ac sA (cS [0,1,2,3,4,5,6,7,8,9,10,11,12,13,14] 15)
  have h:=ah g70 hb70;refine I ?_;obtain rfl:=ak h;exact ac sA (cS [0,1,2,3,4,5,6,7,8,9,10,11,12,13,14] 15)
 refine I ?_;obtain ⟨b71,hb71,h⟩:=aa h;refine az 3 46 b71 ?_ ?_
 ·clear h;refine ay 43 J (fun g71=> ?_) (fun g71=> ?_)
  ·have h:=ag g71 hb71;refine I ?_;obtain rfl:=ak h;exact ac sA (cS [0,1,2,3,4,5,6,7,8,9,10,11,12,13,14] 15)
  have h:=ah g71 hb71;refine I ?_;obtain rfl:=ak h;exact ac sA (cS [0,1,2,3,4,5,6,7,8,9,10,11,12,13,14] 15)
 refine I ?_;obtain ⟨b72,hb72,h⟩:=aa h;refine az 3 50 b72 ?_ ?_
 ·clear h;refine ay 47 J (fun g72=> ?_) (fun g72=> ?_)
  ·have h:=ag g72 hb72;refine I ?_;obtain rfl:=ak h;exact ac sA (cS [0,1,2,3,4,5,6,7,8,9,10,11,12,13,14] 15)
  have h:=ah g72 hb72;refine I ?_;obtain rfl:=ak h;exact ac sA (cS [0,1,2,3,4,5,6,7,8,9,10,11,12,13,14] 15)
 refine I ?_;obtain ⟨b73,hb73,h⟩:=aa h;refine az 3 54 b73 ?_ ?_
 ·clear h;refine ay 51 J (fun g73=> ?_) (fun g73=> ?_)
  ·have h:=ag g73 hb73;refine I ?_;obtain rfl:=ak h;exact ac sA (cS [0,1,2,3,4,5,6,7,8,9,10,11,12,13,14] 15)
  have h:=ah g73 hb73;refine I ?_;obtain rfl:=ak h;exact ac sA (cS [0,1,2,3,4,5,6,7,8,9,10,11,12,13,14] 15)
 refine I ?_;obtain ⟨b74,hb74,h⟩:=aa h;refine az 3 58 b74 ?_ ?_
 ·clear h;refine ay 55 J (fun g74=> ?_) (fun g74=> ?_)
  ·have h:=ag g74 hb74;refine I ?_;obtain rfl:=ak h;exact ac sA (cS [0,1,2,3,4,5,6,7,8,9,10,11,12,13,14] 15)
  have h:=ah g74 hb74;refine I ?_;obtain rfl:=ak h;exact ac sA (cS [0,1,2,3,4,5,6,7,8,9,10,11,12,13,14] 15)
 refine I ?_;obtain ⟨b75,hb75,h⟩:=aa h;refine az 4 64 b75 ?_ ?_
 ·clear h;refine ay 60 J (fun g75=> ?_) (fun g75=> ?_)
  ·have h:=ag g75 hb75;refine I ?_;refine fX (bB J J) J (aK g75 J) J ?_;refine I ?_;obtain rfl:=ak h;exact ac sA (cS [0,1,2,3,4,5,6,7,8,9,10,11,12,13,14] 15)
  have h:=ah g75 hb75;refine I ?_;obtain rfl:=ak h;exact ac sA (cS [0,1,2,3,4,5,6,7,8,9,10,11,12,13,14] 15)
 refine I ?_;obtain ⟨b76,hb76,h⟩:=aa h;refine az 3 68 b76 ?_ ?_
 ·clear h;refine ay 65 J (fun g76=> ?_) (fun g76=> ?_)
  ·have h:=ag g76 hb76;refine I ?_;obtain rfl:=ak h;exact ac sA (cS [0,1,2,3,4,5,6,7,8,9,10,11,12,13,14] 15)
  have h:=ah g76 hb76;refine I ?_;obtain rfl:=ak h;exact ac sA (cS [0,1,2,3,4,5,6,7,8,9,10,11,12,13,14] 15)
 refine I ?_;refine gR (am (us:=[iV p63,iV p64,.string p65]) 4 J J aL J) ?_;refine I ?_;obtain ⟨y77,hy77,h⟩:=aa h;refine gD (aG (mg hy77) ux J (aE [0,1,2] [3,9,5,6,7,8,14,13,12,10,11] [0,1,2,4] 15 J)) ?_;rintro _ _ ⟨_,⟨A78,n78,c78,A79,n79,c79,A80,n80,c80,A81,n81,c81,M82,A83,n83,c83,M84,A85,n85,c85,A86,n86,c86,A87,n87,c87,rfl,rfl⟩,rfl⟩;refine bQ ?_;refine I ?_;refine gD (aM cP J) ?_;rintro _ _ ⟨B88,rfl,rfl⟩;refine gO (ap (us:=[iV y77.1.Kind,iV y77.1.N,.string y77.1.S]) (cs':=[iV y77.1.Kind,iV y77.1.N,.string y77.1.S]) 0 J J J J aN J J J) ?_;rintro _ _ rfl;refine bQ ?_;refine I ?_;refine ax ?_;refine I ?_;refine gE (uj J J hP) ?_;refine I ?_;obtain ⟨b89,hb89,h⟩:=aa h;refine az 8 87 b89 ?_ ?_
 ·clear h;refine ay 79 J (fun g89=> ?_) (fun g89=> ?_)
  ·have h:=ag g89 hb89;refine I ?_;obtain rfl:=ak h;exact ac sA (cS [0,1,2,3,4,5,6,7,8,9,10,11,12,13,14,15,16,17,18] 19)
  have h:=ah g89 hb89;refine I ?_;obtain ⟨b90,hb90,h⟩:=aa h;refine az 4 86 b90 ?_ ?_
  ·clear h;refine ay 82 J (fun g90=> ?_) (fun g90=> ?_)
   ·have h:=ag g90 hb90;refine bC (am (us:=[iV y77.1.Kind,iV y77.1.N,.string y77.1.S]) 0 J J aL J) J (aK g90 J) J ?_;refine fX (aI J (cu)) J (aK g90 J) J ?_;refine fX (ql (x:=y77.1) (y:=(⟨0,0,⟨#[]⟩⟩:zT)) J J) J (aK g90 J) J ?_;refine I ?_;obtain rfl:=ak h;exact ac sA (cS [0,1,2,3,4,5,6,7,8,9,10,11,12,13,14,15,16,17,18] 19)
   have h:=ah g90 hb90;refine I ?_;obtain rfl:=ak h;exact ac sA (cS [0,1,2,3,4,5,6,7,8,9,10,11,12,13,14,15,16,17,18] 19)
  refine I ?_;obtain rfl:=ak h;exact ac sA (cS [0,1,2,3,4,5,6,7,8,9,10,11,12,13,14,15,16,17,18] 19)
 refine I ?_;refine ar J (fun g91=> ?_) (fun g91=> ?_)
 ·replace h:=ag g91 h;refine I ?_;obtain rfl:=ak h;exact aF J J (cS [] 19) ⟨J,J⟩
 replace h:=ah g91 h;refine I ?_;refine ax ?_;refine I ?_;refine ar J (fun g92=> ?_) (fun g92=> ?_)
 ·replace h:=ag g92 h;refine I ?_;obtain ⟨y93,hy93,h⟩:=aa h;refine gD (aj (iy hy93) sW J (hD (av (i:=1) J) (hD (av (i:=2) J) (hD (ao (i:=3) J) (hD (ao (i:=4) J) (hD (ao (i:=5) J) (hD (ao (i:=6) J) (hD (av (i:=7) J) (hD (aU (i:=8) J) (hD (av (i:=9) J) (hD (ao (i:=10) J) (hD (aU (i:=11) J) (hD (ai (i:=12) J J) (hD (ai (i:=13) J J) (hD (ai (i:=14) J J) ae)))))))))))))) gb) ?_;rintro _ _ ⟨_,⟨rfl,rfl⟩,rfl⟩;refine I ?_;obtain ⟨b94,hb94,h⟩:=aa h;refine az 2 95 b94 ?_ ?_
  ·clear h;refine ay 93 J (fun g94=> ?_) (fun g94=> ?_)
   ·have h:=ag g94 hb94;obtain ⟨y95,hy95,h⟩:=aa h;refine ck (aj (iD hy95) sV J (ae) fH) J (aK g94 J) J ?_;rintro _ _ ⟨_,⟨rfl,rfl⟩,rfl⟩;refine I ?_;obtain rfl:=ak h;exact ac sA (cS [0,1,2,3,4,5,6,7,8,9,10,11,12,13,14,15,16,17,18] 19)
   have h:=ah g94 hb94;refine I ?_;obtain rfl:=ak h;exact ac sA (cS [0,1,2,3,4,5,6,7,8,9,10,11,12,13,14,15,16,17,18] 19)
  refine I ?_;obtain rfl:=ak h;exact aF J J (cS [] 19) ⟨J,J⟩
 replace h:=ah g92 h;refine I ?_;refine gR (am (us:=[iV y77.1.Kind,iV y77.1.N,.string y77.1.S]) 0 J J aL J) ?_;obtain ⟨y96,hy96,h⟩:=aa h;refine gD (aj (dF hy96) pI J (hD (av (i:=1) J) (hD (av (i:=2) J) (hD (ao (i:=3) J) (hD (ao (i:=4) J) (hD (ao (i:=5) J) (hD (ao (i:=6) J) (hD (av (i:=7) J) (hD (aU (i:=8) J) (hD (av (i:=9) J) (hD (ao (i:=10) J) (hD (aU (i:=11) J) (hD (ai (i:=12) J J) (hD (ai (i:=13) J J) (hD (ai (i:=14) J J) ae)))))))))))))) dq) ?_;rintro _ _ ⟨_,⟨A97,n97,c97,A98,n98,c98,rfl,rfl⟩,rfl⟩;refine gD (aM iS J) ?_;rintro _ _ ⟨B99,rfl,rfl⟩;refine gO (ap (us:=[iV y96.Kind,iV y96.Shape,iV y96.Flags,iV y96.Age,Y A97 n97 c97,Y A98 n98 c98]) (cs':=[iV y96.Kind,iV y96.Shape,iV y96.Flags,iV y96.Age,Y A97 n97 c97,Y A98 n98 c98]) 0 J J J J dA J J J) ?_;rintro _ _ rfl;refine bQ ?_;refine I ?_;refine ax ?_;obtain ⟨y100,hy100,h⟩:=aa h;obtain ⟨b101,hb101,h⟩:=aa h;obtain ⟨c101,hc101⟩: ∃c,decide (y100=1)=c:=⟨_,rfl⟩
 obtain hs101:c101=true→((decide (y96.Kind=a0))=b101):=by
  cases c101
  ·exact fun e=>by cases e
  replace hb101:=ag hc101 hb101
  exact fun _=>Option.some.inj hb101
 have ho101:c101=false→b101=false:=fun e=>(Option.some.inj (ah (hc101.trans e) hb101)).symm
 obtain ⟨b102,hb102,h⟩:=aa h;obtain ⟨c102,hc102⟩: ∃c,b101=c:=⟨_,rfl⟩
 obtain hs102:c102=true→((decide (y96.Shape=0))=b102):=by
  cases c102
  ·exact fun e=>by cases e
  replace hb102:=ag hc102 hb102
  exact fun _=>Option.some.inj hb102
 have ho102:c102=false→b102=false:=fun e=>(Option.some.inj (ah (hc102.trans e) hb102)).symm
 obtain ⟨b103,hb103,h⟩:=aa h;obtain ⟨c103,hc103⟩: ∃c,b102=c:=⟨_,rfl⟩
 obtain hs103:c103=true→((decide ((y96.Slots.length:Int)=1))=b103):=by
  cases c103
  ·exact fun e=>by cases e
  replace hb103:=ag hc103 hb103
  exact fun _=>Option.some.inj hb103
 have ho103:c103=false→b103=false:=fun e=>(Option.some.inj (ah (hc103.trans e) hb103)).symm
 obtain ⟨b104,hb104,h⟩:=aa h;obtain ⟨c104,hc104⟩: ∃c,b103=c:=⟨_,rfl⟩
 obtain ⟨y105,hs104⟩: ∃(y105:(zT)),c104=true→((ja N y77.2.2 y77.1)=some y105∧(decide (y105=(⟨p63,p64,p65⟩:zT)))=b104):=by
  cases c104
  ·exact ⟨default,fun e=>by cases e⟩
  replace hb104:=ag hc104 hb104;obtain ⟨y105,hy105,hb104⟩:=aa hb104;exact ⟨y105,fun _=>⟨hy105,Option.some.inj hb104⟩⟩
 have ho104:c104=false→b104=false:=fun e=>(Option.some.inj (ah (hc104.trans e) hb104)).symm
 obtain ⟨b106,hb106,h⟩:=aa h;obtain ⟨c106,hc106⟩: ∃c,b104=c:=⟨_,rfl⟩
 obtain ⟨y107,hs106⟩: ∃(y107:(Bool)),c106=true→((iH N y77.2.2 y77.1)=some y107∧y107=b106):=by
  cases c106
  ·exact ⟨default,fun e=>by cases e⟩
  replace hb106:=ag hc106 hb106;obtain ⟨y107,hy107,hb106⟩:=aa hb106;exact ⟨y107,fun _=>⟨hy107,Option.some.inj hb106⟩⟩
 have ho106:c106=false→b106=false:=fun e=>(Option.some.inj (ah (hc106.trans e) hb106)).symm
 obtain ⟨b108,hb108,h⟩:=aa h;obtain ⟨c108,hc108⟩: ∃c,b106=c:=⟨_,rfl⟩
 obtain ⟨y109,hs108⟩: ∃(y109:((List zV))),c108=true→((gv N y77.2.2 y77.1)=some y109∧(decide ((y109.length:Int)=0))=b108):=by
  cases c108
  ·exact ⟨default,fun e=>by cases e⟩
  replace hb108:=ag hc108 hb108;obtain ⟨y109,hy109,hb108⟩:=aa hb108;exact ⟨y109,fun _=>⟨hy109,Option.some.inj hb108⟩⟩
 have ho108:c108=false→b108=false:=fun e=>(Option.some.inj (ah (hc108.trans e) hb108)).symm
 obtain ⟨b112,hb112,h⟩:=aa h;obtain ⟨c112,hc112⟩: ∃c,b108=c:=⟨_,rfl⟩
 obtain ⟨y113,hs112⟩: ∃(y113:(Bool)),c112=true→((dU N)=some y113∧y113=b112):=by
  cases c112
  ·exact ⟨default,fun e=>by cases e⟩
  replace hb112:=ag hc112 hb112;obtain ⟨y113,hy113,hb112⟩:=aa hb112;exact ⟨y113,fun _=>⟨hy113,Option.some.inj hb112⟩⟩
 have ho112:c112=false→b112=false:=fun e=>(Option.some.inj (ah (hc112.trans e) hb112)).symm
 refine gS (t:=[(0,iV a0),(6,.bool false),(7,pV B46 0),(9,pV B61 0),(11,pV B88 0),(13,pV B99 0)]) ?_ jQ (ab _)
 refine gx V 42 [] [41] [99,100,101,102,103,104,105,106,107,108,109,110,111,112,113,114,115,116,117,118,119,120,121,122,123,124,125,126,127,128,129,130,131,132,133,134,135,136,137,138,139,140] [[],[0],[1],[2],[3],[3,4],[3],[3,5,6],[3,7],[8],[9],[9,10],[9,11],[9,12],[13],[14],[14,15],[14,16],[14,17],[14,18],[19],[20],[20],[20,21,22],[20],[20,23,24],[20,25],[26],[27],[27],[27,28,29],[27,30],[31],[32],[32],[32,33,34],[32,35],[32,36],[32,37],[38],[39],[39,40]] [aV (pV B46 0),
aV (iV y100),
aV (.bool (decide (y100=1))),
aV (.bool (decide (y100=1))),
(bif c101 then aV (pV B99 0) else aV undef),
(bif c101 then aV (iV y96.Kind) else aV undef),
(bif c101 then aV (iV a0) else aV undef),
(bif c101 then aV (.bool (decide (y96.Kind=a0))) else aV undef),
aV (.bool b101),
aV (.bool b101),
(bif c102 then aV (pV B99 1) else aV undef),
(bif c102 then aV (iV y96.Shape) else aV undef),
(bif c102 then aV (.bool (decide (y96.Shape=0))) else aV undef),
aV (.bool b102),
aV (.bool b102),
(bif c103 then aV (pV B99 4) else aV undef),
(bif c103 then aV (Y A97 n97 c97) else aV undef),
(bif c103 then aV (iV (y96.Slots.length:Int)) else aV undef),
(bif c103 then aV (.bool (decide ((y96.Slots.length:Int)=1))) else aV undef),
aV (.bool b103),
aV (.bool b103),
(bif c104 then aV (pV B46 0) else aV undef),
(bif c104 then aV (.agg #[iV y77.1.Kind,iV y77.1.N,.string y77.1.S]) else aV undef),
(bif c104 then aV (.agg #[iV y105.Kind,iV y105.N,.string y105.S]) else aV undef),
(bif c104 then aV (.agg #[iV p63,iV p64,.string p65]) else aV undef),
(bif c104 then aV (.bool (decide (y105=(⟨p63,p64,p65⟩:zT)))) else aV undef),
aV (.bool b104),
aV (.bool b104),
(bif c106 then aV (pV B46 0) else aV undef),
(bif c106 then aV (.agg #[iV y77.1.Kind,iV y77.1.N,.string y77.1.S]) else aV undef),
(bif c106 then aV (.bool y107) else aV undef),
aV (.bool b106),
aV (.bool b106),
(bif c108 then aV (pV B46 0) else aV undef),
(bif c108 then aV (.agg #[iV y77.1.Kind,iV y77.1.N,.string y77.1.S]) else aV undef),
(bif c108 then aX3 (fun (A111:Option Addr) (n111 c111:Nat)=> Y A111 n111 c111) (fun A111 n111 c111=> [js A111 n111 c111 y109]) else aV undef),
(bif c108 then aV (iV (y109.length:Int)) else aV undef),
(bif c108 then aV (.bool (decide ((y109.length:Int)=0))) else aV undef),
aV (.bool b108),
aV (.bool b108),
(bif c112 then aV (.bool y113) else aV undef),
aV (.bool b112)] [] (ab _) (jD) V rfl rfl ?_ ?_ ?_
 ·exact jC
 ·refine ad J ?_ ?_
  ·cases c112
   ·exact ba (bV hc112 J J) J (aA (by rw [ho112 rfl]) (ab _))
   obtain ⟨hy113,hv112⟩:=hs112 rfl;exact ba (bU hc112 J J) J (aA (by rw [hv112]) (ab _))
  refine ad J ?_ ?_
  ·cases c112
   ·exact cZ (bT hc112 J) (aA J (ab _))
   obtain ⟨hy113,hv112⟩:=hs112 rfl;refine jO (aj (iD hy113) sV J (ae) fH) (aK hc112 J) ?_;rintro _ _ ⟨_,⟨rfl,rfl⟩,rfl⟩;exact aA J (ab _)
  refine ad J ?_ ?_
  ·exact ba (aq J) J (aA J (ab _))
  refine ad J ?_ ?_
  ·cases c108
   ·exact ba (bV hc108 J J) J (aA (by rw [ho108 rfl]) (ab _))
   obtain ⟨hy109,hv108⟩:=hs108 rfl;exact ba (bU hc108 J J) J (aA (by rw [hv108]) (ab _))
  refine ad J ?_ ?_
  ·cases c108
   ·exact cZ (bT hc108 J) (aA J (ab _))
   obtain ⟨hy109,hv108⟩:=hs108 rfl;exact ba (ka J J) (aK hc108 J) (aA J (ab _))
  refine ad J ?_ ?_
  ·cases c108
   ·exact cZ (bT hc108 J) (aA J (ab _))
   obtain ⟨hy109,hv108⟩:=hs108 rfl;intro A111 n111 c111;exact dz (bz 0 J aw J zC) (aK hc108 J) (aA J (ab _))
  refine ad J ?_ ?_
  ·cases c108
   ·exact cZ (bT hc108 J) (aA J (ab _))
   obtain ⟨hy109,hv108⟩:=hs108 rfl;refine jO (aG (lf hy109) sk J (aE [15,16,17] [4,5,6,7,8,9,10,11,12,13,14] [0,1,2,3,15,16,17,18,19,20,21] 22 J)) (aK hc108 J) ?_;rintro _ _ ⟨_,⟨A110,n110,c110,rfl,rfl⟩,rfl⟩;exact tI A110 n110 c110 (cS [0,12,13,14,15,1,2,3,4,5,6,7,8,9,10,11,16,17,18,19,20,21,22] 23)
  refine ad J ?_ ?_
  ·cases c108
   ·exact cZ (bT hc108 J) (aA J (ab _))
   obtain ⟨hy109,hv108⟩:=hs108 rfl;exact dz (am (us:=[iV y77.1.Kind,iV y77.1.N,.string y77.1.S]) 3 J J aL J) (aK hc108 J) (aA J (ab _))
  refine ad J ?_ ?_
  ·cases c108
   ·exact cZ (bT hc108 J) (aA J (ab _))
   obtain ⟨hy109,hv108⟩:=hs108 rfl;exact ba (aq J) (aK hc108 J) (aA J (ab _))
  refine ad J ?_ ?_
  ·exact ba (aq J) J (aA J (ab _))
  refine ad J ?_ ?_
  ·cases c106
   ·exact ba (bV hc106 J J) J (aA (by rw [ho106 rfl]) (ab _))
   obtain ⟨hy107,hv106⟩:=hs106 rfl;exact ba (bU hc106 J J) J (aA (by rw [hv106]) (ab _))
  refine ad J ?_ ?_
  ·cases c106
   ·exact cZ (bT hc106 J) (aA J (ab _))
   obtain ⟨hy107,hv106⟩:=hs106 rfl;refine jO (aG (mh hy107) sm J (aE [15,16,17] [4,5,6,7,8,9,10,11,12,13,14] [0,1,2,3,15,16,17,18,19,20,21] 22 J)) (aK hc106 J) ?_;rintro _ _ ⟨_,⟨rfl,rfl⟩,rfl⟩;exact aA J (cS [11,12,13,14,0,1,2,3,4,5,6,7,8,9,10,15,16,17,18,19,20,21] 22)
  refine ad J ?_ ?_
  ·cases c106
   ·exact cZ (bT hc106 J) (aA J (ab _))
   obtain ⟨hy107,hv106⟩:=hs106 rfl;exact dz (am (us:=[iV y77.1.Kind,iV y77.1.N,.string y77.1.S]) 3 J J aL J) (aK hc106 J) (aA J (ab _))
  refine ad J ?_ ?_
  ·cases c106
   ·exact cZ (bT hc106 J) (aA J (ab _))
   obtain ⟨hy107,hv106⟩:=hs106 rfl;exact ba (aq J) (aK hc106 J) (aA J (ab _))
  refine ad J ?_ ?_
  ·exact ba (aq J) J (aA J (ab _))
  refine ad J ?_ ?_
  ·cases c104
   ·exact ba (bV hc104 J J) J (aA (by rw [ho104 rfl]) (ab _))
   obtain ⟨hy105,hv104⟩:=hs104 rfl;exact ba (bU hc104 J J) J (aA (by rw [hv104]) (ab _))
  refine ad J ?_ ?_
  ·cases c104
   ·exact cZ (bT hc104 J) (aA J (ab _))
   obtain ⟨hy105,hv104⟩:=hs104 rfl;exact ba (pz (x:=y105) (y:=(⟨p63,p64,p65⟩:zT)) J J) (aK hc104 J) (aA J (ab _))
  refine ad J ?_ ?_
  ·cases c104
   ·exact cZ (bT hc104 J) (aA J (ab _))
   obtain ⟨hy105,hv104⟩:=hs104 rfl;exact dz (am (us:=[iV p63,iV p64,.string p65]) 21 J J aL J) (aK hc104 J) (aA J (ab _))
  refine ad J ?_ ?_
  ·cases c104
   ·exact cZ (bT hc104 J) (aA J (ab _))
   obtain ⟨hy105,hv104⟩:=hs104 rfl;refine jO (aG (oG hy105) uM J (aE [15,16,17] [4,5,6,7,8,9,10,11,12,13,14] [0,1,2,3,15,16,17,18,19,20,21] 22 J)) (aK hc104 J) ?_;rintro _ _ ⟨_,⟨rfl,rfl⟩,rfl⟩;exact aA J (cS [11,12,13,14,0,1,2,3,4,5,6,7,8,9,10,15,16,17,18,19,20,21] 22)
  refine ad J ?_ ?_
  ·cases c104
   ·exact cZ (bT hc104 J) (aA J (ab _))
   obtain ⟨hy105,hv104⟩:=hs104 rfl;exact dz (am (us:=[iV y77.1.Kind,iV y77.1.N,.string y77.1.S]) 3 J J aL J) (aK hc104 J) (aA J (ab _))
  refine ad J ?_ ?_
  ·cases c104
   ·exact cZ (bT hc104 J) (aA J (ab _))
   obtain ⟨hy105,hv104⟩:=hs104 rfl;exact ba (aq J) (aK hc104 J) (aA J (ab _))
  refine ad J ?_ ?_
  ·exact ba (aq J) J (aA J (ab _))
  refine ad J ?_ ?_
  ·cases c103
   ·exact ba (bV hc103 J J) J (aA (by rw [ho103 rfl]) (ab _))
   have hv103:=hs103 rfl;exact ba (bU hc103 J J) J (aA (by rw [hv103]) (ab _))
  refine ad J ?_ ?_
  ·cases c103
   ·exact cZ (bT hc103 J) (aA J (ab _))
   have hv103:=hs103 rfl;exact ba (ka J J) (aK hc103 J) (aA J (ab _))
  refine ad J ?_ ?_
  ·cases c103
   ·exact cZ (bT hc103 J) (aA J (ab _))
   have hv103:=hs103 rfl;exact dz (bz 1 J aw J hE) (aK hc103 J) (aA J (ab _))
  refine ad J ?_ ?_
  ·cases c103
   ·exact cZ (bT hc103 J) (aA J (ab _))
   have hv103:=hs103 rfl;exact dz (aR 0 J J eR J) (aK hc103 J) (aA J (ab _))
  refine ad J ?_ ?_
  ·cases c103
   ·exact cZ (bT hc103 J) (aA J (ab _))
   have hv103:=hs103 rfl;exact ba (bp J eP) (aK hc103 J) (aA J (ab _))
  refine ad J ?_ ?_
  ·exact ba (aq J) J (aA J (ab _))
  refine ad J ?_ ?_
  ·cases c102
   ·exact ba (bV hc102 J J) J (aA (by rw [ho102 rfl]) (ab _))
   have hv102:=hs102 rfl;exact ba (bU hc102 J J) J (aA (by rw [hv102]) (ab _))
  refine ad J ?_ ?_
  ·cases c102
   ·exact cZ (bT hc102 J) (aA J (ab _))
   have hv102:=hs102 rfl;exact ba (ka J J) (aK hc102 J) (aA J (ab _))
  refine ad J ?_ ?_
  ·cases c102
   ·exact cZ (bT hc102 J) (aA J (ab _))
   have hv102:=hs102 rfl;exact dz (aR 0 J J cX J) (aK hc102 J) (aA J (ab _))
  refine ad J ?_ ?_
  ·cases c102
   ·exact cZ (bT hc102 J) (aA J (ab _))
   have hv102:=hs102 rfl;exact ba (bp J iK) (aK hc102 J) (aA J (ab _))
  refine ad J ?_ ?_
  ·exact ba (aq J) J (aA J (ab _))
  refine ad J ?_ ?_
  ·cases c101
   ·exact ba (bV hc101 J J) J (aA (by rw [ho101 rfl]) (ab _))
   have hv101:=hs101 rfl;exact ba (bU hc101 J J) J (aA (by rw [hv101]) (ab _))
  refine ad J ?_ ?_
  ·cases c101
   ·exact cZ (bT hc101 J) (aA J (ab _))
   have hv101:=hs101 rfl;exact ba (ka J J) (aK hc101 J) (aA J (ab _))
  refine ad J ?_ ?_
  ·cases c101
   ·exact cZ (bT hc101 J) (aA J (ab _))
   have hv101:=hs101 rfl;exact ba (aq J) (aK hc101 J) (aA J (ab _))
  refine ad J ?_ ?_
  ·cases c101
   ·exact cZ (bT hc101 J) (aA J (ab _))
   have hv101:=hs101 rfl;exact dz (aR 0 J J cX J) (aK hc101 J) (aA J (ab _))
  refine ad J ?_ ?_
  ·cases c101
   ·exact cZ (bT hc101 J) (aA J (ab _))
   have hv101:=hs101 rfl;exact ba (ce J qL) (aK hc101 J) (aA J (ab _))
  refine ad J ?_ ?_
  ·exact ba (aq J) J (aA J (ab _))
  refine ad J ?_ ?_
  ·exact ba (ka J J) J (aA J (ab _))
  refine ad J ?_ ?_
  ·refine jO (aj (iy hy100) sW J (hD (av (i:=4) J) (hD (av (i:=5) J) (hD (ao (i:=6) J) (hD (ao (i:=7) J) (hD (ao (i:=8) J) (hD (ao (i:=9) J) (hD (av (i:=10) J) (hD (aU (i:=11) J) (hD (av (i:=12) J) (hD (ao (i:=13) J) (hD (aU (i:=14) J) (hD (ai (i:=15) J J) (hD (ai (i:=16) J J) (hD (ai (i:=17) J J) ae)))))))))))))) gb) J ?_;rintro _ _ ⟨_,⟨rfl,rfl⟩,rfl⟩;exact aA J (ab _)
  refine ad J ?_ ?_
  ·exact ba (aq J) J (aA J (ab _))
  exact ee
 refine lz (t:=[(140,.bool b112),(0,iV a0),(6,.bool false),(7,pV B46 0),(9,pV B61 0),(11,pV B88 0),(13,pV B99 0)]) (L':=[al B99 37 [iV y96.Kind,iV y96.Shape,iV y96.Flags,iV y96.Age,Y A97 n97 c97,Y A98 n98 c98],aY A97 n97 c97 y96.Slots,aY A98 n98 c98 y96.More,al B88 29 [iV y77.1.Kind,iV y77.1.N,.string y77.1.S],al B46 73 [iV y77.2.2.spent_.steps_,iV y77.2.2.spent_.made_,iV y77.2.2.spent_.calls_,iV y77.2.2.config_.Way,iV y77.2.2.config_.Steps,iV y77.2.2.config_.Calls,iV y77.2.2.config_.Made,iV y77.2.2.config_.Young,iV y77.2.2.config_.Full,iV y77.2.2.config_.Sites,.nilIface,pV B47 0,pV B54 0,Y A85 n85 c85,iV y77.2.2.epoch_,iV y77.2.2.serial_,iV y77.2.2.sleepers_,Y A86 n86 c86,Y A87 n87 c87],al B47 99 [Y A78 n78 c78,Y A79 n79 c79,Y A80 n80 c80,Y A81 n81 c81,pV B52 0],bL A78 n78 c78 y77.2.2.heap_.m_.Young,bL A79 n79 c79 y77.2.2.heap_.m_.Old,aY A80 n80 c80 y77.2.2.heap_.roots_,aY A81 n81 c81 y77.2.2.heap_.pending_,al B52 143 [.map (some M82)],aQ dc dj M82 y77.2.2.heap_.set_.at_,al B54 118 [Y A83 n83 c83,.map (some M84)],dG A83 n83 c83 y77.2.2.shapes_.shapes_,aQ aJ di M84 y77.2.2.shapes_.next_,bv A85 n85 c85 y77.2.2.symbols_,cY A86 n86 c86 y77.2.2.events_,bv A87 n87 c87 y77.2.2.out_,bv A57 n57 c57 y1_1.1.symbols_,cY A58 n58 c58 y1_1.1.events_,bv A59 n59 c59 y1_1.1.out_,al B61 29 [iV p63,iV p64,.string p65]]) ?_ jQ (ab _);refine pN 42 J V (aZ J) J J J ?_;refine jP V ?_;refine I ?_
 obtain rfl:=ak h;exact aF J J (cS [] 22) ⟨J,J⟩
end
section
variable {A10 A12 A13 A14 A3 A4 A5 A6:Option Addr} {B1 B2 B7 B9 M11 M8 c10 c12 c13 c14 c3 c4 c5 c6 n10 n12 n13 n14 n3 n4 n5 n6:Nat}
open Go.RowKit Asn
set_option maxRecDepth 20000
end
section
variable {A10 A12 A13 A14 A3 A4 A5 A6:Option Addr} {B1 B2 B7 B9 M11 M8 c10 c12 c13 c14 c3 c4 c5 c6 n10 n12 n13 n14 n3 n4 n5 n6:Nat}
open Go.RowKit Go.ChangeShapes Go.WideShapes Go.Deep
def o3 (x:zT):Prop:=(cc x.Kind)∧(cc x.N)∧(True)
def yy (x:zV):Prop:=(cc x.Kind)∧(cc x.N)∧(True)
def yr (x:zK):Prop:=(cc x.Has)∧(cc x.Attrs)∧(o3 x.Value)∧(o3 x.Get)∧(o3 x.Set)
end
section
variable {A10 A12 A13 A14 A3 A4 A5 A6:Option Addr} {B1 B2 B7 B9 M11 M8 c10 c12 c13 c14 c3 c4 c5 c6 n10 n12 n13 n14 n3 n4 n5 n6:Nat}
open Go.RowKit
set_option maxRecDepth 20000
theorem nu (a:Int):aS .i64 a 3=0∨aS .i64 a 3=1∨aS .i64 a 3=2∨aS .i64 a 3=3:=by
 have h:(BitVec.ofInt IntKind.i64.bits a&&&BitVec.ofInt IntKind.i64.bits 3).toNat≤3:=by
  rw [BitVec.toNat_and];exact Nat.and_le_right
 unfold aS
 revert h
 generalize (BitVec.ofInt IntKind.i64.bits a&&&BitVec.ofInt IntKind.i64.bits 3).toNat=n;intro h
 match n,h with
 |0,_=>exact .inl V
 |1,_=>exact .inr (.inl V)
 |2,_=>exact .inr (.inr (.inl V))
 |3,_=>exact .inr (.inr (.inr V))
 |n+4,h=>omega
theorem vE:dU 64=some true:=by kernel_rfl
theorem vD (a0 a1 a2:Int):gT 64 a0 a1 a2=some true:=by
 have hk:a0=1∨a0=2∨a0=8∨a0=6∨a0=9∨a0=7∨(a0≠1∧a0≠2∧a0≠8∧a0≠6∧a0≠9∧a0≠7):=by omega
 unfold gT cT df;simp only [vE];rcases hk with rfl|rfl|rfl|rfl|rfl|rfl|⟨h1,h2,h8,h6,h9,h7⟩
 ·rcases nu a1 with h|h|h|h<;>rcases nu a2 with g|g|g|g<;>rw [h,g]<;>refine Eq.trans ?_ (Eq.refl _)<;>kernel_rfl
 ·rcases nu a1 with h|h|h|h<;>rcases nu a2 with g|g|g|g<;>rw [h,g]<;>refine Eq.trans ?_ (Eq.refl _)<;>kernel_rfl
 ·rcases nu a1 with h|h|h|h<;>rcases nu a2 with g|g|g|g<;>rw [h,g]<;>refine Eq.trans ?_ (Eq.refl _)<;>kernel_rfl
 ·rcases nu a1 with h|h|h|h<;>rcases nu a2 with g|g|g|g<;>rw [h,g]<;>refine Eq.trans ?_ (Eq.refl _)<;>kernel_rfl
 ·rcases nu a1 with h|h|h|h<;>rcases nu a2 with g|g|g|g<;>rw [h,g]<;>refine Eq.trans ?_ (Eq.refl _)<;>kernel_rfl
 ·rcases nu a1 with h|h|h|h<;>rcases nu a2 with g|g|g|g<;>rw [h,g]<;>refine Eq.trans ?_ (Eq.refl _)<;>kernel_rfl
 unfold iG jb gu eG fL;simp only [decide_eq_false h1,decide_eq_false h2,decide_eq_false h8,decide_eq_false h6,decide_eq_false h9,decide_eq_false h7];rcases nu a1 with h|h|h|h<;>rcases nu a2 with g|g|g|g<;>rw [h,g]<;>refine Eq.trans ?_ (Eq.refl _)<;>kernel_rfl
def zc:zP:=match ms 64 with
 |some (.inr w)=>w
 |_=>default
end
end Go.Proofs.YtanojiedimeegaaGreat