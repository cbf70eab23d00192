/- Merged texts: part 9. No conditions of their own. -/
import Derived.Test.YtanojiedimeegaaGreatDoorG8
namespace Go.Proofs.YtanojiedimeegaaGreatDoor
variable {A10 A12 A13 A14 A15 A16 A17 A2 A3 A4 A5 A6 A7 A8 A9:Option Addr} {B1 B10 B12 B2 B4 B5 B7 B9 M11 M14 M3 M8 c10 c12 c13 c14 c15 c16 c17 c2 c3 c4 c5 c6 c7 c8 c9 n10 n12 n13 n14 n15 n16 n17 n2 n3 n4 n5 n6 n7 n8 n9:Nat}
open Go.RowKit Asn
set_option maxRecDepth 20000
def qf (N:Nat)(a0:Me)(a1:Mi):Option Bool:=
 (bQ N a1 32).bind fun y3=>(bif y3 then (some (!decide (aM .i64 a1.Attrs 4=0))) else (some false)).bind fun b4=>(bif b4 then (some true) else ((bQ N a1 16).bind fun y6=>(bif y6 then (some (!decide (aM .i64 (EP .i64 a1.Attrs a0.Attrs) 2=0))) else (some false)).bind fun b7=>some b7)).bind fun b5=>bif b5 then (some true) else (bif !decide (aM .i64 a0.Attrs 8=0) then ((bQ N a1 3).bind fun y10=>(bif y10 then (some true) else ((bQ N a1 4).bind fun y12=>(bif y12 then ((mt N a1.Get a0.Get).bind fun y14=>some (!y14)) else (some false)).bind fun b13=>some b13)).bind fun b11=>(bif b11 then (some true) else ((bQ N a1 8).bind fun y16=>(bif y16 then ((mt N a1.Set a0.Set).bind fun y18=>some (!y18)) else (some false)).bind fun b17=>some b17)).bind fun b15=>some b15) else ((bQ N a1 12).bind fun y19=>bif y19 then (some true) else ((bif decide (aM .i64 a0.Attrs 1=0) then ((bQ N a1 2).bind fun y22=>(bif y22 then (some (!decide (aM .i64 a1.Attrs 1=0))) else (some false)).bind fun b23=>(bif b23 then (some true) else ((bQ N a1 1).bind fun y25=>(bif y25 then ((mt N a1.Value a0.Value).bind fun y27=>some (!y27)) else (some false)).bind fun b26=>some b26)).bind fun b24=>some b24) else (some false)).bind fun b21=>some b21)))
set_option maxHeartbeats 4000000 in
theorem Bc {N:Nat}{a0:Me}{a1:Mi}{r:Bool}(h:qf N a0 a1=some r):Okc Tryz.prog 171 [(bA a0),(ey a1)] ([]) (fun u post=>u=.bool r∧post=[]):=by
 refine br Tryz.func171 J J ?_;simp only [aS];refine Y ?_;refine gD (aL J J) ?_;rintro _ _ ⟨B1,rfl,rfl⟩;refine gD (aL J J) ?_;rintro _ _ ⟨B2,rfl,rfl⟩;refine Y ?_;refine az ?_;refine Y ?_;refine gR (ab (us:=cc a1) 0 J J dz J) ?_;obtain ⟨y3,hy3,h⟩:=aa h;refine gD (al (co hy3) fx J (ac) bT) ?_;rintro _ _ ⟨_,⟨rfl,rfl⟩,rfl⟩;refine Y ?_;obtain ⟨b4,hb4,h⟩:=aa h;refine aN 5 12 b4 ?_ ?_
 ·clear h;refine aK 7 J (fun g4=> ?_) (fun g4=> ?_)
  ·have h:=ah g4 hb4;refine Y ?_;refine d3 (bD J J) J (bq g4 J) J ?_;refine Y ?_;obtain rfl:=ap h;exact ad sA (cS [0,1] 2)
  have h:=ai g4 hb4;refine Y ?_;obtain rfl:=ap h;exact ad sA (cS [0,1] 2)
 refine Y ?_;obtain ⟨b5,hb5,h⟩:=aa h;refine aN 12 25 b5 ?_ ?_
 ·clear h;refine aK 13 J (fun g5=> ?_) (fun g5=> ?_)
  ·have h:=ah g5 hb5;refine Y ?_;obtain rfl:=ap h;exact ad sA (cS [0,1] 2)
  have h:=ai g5 hb5;refine ci (ab (us:=cc a1) 0 J J dz J) J (cU g5 J) J ?_;obtain ⟨y6,hy6,h⟩:=aa h;refine cr (al (co hy6) fx J (ac) bT) J (cU g5 J) J ?_;rintro _ _ ⟨_,⟨rfl,rfl⟩,rfl⟩;refine Y ?_;obtain ⟨b7,hb7,h⟩:=aa h;refine aN 8 24 b7 ?_ ?_
  ·clear h;refine aK 16 J (fun g7=> ?_) (fun g7=> ?_)
   ·have h:=ah g7 hb7;refine Y ?_;refine d3 (Dh J J) J (bq g7 J) J ?_;refine d3 (bD J J) J (bq g7 J) J ?_;refine Y ?_;obtain rfl:=ap h;exact ad sA (cS [0,1] 2)
   have h:=ai g7 hb7;refine Y ?_;obtain rfl:=ap h;exact ad sA (cS [0,1] 2)
  refine Y ?_;obtain rfl:=ap h;exact ad sA (cS [0,1] 2)
 refine Y ?_;refine au J (fun g8=> ?_) (fun g8=> ?_)
 ·replace h:=ah g8 h;refine Y ?_;obtain rfl:=ap h;exact aO J J (cS [] 2) ⟨J,J⟩
 replace h:=ai g8 h;refine Y ?_;refine az ?_;refine Y ?_;refine gE (bD J J) ?_;refine Y ?_;refine au J (fun g9=> ?_) (fun g9=> ?_)
 ·replace h:=ah g9 h;refine Y ?_;refine gR (ab (us:=cc a1) 0 J J dz J) ?_;obtain ⟨y10,hy10,h⟩:=aa h;refine gD (al (co hy10) fx J (ac) bT) ?_;rintro _ _ ⟨_,⟨rfl,rfl⟩,rfl⟩;refine Y ?_;obtain ⟨b11,hb11,h⟩:=aa h;refine aN 11 43 b11 ?_ ?_
  ·clear h;refine aK 32 J (fun g11=> ?_) (fun g11=> ?_)
   ·have h:=ah g11 hb11;refine Y ?_;obtain rfl:=ap h;exact ad sA (cS [0,1] 2)
   have h:=ai g11 hb11;refine ci (ab (us:=cc a1) 0 J J dz J) J (cU g11 J) J ?_;obtain ⟨y12,hy12,h⟩:=aa h;refine cr (al (co hy12) fx J (ac) bT) J (cU g11 J) J ?_;rintro _ _ ⟨_,⟨rfl,rfl⟩,rfl⟩;refine Y ?_;obtain ⟨b13,hb13,h⟩:=aa h;refine aN 7 42 b13 ?_ ?_
   ·clear h;refine aK 35 J (fun g13=> ?_) (fun g13=> ?_)
    ·have h:=ah g13 hb13;refine Y ?_;refine ci (ab (us:=av a1.Get) 0 J J aD J) J (bq g13 J) J ?_;refine Y ?_;refine ci (ab (us:=av a0.Get) 1 J J aD J) J (bq g13 J) J ?_;obtain ⟨y14,hy14,h⟩:=aa h;refine cr (al (qy hy14) Bo J (ac) oe) J (bq g13 J) J ?_;rintro _ _ ⟨_,⟨rfl,rfl⟩,rfl⟩;refine Y ?_;obtain rfl:=ap h;exact ad sA (cS [0,1] 2)
    have h:=ai g13 hb13;refine Y ?_;obtain rfl:=ap h;exact ad sA (cS [0,1] 2)
   refine Y ?_;obtain rfl:=ap h;exact ad sA (cS [0,1] 2)
  refine Y ?_;obtain ⟨b15,hb15,h⟩:=aa h;refine aN 11 55 b15 ?_ ?_
  ·clear h;refine aK 44 J (fun g15=> ?_) (fun g15=> ?_)
   ·have h:=ah g15 hb15;refine Y ?_;obtain rfl:=ap h;exact ad sA (cS [0,1] 2)
   have h:=ai g15 hb15;refine ci (ab (us:=cc a1) 0 J J dz J) J (cU g15 J) J ?_;obtain ⟨y16,hy16,h⟩:=aa h;refine cr (al (co hy16) fx J (ac) bT) J (cU g15 J) J ?_;rintro _ _ ⟨_,⟨rfl,rfl⟩,rfl⟩;refine Y ?_;obtain ⟨b17,hb17,h⟩:=aa h;refine aN 7 54 b17 ?_ ?_
   ·clear h;refine aK 47 J (fun g17=> ?_) (fun g17=> ?_)
    ·have h:=ah g17 hb17;refine Y ?_;refine ci (ab (us:=av a1.Set) 0 J J aD J) J (bq g17 J) J ?_;refine Y ?_;refine ci (ab (us:=av a0.Set) 1 J J aD J) J (bq g17 J) J ?_;obtain ⟨y18,hy18,h⟩:=aa h;refine cr (al (qy hy18) Bo J (ac) oe) J (bq g17 J) J ?_;rintro _ _ ⟨_,⟨rfl,rfl⟩,rfl⟩;refine Y ?_;obtain rfl:=ap h;exact ad sA (cS [0,1] 2)
    have h:=ai g17 hb17;refine Y ?_;obtain rfl:=ap h;exact ad sA (cS [0,1] 2)
   refine Y ?_;obtain rfl:=ap h;exact ad sA (cS [0,1] 2)
  refine Y ?_;obtain rfl:=ap h;exact aO J J (cS [] 2) ⟨J,J⟩
 replace h:=ai g9 h;refine Y ?_;refine az ?_;refine Y ?_;refine gR (ab (us:=cc a1) 0 J J dz J) ?_;obtain ⟨y19,hy19,h⟩:=aa h;refine gD (al (co hy19) fx J (ac) bT) ?_;rintro _ _ ⟨_,⟨rfl,rfl⟩,rfl⟩;refine Y ?_;refine au J (fun g20=> ?_) (fun g20=> ?_)
 ·replace h:=ah g20 h;refine Y ?_;obtain rfl:=ap h;exact aO J J (cS [] 2) ⟨J,J⟩
 replace h:=ai g20 h;refine Y ?_;refine gE (bD J J) ?_;refine Y ?_;obtain ⟨b21,hb21,h⟩:=aa h;refine aN 21 83 b21 ?_ ?_
 ·clear h;refine aK 62 J (fun g21=> ?_) (fun g21=> ?_)
  ·have h:=ah g21 hb21;refine ci (ab (us:=cc a1) 0 J J dz J) J (bq g21 J) J ?_;obtain ⟨y22,hy22,h⟩:=aa h;refine cr (al (co hy22) fx J (ac) bT) J (bq g21 J) J ?_;rintro _ _ ⟨_,⟨rfl,rfl⟩,rfl⟩;refine Y ?_;obtain ⟨b23,hb23,h⟩:=aa h;refine aN 5 70 b23 ?_ ?_
   ·clear h;refine aK 65 J (fun g23=> ?_) (fun g23=> ?_)
    ·have h:=ah g23 hb23;refine Y ?_;refine d3 (bD J J) J (bq g23 J) J ?_;refine Y ?_;obtain rfl:=ap h;exact ad sA (cS [0,1] 2)
    have h:=ai g23 hb23;refine Y ?_;obtain rfl:=ap h;exact ad sA (cS [0,1] 2)
   refine Y ?_;obtain ⟨b24,hb24,h⟩:=aa h;refine aN 11 82 b24 ?_ ?_
   ·clear h;refine aK 71 J (fun g24=> ?_) (fun g24=> ?_)
    ·have h:=ah g24 hb24;refine Y ?_;obtain rfl:=ap h;exact ad sA (cS [0,1] 2)
    have h:=ai g24 hb24;refine ci (ab (us:=cc a1) 0 J J dz J) J (cU g24 J) J ?_;obtain ⟨y25,hy25,h⟩:=aa h;refine cr (al (co hy25) fx J (ac) bT) J (cU g24 J) J ?_;rintro _ _ ⟨_,⟨rfl,rfl⟩,rfl⟩;refine Y ?_;obtain ⟨b26,hb26,h⟩:=aa h;refine aN 7 81 b26 ?_ ?_
    ·clear h;refine aK 74 J (fun g26=> ?_) (fun g26=> ?_)
     ·have h:=ah g26 hb26;refine Y ?_;refine ci (ab (us:=av a1.Value) 0 J J aD J) J (bq g26 J) J ?_;refine Y ?_;refine ci (ab (us:=av a0.Value) 1 J J aD J) J (bq g26 J) J ?_;obtain ⟨y27,hy27,h⟩:=aa h;refine cr (al (qy hy27) Bo J (ac) oe) J (bq g26 J) J ?_;rintro _ _ ⟨_,⟨rfl,rfl⟩,rfl⟩;refine Y ?_;obtain rfl:=ap h;exact ad sA (cS [0,1] 2)
     have h:=ai g26 hb26;refine Y ?_;obtain rfl:=ap h;exact ad sA (cS [0,1] 2)
    refine Y ?_;obtain rfl:=ap h;exact ad sA (cS [0,1] 2)
   refine Y ?_;obtain rfl:=ap h;exact ad sA (cS [0,1] 2)
  have h:=ai g21 hb21;refine Y ?_;obtain rfl:=ap h;exact ad sA (cS [0,1] 2)
 refine Y ?_;obtain rfl:=ap h;exact aO J J (cS [] 2) ⟨J,J⟩
theorem yV {r:Bool}: ∀v post,((fun (u:Value) (post:List Chunk)=>u=.bool r∧post=[])) v post→ ∀c∈post,bV c:=by
 rintro _ _ ⟨rfl,rfl⟩;exact ac
def ia (N:Nat)(a0:Me)(a1:Bool)(a2:Bool)(a3:Mn)(a4:Mi):Option (Me×Bool):=
 bif !a1 then (bif !a2 then (some ((⟨(⟨0,0,⟨#[]⟩⟩:Mn),0,(⟨0,0,⟨#[]⟩⟩:Mg),(⟨0,0,⟨#[]⟩⟩:Mg),(⟨0,0,⟨#[]⟩⟩:Mg)⟩:Me),false)) else ((sO N a4 a3).bind fun y7=>some (y7,true))) else ((bif decide (aM .i64 a0.Attrs 4=0) then ((qf N a0 a4).bind fun y9=>some y9) else (some false)).bind fun b8=>bif b8 then (some ((⟨(⟨0,0,⟨#[]⟩⟩:Mn),0,(⟨0,0,⟨#[]⟩⟩:Mg),(⟨0,0,⟨#[]⟩⟩:Mg),(⟨0,0,⟨#[]⟩⟩:Mg)⟩:Me),false)) else ((lh N a0 a3 a4).bind fun y11=>some (y11,true)))
set_option maxHeartbeats 4000000 in
theorem li {N:Nat}{a0:Me}{a1:Bool}{a2:Bool}{a3:Mn}{a4:Mi}{r:(Me×Bool)}(h:ia N a0 a1 a2 a3 a4=some r):Okc Tryz.prog 122 [(bA a0),.bool a1,.bool a2,(eZ a3),(ey a4)] ([]) (fun u post=>u=.tuple #[(bA r.1),.bool r.2]∧post=[]):=by
 refine br Tryz.func122 J J ?_;simp only [aS];refine Y ?_;refine gD (aL J J) ?_;rintro _ _ ⟨B1,rfl,rfl⟩;refine gD (aL J J) ?_;rintro _ _ ⟨B2,rfl,rfl⟩;refine gD (aL J J) ?_;rintro _ _ ⟨B3,rfl,rfl⟩;refine gD (aH cF J) ?_;rintro _ _ ⟨B4,rfl,rfl⟩;refine Y ?_;refine az ?_;refine Y ?_;refine au J (fun g5=> ?_) (fun g5=> ?_)
 ·replace h:=ah g5 h;refine az ?_;refine Y ?_;refine au J (fun g6=> ?_) (fun g6=> ?_)
  ·replace h:=ah g6 h;refine Y ?_;refine gE (bd J (ql)) ?_;refine gO (ar (us:=[iV 0,iV 0,.string (⟨#[]⟩),iV 0,iV 0,iV 0,.string (⟨#[]⟩),iV 0,iV 0,.string (⟨#[]⟩),iV 0,iV 0,.string (⟨#[]⟩)]) (cs':=[iV 0,iV 0,.string (⟨#[]⟩),iV 0,iV 0,iV 0,.string (⟨#[]⟩),iV 0,iV 0,.string (⟨#[]⟩),iV 0,iV 0,.string (⟨#[]⟩)]) 0 J J J J bJ J J J) ?_;rintro _ _ rfl;refine Y ?_;obtain rfl:=ap h;exact ca (rs:=[.cell 10 42,.tmp 11]) (vs:=[.agg #[iV 0,iV 0,.string (⟨#[]⟩),iV 0,iV 0,iV 0,.string (⟨#[]⟩),iV 0,iV 0,.string (⟨#[]⟩),iV 0,iV 0,.string (⟨#[]⟩)],.bool false]) J (.cons (bu 0 J J cq) (.cons (cD J) .nil)) J (cS [] 4) ⟨J,J⟩
  replace h:=ai g6 h;refine Y ?_;refine gR (ab (us:=cc a4) 1 J J dz J) ?_;refine gR (ab (us:=bR a3) 2 J J bB J) ?_;obtain ⟨y7,hy7,h⟩:=aa h;refine gD (al (Bd hy7) IH J (ac) yX) ?_;rintro _ _ ⟨_,⟨rfl,rfl⟩,rfl⟩;refine gO (ar (us:=aP y7) (cs':=aP y7) 0 J J J J bJ J J J) ?_;rintro _ _ rfl;refine Y ?_;obtain rfl:=ap h;exact ca (rs:=[.cell 10 42,.tmp 11]) (vs:=[(bA y7),.bool true]) J (.cons (bu 0 J J cq) (.cons (cD J) .nil)) J (cS [] 4) ⟨J,J⟩
 replace h:=ai g5 h;refine Y ?_;refine az ?_;refine Y ?_;refine gE (bD J J) ?_;refine Y ?_;obtain ⟨b8,hb8,h⟩:=aa h;refine aN 4 28 b8 ?_ ?_
 ·clear h;refine aK 24 J (fun g8=> ?_) (fun g8=> ?_)
  ·have h:=ah g8 hb8;refine ci (ab (us:=aP a0) 3 J J cq J) J (bq g8 J) J ?_;refine ci (ab (us:=cc a4) 1 J J dz J) J (bq g8 J) J ?_;obtain ⟨y9,hy9,h⟩:=aa h;refine cr (al (Bc hy9) IG J (ac) yV) J (bq g8 J) J ?_;rintro _ _ ⟨_,⟨rfl,rfl⟩,rfl⟩;refine Y ?_;obtain rfl:=ap h;exact ad sA (cS [0,1,2,3] 4)
  have h:=ai g8 hb8;refine Y ?_;obtain rfl:=ap h;exact ad sA (cS [0,1,2,3] 4)
 refine Y ?_;refine au J (fun g10=> ?_) (fun g10=> ?_)
 ·replace h:=ah g10 h;refine Y ?_;refine gE (bd J (ql)) ?_;refine gO (ar (us:=[iV 0,iV 0,.string (⟨#[]⟩),iV 0,iV 0,iV 0,.string (⟨#[]⟩),iV 0,iV 0,.string (⟨#[]⟩),iV 0,iV 0,.string (⟨#[]⟩)]) (cs':=[iV 0,iV 0,.string (⟨#[]⟩),iV 0,iV 0,iV 0,.string (⟨#[]⟩),iV 0,iV 0,.string (⟨#[]⟩),iV 0,iV 0,.string (⟨#[]⟩)]) 0 J J J J bJ J J J) ?_;rintro _ _ rfl;refine bL ?_;refine Y ?_;obtain rfl:=ap h;exact ca (rs:=[.cell 10 42,.tmp 11]) (vs:=[.agg #[iV 0,iV 0,.string (⟨#[]⟩),iV 0,iV 0,iV 0,.string (⟨#[]⟩),iV 0,iV 0,.string (⟨#[]⟩),iV 0,iV 0,.string (⟨#[]⟩)],.bool false]) J (.cons (bu 0 J J cq) (.cons (cD J) .nil)) J (cS [] 4) ⟨J,J⟩
 replace h:=ai g10 h;refine Y ?_;refine gR (ab (us:=aP a0) 3 J J cq J) ?_;refine gR (ab (us:=bR a3) 2 J J bB J) ?_;refine gR (ab (us:=cc a4) 1 J J dz J) ?_;obtain ⟨y11,hy11,h⟩:=aa h;refine gD (al (sN hy11) Eo J (ac) qZ) ?_;rintro _ _ ⟨_,⟨rfl,rfl⟩,rfl⟩;refine gO (ar (us:=aP y11) (cs':=aP y11) 0 J J J J bJ J J J) ?_;rintro _ _ rfl;refine Y ?_;obtain rfl:=ap h;exact ca (rs:=[.cell 10 42,.tmp 11]) (vs:=[(bA y11),.bool true]) J (.cons (bu 0 J J cq) (.cons (cD J) .nil)) J (cS [] 4) ⟨J,J⟩
theorem jq {r:(Me×Bool)}: ∀v post,((fun (u:Value) (post:List Chunk)=>u=.tuple #[(bA r.1),.bool r.2]∧post=[])) v post→ ∀c∈post,bV c:=by
 rintro _ _ ⟨rfl,rfl⟩;exact ac
def eR (N:Nat):Option Mn:=
 some (⟨1,0,(⟨#[108,101,110,103,116,104]⟩:ByteArray)⟩:Mn)
theorem kz {N:Nat}{r:Mn}(h:eR N=some r):Okc Tryz.prog 82 [] ([]) (fun u post=>u=(eZ r)∧post=[]):=by
 refine br Tryz.func82 J J ?_;simp only [aS];refine Y ?_;refine gD (aH nU J) ?_;rintro _ _ ⟨B1,rfl,rfl⟩;refine Y ?_;refine gE (bd J (zk _ _)) ?_;refine gO (ar (us:=[iV 1,iV 0,.string (⟨#[108,101,110,103,116,104]⟩:ByteArray)]) (cs':=[iV 1,iV 0,.string (⟨#[108,101,110,103,116,104]⟩:ByteArray)]) 0 J J J J ck J J J) ?_;rintro _ _ rfl;refine Y ?_;obtain rfl:=ap h;exact ca (rs:=[.cell 0 24]) (vs:=[.agg #[iV 1,iV 0,.string (⟨#[108,101,110,103,116,104]⟩:ByteArray)]]) J (.cons (bu 0 J J bB) .nil) J (cS [] 1) ⟨J,J⟩
theorem i3 {r:Mn}: ∀v post,((fun (u:Value) (post:List Chunk)=>u=(eZ r)∧post=[])) v post→ ∀c∈post,bV c:=by
 rintro _ _ ⟨rfl,rfl⟩;exact ac
def qn (N:Nat)(a0:Md)(a1:Mg):Option Int:=
 (dy N a0 a1).bind fun y16=>bif !y16.2 then (some 0) else (some (y16.1.More.length:Int))
theorem vG {N:Nat}{a0:Md}{a1:Mg}{r:Int}(h:qn N a0 a1=some r):Okc Tryz.prog 28 [pV B1 0,(aZ a1)] ([aR B1 151 (Wk a0 B2 B9 A12 n12 c12 A13 n13 c13 A14 n14 c14),aR B2 199 [I A3 n3 c3,I A4 n4 c4,I A5 n5 c5,I A6 n6 c6,pV B7 0],rL A3 n3 c3 a0.heap_.m_.Young,rL A4 n4 c4 a0.heap_.m_.Old,dm A5 n5 c5 a0.heap_.roots_,dm A6 n6 c6 a0.heap_.pending_,aR B7 247 [.map (some M8)],iM cv cx M8 a0.heap_.set_.at_,aR B9 205 [I A10 n10 c10,.map (some M11)],vL A10 n10 c10 a0.shapes_.shapes_,iM aG cu M11 a0.shapes_.next_,bv A12 n12 c12 a0.symbols_,cE A13 n13 c13 a0.events_,bv A14 n14 c14 a0.out_]) (fun u post=>u=iV r∧post=[]):=by
 refine br Tryz.func28 J J ?_;simp only [aS];refine Y ?_;refine gD (aL J J) ?_;rintro _ _ ⟨B15,rfl,rfl⟩;refine Y ?_;refine gR (ab (us:=av a1) 0 J J aD J) ?_;obtain ⟨y16,hy16,h⟩:=aa h;refine gD (al (eC hy16) mX J (hD (ao (i:=1) J J) (hD (ao (i:=2) J J) (hD (ao (i:=3) J J) (hD (ao (i:=4) J J) (hD (ao (i:=5) J J) (hD (ao (i:=6) J J) (hD (ao (i:=7) J J) (hD (ao (i:=8) J J) (hD (ao (i:=9) J J) (hD (ao (i:=10) J J) (hD (ao (i:=11) J J) (hD (ao (i:=12) J J) (hD (ao (i:=13) J J) (hD (ao (i:=14) J J) ac)))))))))))))) dG) ?_;rintro _ _ ⟨_,⟨A17,n17,c17,A18,n18,c18,rfl,rfl⟩,rfl⟩;refine Y ?_;refine gD (aH eT J) ?_;rintro _ _ ⟨B19,rfl,rfl⟩;refine gO (ar (us:=[iV y16.1.Kind,iV y16.1.Shape,iV y16.1.Flags,iV y16.1.Age,I A17 n17 c17,I A18 n18 c18]) (cs':=[iV y16.1.Kind,iV y16.1.Shape,iV y16.1.Flags,iV y16.1.Age,I A17 n17 c17,I A18 n18 c18]) 0 J J J J cO J J J) ?_;rintro _ _ rfl;refine Y ?_;refine az ?_;refine Y ?_;refine au J (fun g20=> ?_) (fun g20=> ?_)
 ·replace h:=ah g20 h;refine Y ?_;obtain rfl:=ap h;exact aO J J (cS [] 18) ⟨J,J⟩
 replace h:=ai g20 h;refine Y ?_;refine gR (bG 2 J aA J hH) ?_;refine Y ?_;obtain rfl:=ap h;exact aO J J (cS [] 18) ⟨J,J⟩
theorem sX {r:Int}: ∀v post,((fun (u:Value) (post:List Chunk)=>u=iV r∧post=[])) v post→ ∀c∈post,bV c:=by
 rintro _ _ ⟨rfl,rfl⟩;exact ac
def jA (N:Nat)(a0:Md)(a1:Mg)(a2:Mn)(a3:Me)(a4:Bool):Option Int:=
 (eR N).bind fun y18=>(kr N a0 a1 y18).bind fun y19=>(i1 N a0 a1 a2).bind fun y22=>bif decide (4096≤a2.N) then (some 16) else ((qn N a0 a1).bind fun y25=>(bif decide (y25≤a2.N) then (some (decide (aM .i64 y19.1.Attrs 1=0))) else (some false)).bind fun b26=>bif b26 then (some 9) else ((bif !decide (a3.Attrs=7) then (some (!y22.2)) else (some false)).bind fun b28=>(bif b28 then (some a4) else (some false)).bind fun b29=>bif b29 then (some 14) else (some 0)))
set_option maxHeartbeats 4000000 in
theorem rn {N:Nat}{a0:Md}{a1:Mg}{a2:Mn}{a3:Me}{a4:Bool}{r:Int}(h:jA N a0 a1 a2 a3 a4=some r):Okc Tryz.prog 145 [pV B1 0,(aZ a1),(eZ a2),(bA a3),.bool a4] ([bv A12 n12 c12 a0.symbols_,cE A13 n13 c13 a0.events_,bv A14 n14 c14 a0.out_,aR 0 30 [iV 8,iV 0,.string (⟨#[]⟩:ByteArray)],aj B1 151 (Wk a0 B2 B9 A12 n12 c12 A13 n13 c13 A14 n14 c14),aj B2 199 [I A3 n3 c3,I A4 n4 c4,I A5 n5 c5,I A6 n6 c6,pV B7 0],bx A3 n3 c3 a0.heap_.m_.Young,bx A4 n4 c4 a0.heap_.m_.Old,ba A5 n5 c5 a0.heap_.roots_,ba A6 n6 c6 a0.heap_.pending_,aj B7 247 [.map (some M8)],aJ cv cx M8 a0.heap_.set_.at_,aj B9 205 [I A10 n10 c10,.map (some M11)],cI A10 n10 c10 a0.shapes_.shapes_,aJ aG cu M11 a0.shapes_.next_]) (fun u post=>u=iV r∧post=[aj B1 151 (Wk a0 B2 B9 A12 n12 c12 A13 n13 c13 A14 n14 c14),aj B2 199 [I A3 n3 c3,I A4 n4 c4,I A5 n5 c5,I A6 n6 c6,pV B7 0],bx A3 n3 c3 a0.heap_.m_.Young,bx A4 n4 c4 a0.heap_.m_.Old,ba A5 n5 c5 a0.heap_.roots_,ba A6 n6 c6 a0.heap_.pending_,aj B7 247 [.map (some M8)],aJ cv cx M8 a0.heap_.set_.at_,aj B9 205 [I A10 n10 c10,.map (some M11)],cI A10 n10 c10 a0.shapes_.shapes_,aJ aG cu M11 a0.shapes_.next_]):=by
 refine br Tryz.func145 J J ?_;simp only [aS];refine Y ?_;refine gD (aL J J) ?_;rintro _ _ ⟨B15,rfl,rfl⟩;refine gD (aL J J) ?_;rintro _ _ ⟨B16,rfl,rfl⟩;refine gD (aL J J) ?_;rintro _ _ ⟨B17,rfl,rfl⟩;refine Y ?_;refine az ?_;obtain ⟨y18,hy18,h⟩:=aa h;obtain ⟨y19,hy19,h⟩:=aa h;refine f3 (t:=[(0,pV B1 0),(4,.bool a4),(6,pV B15 0),(7,pV B16 0),(8,pV B17 0),(10,iV 0)]) ?_ jd (ae _)
 refine fX V 8 [6] [5,6,7] [16,17,18,19,15,20,21,11] [[],[],[],[0,1,2],[3],[4],[4],[]] [aV (pV B1 0),
 aV ((aZ a1)),
 aV (.agg #[iV y18.Kind,iV y18.N,.string y18.S]),
 aV (.tuple #[(bA y19.1),.bool y19.2]),
 aV (.tuple #[(bA y19.1),.bool y19.2]),
 aV ((bA y19.1)),
 aV (.bool y19.2),
 aX1 (fun (B21:Nat)=>pV B21 0) (fun B21=> [aj B21 42 [iV 0,iV 0,.string (⟨#[]⟩),iV 0,iV 0,iV 0,.string (⟨#[]⟩),iV 0,iV 0,.string (⟨#[]⟩),iV 0,iV 0,.string (⟨#[]⟩)]])] [] (ae _) (d6 rfl iY) V rfl rfl ?_ ?_ ?_
 ·refine d5 J ?_ ?_
  ·exact js (bi J J) J (bh J (ae _))
  exact iX
 ·refine am J ?_ ?_
  ·refine kV (aH cF J) J ?_;rintro _ _ ⟨B20,rfl,rfl⟩;exact zK B20 (ae _)
  refine am J ?_ ?_
  ·exact bW (bi J J) J (bh J (ae _))
  refine am J ?_ ?_
  ·exact bW (bi J J) J (bh J (ae _))
  refine am J ?_ ?_
  ·exact bW (aw J) J (bh J (ae _))
  refine am J ?_ ?_
  ·refine kV (aE (oW hy19) zi J (aC [3,4,5,6] [7,8,9,10,11,12,13,14,15,16,17] [0,1,2,3,4,5,6] 18 J)) J ?_;rintro _ _ ⟨_,⟨rfl,rfl⟩,rfl⟩;exact bh J (cS [11,12,13,14,15,16,17,0,1,2,3,4,5,6,7,8,9,10] 18)
  refine am J ?_ ?_
  ·refine kV (al (kz hy18) Bi J (ac) i3) J ?_;rintro _ _ ⟨_,⟨rfl,rfl⟩,rfl⟩;exact bh J (ae _)
  refine am J ?_ ?_
  ·exact fa (ab (us:=av a1) 2 J J aD J) J (bh J (ae _))
  refine am J ?_ ?_
  ·exact bW (aw J) J (bh J (ae _))
  exact dJ
 intro B21;refine lM (t:=[(20,(bA y19.1)),(21,.bool y19.2),(11,pV B21 0),(0,pV B1 0),(4,.bool a4),(6,pV B15 0),(7,pV B16 0),(8,pV B17 0),(10,iV 0)]) (L':=[aj B21 42 [iV 0,iV 0,.string (⟨#[]⟩),iV 0,iV 0,iV 0,.string (⟨#[]⟩),iV 0,iV 0,.string (⟨#[]⟩),iV 0,iV 0,.string (⟨#[]⟩)],aj B17 42 (aP a3),aj B16 24 (bR a2),aj B15 30 (av a1),bv A12 n12 c12 a0.symbols_,cE A13 n13 c13 a0.events_,bv A14 n14 c14 a0.out_,aR 0 30 [iV 8,iV 0,.string (⟨#[]⟩:ByteArray)],aj B1 151 (Wk a0 B2 B9 A12 n12 c12 A13 n13 c13 A14 n14 c14),aj B2 199 [I A3 n3 c3,I A4 n4 c4,I A5 n5 c5,I A6 n6 c6,pV B7 0],bx A3 n3 c3 a0.heap_.m_.Young,bx A4 n4 c4 a0.heap_.m_.Old,ba A5 n5 c5 a0.heap_.roots_,ba A6 n6 c6 a0.heap_.pending_,aj B7 247 [.map (some M8)],aJ cv cx M8 a0.heap_.set_.at_,aj B9 205 [I A10 n10 c10,.map (some M11)],cI A10 n10 c10 a0.shapes_.shapes_,aJ aG cu M11 a0.shapes_.next_]) ?_ jd (ae _);refine lm 8 J V (ar (us:=aP y19.1) (cs':=aP y19.1) 0 J J J J bJ J J J) J J ?_;rintro _ _ rfl;refine tN 9 J V (be J) J J J ?_;refine jb V ?_;refine Y ?_;refine gR (ab (us:=av a1) 3 J J aD J) ?_;refine gR (ab (us:=bR a2) 2 J J bB J) ?_
 obtain ⟨y22,hy22,h⟩:=aa h;refine gD (aE (nj hy22) wo J (aC [4,5,6] [8,9,10,11,12,13,14,15,16,17,18] [0,1,2,3,4,5,6,7] 19 J)) ?_;rintro _ _ ⟨_,⟨rfl,rfl⟩,rfl⟩;refine Y ?_;refine gD (aH cF J) ?_;rintro _ _ ⟨B23,rfl,rfl⟩;refine gO (ar (us:=aP y22.1) (cs':=aP y22.1) 0 J J J J bJ J J J) ?_;rintro _ _ rfl;refine bL ?_;refine Y ?_;refine az ?_;refine Y ?_;refine gR (aY 14 J J dv J) ?_;refine Y ?_;refine au J (fun g24=> ?_) (fun g24=> ?_)
 ·replace h:=ah g24 h;refine Y ?_;obtain rfl:=ap h;exact aO J J (cS [1,2,3,4,5,6,7,8,9,10,11] 20) ⟨J,J⟩
 replace h:=ai g24 h;refine az ?_;refine bF V _ (ae _) ?_;refine zE 0 J (cb J xC) ?_;refine zR 1 J (aY 14 J J dv J) ?_;refine zE 2 J (aw J) ?_;refine zR 3 J (ab (us:=av a1) 15 J J aD J) ?_;obtain ⟨y25,hy25,h⟩:=aa h;refine zD 4 J (al (vG hy25) GV J (hD (aB (i:=1) J) (hD (aB (i:=2) J) (hD (aq (i:=3) J) (hD (aq (i:=4) J) (hD (aq (i:=5) J) (hD (aq (i:=6) J) (hD (aB (i:=7) J) (hD (bc (i:=8) J) (hD (aB (i:=9) J) (hD (aq (i:=10) J) (hD (bc (i:=11) J) (hD (ao (i:=16) J J) (hD (ao (i:=17) J J) (hD (ao (i:=18) J J) ac)))))))))))))) sX) ?_;rintro _ _ ⟨_,⟨rfl,rfl⟩,rfl⟩;refine ⟨_,ae _,ae _,?_⟩;refine zE 5 J (GB J J) ?_;refine zE 6 J (aw J) ?_;obtain ⟨b26,hb26,h⟩:=aa h;refine iL (fun l=>(((((l.setIfInBounds 7 true).setIfInBounds 8 true).setIfInBounds 9 true).setIfInBounds 10 true).setIfInBounds 11 true)) 1 45 b26 (fun rest=> ?_) ?_
 ·clear h;refine jS 40 J (fun g26=> ?_) (fun g26=> ?_)
  ·have h:=ah g26 hb26;refine dZ 7 J V (cb J uZ) (bq g26 J) J ?_;refine kK 8 J V (aY 12 J J dv J) (bq g26 J) J ?_;refine dZ 9 J V (bD J J) (bq g26 J) J ?_;refine dZ 10 J V (wM J J) (bq g26 J) J ?_;refine zE 11 J (eh g26 J J) ?_;obtain rfl:=ap h;exact ft rest (cY J (aF (aF (aF (aF (aF bX J) J) J) J) J)) (ae _) (ae _)
  have h:=ai g26 hb26;refine cC 7 J V (fq g26 J) J ?_;refine cC 8 J V (fq g26 J) J ?_;refine cC 9 J V (fq g26 J) J ?_;refine cC 10 J V (fq g26 J) J ?_;refine zE 11 J (ei g26 J J) ?_;obtain rfl:=ap h;exact ft rest (cY J (aF (aF (aF (aF (aF bX J) J) J) J) J)) (ae _) (ae _)
 refine zE 12 J (be J) ?_;refine bz V ?_;refine eg ?_;refine au J (fun g27=> ?_) (fun g27=> ?_)
 ·replace h:=ah g27 h;refine Y ?_;obtain rfl:=ap h;exact aO J J (cS [1,2,3,4,5,6,7,8,9,10,11] 20) ⟨J,J⟩
 replace h:=ai g27 h;refine Y ?_;refine gR (aY 13 J J dv J) ?_;refine Y ?_;obtain ⟨b28,hb28,h⟩:=aa h;refine aN 3 53 b28 ?_ ?_
 ·clear h;refine aK 50 J (fun g28=> ?_) (fun g28=> ?_)
  ·have h:=ah g28 hb28;refine Y ?_;obtain rfl:=ap h;exact ad sA (cS [0,1,2,3,4,5,6,7,8,9,10,11,12,13,14,15,16,17,18,19] 20)
  have h:=ai g28 hb28;refine Y ?_;obtain rfl:=ap h;exact ad sA (cS [0,1,2,3,4,5,6,7,8,9,10,11,12,13,14,15,16,17,18,19] 20)
 refine Y ?_;obtain ⟨b29,hb29,h⟩:=aa h;refine aN 2 56 b29 ?_ ?_
 ·clear h;refine aK 54 J (fun g29=> ?_) (fun g29=> ?_)
  ·have h:=ah g29 hb29;refine Y ?_;obtain rfl:=ap h;exact ad sA (cS [0,1,2,3,4,5,6,7,8,9,10,11,12,13,14,15,16,17,18,19] 20)
  have h:=ai g29 hb29;refine Y ?_;obtain rfl:=ap h;exact ad sA (cS [0,1,2,3,4,5,6,7,8,9,10,11,12,13,14,15,16,17,18,19] 20)
 refine Y ?_;refine au J (fun g30=> ?_) (fun g30=> ?_)
 ·replace h:=ah g30 h;refine Y ?_;obtain rfl:=ap h;exact aO J J (cS [1,2,3,4,5,6,7,8,9,10,11] 20) ⟨J,J⟩
 replace h:=ai g30 h;refine Y ?_;obtain rfl:=ap h;exact aO J J (cS [1,2,3,4,5,6,7,8,9,10,11] 20) ⟨J,J⟩
def kg (N:Nat)(a0:Md)(a1:Mg)(a2:Mn)(a3:Mi):Option Int:=
 (d7 N a0 a1 a2).bind fun y18=>(i2 N a0 a1).bind fun y20=>(ia N y18.1 y18.2 y20 a2 a3).bind fun y21=>(bif !y18.2 then (some (!y21.2)) else (some false)).bind fun b24=>bif b24 then (some 10) else (bif !y21.2 then (some 11) else ((fE N a0 a1).bind fun y27=>(lE N a0 a1).bind fun y29=>(bif !y29 then (some true) else (some (!decide (a2.Kind=0)))).bind fun b30=>bif b30 then ((bif !y18.2 then (some (decide (1024≤(y27.length:Int)))) else (some false)).bind fun b32=>bif b32 then (some 14) else (some 0)) else ((jA N a0 a1 a2 y21.1 (decide (1024≤(y27.length:Int)))).bind fun y34=>some y34)))
set_option maxHeartbeats 4000000 in
theorem rK {N:Nat}{a0:Md}{a1:Mg}{a2:Mn}{a3:Mi}{r:Int}(h:kg N a0 a1 a2 a3=some r):Okc Tryz.prog 80 [pV B1 0,(aZ a1),(eZ a2),(ey a3)] ([bv A12 n12 c12 a0.symbols_,cE A13 n13 c13 a0.events_,bv A14 n14 c14 a0.out_,aR 0 30 [iV 8,iV 0,.string (⟨#[]⟩:ByteArray)],aj B1 151 (Wk a0 B2 B9 A12 n12 c12 A13 n13 c13 A14 n14 c14),aj B2 199 [I A3 n3 c3,I A4 n4 c4,I A5 n5 c5,I A6 n6 c6,pV B7 0],bx A3 n3 c3 a0.heap_.m_.Young,bx A4 n4 c4 a0.heap_.m_.Old,ba A5 n5 c5 a0.heap_.roots_,ba A6 n6 c6 a0.heap_.pending_,aj B7 247 [.map (some M8)],aJ cv cx M8 a0.heap_.set_.at_,aj B9 205 [I A10 n10 c10,.map (some M11)],cI A10 n10 c10 a0.shapes_.shapes_,aJ aG cu M11 a0.shapes_.next_]) (fun u post=>u=iV r∧post=[aj B1 151 (Wk a0 B2 B9 A12 n12 c12 A13 n13 c13 A14 n14 c14),aj B2 199 [I A3 n3 c3,I A4 n4 c4,I A5 n5 c5,I A6 n6 c6,pV B7 0],bx A3 n3 c3 a0.heap_.m_.Young,bx A4 n4 c4 a0.heap_.m_.Old,ba A5 n5 c5 a0.heap_.roots_,ba A6 n6 c6 a0.heap_.pending_,aj B7 247 [.map (some M8)],aJ cv cx M8 a0.heap_.set_.at_,aj B9 205 [I A10 n10 c10,.map (some M11)],cI A10 n10 c10 a0.shapes_.shapes_,aJ aG cu M11 a0.shapes_.next_]):=by
 refine br Tryz.func80 J J ?_;simp only [aS];refine Y ?_;refine gD (aL J J) ?_;rintro _ _ ⟨B15,rfl,rfl⟩;refine gD (aL J J) ?_;rintro _ _ ⟨B16,rfl,rfl⟩;refine gD (aL J J) ?_;rintro _ _ ⟨B17,rfl,rfl⟩;refine Y ?_;refine gR (ab (us:=av a1) 2 J J aD J) ?_;refine gR (ab (us:=bR a2) 1 J J bB J) ?_;obtain ⟨y18,hy18,h⟩:=aa h;refine gD (aE (ie hy18) oh J (aC [3,4,5,6] [7,8,9,10,11,12,13,14,15,16,17] [0,1,2,3,4,5,6] 18 J)) ?_;rintro _ _ ⟨_,⟨rfl,rfl⟩,rfl⟩;refine Y ?_;refine gD (aH cF J) ?_;rintro _ _ ⟨B19,rfl,rfl⟩;refine gO (ar (us:=aP y18.1) (cs':=aP y18.1) 0 J J J J bJ J J J) ?_;rintro _ _ rfl;refine Y ?_;refine az ?_;obtain ⟨y20,hy20,h⟩:=aa h;obtain ⟨y21,hy21,h⟩:=aa h;refine f3 (t:=[(0,pV B1 0),(5,pV B15 0),(6,pV B16 0),(7,pV B17 0),(8,iV 0),(9,pV B19 0),(10,.bool y18.2)]) ?_ jd (ae _)
 refine fX V 12 [10] [9,10,11] [22,23,24,25,26,27,28,29,21,30,31,11] [[],[],[],[],[2,3],[],[],[0,1,4,5,6],[7],[8],[8],[]] [aV ((bA y18.1)),
 aV (.bool y18.2),
 aV (pV B1 0),
 aV ((aZ a1)),
 aV (.bool y20),
 aV ((eZ a2)),
 aV ((ey a3)),
 aV (.tuple #[(bA y21.1),.bool y21.2]),
 aV (.tuple #[(bA y21.1),.bool y21.2]),
 aV ((bA y21.1)),
 aV (.bool y21.2),
 aX1 (fun (B23:Nat)=>pV B23 0) (fun B23=> [aj B23 42 [iV 0,iV 0,.string (⟨#[]⟩),iV 0,iV 0,iV 0,.string (⟨#[]⟩),iV 0,iV 0,.string (⟨#[]⟩),iV 0,iV 0,.string (⟨#[]⟩)]])] [] (ae _) (d6 rfl iY) V rfl rfl ?_ ?_ ?_
 ·refine d5 J ?_ ?_
  ·exact js (bi J J) J (bh J (ae _))
  exact iX
 ·refine am J ?_ ?_
  ·refine kV (aH cF J) J ?_;rintro _ _ ⟨B22,rfl,rfl⟩;exact zK B22 (ae _)
  refine am J ?_ ?_
  ·exact bW (bi J J) J (bh J (ae _))
  refine am J ?_ ?_
  ·exact bW (bi J J) J (bh J (ae _))
  refine am J ?_ ?_
  ·exact bW (aw J) J (bh J (ae _))
  refine am J ?_ ?_
  ·refine kV (al (li hy21) vu J (ac) jq) J ?_;rintro _ _ ⟨_,⟨rfl,rfl⟩,rfl⟩;exact bh J (ae _)
  refine am J ?_ ?_
  ·exact fa (ab (us:=cc a3) 12 J J dz J) J (bh J (ae _))
  refine am J ?_ ?_
  ·exact fa (ab (us:=bR a2) 13 J J bB J) J (bh J (ae _))
  refine am J ?_ ?_
  ·refine kV (aE (nl hy20) ux J (aC [15,16,17] [1,2,3,4,5,6,7,8,9,10,11] [0,12,13,14,15,16,17,18] 19 J)) J ?_;rintro _ _ ⟨_,⟨rfl,rfl⟩,rfl⟩;exact bh J (cS [11,0,1,2,3,4,5,6,7,8,9,10,12,13,14,15,16,17,18] 19)
  refine am J ?_ ?_
  ·exact fa (ab (us:=av a1) 14 J J aD J) J (bh J (ae _))
  refine am J ?_ ?_
  ·exact bW (aw J) J (bh J (ae _))
  refine am J ?_ ?_
  ·exact bW (aw J) J (bh J (ae _))
  refine am J ?_ ?_
  ·exact fa (ab (us:=aP y18.1) 0 J J cq J) J (bh J (ae _))
  exact dJ
 intro B23;refine lM (t:=[(30,(bA y21.1)),(31,.bool y21.2),(11,pV B23 0),(0,pV B1 0),(5,pV B15 0),(6,pV B16 0),(7,pV B17 0),(8,iV 0),(9,pV B19 0),(10,.bool y18.2)]) (L':=[aj B23 42 [iV 0,iV 0,.string (⟨#[]⟩),iV 0,iV 0,iV 0,.string (⟨#[]⟩),iV 0,iV 0,.string (⟨#[]⟩),iV 0,iV 0,.string (⟨#[]⟩)],aj B19 42 (aP y18.1),aj B1 151 (Wk a0 B2 B9 A12 n12 c12 A13 n13 c13 A14 n14 c14),aj B2 199 [I A3 n3 c3,I A4 n4 c4,I A5 n5 c5,I A6 n6 c6,pV B7 0],bx A3 n3 c3 a0.heap_.m_.Young,bx A4 n4 c4 a0.heap_.m_.Old,ba A5 n5 c5 a0.heap_.roots_,ba A6 n6 c6 a0.heap_.pending_,aj B7 247 [.map (some M8)],aJ cv cx M8 a0.heap_.set_.at_,aj B9 205 [I A10 n10 c10,.map (some M11)],cI A10 n10 c10 a0.shapes_.shapes_,aJ aG cu M11 a0.shapes_.next_,aj B17 32 (cc a3),aj B16 24 (bR a2),aj B15 30 (av a1),bv A12 n12 c12 a0.symbols_,cE A13 n13 c13 a0.events_,bv A14 n14 c14 a0.out_,aR 0 30 [iV 8,iV 0,.string (⟨#[]⟩:ByteArray)]]) ?_ jd (ae _);refine lm 12 J V (ar (us:=aP y21.1) (cs':=aP y21.1) 0 J J J J bJ J J J) J J ?_;rintro _ _ rfl;refine wJ ?_;refine tN 13 J V (be J) J J J ?_;refine jb V ?_;refine eg ?_;refine az ?_;refine Y ?_;obtain ⟨b24,hb24,h⟩:=aa h
 refine aN 3 38 b24 ?_ ?_
 ·clear h;refine aK 35 J (fun g24=> ?_) (fun g24=> ?_)
  ·have h:=ah g24 hb24;refine Y ?_;obtain rfl:=ap h;exact ad sA (cS [0,1,2,3,4,5,6,7,8,9,10,11,12,13,14,15,16,17,18,19] 20)
  have h:=ai g24 hb24;refine Y ?_;obtain rfl:=ap h;exact ad sA (cS [0,1,2,3,4,5,6,7,8,9,10,11,12,13,14,15,16,17,18,19] 20)
 refine Y ?_;refine au J (fun g25=> ?_) (fun g25=> ?_)
 ·replace h:=ah g25 h;refine Y ?_;obtain rfl:=ap h;exact aO J J (cS [2,3,4,5,6,7,8,9,10,11,12] 20) ⟨J,J⟩
 replace h:=ai g25 h;refine Y ?_;refine au J (fun g26=> ?_) (fun g26=> ?_)
 ·replace h:=ah g26 h;refine Y ?_;obtain rfl:=ap h;exact aO J J (cS [2,3,4,5,6,7,8,9,10,11,12] 20) ⟨J,J⟩
 replace h:=ai g26 h;refine Y ?_;refine gR (ab (us:=av a1) 15 J J aD J) ?_;obtain ⟨y27,hy27,h⟩:=aa h;refine gD (aE (jg hy27) tA J (aC [16,17,18] [2,3,4,5,6,7,8,9,10,11,12] [0,1,13,14,15,16,17,18,19] 20 J)) ?_;rintro _ _ ⟨_,⟨A28,n28,c28,rfl,rfl⟩,rfl⟩;refine gR (bG 0 J aA J LO) ?_;refine Y ?_;refine az ?_;refine Y ?_;refine gR (ab (us:=av a1) 16 J J aD J) ?_;obtain ⟨y29,hy29,h⟩:=aa h;refine gD (al (qo hy29) wq J (hD (aB (i:=1) J) (hD (aB (i:=2) J) (hD (aq (i:=3) J) (hD (aq (i:=4) J) (hD (aq (i:=5) J) (hD (aq (i:=6) J) (hD (aB (i:=7) J) (hD (bc (i:=8) J) (hD (aB (i:=9) J) (hD (aq (i:=10) J) (hD (bc (i:=11) J) (hD (ao (i:=17) J J) (hD (ao (i:=18) J J) (hD (ao (i:=19) J J) ac)))))))))))))) nr) ?_;rintro _ _ ⟨_,⟨rfl,rfl⟩,rfl⟩;refine Y ?_;obtain ⟨b30,hb30,h⟩:=aa h;refine aN 4 55 b30 ?_ ?_
 ·clear h;refine aK 51 J (fun g30=> ?_) (fun g30=> ?_)
  ·have h:=ah g30 hb30;refine Y ?_;obtain rfl:=ap h;exact ad sA (cS [0,1,2,3,4,5,6,7,8,9,10,11,12,13,14,15,16,17,18,19,20] 21)
  have h:=ai g30 hb30;refine Y ?_;refine ci (aY 15 J J dv J) J (cU g30 J) J ?_;refine Y ?_;obtain rfl:=ap h;exact ad sA (cS [0,1,2,3,4,5,6,7,8,9,10,11,12,13,14,15,16,17,18,19,20] 21)
 refine Y ?_;refine au J (fun g31=> ?_) (fun g31=> ?_)
 ·replace h:=ah g31 h;refine az ?_;refine Y ?_;obtain ⟨b32,hb32,h⟩:=aa h;refine aN 2 60 b32 ?_ ?_
  ·clear h;refine aK 58 J (fun g32=> ?_) (fun g32=> ?_)
   ·have h:=ah g32 hb32;refine Y ?_;obtain rfl:=ap h;exact ad sA (cS [0,1,2,3,4,5,6,7,8,9,10,11,12,13,14,15,16,17,18,19,20] 21)
   have h:=ai g32 hb32;refine Y ?_;obtain rfl:=ap h;exact ad sA (cS [0,1,2,3,4,5,6,7,8,9,10,11,12,13,14,15,16,17,18,19,20] 21)
  refine Y ?_;refine au J (fun g33=> ?_) (fun g33=> ?_)
  ·replace h:=ah g33 h;refine Y ?_;obtain rfl:=ap h;exact aO J J (cS [1,2,3,4,5,6,7,8,9,10,11] 21) ⟨J,J⟩
  replace h:=ai g33 h;refine Y ?_;obtain rfl:=ap h;exact aO J J (cS [1,2,3,4,5,6,7,8,9,10,11] 21) ⟨J,J⟩
 replace h:=ai g31 h;refine Y ?_;refine gR (ab (us:=av a1) 16 J J aD J) ?_;refine gR (ab (us:=bR a2) 15 J J bB J) ?_;refine gR (ab (us:=aP y21.1) 12 J J cq J) ?_;refine Y ?_;obtain ⟨y34,hy34,h⟩:=aa h;refine gD (aE (rn hy34) IN J (aC [17,18,19,20] [1,2,3,4,5,6,7,8,9,10,11] [0,12,13,14,15,16,17,18,19,20] 21 J)) ?_;rintro _ _ ⟨_,⟨rfl,rfl⟩,rfl⟩;refine Y ?_;obtain rfl:=ap h;exact aO J J (cS [0,1,2,3,4,5,6,7,8,9,10] 21) ⟨J,J⟩
def lH (N:Nat)(a0:Int):Option Bool:=
 (bif decide (0≤a0) then (some (decide (a0≤15))) else (some false)).bind fun b1=>(bif b1 then (some (!decide (aM .i64 a0 9=9))) else (some false)).bind fun b2=>some b2
theorem AC {N:Nat}{a0:Int}{r:Bool}(h:lH N a0=some r):Okc Tryz.prog 213 [iV a0] ([]) (fun u post=>u=.bool r∧post=[]):=by
 refine br Tryz.func213 J J ?_;simp only [aS];refine Y ?_;obtain ⟨b1,hb1,h⟩:=aa h;refine aN 3 8 b1 ?_ ?_
 ·clear h;refine aK 5 J (fun g1=> ?_) (fun g1=> ?_)
  ·have h:=ah g1 hb1;refine Y ?_;obtain rfl:=ap h;exact ad sA (cS [] 0)
  have h:=ai g1 hb1;refine Y ?_;obtain rfl:=ap h;exact ad sA (cS [] 0)
 refine Y ?_;obtain ⟨b2,hb2,h⟩:=aa h;refine aN 4 13 b2 ?_ ?_
 ·clear h;refine aK 9 J (fun g2=> ?_) (fun g2=> ?_)
  ·have h:=ah g2 hb2;refine Y ?_;refine d3 (bD J J) J (bq g2 J) J ?_;refine Y ?_;obtain rfl:=ap h;exact ad sA (cS [] 0)
  have h:=ai g2 hb2;refine Y ?_;obtain rfl:=ap h;exact ad sA (cS [] 0)
 refine Y ?_;obtain rfl:=ap h;exact aO J J (cS [] 0) ⟨J,J⟩
theorem xZ {r:Bool}: ∀v post,((fun (u:Value) (post:List Chunk)=>u=.bool r∧post=[])) v post→ ∀c∈post,bV c:=by
 rintro _ _ ⟨rfl,rfl⟩;exact ac
def eO (N:Nat)(a0:Mh)(a1:Int)(a2:Mn)(a3:Int):Option Int:=
 (eF N a0 a1).bind fun y5=>bif !y5 then (some 2) else ((er N a2).bind fun y7=>(bif !y7 then (some true) else ((lH N a3).bind fun y9=>some (!y9))).bind fun b8=>bif b8 then (some 1) else (some 0))
theorem jW {N:Nat}{a0:Mh}{a1:Int}{a2:Mn}{a3:Int}{r:Int}(h:eO N a0 a1 a2 a3=some r):Okc Tryz.prog 165 [pV B1 0,iV a1,(eZ a2),iV a3] ([aR B1 205 [I A2 n2 c2,.map (some M3)],vL A2 n2 c2 a0.shapes_,iM aG cu M3 a0.next_]) (fun u post=>u=iV r∧post=[]):=by
 refine br Tryz.func165 J J ?_;simp only [aS];refine Y ?_;refine gD (aL J J) ?_;rintro _ _ ⟨B4,rfl,rfl⟩;refine Y ?_;refine az ?_;refine Y ?_;refine gE (di J Tryz.underlying144) ?_;refine Y ?_;refine fI J ?_;refine Y ?_;obtain ⟨y5,hy5,h⟩:=aa h;refine gD (al (lz hy5) Bp J (hD (ao (i:=1) J J) (hD (ao (i:=2) J J) (hD (ao (i:=3) J J) ac))) jV) ?_;rintro _ _ ⟨_,⟨rfl,rfl⟩,rfl⟩;refine Y ?_;refine au J (fun g6=> ?_) (fun g6=> ?_)
 ·replace h:=ah g6 h;refine Y ?_;obtain rfl:=ap h;exact aO J J (cS [] 4) ⟨J,J⟩
 replace h:=ai g6 h;refine Y ?_;refine gR (ab (us:=bR a2) 0 J J bB J) ?_;obtain ⟨y7,hy7,h⟩:=aa h;refine gD (al (i4 hy7) uv J (ac) ge) ?_;rintro _ _ ⟨_,⟨rfl,rfl⟩,rfl⟩;refine Y ?_;obtain ⟨b8,hb8,h⟩:=aa h;refine aN 4 25 b8 ?_ ?_
 ·clear h;refine aK 21 J (fun g8=> ?_) (fun g8=> ?_)
  ·have h:=ah g8 hb8;refine Y ?_;obtain rfl:=ap h;exact ad sA (cS [0,1,2,3] 4)
  have h:=ai g8 hb8;refine Y ?_;obtain ⟨y9,hy9,h⟩:=aa h;refine cr (al (AC hy9) Iz J (ac) xZ) J (cU g8 J) J ?_;rintro _ _ ⟨_,⟨rfl,rfl⟩,rfl⟩;refine Y ?_;obtain rfl:=ap h;exact ad sA (cS [0,1,2,3] 4)
 refine Y ?_;refine au J (fun g10=> ?_) (fun g10=> ?_)
 ·replace h:=ah g10 h;refine Y ?_;obtain rfl:=ap h;exact aO J J (cS [] 4) ⟨J,J⟩
 replace h:=ai g10 h;refine Y ?_;obtain rfl:=ap h;exact aO J J (cS [] 4) ⟨J,J⟩
theorem iS {r:Int}: ∀v post,((fun (u:Value) (post:List Chunk)=>u=iV r∧post=[])) v post→ ∀c∈post,bV c:=by
 rintro _ _ ⟨rfl,rfl⟩;exact ac
def ov (N:Nat)(p20:Int)(p21:(List Mo))(p22:(List (Mm×Int))):Option (Int×Int×Mh):=
 some (p20,0,(⟨p21,p22⟩:Mh))
def io (N:Nat)(p7:(List Mo)):Nat→Int→Int→(List Mo)→(List (Mm×Int))→Option (Int×Int×Mh)
 |0,_,_,_,_=>none
 |m23+1,p24,p25,p26,p27=>bif decide (p25<(p7.length:Int)) then ((bU p7 p25).bind fun x29=>(bU p26 p24).bind fun x31=>cR (bK (x31.Len+1)) (cR (fu (p26.length+([(⟨p24,x29.Key,x29.Attrs,x31.Len+1⟩:Mo)]:List Mo).length)) (cR (bK (((p26++([(⟨p24,x29.Key,x29.Attrs,x31.Len+1⟩:Mo)]:List Mo)).length:Int) - 1)) (cR (bK (p25+1)) ((io N p7 m23) (((p26++([(⟨p24,x29.Key,x29.Attrs,x31.Len+1⟩:Mo)]:List Mo)).length:Int) - 1) (p25+1) (p26++([(⟨p24,x29.Key,x29.Attrs,x31.Len+1⟩:Mo)]:List Mo)) (CU p27 (⟨p24,x29.Key,x29.Attrs⟩:Mm) (p26.length:Int))))))) else (ov N p24 p26 p27)
def fi (N:Nat)(a0:Mh)(p6:Int)(p7:(List Mo)):Option (Int×Int×Mh):=
 cR (bK (1073741824 - (a0.shapes_.length:Int))) (bif decide (1073741824 - (a0.shapes_.length:Int)<(p7.length:Int)) then (some (0,5,a0)) else (io N p7 N p6 0 a0.shapes_ a0.next_))
def iR (N:Nat)(a0:Mh):Nat→Int→(List Mo)→Option (Int×Int×Mh)
 |0,_,_=>none
 |m8+1,p9,p10=>bif decide (0<(p10.length:Int)) then ((bU p10 0).bind fun x12=>(bU p10 0).bind fun x13=>bif !((lk a0.next_ (⟨p9,x12.Key,x13.Attrs⟩:Mm)).isSome) then (fi N a0 p9 p10) else (cR ((0:Int)≤1∧(1:Int).toNat≤p10.length∧p10.length≤p10.length) ((iR N a0 m8) ((lk a0.next_ (⟨p9,x12.Key,x13.Attrs⟩:Mm)).getD 0) ((p10.drop ((1:Int).toNat)).take (p10.length - (1:Int).toNat))))) else (fi N a0 p9 p10)
def gQ (N:Nat)(a0:Mh)(a1:Int)(a2:(List Mo)):Option (Int×Int×Mh):=
 iR N a0 N a1 a2
set_option maxHeartbeats 4000000 in
theorem ly {N:Nat}{a0:Mh}{a1:Int}{a2:(List Mo)}{r:(Int×Int×Mh)}(h:gQ N a0 a1 a2=some r):Okc Tryz.prog 166 [pV B1 0,iV a1,I A4 n4 c4] ([vL A4 n4 c4 a2,aj B1 205 [I A2 n2 c2,.map (some M3)],cI A2 n2 c2 a0.shapes_,aJ aG cu M3 a0.next_]) (fun u post=> ∃A0 n0 c0 M1,u=.tuple #[iV r.1,iV r.2.1]∧post=[aj B1 205 [I A0 n0 c0,.map (some M1)],cI A0 n0 c0 r.2.2.shapes_,aJ aG cu M1 r.2.2.next_]):=by
 refine br Tryz.func166 J J ?_;simp only [aS];refine Y ?_;refine aW (fun s L=> ∃p6 p7 A7 n7 c7,fi N a0 p6 p7=some r∧s=[(0,pV B1 0),(6,iV 0),(7,iV 0),(8,iV p6),(9,I A7 n7 c7)]∧L=[vL A7 n7 c7 p7,cI A2 n2 c2 a0.shapes_,aJ aG cu M3 a0.next_,aj B1 205 [I A2 n2 c2,.map (some M3)]]) ?_ ?_
 ·refine dV ?_;refine bN (fun m s L=> ∃p9 p10 A10 n10 c10,iR N a0 m p9 p10=some r∧s=[(0,pV B1 0),(6,iV 0),(7,iV 0),(8,iV p9),(9,I A10 n10 c10)]∧L=[vL A10 n10 c10 p10,cI A2 n2 c2 a0.shapes_,aJ aG cu M3 a0.next_,aj B1 205 [I A2 n2 c2,.map (some M3)]]) N _ _ ⟨a1,a2,A4,n4,c4,h,J,J⟩ sA (cS [0,2,3,1] 4) ?_;rintro (_|m8) _ _ ⟨p9,p10,A10,n10,c10,h,rfl,rfl⟩
  ·exact bg h
  rw [iR.eq_2] at h;refine az ?_;refine Y ?_;refine gR (bG 0 J aU J LS) ?_;refine Y ?_;refine au J (fun g11=> ?_) (fun g11=> ?_)
  ·replace h:=ah g11 h;refine Y ?_;refine az ?_;refine bF V _ (ae _) ?_;refine zE 0 J (aw J) ?_;refine zE 1 J (bf J) ?_;refine zE 2 J (cb J yJ) ?_;refine zR 3 J (aY 3 J J C5 J) ?_;refine zE 4 J (aw J) ?_;refine zE 5 J (aw J) ?_;obtain ⟨x12,hx12,h⟩:=aa h;obtain ⟨lx12,ux12,hx12⟩:=aI hx12;refine zR 6 J (bp 0 J aU J J LS dD lx12 ux12) ?_;refine zR 7 J (qG 0 J aU J (toNat_lt lx12 ux12) vc) ?_;refine zR 8 J (bj (us:=bR x12.Key) 0 J aU J hx12 bB (fun _ _ _ h=>by rw [show _=_ from h];rfl)) ?_;refine zE 9 J (aw J) ?_;obtain ⟨x13,hx13,h⟩:=aa h;obtain ⟨lx13,ux13,hx13⟩:=aI hx13;refine zR 10 J (bp 0 J aU J J LS dD lx13 ux13) ?_;refine zR 11 J (qG 0 J aU J (toNat_lt lx13 ux13) qV) ?_;refine zR 12 J (eX (u:=iV x13.Attrs) 0 J aU J hx13 dv (fun _ _ _ h=>by rw [show _=_ from h];rfl)) ?_;refine zE 13 J (bd J (ua _ _ _ _ _)) ?_;refine zR 14 J (F0 (a:=(⟨p9,x12.Key,x13.Attrs⟩:Mm)) (z:=0) 2 J JH J J Tryz.underlying203 yD Kk) ?_;refine zE 15 J (aw J) ?_;refine zE 16 J (bi J J) ?_;refine zE 17 J (bi J J) ?_;refine zE 18 J (be J) ?_;refine zE 19 J (be J) ?_;refine bz V ?_;refine eg ?_;refine az ?_;refine Y ?_;refine au J (fun g14=> ?_) (fun g14=> ?_)
   ·replace h:=ah g14 h;refine Y ?_;refine K0 J ?_;refine Y ?_;exact ⟨_,_,⟨p9,p10,A10,n10,c10,h,J,J⟩,sA,cS [0,1,2,3] 4⟩
   replace h:=ai g14 h;refine Y ?_;refine bF V _ (ae _) ?_;refine zE 0 J (aw J) ?_;refine zE 1 J (aw J) ?_;obtain ⟨q15,h⟩:=ay h;refine Ha 0 J (l:=(1:Int).toNat) (h:=p10.length) q15.2.1 q15.2.2 ?_;rintro A16 n16 c16 e16;refine zR 2 J (xr 1 J e16 J LS dD J (by rw [Int.toNat_of_nonneg q15.1];rfl) q15.2.1) ?_;refine zE 3 J (be J) ?_;refine zE 4 J (be J) ?_;refine bz V ?_;refine Y ?_;exact ⟨m8,_,_,Mw _,⟨(lk a0.next_ (⟨p9,x12.Key,x13.Attrs⟩:Mm)).getD 0,(p10.drop ((1:Int).toNat)).take (p10.length - (1:Int).toNat),A16,n16,c16,h,J,J⟩,sA,cS [0,2,3,4] 5⟩
  replace h:=ai g11 h;refine Y ?_;exact ⟨_,_,⟨p9,p10,A10,n10,c10,h,J,J⟩,sA,cS [0,1,2,3] 4⟩
 rintro _ _ ⟨p6,p7,A7,n7,c7,h,rfl,rfl⟩;refine az ?_;refine Y ?_;refine gR (bG 0 J aU J LS) ?_;refine Y ?_;refine gR (bG 1 J aA J LS) ?_;obtain ⟨q17,h⟩:=ay h;refine gE (dl J J q17.1 q17.2) ?_;refine Y ?_;refine au J (fun g18=> ?_) (fun g18=> ?_)
 ·replace h:=ah g18 h;refine Y ?_;obtain rfl:=ap h;exact cT J J J (cS [3,1,2] 4) ⟨_,_,_,_,J,J⟩
 replace h:=ai g18 h;refine Y ?_;refine aW (fun s L=> ∃p20 p21 p22 A21 n21 c21,ov N p20 p21 p22=some r∧s=[(6,iV 0),(7,iV 0),(8,iV p20)]∧L=[cI A21 n21 c21 p21,aJ aG cu M3 p22,aj B1 205 [I A21 n21 c21,.map (some M3)]]) ?_ ?_
 ·refine Y ?_;refine gR (bG 0 J aU J LS) ?_;refine Y ?_;refine bN (fun m s L=> ∃p24 p25 p26 p27 A26 n26 c26,io N p7 m p24 p25 p26 p27=some r∧s=[(0,pV B1 0),(6,iV 0),(7,iV 0),(8,iV p24),(51,I A7 n7 c7),(52,iV (p7.length:Int)),(53,iV p25)]∧L=[vL A7 n7 c7 p7,cI A26 n26 c26 p26,aJ aG cu M3 p27,aj B1 205 [I A26 n26 c26,.map (some M3)]]) N _ _ ⟨p6,0,a0.shapes_,a0.next_,A2,n2,c2,h,J,J⟩ sA (cS [0,1,2,3] 4) ?_;rintro (_|m23) _ _ ⟨p24,p25,p26,p27,A26,n26,c26,h,rfl,rfl⟩
  ·exact bg h
  rw [io.eq_2] at h;refine Y ?_;refine az ?_;refine au J (fun g28=> ?_) (fun g28=> ?_)
  ·replace h:=ah g28 h;refine Y ?_;refine az ?_;refine Y ?_;obtain ⟨x29,hx29,h⟩:=aa h;obtain ⟨lx29,ux29,hx29⟩:=aI hx29;refine gR (bp 0 J aU J J LS dD lx29 ux29) ?_;refine gR (bj (us:=eJ x29) 0 J aU J hx29 qC (fun _ _ _ h=>by rw [show _=_ from h];rfl)) ?_;refine gD (aH rf J) ?_;rintro _ _ ⟨B30,rfl,rfl⟩;refine gO (ar (us:=eJ x29) (cs':=eJ x29) 0 J J J J dD J J J) ?_;rintro _ _ rfl;refine Y ?_;refine az ?_;refine bF V _ (ae _) ?_;refine zE 0 J (aw J) ?_;refine zE 1 J (bf J) ?_;refine zE 2 J (cb J yJ) ?_;refine zR 3 J (aY 4 J J C5 J) ?_;refine zE 4 J (aw J) ?_;refine zE 5 J (cb J vc) ?_;refine zR 6 J (ab (us:=bR x29.Key) 0 J J bB J) ?_;refine zE 7 J (cb J qV) ?_;refine zR 8 J (aY 0 J J dv J) ?_;refine zE 9 J (bd J (ua _ _ _ _ _)) ?_;refine zE 10 J (aw J) ?_;refine zE 11 J (bf J) ?_;refine zE 12 J (dN J qU) ?_;refine zR 13 J (aY 4 J J pq J) ?_;refine zR 14 J (bG 2 J aA J LS) ?_;refine ns 15 J V V (uL (a:=(⟨p24,x29.Key,x29.Attrs⟩:Mm)) (b:=(p26.length:Int)) 3 J J J J Tryz.underlying203 yD) ?_;rintro _ _ rfl;refine bz V ?_;refine eg ?_;refine az ?_;obtain ⟨x31,hx31,h⟩:=aa h;obtain ⟨lx31,ux31,hx31⟩:=aI hx31;obtain ⟨q32,h⟩:=ay h;refine f3 (t:=[(0,pV B1 0),(6,iV 0),(7,iV 0),(8,iV p24),(13,pV B30 0),(51,I A7 n7 c7),(52,iV (p7.length:Int)),(53,iV p25)]) ?_ jd (ae _)
   refine fX V 21 [0] [0,4,20] [72,73,74,75,76,77,78,79,80,81,82,83,84,85,86,87,88,89,90,91,92] [[],[],[1],[2],[3],[],[],[6],[],[8],[],[10],[11],[12],[],[13,14],[15],[16],[17],[5,7,9,18],[19]] [aV (pV B1 0),
aV (pV B1 0),
aV (pV B1 0),
aV (pV B1 0),
aV (I A26 n26 c26),
aV (iV p24),
aV (pV B30 1),
aV ((eZ x29.Key)),
aV (pV B30 4),
aV (iV x29.Attrs),
aV (pV B1 0),
aV (pV B1 0),
aV (pV B1 0),
aV (I A26 n26 c26),
aV (iV p24),
aV (eA (I A26 n26 c26) p24.toNat 6 0),
aV (eA (I A26 n26 c26) p24.toNat 6 5),
aV (iV x31.Len),
aV (iV (x31.Len+1)),
aV (.agg #[iV p24,iV x29.Key.Kind,iV x29.Key.N,.string x29.Key.S,iV x29.Attrs,iV (x31.Len+1)]),
aX3 (fun (A34:Option Addr) (n34 c34:Nat)=> I A34 n34 c34) (fun A34 n34 c34=> [cI A34 n34 c34 ([(⟨p24,x29.Key,x29.Attrs,x31.Len+1⟩:Mo)]:List Mo)])] [] (ae _) (d6 rfl iY) V rfl rfl ?_ ?_ ?_
   ·refine d5 J ?_ ?_
    ·exact js (aw J) J (bh J (ae _))
    exact iX
   ·refine am J ?_ ?_
    ·refine kV (bP (R:=tp) (vss:=[[iV p24,iV x29.Key.Kind,iV x29.Key.N,.string x29.Key.S,iV x29.Attrs,iV (x31.Len+1)]]) (xs:=[(⟨p24,x29.Key,x29.Attrs,x31.Len+1⟩:Mo)]) J (ws _ _ _ _ _ _) J J (fun _ _ hr=> .cons J All2.nil)) J ?_;rintro _ _ ⟨A33,n33,c33,rfl,rfl⟩;exact If A33 n33 c33 (ae _)
    refine am J ?_ ?_
    ·exact bW (bd J (xi _ _ _ _ _ _)) J (bh J (ae _))
    refine am J ?_ ?_
    ·exact bW (bE J J q32.1 q32.2) J (bh J (ae _))
    refine am J ?_ ?_
    ·exact fa (eX (u:=iV x31.Len) 2 J aA J hx31 dv (fun _ _ _ h=>by rw [show _=_ from h];rfl)) J (bh J (ae _))
    refine am J ?_ ?_
    ·exact fa (qG 2 J aA J (toNat_lt lx31 ux31) vb) J (bh J (ae _))
    refine am J ?_ ?_
    ·exact fa (bp 2 J aA J J LS dD lx31 ux31) J (bh J (ae _))
    refine am J ?_ ?_
    ·exact bW (aw J) J (bh J (ae _))
    refine am J ?_ ?_
    ·exact fa (aY 4 J J pq J) J (bh J (ae _))
    refine am J ?_ ?_
    ·exact bW (dN J qU) J (bh J (ae _))
    refine am J ?_ ?_
    ·exact bW (bf J) J (bh J (ae _))
    refine am J ?_ ?_
    ·exact bW (aw J) J (bh J (ae _))
    refine am J ?_ ?_
    ·exact fa (aY 0 J J dv J) J (bh J (ae _))
    refine am J ?_ ?_
    ·exact bW (cb J qV) J (bh J (ae _))
    refine am J ?_ ?_
    ·exact fa (ab (us:=bR x29.Key) 0 J J bB J) J (bh J (ae _))
    refine am J ?_ ?_
    ·exact bW (cb J vc) J (bh J (ae _))
    refine am J ?_ ?_
    ·exact bW (aw J) J (bh J (ae _))
    refine am J ?_ ?_
    ·exact fa (aY 4 J J pq J) J (bh J (ae _))
    refine am J ?_ ?_
    ·exact bW (dN J qU) J (bh J (ae _))
    refine am J ?_ ?_
    ·exact bW (bf J) J (bh J (ae _))
    refine am J ?_ ?_
    ·exact bW (aw J) J (bh J (ae _))
    refine am J ?_ ?_
    ·exact bW (aw J) J (bh J (ae _))
    exact dJ
   intro A34 n34 c34;refine lM (t:=[(72,pV B1 0),(76,I A26 n26 c26),(92,I A34 n34 c34),(0,pV B1 0),(6,iV 0),(7,iV 0),(8,iV p24),(13,pV B30 0),(51,I A7 n7 c7),(52,iV (p7.length:Int)),(53,iV p25)]) (L':=[cI A34 n34 c34 ([(⟨p24,x29.Key,x29.Attrs,x31.Len+1⟩:Mo)]:List Mo),aj B30 201 (eJ x29),vL A7 n7 c7 p7,cI A26 n26 c26 p26,aJ aG cu M3 (CU p27 (⟨p24,x29.Key,x29.Attrs⟩:Mm) (p26.length:Int)),aj B1 205 [I A26 n26 c26,.map (some M3)]]) ?_ jd (ae _);obtain ⟨q35,h⟩:=ay h;refine wS 21 J V (da 3 0 J J aA J J LS Kl J J q35) J J J ?_;rintro _ _ ⟨A36,n36,c36,rfl,rfl⟩;refine tN 22 J V (bf J) J J J ?_;refine tN 23 J V (dN J qU) J J J ?_;refine lm 24 J V (ar (us:=[I A36 n36 c36]) (cs':=[I A36 n36 c36,.map (some M3)]) 5 J J J J Hy J J J) J J ?_;rintro _ _ rfl;refine wJ ?_;refine jb V ?_;refine Y ?_;refine gR (bG 3 J aA J LS) ?_;obtain ⟨q37,h⟩:=ay h;refine gE (dl J J q37.1 q37.2) ?_;refine Y ?_;obtain ⟨q38,h⟩:=ay h;refine gE (bE J J q38.1 q38.2) ?_;refine Y ?_;exact ⟨m23,_,_,Mw _,⟨((p26++([(⟨p24,x29.Key,x29.Attrs,x31.Len+1⟩:Mo)]:List Mo)).length:Int) - 1,p25+1,p26++([(⟨p24,x29.Key,x29.Attrs,x31.Len+1⟩:Mo)]:List Mo),CU p27 (⟨p24,x29.Key,x29.Attrs⟩:Mm) (p26.length:Int),A36,n36,c36,h,J,J⟩,sA,cS [2,3,4,5] 6⟩
  replace h:=ai g28 h;refine Y ?_;exact ⟨_,_,⟨p24,p26,p27,A26,n26,c26,h,J,J⟩,sA,cS [1,2,3] 4⟩
 rintro _ _ ⟨p20,p21,p22,A21,n21,c21,h,rfl,rfl⟩;refine Y ?_;obtain rfl:=ap h;exact cT J J J (cS [2,0,1] 3) ⟨_,_,_,_,J,J⟩
def iT (N:Nat)(a0:Mh)(a1:Int)(a2:Mn)(a3:Int):Option (Int×Int×Mh):=
 (eO N a0 a1 a2 a3).bind fun y5=>bif !decide (y5=0) then (some (0,y5,a0)) else ((ed N a0 a1 a2).bind fun y7=>bif y7.2.2 then (some (0,4,a0)) else ((eG N a0 a1).bind fun y9=>bif decide (1024≤y9) then (some (0,9,a0)) else ((gQ N a0 a1 ([(⟨0,a2,a3,0⟩:Mo)]:List Mo)).bind fun y12=>some (y12.1,y12.2.1,y12.2.2))))
set_option maxHeartbeats 4000000 in
theorem tG {N:Nat}{a0:Mh}{a1:Int}{a2:Mn}{a3:Int}{r:(Int×Int×Mh)}(h:iT N a0 a1 a2 a3=some r):Okc Tryz.prog 174 [pV B1 0,iV a1,(eZ a2),iV a3] ([aj B1 205 [I A2 n2 c2,.map (some M3)],cI A2 n2 c2 a0.shapes_,aJ aG cu M3 a0.next_]) (fun u post=> ∃A0 n0 c0 M1,u=.tuple #[iV r.1,iV r.2.1]∧post=[aj B1 205 [I A0 n0 c0,.map (some M1)],cI A0 n0 c0 r.2.2.shapes_,aJ aG cu M1 r.2.2.next_]):=by
 refine br Tryz.func174 J J ?_;simp only [aS];refine Y ?_;refine gD (aL J J) ?_;rintro _ _ ⟨B4,rfl,rfl⟩;refine Y ?_;refine az ?_;refine Y ?_;refine gR (ab (us:=bR a2) 0 J J bB J) ?_;refine Y ?_;obtain ⟨y5,hy5,h⟩:=aa h;refine gD (al (jW hy5) Bw J (hD (aB (i:=1) J) (hD (aq (i:=2) J) (hD (bc (i:=3) J) ac))) iS) ?_;rintro _ _ ⟨_,⟨rfl,rfl⟩,rfl⟩;refine Y ?_;refine au J (fun g6=> ?_) (fun g6=> ?_)
 ·replace h:=ah g6 h;refine Y ?_;obtain rfl:=ap h;exact cT J J J (cS [1,2,3] 4) ⟨_,_,_,_,J,J⟩
 replace h:=ai g6 h;refine Y ?_;refine az ?_;refine Y ?_;refine gR (ab (us:=bR a2) 0 J J bB J) ?_;obtain ⟨y7,hy7,h⟩:=aa h;refine gD (al (iq hy7) xH J (hD (aB (i:=1) J) (hD (aq (i:=2) J) (hD (bc (i:=3) J) ac))) gr) ?_;rintro _ _ ⟨_,⟨rfl,rfl⟩,rfl⟩;refine Y ?_;refine au J (fun g8=> ?_) (fun g8=> ?_)
 ·replace h:=ah g8 h;refine Y ?_;obtain rfl:=ap h;exact cT J J J (cS [1,2,3] 4) ⟨_,_,_,_,J,J⟩
 replace h:=ai g8 h;refine Y ?_;refine az ?_;refine Y ?_;obtain ⟨y9,hy9,h⟩:=aa h;refine gD (al (lA hy9) Bu J (hD (aB (i:=1) J) (hD (aq (i:=2) J) (hD (bc (i:=3) J) ac))) jX) ?_;rintro _ _ ⟨_,⟨rfl,rfl⟩,rfl⟩;refine Y ?_;refine au J (fun g10=> ?_) (fun g10=> ?_)
 ·replace h:=ah g10 h;refine Y ?_;obtain rfl:=ap h;exact cT J J J (cS [1,2,3] 4) ⟨_,_,_,_,J,J⟩
 replace h:=ai g10 h;refine Y ?_;refine gR (ab (us:=bR a2) 0 J J bB J) ?_;refine Y ?_;refine gE (bd J (CJ _ _ _ _)) ?_;refine gD (bP (R:=tp) (vss:=[[iV 0,iV a2.Kind,iV a2.N,.string a2.S,iV a3,iV 0]]) (xs:=[(⟨0,a2,a3,0⟩:Mo)]) J (ws _ _ _ _ _ _) J J (fun _ _ hr=> .cons J All2.nil)) ?_;rintro _ _ ⟨A11,n11,c11,rfl,rfl⟩;refine lN (dj 0 J) ?_;obtain ⟨y12,hy12,h⟩:=aa h;refine gD (aE (ly hy12) Bv J (aC [0] [2,3,4] [0,1] 5 J)) ?_;rintro _ _ ⟨_,⟨A13,n13,c13,M14,rfl,rfl⟩,rfl⟩;refine Y ?_;obtain rfl:=ap h;exact cT J J J (cS [0,1,2] 5) ⟨_,_,_,_,J,J⟩
def fT (N:Nat)(a0:Ml)(a1:Me)(a2:Mg):Option (Mg×Md):=
 bif decide (aM .i64 a1.Attrs 8=0) then (some (a1.Value,a0.w_)) else ((bif decide (a2.Kind=9) then ((cG N a0.w_ a2).bind fun y25=>some (decide (y25.Kind=5))) else (some false)).bind fun b24=>bif b24 then ((bH N a0.w_ a2 (⟨5,0,0,0,([a1.Get,a1.Set]:List Mg),[]⟩:Mb)).bind fun y29=>some (a2,y29)) else ((fk N a0.w_ (⟨5,0,0,0,([a1.Get,a1.Set]:List Mg),[]⟩:Mb)).bind fun y41=>some (y41.1,y41.2)))
set_option maxHeartbeats 4000000 in
theorem ke {N:Nat}{a0:Ml}{a1:Me}{a2:Mg}{r:(Mg×Md)}(h:fT N a0 a1 a2=some r):Okc Tryz.prog 175 [pV B1 0,(bA a1),(aZ a2)] ([bv A15 n15 c15 a0.w_.symbols_,cE A16 n16 c16 a0.w_.events_,bv A17 n17 c17 a0.w_.out_,aj B1 140 [iV a0.Cell.Kind,iV a0.Cell.Shape,iV a0.Cell.Flags,iV a0.Cell.Age,I A2 n2 c2,I A3 n3 c3,pV B4 0,iV a0.at_.Kind,iV a0.at_.N,.string a0.at_.S],ba A2 n2 c2 a0.Cell.Slots,ba A3 n3 c3 a0.Cell.More,aj B4 151 (Wk a0.w_ B5 B12 A15 n15 c15 A16 n16 c16 A17 n17 c17),aj B5 199 [I A6 n6 c6,I A7 n7 c7,I A8 n8 c8,I A9 n9 c9,pV B10 0],bx A6 n6 c6 a0.w_.heap_.m_.Young,bx A7 n7 c7 a0.w_.heap_.m_.Old,ba A8 n8 c8 a0.w_.heap_.roots_,ba A9 n9 c9 a0.w_.heap_.pending_,aj B10 247 [.map (some M11)],aJ cv cx M11 a0.w_.heap_.set_.at_,aj B12 205 [I A13 n13 c13,.map (some M14)],cI A13 n13 c13 a0.w_.shapes_.shapes_,aJ aG cu M14 a0.w_.shapes_.next_]) (fun u post=> ∃A500 n500 c500 A501 n501 c501 A502 n502 c502 A503 n503 c503 M504 A505 n505 c505 M506 A507 n507 c507 A508 n508 c508 A509 n509 c509,u=.agg #[iV r.1.Kind,iV r.1.N,.string r.1.S]∧post=[aj B4 151 (Wk r.2 B5 B12 A507 n507 c507 A508 n508 c508 A509 n509 c509),aj B5 199 [I A500 n500 c500,I A501 n501 c501,I A502 n502 c502,I A503 n503 c503,pV B10 0],bx A500 n500 c500 r.2.heap_.m_.Young,bx A501 n501 c501 r.2.heap_.m_.Old,ba A502 n502 c502 r.2.heap_.roots_,ba A503 n503 c503 r.2.heap_.pending_,aj B10 247 [.map (some M504)],aJ cv cx M504 r.2.heap_.set_.at_,aj B12 205 [I A505 n505 c505,.map (some M506)],cI A505 n505 c505 r.2.shapes_.shapes_,aJ aG cu M506 r.2.shapes_.next_,bv A507 n507 c507 r.2.symbols_,cE A508 n508 c508 r.2.events_,bv A509 n509 c509 r.2.out_,aj B1 140 [iV a0.Cell.Kind,iV a0.Cell.Shape,iV a0.Cell.Flags,iV a0.Cell.Age,I A2 n2 c2,I A3 n3 c3,pV B4 0,iV a0.at_.Kind,iV a0.at_.N,.string a0.at_.S],ba A2 n2 c2 a0.Cell.Slots,ba A3 n3 c3 a0.Cell.More]):=by
 refine br Tryz.func175 J J ?_;simp only [aS];refine Y ?_;refine gD (aL J J) ?_;rintro _ _ ⟨B18,rfl,rfl⟩;refine gD (aL J J) ?_;rintro _ _ ⟨B19,rfl,rfl⟩;refine gD (aH d9 J) ?_;rintro _ _ ⟨B20,rfl,rfl⟩;refine Y ?_;refine az ?_;refine Y ?_;refine gE (bD J J) ?_;refine Y ?_;refine au J (fun g21=> ?_) (fun g21=> ?_)
 ·replace h:=ah g21 h;refine Y ?_;refine gR (ab (us:=av a1.Value) 2 J J aD J) ?_;refine gO (ar (us:=av a1.Value) (cs':=av a1.Value) 0 J J J J bm J J J) ?_;rintro _ _ rfl;refine Y ?_;obtain rfl:=ap h;exact ca (rs:=[.cell 6 30]) (vs:=[(aZ a1.Value)]) J (.cons (bu 0 J J aD) .nil) J (cS [9,10,11,12,13,14,15,16,17,18,19,3,4,5,6,7,8] 20) ⟨_,_,_,_,_,_,_,_,_,_,_,_,_,_,_,_,_,_,_,_,_,_,_,_,_,_,J,J⟩
 replace h:=ai g21 h;refine Y ?_;refine gR (ab (us:=av a1.Get) 2 J J aD J) ?_;refine Y ?_;refine gR (ab (us:=av a1.Set) 2 J J aD J) ?_;refine gD (bP (R:=bS) (vss:=[(av a1.Get),(av a1.Set)]) (xs:=[a1.Get,a1.Set]) J (zj _ _ _ _ _ _) J J (fun _ _ hr=> .cons J (.cons J All2.nil))) ?_;rintro _ _ ⟨A22,n22,c22,rfl,rfl⟩;refine gE (bd J (CK _ _ _ _)) ?_;refine gD (aH eT J) ?_;rintro _ _ ⟨B23,rfl,rfl⟩;refine gO (ar (us:=[iV 5,iV 0,iV 0,iV 0,I A22 n22 c22,I none 0 0]) (cs':=[iV 5,iV 0,iV 0,iV 0,I A22 n22 c22,I none 0 0]) 0 J J J J cO J J J) ?_;rintro _ _ rfl;refine Y ?_;refine az ?_;refine az ?_;refine bF V _ (ae _) ?_;refine zE 0 J (dN J oQ) ?_;refine zR 1 J (aY 3 J J dv J) ?_;refine zE 2 J (wM J J) ?_;refine zE 3 J (aw J) ?_;obtain ⟨b24,hb24,h⟩:=aa h;refine iL (fun l=>(((((((((l.setIfInBounds 4 true).setIfInBounds 5 true).setIfInBounds 6 true).setIfInBounds 7 true).setIfInBounds 8 true).setIfInBounds 9 true).setIfInBounds 10 true).setIfInBounds 11 true).setIfInBounds 12 true)) 0 32 b24 (fun rest=> ?_) ?_
 ·clear h;refine jS 23 J (fun g24=> ?_) (fun g24=> ?_)
  ·have h:=ah g24 hb24;refine dZ 4 J V (aw J) (bq g24 J) J ?_;refine dZ 5 J V (bf J) (bq g24 J) J ?_;refine dZ 6 J V (cb J pE) (bq g24 J) J ?_;refine kK 7 J V (aY 8 J J wI J) (bq g24 J) J ?_;refine kK 8 J V (ab (us:=av a2) 3 J J aD J) (bq g24 J) J ?_;obtain ⟨y25,hy25,h⟩:=aa h;refine ot 9 J V (al (ir hy25) xJ J (hD (aB (i:=11) J) (hD (aB (i:=12) J) (hD (aq (i:=13) J) (hD (aq (i:=14) J) (hD (aq (i:=15) J) (hD (aq (i:=16) J) (hD (aB (i:=17) J) (hD (bc (i:=18) J) (hD (aB (i:=19) J) (hD (aq (i:=20) J) (hD (bc (i:=21) J) (hD (ao (i:=5) J J) (hD (ao (i:=6) J J) (hD (ao (i:=7) J J) ac)))))))))))))) gt) J (bq g24 J) J ?_;rintro _ _ ⟨_,⟨A26,n26,c26,A27,n27,c27,rfl,rfl⟩,rfl⟩;refine dB (cS [2,3,4,5,6,7,8,9,10,11,12,13,14,15,16,17,18,19,20,21,22,23] 24) ?_;refine dZ 10 J V (yR J (Fo _ _ _ _ _ _ _ _ _ _)) (bq g24 J) J ?_;refine dZ 11 J V (wM J J) (bq g24 J) J ?_;refine zE 12 J (eh g24 J J) ?_;obtain rfl:=ap h;exact ft rest (cY J (aF (aF (aF (aF (aF (aF (aF (aF (aF bX J) J) J) J) J) J) J) J) J)) (cS [2,3,4,5,6,7,8,9,10,11,12,13,14,15,16,17,18,19,20,21,22,23] 24) (ae _)
  have h:=ai g24 hb24;refine cC 4 J V (fq g24 J) J ?_;refine cC 5 J V (fq g24 J) J ?_;refine cC 6 J V (fq g24 J) J ?_;refine cC 7 J V (fq g24 J) J ?_;refine cC 8 J V (fq g24 J) J ?_;refine cC 9 J V (fq g24 J) J ?_;refine cC 10 J V (fq g24 J) J ?_;refine cC 11 J V (fq g24 J) J ?_;refine zE 12 J (ei g24 J J) ?_;obtain rfl:=ap h;exact ft rest (cY J (aF (aF (aF (aF (aF (aF (aF (aF (aF bX J) J) J) J) J) J) J) J) J)) (ae _) (ae _)
 refine bz V ?_;refine eg ?_;refine au J (fun g28=> ?_) (fun g28=> ?_)
 ·replace h:=ah g28 h;refine az ?_;refine bF V ([aj B23 138 [iV 5,iV 0,iV 0,iV 0,I A22 n22 c22,I none 0 0],aj B20 30 [iV 0,iV 0,.string (⟨#[]⟩)],aj B19 30 (av a2),aj B18 42 (aP a1),bv A15 n15 c15 a0.w_.symbols_,cE A16 n16 c16 a0.w_.events_,bv A17 n17 c17 a0.w_.out_,aj B1 140 [iV a0.Cell.Kind,iV a0.Cell.Shape,iV a0.Cell.Flags,iV a0.Cell.Age,I A2 n2 c2,I A3 n3 c3,pV B4 0,iV a0.at_.Kind,iV a0.at_.N,.string a0.at_.S],ba A2 n2 c2 a0.Cell.Slots,ba A3 n3 c3 a0.Cell.More]) (cS [0,2,3,4,5,6,7,8,9,10] 22) ?_;refine zE 0 J (aw J) ?_;refine zE 1 J (bf J) ?_;refine zE 2 J (cb J pE) ?_;refine zR 3 J (aY 7 J J wI J) ?_;refine zR 4 J (ab (us:=av a2) 2 J J aD J) ?_;refine zR 5 J (ab (us:=[iV 5,iV 0,iV 0,iV 0,I A22 n22 c22,I none 0 0]) 0 J J ce J) ?_;refine rR (dj 1 J) (cS [0,2,3,4,5,6,7,8,9,10] 22) ?_;refine cX ?_;obtain ⟨y29,hy29,h⟩:=aa h;refine rR (jO bS _) (cS [1,3,4,5,6,7,8,9,10,11] 23) ?_;refine zD 6 J (aE (ee hy29) oT J (aC [6,7,8,2,0] [12,13,14,15,16,17,18,19,20,21,22] [0,1,2,3,4,5,6,7,8,9,10,11] 23 J)) ?_;rintro _ _ ⟨_,⟨A30,n30,c30,A31,n31,c31,A32,n32,c32,A33,n33,c33,M34,A35,n35,c35,M36,A37,n37,c37,A38,n38,c38,A39,n39,c39,rfl,rfl⟩,rfl⟩;refine ⟨_,cS [11,12,13,15,17,18,19,20,21,22,23,24,25] 26,(cv_tl).trans ((cv_tl).trans (cv_tl)),?_⟩;refine cX ?_;refine bz V ?_;refine Y ?_;refine gR (ab (us:=av a2) 18 J J aD J) ?_
  refine gO (ar (us:=av a2) (cs':=av a2) 17 J J J J bm J J J) ?_;rintro _ _ rfl;refine bL ?_;refine Y ?_;obtain rfl:=ap h;exact ca (rs:=[.cell 6 30]) (vs:=[(aZ a2)]) J (.cons (bu 17 J J aD) .nil) J (cS [0,1,2,3,4,5,6,7,8,9,10,11,12,13,23,24,25] 26) ⟨_,_,_,_,_,_,_,_,_,_,_,_,_,_,_,_,_,_,_,_,_,_,_,_,_,_,J,J⟩
 replace h:=ai g28 h;refine Y ?_;refine az ?_;refine bF V ([aj B23 138 [iV 5,iV 0,iV 0,iV 0,I A22 n22 c22,I none 0 0],aj B20 30 [iV 0,iV 0,.string (⟨#[]⟩)],aj B19 30 (av a2),aj B18 42 (aP a1),bv A15 n15 c15 a0.w_.symbols_,cE A16 n16 c16 a0.w_.events_,bv A17 n17 c17 a0.w_.out_,aj B1 140 [iV a0.Cell.Kind,iV a0.Cell.Shape,iV a0.Cell.Flags,iV a0.Cell.Age,I A2 n2 c2,I A3 n3 c3,pV B4 0,iV a0.at_.Kind,iV a0.at_.N,.string a0.at_.S],ba A2 n2 c2 a0.Cell.Slots,ba A3 n3 c3 a0.Cell.More]) (cS [0,2,3,4,5,6,7,8,9,10] 22) ?_;refine zE 0 J (aw J) ?_;refine zE 1 J (bf J) ?_;refine zE 2 J (cb J pE) ?_;refine zR 3 J (aY 7 J J wI J) ?_;refine zR 4 J (ab (us:=[iV 5,iV 0,iV 0,iV 0,I A22 n22 c22,I none 0 0]) 0 J J ce J) ?_;refine rR (dj 1 J) (cS [0,2,3,4,5,6,7,8,9,10] 22) ?_;refine cX ?_;obtain ⟨y41,hy41,h⟩:=aa h;refine rR (jO bS _) (cS [1,3,4,5,6,7,8,9,10,11] 23) ?_;refine zD 5 J (aE (fS hy41) zh J (aC [6,7,8,2,0] [12,13,14,15,16,17,18,19,20,21,22] [0,1,2,3,4,5,6,7,8,9,10,11] 23 J)) ?_;rintro _ _ ⟨_,⟨A42,n42,c42,A43,n43,c43,A44,n44,c44,A45,n45,c45,M46,A47,n47,c47,M48,A49,n49,c49,A50,n50,c50,A51,n51,c51,rfl,rfl⟩,rfl⟩;refine ⟨_,cS [11,12,13,15,17,18,19,20,21,22,23,24,25] 26,(cv_tl).trans ((cv_tl).trans (cv_tl)),?_⟩;refine cX ?_;refine ns 6 J V V (ar (us:=[iV y41.1.Kind,iV y41.1.N,.string y41.1.S]) (cs':=[iV y41.1.Kind,iV y41.1.N,.string y41.1.S]) 17 J J J J bm J J J) ?_
 rintro _ _ rfl;refine cX ?_;refine bz V ?_;refine Y ?_;obtain rfl:=ap h;exact ca (rs:=[.cell 6 30]) (vs:=[.agg #[iV y41.1.Kind,iV y41.1.N,.string y41.1.S]]) J (.cons (bu 17 J J aD) .nil) J (cS [0,1,2,3,4,5,6,7,8,9,10,11,12,13,23,24,25] 26) ⟨_,_,_,_,_,_,_,_,_,_,_,_,_,_,_,_,_,_,_,_,_,_,_,_,_,_,J,J⟩
def mF (N:Nat)(p5:Int):Option Int:=
 some p5
def gq (N:Nat)(a2:Int)(a0:Mh):Nat→Int→Option Int
 |0,_=>none
 |m6+1,p7=>(bU a0.shapes_ p7).bind fun x8=>bif decide (a2<x8.Len) then ((bU a0.shapes_ p7).bind fun x10=>(gq N a2 a0 m6) x10.Up) else (mF N p7)
def fC (N:Nat)(a0:Mh)(a1:Int)(a2:Int):Option Int:=
 gq N a2 a0 N a1
theorem mE {N:Nat}{a0:Mh}{a1:Int}{a2:Int}{r:Int}(h:fC N a0 a1 a2=some r):Okc Tryz.prog 167 [pV B1 0,iV a1,iV a2] ([aR B1 205 [I A2 n2 c2,.map (some M3)],vL A2 n2 c2 a0.shapes_,iM aG cu M3 a0.next_]) (fun u post=>u=iV r∧post=[]):=by
 refine br Tryz.func167 J J ?_;simp only [aS];refine Y ?_;refine aW (fun s L=> ∃p5,mF N p5=some r∧s=[(1,iV p5),(6,iV 0)]∧L=[]) ?_ ?_
 ·refine dV ?_;refine bN (fun m s L=> ∃p7,gq N a2 a0 m p7=some r∧s=[(0,pV B1 0),(1,iV p7),(2,iV a2),(6,iV 0)]∧L=[vL A2 n2 c2 a0.shapes_,iM aG cu M3 a0.next_,aR B1 205 [I A2 n2 c2,.map (some M3)]]) N _ _ ⟨a1,h,J,J⟩ sA (cS [1,2,0] 3) ?_;rintro (_|m6) _ _ ⟨p7,h,rfl,rfl⟩
  ·exact bg h
  rw [gq.eq_2] at h;refine az ?_;refine Y ?_;refine gR (cJ 2 J J pq J) ?_;refine Y ?_;obtain ⟨x8,hx8,h⟩:=aa h;obtain ⟨lx8,ux8,hx8⟩:=aI hx8;refine gR (bp 0 J aU J J LS dD lx8 ux8) ?_;refine gR (qG 0 J aU J (toNat_lt lx8 ux8) vb) ?_;refine gR (eX (u:=iV x8.Len) 0 J aU J hx8 dv (fun _ _ _ h=>by rw [show _=_ from h];rfl)) ?_;refine Y ?_;refine au J (fun g9=> ?_) (fun g9=> ?_)
  ·replace h:=ah g9 h;refine Y ?_;refine gR (cJ 2 J J pq J) ?_;refine Y ?_;obtain ⟨x10,hx10,h⟩:=aa h;obtain ⟨lx10,ux10,hx10⟩:=aI hx10;refine gR (bp 0 J aU J J LS dD lx10 ux10) ?_;refine gR (pj 0 J aU J (toNat_lt lx10 ux10) vd) ?_;refine gR (eX (u:=iV x10.Up) 0 J aU J hx10 dv (fun _ _ _ h=>by rw [show _=_ from h];rfl)) ?_;refine Y ?_;exact ⟨m6,_,_,Mw _,⟨x10.Up,h,J,J⟩,sA,cS [0,1,2] 3⟩
  replace h:=ai g9 h;refine Y ?_;exact ⟨_,_,⟨p7,h,J,J⟩,sA,cS [] 3⟩
 rintro _ _ ⟨p5,h,rfl,rfl⟩;refine Y ?_;obtain rfl:=ap h;exact aO J J (cS [] 0) ⟨J,J⟩
theorem lI {r:Int}: ∀v post,((fun (u:Value) (post:List Chunk)=>u=iV r∧post=[])) v post→ ∀c∈post,bV c:=by
 rintro _ _ ⟨rfl,rfl⟩;exact ac
def gT (N:Nat)(a0:Mh)(a1:Int)(a2:Mn)(a3:Int):Option (Int×Int×Mh):=
 (eO N a0 a1 a2 a3).bind fun y5=>bif !decide (y5=0) then (some (0,y5,a0)) else ((ed N a0 a1 a2).bind fun y7=>bif !y7.2.2 then (some (0,3,a0)) else ((eE N a0 a1).bind fun y9=>cR ((0:Int)≤y7.1∧y7.1.toNat<y9.length) ((bU (List.drop y7.1.toNat y9) 0).bind fun x13=>(fC N a0 a1 y7.1).bind fun y14=>(gQ N a0 y14 (List.set (List.drop y7.1.toNat y9) ((0:Int).toNat) (⟨x13.Up,(⟨x13.Key.Kind,x13.Key.N,x13.Key.S⟩:Mn),a3,x13.Len⟩:Mo))).bind fun y15=>some (y15.1,y15.2.1,y15.2.2))))
set_option maxHeartbeats 4000000 in
theorem rV {N:Nat}{a0:Mh}{a1:Int}{a2:Mn}{a3:Int}{r:(Int×Int×Mh)}(h:gT N a0 a1 a2 a3=some r):Okc Tryz.prog 176 [pV B1 0,iV a1,(eZ a2),iV a3] ([aj B1 205 [I A2 n2 c2,.map (some M3)],cI A2 n2 c2 a0.shapes_,aJ aG cu M3 a0.next_]) (fun u post=> ∃A0 n0 c0 M1,u=.tuple #[iV r.1,iV r.2.1]∧post=[aj B1 205 [I A0 n0 c0,.map (some M1)],cI A0 n0 c0 r.2.2.shapes_,aJ aG cu M1 r.2.2.next_]):=by
 refine br Tryz.func176 J J ?_;simp only [aS];refine Y ?_;refine gD (aL J J) ?_;rintro _ _ ⟨B4,rfl,rfl⟩;refine Y ?_;refine az ?_;refine Y ?_;refine gR (ab (us:=bR a2) 0 J J bB J) ?_;refine Y ?_;obtain ⟨y5,hy5,h⟩:=aa h;refine gD (al (jW hy5) Bw J (hD (aB (i:=1) J) (hD (aq (i:=2) J) (hD (bc (i:=3) J) ac))) iS) ?_;rintro _ _ ⟨_,⟨rfl,rfl⟩,rfl⟩;refine Y ?_;refine au J (fun g6=> ?_) (fun g6=> ?_)
 ·replace h:=ah g6 h;refine Y ?_;obtain rfl:=ap h;exact cT J J J (cS [1,2,3] 4) ⟨_,_,_,_,J,J⟩
 replace h:=ai g6 h;refine Y ?_;refine gR (ab (us:=bR a2) 0 J J bB J) ?_;obtain ⟨y7,hy7,h⟩:=aa h;refine gD (al (iq hy7) xH J (hD (aB (i:=1) J) (hD (aq (i:=2) J) (hD (bc (i:=3) J) ac))) gr) ?_;rintro _ _ ⟨_,⟨rfl,rfl⟩,rfl⟩;refine Y ?_;refine az ?_;refine Y ?_;refine au J (fun g8=> ?_) (fun g8=> ?_)
 ·replace h:=ah g8 h;refine Y ?_;obtain rfl:=ap h;exact cT J J J (cS [1,2,3] 4) ⟨_,_,_,_,J,J⟩
 replace h:=ai g8 h;refine Y ?_;obtain ⟨y9,hy9,h⟩:=aa h;refine gD (al (iQ hy9) xG J (hD (aB (i:=1) J) (hD (aq (i:=2) J) (hD (bc (i:=3) J) ac))) gP) ?_;rintro _ _ ⟨_,⟨A10,n10,c10,rfl,rfl⟩,rfl⟩;refine Y ?_;obtain ⟨q11,h⟩:=ay h;refine gD (Jy (l:=y7.1.toNat) 0 J J LS dD J (by rw [Int.toNat_of_nonneg q11.1];rfl) q11.2) ?_;rintro _ _ ⟨A12,n12,c12,rfl,rfl⟩;refine Y ?_;obtain ⟨x13,hx13,h⟩:=aa h;obtain ⟨lx13,ux13,hx13⟩:=aI hx13;refine gR (bp 0 J D9 J J LS dD lx13 ux13) ?_;refine gR (qG 0 J D9 J (toNat_lt lx13 ux13) qV) ?_;refine gO (E9 (us:=[iV a3]) (z:=(⟨x13.Up,(⟨x13.Key.Kind,x13.Key.N,x13.Key.S⟩:Mn),a3,x13.Len⟩:Mo)) 0 J J J J gz J (toNat_lt lx13 ux13) J (fun S w vs xk hk hr=>by obtain rfl:=Option.some.inj (hk.symm.trans hx13);rw [show _=_ from hr];rfl)) ?_;rintro _ _ rfl;refine Y ?_;obtain ⟨y14,hy14,h⟩:=aa h;refine gD (al (mE hy14) Ep J (hD (aB (i:=2) J) (hD (aq (i:=3) J) (hD (bc (i:=4) J) ac))) lI) ?_;rintro _ _ ⟨_,⟨rfl,rfl⟩,rfl⟩;refine Ks ?_;refine lN (Ig 0 J) ?_;refine bL ?_;obtain ⟨y15,hy15,h⟩:=aa h;refine gD (aE (ly hy15) Bv J (aC [0] [2,3,4] [0,1] 5 J)) ?_;rintro _ _ ⟨_,⟨A16,n16,c16,M17,rfl,rfl⟩,rfl⟩;refine Y ?_;obtain rfl:=ap h;exact cT J J J (cS [0,1,2] 5) ⟨_,_,_,_,J,J⟩
end Go.Proofs.YtanojiedimeegaaGreatDoor
namespace Go.Proofs.YtanojiedimeegaaGreatDoor
variable {A10 A12 A13 A14 A15 A16 A17 A2 A3 A4 A5 A6 A7 A8 A9:Option Addr} {B1 B10 B12 B2 B4 B5 B7 B9 M11 M14 M3 M8 c10 c12 c13 c14 c15 c16 c17 c2 c3 c4 c5 c6 c7 c8 c9 n10 n12 n13 n14 n15 n16 n17 n2 n3 n4 n5 n6 n7 n8 n9:Nat}
open Go.RowKit Asn
set_option maxRecDepth 20000
def kf (N:Nat)(y20:(Me×Int×Bool))(a0:Ml)(y25:(Int×Int×Mh))(a1:Me)(p30:(List Mg))(p31:(List Mo))(p32:(List (Mm×Int)))(p33:Int)(p34:Int)(p35:Int)(p36:Int)(p37:Int)(p38:Int)(p39:Int)(p40:Int)(p41:Int)(p42:Int)(p43:(List ByteArray))(p44:Int)(p45:Int)(p46:Int)(p47:(List Mk))(p48:(List ByteArray))(p49:(List Mb))(p50:(List Mb))(p51:(List Mg))(p52:(List Mg))(p53:(List (Int×Bool))):Option (Bool×Ml):=
 (dh N (⟨(⟨a0.Cell.Kind,y25.1,a0.Cell.Flags,a0.Cell.Age,p30,a0.Cell.More⟩:Mb),(⟨(⟨p33,p34,p35⟩:Mj),(⟨p36,p37,p38,p39,p40,p41,p42⟩:Mf),(),(⟨(⟨p49,p50⟩:Mq),p51,p52,(⟨p53⟩:Mc)⟩:Ma),(⟨p31,p32⟩:Mh),p43,p44,p45,p46,p47,p48⟩:Md),a0.at_⟩:Ml) true).bind fun y68=>some (true,y68)
def fD (N:Nat)(y20:(Me×Int×Bool))(a1:Me)(a0:Ml)(p82:Int)(p83:(List Mo))(p84:(List (Mm×Int))):Option (Bool×Ml):=
 cR (bK (y20.2.1+1)) (cR (bK (y20.2.1+1)) ((bU a0.Cell.Slots (y20.2.1+1)).bind fun x92=>(fT N (⟨(⟨a0.Cell.Kind,p82,a0.Cell.Flags,a0.Cell.Age,a0.Cell.Slots,a0.Cell.More⟩:Mb),(⟨a0.w_.spent_,a0.w_.config_,(),a0.w_.heap_,(⟨p83,p84⟩:Mh),a0.w_.symbols_,a0.w_.epoch_,a0.w_.serial_,a0.w_.sleepers_,a0.w_.events_,a0.w_.out_⟩:Md),a0.at_⟩:Ml) a1 x92).bind fun y93=>(bU a0.Cell.Slots (y20.2.1+1)).bind fun x104=>(dh N (⟨(⟨a0.Cell.Kind,p82,a0.Cell.Flags,a0.Cell.Age,List.set a0.Cell.Slots ((y20.2.1+1).toNat) (⟨y93.1.Kind,y93.1.N,y93.1.S⟩:Mg),a0.Cell.More⟩:Mb),y93.2,a0.at_⟩:Ml) (!decide (y20.1.Attrs=a1.Attrs))).bind fun y105=>some (true,y105)))
def gb (N:Nat)(a0:Ml)(a1:Me):Option (Bool×Ml):=
 (dg N a0.w_).bind fun y19=>(cH N a0 a1.Key).bind fun y20=>bif !y20.2.2 then ((eG N a0.w_.shapes_ a0.Cell.Shape).bind fun y23=>bif decide (1024≤y23) then (some (false,a0)) else ((iT N a0.w_.shapes_ a0.Cell.Shape a1.Key a1.Attrs).bind fun y25=>bif !decide (y25.2.1=0) then (some (false,(⟨a0.Cell,(⟨a0.w_.spent_,a0.w_.config_,(),a0.w_.heap_,y25.2.2,a0.w_.symbols_,a0.w_.epoch_,a0.w_.serial_,a0.w_.sleepers_,a0.w_.events_,a0.w_.out_⟩:Md),a0.at_⟩:Ml))) else ((fT N (⟨(⟨a0.Cell.Kind,y25.1,a0.Cell.Flags,a0.Cell.Age,a0.Cell.Slots,a0.Cell.More⟩:Mb),(⟨a0.w_.spent_,a0.w_.config_,(),a0.w_.heap_,y25.2.2,a0.w_.symbols_,a0.w_.epoch_,a0.w_.serial_,a0.w_.sleepers_,a0.w_.events_,a0.w_.out_⟩:Md),a0.at_⟩:Ml) a1 (⟨0,0,⟨#[]⟩⟩:Mg)).bind fun y54=>cR (fu (a0.Cell.Slots.length+([y54.1]:List Mg).length)) (kf N y20 a0 y25 a1 (a0.Cell.Slots++([y54.1]:List Mg)) y54.2.shapes_.shapes_ y54.2.shapes_.next_ y54.2.spent_.steps_ y54.2.spent_.made_ y54.2.spent_.calls_ y54.2.config_.Way y54.2.config_.Steps y54.2.config_.Calls y54.2.config_.Made y54.2.config_.Young y54.2.config_.Full y54.2.config_.Sites y54.2.symbols_ y54.2.epoch_ y54.2.serial_ y54.2.sleepers_ y54.2.events_ y54.2.out_ y54.2.heap_.m_.Young y54.2.heap_.m_.Old y54.2.heap_.roots_ y54.2.heap_.pending_ y54.2.heap_.set_.at_)))) else (bif !decide (y20.1.Attrs=a1.Attrs) then ((gT N a0.w_.shapes_ a0.Cell.Shape a1.Key a1.Attrs).bind fun y86=>bif !decide (y86.2.1=0) then (some (false,(⟨a0.Cell,(⟨a0.w_.spent_,a0.w_.config_,(),a0.w_.heap_,y86.2.2,a0.w_.symbols_,a0.w_.epoch_,a0.w_.serial_,a0.w_.sleepers_,a0.w_.events_,a0.w_.out_⟩:Md),a0.at_⟩:Ml))) else (fD N y20 a1 a0 y86.1 y86.2.2.shapes_ y86.2.2.next_)) else (fD N y20 a1 a0 a0.Cell.Shape a0.w_.shapes_.shapes_ a0.w_.shapes_.next_))
set_option maxHeartbeats 4000000 in
theorem oD {N:Nat}{a0:Ml}{a1:Me}{r:(Bool×Ml)}(h:gb N a0 a1=some r):Okc Tryz.prog 123 [pV B1 0,(bA a1)] ([bv A15 n15 c15 a0.w_.symbols_,cE A16 n16 c16 a0.w_.events_,bv A17 n17 c17 a0.w_.out_,aj B1 140 [iV a0.Cell.Kind,iV a0.Cell.Shape,iV a0.Cell.Flags,iV a0.Cell.Age,I A2 n2 c2,I A3 n3 c3,pV B4 0,iV a0.at_.Kind,iV a0.at_.N,.string a0.at_.S],ba A2 n2 c2 a0.Cell.Slots,ba A3 n3 c3 a0.Cell.More,aj B4 151 (Wk a0.w_ B5 B12 A15 n15 c15 A16 n16 c16 A17 n17 c17),aj B5 199 [I A6 n6 c6,I A7 n7 c7,I A8 n8 c8,I A9 n9 c9,pV B10 0],bx A6 n6 c6 a0.w_.heap_.m_.Young,bx A7 n7 c7 a0.w_.heap_.m_.Old,ba A8 n8 c8 a0.w_.heap_.roots_,ba A9 n9 c9 a0.w_.heap_.pending_,aj B10 247 [.map (some M11)],aJ cv cx M11 a0.w_.heap_.set_.at_,aj B12 205 [I A13 n13 c13,.map (some M14)],cI A13 n13 c13 a0.w_.shapes_.shapes_,aJ aG cu M14 a0.w_.shapes_.next_]) (fun u post=> ∃A0 n0 c0 A1 n1 c1 A2 n2 c2 A3 n3 c3 A4 n4 c4 A5 n5 c5 M6 A7 n7 c7 M8 A9 n9 c9 A10 n10 c10 A11 n11 c11,u=.bool r.1∧post=[aj B1 140 [iV r.2.Cell.Kind,iV r.2.Cell.Shape,iV r.2.Cell.Flags,iV r.2.Cell.Age,I A0 n0 c0,I A1 n1 c1,pV B4 0,iV r.2.at_.Kind,iV r.2.at_.N,.string r.2.at_.S],ba A0 n0 c0 r.2.Cell.Slots,ba A1 n1 c1 r.2.Cell.More,aj B4 151 (Wk r.2.w_ B5 B12 A9 n9 c9 A10 n10 c10 A11 n11 c11),aj B5 199 [I A2 n2 c2,I A3 n3 c3,I A4 n4 c4,I A5 n5 c5,pV B10 0],bx A2 n2 c2 r.2.w_.heap_.m_.Young,bx A3 n3 c3 r.2.w_.heap_.m_.Old,ba A4 n4 c4 r.2.w_.heap_.roots_,ba A5 n5 c5 r.2.w_.heap_.pending_,aj B10 247 [.map (some M6)],aJ cv cx M6 r.2.w_.heap_.set_.at_,aj B12 205 [I A7 n7 c7,.map (some M8)],cI A7 n7 c7 r.2.w_.shapes_.shapes_,aJ aG cu M8 r.2.w_.shapes_.next_,bv A9 n9 c9 r.2.w_.symbols_,cE A10 n10 c10 r.2.w_.events_,bv A11 n11 c11 r.2.w_.out_]):=by
 refine br Tryz.func123 J J ?_;simp only [aS];refine Y ?_;refine gD (aL J J) ?_;rintro _ _ ⟨B18,rfl,rfl⟩;refine Y ?_;obtain ⟨y19,hy19,h⟩:=aa h;refine gD (al (dW hy19) tz J (hD (aB (i:=7) J) (hD (aB (i:=8) J) (hD (aq (i:=9) J) (hD (aq (i:=10) J) (hD (aq (i:=11) J) (hD (aq (i:=12) J) (hD (aB (i:=13) J) (hD (bc (i:=14) J) (hD (aB (i:=15) J) (hD (aq (i:=16) J) (hD (bc (i:=17) J) (hD (ao (i:=1) J J) (hD (ao (i:=2) J J) (hD (ao (i:=3) J J) ac)))))))))))))) dA) ?_;rintro _ _ ⟨_,⟨rfl,rfl⟩,rfl⟩;refine Y ?_;refine gR (ab (us:=bR a1.Key) 0 J J bB J) ?_;obtain ⟨y20,hy20,h⟩:=aa h;refine gD (al (iu hy20) xO J (hD (aB (i:=4) J) (hD (aq (i:=5) J) (hD (aq (i:=6) J) (hD (aB (i:=7) J) (hD (aB (i:=8) J) (hD (aq (i:=9) J) (hD (aq (i:=10) J) (hD (aq (i:=11) J) (hD (aq (i:=12) J) (hD (aB (i:=13) J) (hD (bc (i:=14) J) (hD (aB (i:=15) J) (hD (aq (i:=16) J) (hD (bc (i:=17) J) (hD (ao (i:=1) J J) (hD (ao (i:=2) J J) (hD (ao (i:=3) J J) ac))))))))))))))))) gu) ?_;rintro _ _ ⟨_,⟨rfl,rfl⟩,rfl⟩;refine Y ?_;refine gD (aH cF J) ?_;rintro _ _ ⟨B21,rfl,rfl⟩;refine gO (ar (us:=aP y20.1) (cs':=aP y20.1) 0 J J J J bJ J J J) ?_;rintro _ _ rfl;refine bL ?_;refine Y ?_;refine az ?_;refine Y ?_
 refine au J (fun g22=> ?_) (fun g22=> ?_)
 ·replace h:=ah g22 h;refine az ?_;refine Y ?_;obtain ⟨y23,hy23,h⟩:=aa h;refine gD (al (lA hy23) Bu J (hD (aB (i:=16) J) (hD (aq (i:=17) J) (hD (bc (i:=18) J) ac))) jX) ?_;rintro _ _ ⟨_,⟨rfl,rfl⟩,rfl⟩;refine Y ?_;refine au J (fun g24=> ?_) (fun g24=> ?_)
  ·replace h:=ah g24 h;refine Y ?_;obtain rfl:=ap h;exact aO J J (cS [5,6,7,8,9,10,11,12,13,14,15,16,17,18,2,3,4] 19) ⟨_,_,_,_,_,_,_,_,_,_,_,_,_,_,_,_,_,_,_,_,_,_,_,_,_,_,_,_,_,_,_,_,J,J⟩
  replace h:=ai g24 h;refine Y ?_;refine az ?_;refine bF V ([aj B21 42 (aP y20.1),aj B18 42 (aP a1),bv A15 n15 c15 a0.w_.symbols_,cE A16 n16 c16 a0.w_.events_,bv A17 n17 c17 a0.w_.out_,aj B1 140 [iV a0.Cell.Kind,iV a0.Cell.Shape,iV a0.Cell.Flags,iV a0.Cell.Age,I A2 n2 c2,I A3 n3 c3,pV B4 0,iV a0.at_.Kind,iV a0.at_.N,.string a0.at_.S],ba A2 n2 c2 a0.Cell.Slots,ba A3 n3 c3 a0.Cell.More,aj B4 151 (Wk a0.w_ B5 B12 A15 n15 c15 A16 n16 c16 A17 n17 c17),aj B5 199 [I A6 n6 c6,I A7 n7 c7,I A8 n8 c8,I A9 n9 c9,pV B10 0],bx A6 n6 c6 a0.w_.heap_.m_.Young,bx A7 n7 c7 a0.w_.heap_.m_.Old,ba A8 n8 c8 a0.w_.heap_.roots_,ba A9 n9 c9 a0.w_.heap_.pending_,aj B10 247 [.map (some M11)],aJ cv cx M11 a0.w_.heap_.set_.at_]) (cS [0,1,2,3,4,5,6,7,8,9,10,11,12,13,14,15] 19) ?_;refine zE 0 J (aw J) ?_;refine zE 1 J (aw J) ?_;refine zE 2 J (bf J) ?_;refine zE 3 J (dN J fF) ?_;refine zE 4 J (cb J nO) ?_;refine zR 5 J (aY 5 J J dv J) ?_;refine zE 6 J (dN J va) ?_;refine zR 7 J (ab (us:=bR a1.Key) 1 J J bB J) ?_;refine zE 8 J (cb J uZ) ?_;refine zR 9 J (aY 1 J J dv J) ?_;obtain ⟨y25,hy25,h⟩:=aa h
  refine zD 10 J (aE (tG hy25) IF J (aC [] [16,17,18] [0,1,2,3,4,5,6,7,8,9,10,11,12,13,14,15] 19 J)) ?_;rintro _ _ ⟨_,⟨A26,n26,c26,M27,rfl,rfl⟩,rfl⟩;refine dB (cS [3,4,5,6,7,8,9,10,11,12,13,14,15,16,17,18] 19) ?_;refine cX ?_;refine zE 11 J (aw J) ?_;refine zE 12 J (bi J J) ?_;refine zE 13 J (bi J J) ?_;refine zE 14 J (be J) ?_;refine zE 15 J (be J) ?_;refine bz V ?_;refine eg ?_;refine az ?_;refine Y ?_;refine au J (fun g28=> ?_) (fun g28=> ?_)
  ·replace h:=ah g28 h;refine Y ?_;obtain rfl:=ap h;exact aO J J (cS [8,9,10,11,12,13,14,15,16,17,18,0,1,2,5,6,7] 19) ⟨_,_,_,_,_,_,_,_,_,_,_,_,_,_,_,_,_,_,_,_,_,_,_,_,_,_,_,_,_,_,_,_,J,J⟩
  replace h:=ai g28 h;refine Y ?_;refine gO (ar (us:=[iV y25.1]) (cs':=[iV a0.Cell.Kind,iV y25.1,iV a0.Cell.Flags,iV a0.Cell.Age,I A2 n2 c2,I A3 n3 c3,pV B4 0,iV a0.at_.Kind,iV a0.at_.N,.string a0.at_.S]) 8 J J J J gz J J J) ?_;rintro _ _ rfl;refine bL ?_;refine Y ?_
  refine aW (fun s L=> ∃p30 p31 p32 p33 p34 p35 p36 p37 p38 p39 p40 p41 p42 p43 p44 p45 p46 p47 p48 p49 p50 p51 p52 p53 A30 n30 c30 A31 n31 c31 M32 A43 n43 c43 A47 n47 c47 A48 n48 c48 A49 n49 c49 A50 n50 c50 A51 n51 c51 A52 n52 c52 M53,kf N y20 a0 y25 a1 p30 p31 p32 p33 p34 p35 p36 p37 p38 p39 p40 p41 p42 p43 p44 p45 p46 p47 p48 p49 p50 p51 p52 p53=some r∧s=[(0,pV B1 0),(3,pV B18 0),(4,.bool false),(5,pV B12 0),(6,pV B21 0),(7,iV y20.2.1)]∧L=[ba A30 n30 c30 p30,ba A3 n3 c3 a0.Cell.More,aj B1 140 [iV a0.Cell.Kind,iV y25.1,iV a0.Cell.Flags,iV a0.Cell.Age,I A30 n30 c30,I A3 n3 c3,pV B4 0,iV a0.at_.Kind,iV a0.at_.N,.string a0.at_.S],aj B18 42 (aP a1),cI A31 n31 c31 p31,aJ aG cu M32 p32,aj B12 205 [I A31 n31 c31,.map (some M32)],aj B21 42 (aP y20.1),bv A43 n43 c43 p43,cE A47 n47 c47 p47,bv A48 n48 c48 p48,aj B4 151 [iV p33,iV p34,iV p35,iV p36,iV p37,iV p38,iV p39,iV p40,iV p41,iV p42,.nilIface,pV B5 0,pV B12 0,I A43 n43 c43,iV p44,iV p45,iV p46,I A47 n47 c47,I A48 n48 c48],bx A49 n49 c49 p49,bx A50 n50 c50 p50,ba A51 n51 c51 p51,ba A52 n52 c52 p52,aj B5 199 [I A49 n49 c49,I A50 n50 c50,I A51 n51 c51,I A52 n52 c52,pV B10 0],aJ cv cx M53 p53,aj B10 247 [.map (some M53)]]) ?_ ?_
  ·refine bF V ([aj B21 42 (aP y20.1),aj B18 42 (aP a1),bv A15 n15 c15 a0.w_.symbols_,cE A16 n16 c16 a0.w_.events_,bv A17 n17 c17 a0.w_.out_,ba A3 n3 c3 a0.Cell.More]) (cS [3,4,5,6,7,10] 19) ?_;refine zE 0 J (aw J) ?_;refine zE 1 J (aw J) ?_;refine zE 2 J (bf J) ?_;refine zE 3 J (dN J fF) ?_;refine zE 4 J (cb J kn) ?_;refine zE 6 J (aw J) ?_;refine zR 7 J (ab (us:=aP a1) 1 J J cq J) ?_;refine zE 8 J (bd J (eM)) ?_;refine wx 5 9 V ?_ ?_
   ·refine jc J (rF (aY 8 J J ik J)) J J J ?_;rintro _ _ ⟨rfl,rfl⟩;refine dB (cS [3,4,5,6,7,10] 19) ?_;obtain ⟨y54,hy54,h⟩:=aa h;refine zD 9 J (aE (ke hy54) Bt J (aC [5,6,7] [8,9,10,11,12,13,14,15,16,17,18,0,1,2] [3,4,5,6,7] 19 J)) ?_;rintro _ _ ⟨_,⟨A55,n55,c55,A56,n56,c56,A57,n57,c57,A58,n58,c58,M59,A60,n60,c60,M61,A62,n62,c62,A63,n63,c63,A64,n64,c64,rfl,rfl⟩,rfl⟩;refine ⟨[bv A62 n62 c62 y54.2.symbols_,cE A63 n63 c63 y54.2.events_,bv A64 n64 c64 y54.2.out_,aj B21 42 (aP y20.1),aj B18 42 (aP a1),bv A15 n15 c15 a0.w_.symbols_,cE A16 n16 c16 a0.w_.events_,bv A17 n17 c17 a0.w_.out_,ba A3 n3 c3 a0.Cell.More],cS [11,12,13,17,18,19,20,21,16] 22,(cv_tl).trans ((cv_tl).trans (cv_tl)),?_⟩;refine cX ?_;refine zD 10 J (bP (R:=bS) (vss:=[[iV y54.1.Kind,iV y54.1.N,.string y54.1.S]]) (xs:=[y54.1]) J (ib _ _ _) J J (fun _ _ hr=> .cons J All2.nil)) ?_;rintro _ _ ⟨A65,n65,c65,rfl,rfl⟩;refine dB (cS [12,13,14,18,19,20,21,22,17] 23) ?_;obtain ⟨q66,h⟩:=ay h;refine zD 11 J (da 16 0 J J aA J J hH xQ J J q66) ?_;rintro _ _ ⟨A67,n67,c67,rfl,rfl⟩;refine dB (cS [12,13,14,18,19,20,21,22,17] 23) ?_;refine cX ?_;refine zE 12 J (bf J) ?_;refine zE 13 J (dN J fF) ?_;refine zE 14 J (cb J kn) ?_;refine zO 15 J (ar (us:=[I A67 n67 c67]) (cs':=[iV a0.Cell.Kind,iV y25.1,iV a0.Cell.Flags,iV a0.Cell.Age,I A67 n67 c67,I A3 n3 c3,pV B4 0,iV a0.at_.Kind,iV a0.at_.N,.string a0.at_.S]) 15 J J J J nW J J J) ?_
    rintro _ _ rfl;refine dB (cS [12,13,14,18,19,20,21,22,17] 23) ?_;refine cX ?_;refine bz V ?_;refine eg ?_;exact ⟨_,_,⟨a0.Cell.Slots++([y54.1]:List Mg),y54.2.shapes_.shapes_,y54.2.shapes_.next_,y54.2.spent_.steps_,y54.2.spent_.made_,y54.2.spent_.calls_,y54.2.config_.Way,y54.2.config_.Steps,y54.2.config_.Calls,y54.2.config_.Made,y54.2.config_.Young,y54.2.config_.Full,y54.2.config_.Sites,y54.2.symbols_,y54.2.epoch_,y54.2.serial_,y54.2.sleepers_,y54.2.events_,y54.2.out_,y54.2.heap_.m_.Young,y54.2.heap_.m_.Old,y54.2.heap_.roots_,y54.2.heap_.pending_,y54.2.heap_.set_.at_,A67,n67,c67,A60,n60,c60,M61,A62,n62,c62,A63,n63,c63,A64,n64,c64,A55,n55,c55,A56,n56,c56,A57,n57,c57,A58,n58,c58,M59,h,J,J⟩,sA,cS [16,17,15,19,10,11,9,18,12,13,14,1,3,4,5,6,2,8,7] 23⟩
   obtain ⟨y54,hy54,h⟩:=aa h;refine jc J (aE (ke hy54) Bt J (aC [5,6,7] [8,9,10,11,12,13,14,15,16,17,18,0,1,2] [3,4,5,6,7] 19 J)) J J J ?_;rintro _ _ ⟨_,⟨A55,n55,c55,A56,n56,c56,A57,n57,c57,A58,n58,c58,M59,A60,n60,c60,M61,A62,n62,c62,A63,n63,c63,A64,n64,c64,rfl,rfl⟩,rfl⟩;refine ⟨[bv A62 n62 c62 y54.2.symbols_,cE A63 n63 c63 y54.2.events_,bv A64 n64 c64 y54.2.out_,aj B21 42 (aP y20.1),aj B18 42 (aP a1),bv A15 n15 c15 a0.w_.symbols_,cE A16 n16 c16 a0.w_.events_,bv A17 n17 c17 a0.w_.out_,ba A3 n3 c3 a0.Cell.More],cS [11,12,13,17,18,19,20,21,16] 22,(cv_tl).trans ((cv_tl).trans (cv_tl)),?_⟩;refine cX ?_;refine wx 5 10 V ?_ ?_
   ·refine jc J (rF (aY 14 J J ik J)) J J J ?_;rintro _ _ ⟨rfl,rfl⟩;refine dB (cS [11,12,13,17,18,19,20,21,16] 22) ?_;refine zD 10 J (bP (R:=bS) (vss:=[[iV y54.1.Kind,iV y54.1.N,.string y54.1.S]]) (xs:=[y54.1]) J (ib _ _ _) J J (fun _ _ hr=> .cons J All2.nil)) ?_;rintro _ _ ⟨A65,n65,c65,rfl,rfl⟩;refine dB (cS [12,13,14,18,19,20,21,22,17] 23) ?_;obtain ⟨q66,h⟩:=ay h;refine zD 11 J (da 16 0 J J aA J J hH xQ J J q66) ?_;rintro _ _ ⟨A67,n67,c67,rfl,rfl⟩;refine dB (cS [12,13,14,18,19,20,21,22,17] 23) ?_;refine cX ?_;refine zE 12 J (bf J) ?_;refine zE 13 J (dN J fF) ?_;refine zE 14 J (cb J kn) ?_;refine zO 15 J (ar (us:=[I A67 n67 c67]) (cs':=[iV a0.Cell.Kind,iV y25.1,iV a0.Cell.Flags,iV a0.Cell.Age,I A67 n67 c67,I A3 n3 c3,pV B4 0,iV a0.at_.Kind,iV a0.at_.N,.string a0.at_.S]) 15 J J J J nW J J J) ?_;rintro _ _ rfl;refine dB (cS [12,13,14,18,19,20,21,22,17] 23) ?_;refine cX ?_;refine bz V ?_;refine eg ?_
    exact ⟨_,_,⟨a0.Cell.Slots++([y54.1]:List Mg),y54.2.shapes_.shapes_,y54.2.shapes_.next_,y54.2.spent_.steps_,y54.2.spent_.made_,y54.2.spent_.calls_,y54.2.config_.Way,y54.2.config_.Steps,y54.2.config_.Calls,y54.2.config_.Made,y54.2.config_.Young,y54.2.config_.Full,y54.2.config_.Sites,y54.2.symbols_,y54.2.epoch_,y54.2.serial_,y54.2.sleepers_,y54.2.events_,y54.2.out_,y54.2.heap_.m_.Young,y54.2.heap_.m_.Old,y54.2.heap_.roots_,y54.2.heap_.pending_,y54.2.heap_.set_.at_,A67,n67,c67,A60,n60,c60,M61,A62,n62,c62,A63,n63,c63,A64,n64,c64,A55,n55,c55,A56,n56,c56,A57,n57,c57,A58,n58,c58,M59,h,J,J⟩,sA,cS [16,17,15,19,10,11,9,18,12,13,14,1,3,4,5,6,2,8,7] 23⟩
   refine jc J (bP (R:=bS) (vss:=[[iV y54.1.Kind,iV y54.1.N,.string y54.1.S]]) (xs:=[y54.1]) J (ib _ _ _) J J (fun _ _ hr=> .cons J All2.nil)) J J J ?_;rintro _ _ ⟨A65,n65,c65,rfl,rfl⟩;refine dB (cS [12,13,14,18,19,20,21,22,17] 23) ?_;refine zD 5 J (rF (aY 15 J J ik J)) ?_;rintro _ _ ⟨rfl,rfl⟩;refine dB (cS [12,13,14,18,19,20,21,22,17] 23) ?_;obtain ⟨q66,h⟩:=ay h;refine zD 11 J (da 16 0 J J aA J J hH xQ J J q66) ?_;rintro _ _ ⟨A67,n67,c67,rfl,rfl⟩;refine dB (cS [12,13,14,18,19,20,21,22,17] 23) ?_;refine cX ?_;refine zE 12 J (bf J) ?_;refine zE 13 J (dN J fF) ?_;refine zE 14 J (cb J kn) ?_;refine zO 15 J (ar (us:=[I A67 n67 c67]) (cs':=[iV a0.Cell.Kind,iV y25.1,iV a0.Cell.Flags,iV a0.Cell.Age,I A67 n67 c67,I A3 n3 c3,pV B4 0,iV a0.at_.Kind,iV a0.at_.N,.string a0.at_.S]) 15 J J J J nW J J J) ?_;rintro _ _ rfl;refine dB (cS [12,13,14,18,19,20,21,22,17] 23) ?_;refine cX ?_;refine bz V ?_;refine eg ?_
   exact ⟨_,_,⟨a0.Cell.Slots++([y54.1]:List Mg),y54.2.shapes_.shapes_,y54.2.shapes_.next_,y54.2.spent_.steps_,y54.2.spent_.made_,y54.2.spent_.calls_,y54.2.config_.Way,y54.2.config_.Steps,y54.2.config_.Calls,y54.2.config_.Made,y54.2.config_.Young,y54.2.config_.Full,y54.2.config_.Sites,y54.2.symbols_,y54.2.epoch_,y54.2.serial_,y54.2.sleepers_,y54.2.events_,y54.2.out_,y54.2.heap_.m_.Young,y54.2.heap_.m_.Old,y54.2.heap_.roots_,y54.2.heap_.pending_,y54.2.heap_.set_.at_,A67,n67,c67,A60,n60,c60,M61,A62,n62,c62,A63,n63,c63,A64,n64,c64,A55,n55,c55,A56,n56,c56,A57,n57,c57,A58,n58,c58,M59,h,J,J⟩,sA,cS [16,17,15,19,10,11,9,18,12,13,14,1,3,4,5,6,2,8,7] 23⟩
  rintro _ _ ⟨p30,p31,p32,p33,p34,p35,p36,p37,p38,p39,p40,p41,p42,p43,p44,p45,p46,p47,p48,p49,p50,p51,p52,p53,A30,n30,c30,A31,n31,c31,M32,A43,n43,c43,A47,n47,c47,A48,n48,c48,A49,n49,c49,A50,n50,c50,A51,n51,c51,A52,n52,c52,M53,h,rfl,rfl⟩;refine Y ?_;obtain ⟨y68,hy68,h⟩:=aa h;refine gD (aE (gv hy68) xM J (aC [8,9,10] [2,0,1,11,16,12,13,14,15,18,17,6,4,5] [3,7,8,9,10] 19 J)) ?_;rintro _ _ ⟨_,⟨A69,n69,c69,A70,n70,c70,A71,n71,c71,A72,n72,c72,A73,n73,c73,A74,n74,c74,M75,A76,n76,c76,M77,A78,n78,c78,A79,n79,c79,A80,n80,c80,rfl,rfl⟩,rfl⟩;refine bL ?_;refine Y ?_;obtain rfl:=ap h;exact aO J J (cS [0,1,2,3,4,5,6,7,8,9,10,11,12,13,14,15,16] 22) ⟨_,_,_,_,_,_,_,_,_,_,_,_,_,_,_,_,_,_,_,_,_,_,_,_,_,_,_,_,_,_,_,_,J,J⟩
 replace h:=ai g22 h;refine Y ?_;refine aW (fun s L=> ∃p82 p83 p84 A83 n83 c83 M84,fD N y20 a1 a0 p82 p83 p84=some r∧s=[(0,pV B1 0),(3,pV B18 0),(4,.bool false),(7,iV y20.2.1),(11,.bool (!decide (y20.1.Attrs=a1.Attrs)))]∧L=[ba A2 n2 c2 a0.Cell.Slots,ba A3 n3 c3 a0.Cell.More,aj B1 140 [iV a0.Cell.Kind,iV p82,iV a0.Cell.Flags,iV a0.Cell.Age,I A2 n2 c2,I A3 n3 c3,pV B4 0,iV a0.at_.Kind,iV a0.at_.N,.string a0.at_.S],aj B18 42 (aP a1),bv A15 n15 c15 a0.w_.symbols_,cE A16 n16 c16 a0.w_.events_,bv A17 n17 c17 a0.w_.out_,aj B4 151 (Wk a0.w_ B5 B12 A15 n15 c15 A16 n16 c16 A17 n17 c17),bx A6 n6 c6 a0.w_.heap_.m_.Young,bx A7 n7 c7 a0.w_.heap_.m_.Old,ba A8 n8 c8 a0.w_.heap_.roots_,ba A9 n9 c9 a0.w_.heap_.pending_,aj B5 199 [I A6 n6 c6,I A7 n7 c7,I A8 n8 c8,I A9 n9 c9,pV B10 0],cI A83 n83 c83 p83,aJ aG cu M84 p84,aj B12 205 [I A83 n83 c83,.map (some M84)],aJ cv cx M11 a0.w_.heap_.set_.at_,aj B10 247 [.map (some M11)]]) ?_ ?_
 ·refine Y ?_;refine au J (fun g85=> ?_) (fun g85=> ?_)
  ·replace h:=ah g85 h;refine az ?_;refine bF V ([aj B21 42 (aP y20.1),aj B18 42 (aP a1),bv A15 n15 c15 a0.w_.symbols_,cE A16 n16 c16 a0.w_.events_,bv A17 n17 c17 a0.w_.out_,aj B1 140 [iV a0.Cell.Kind,iV a0.Cell.Shape,iV a0.Cell.Flags,iV a0.Cell.Age,I A2 n2 c2,I A3 n3 c3,pV B4 0,iV a0.at_.Kind,iV a0.at_.N,.string a0.at_.S],ba A2 n2 c2 a0.Cell.Slots,ba A3 n3 c3 a0.Cell.More,aj B4 151 (Wk a0.w_ B5 B12 A15 n15 c15 A16 n16 c16 A17 n17 c17),aj B5 199 [I A6 n6 c6,I A7 n7 c7,I A8 n8 c8,I A9 n9 c9,pV B10 0],bx A6 n6 c6 a0.w_.heap_.m_.Young,bx A7 n7 c7 a0.w_.heap_.m_.Old,ba A8 n8 c8 a0.w_.heap_.roots_,ba A9 n9 c9 a0.w_.heap_.pending_,aj B10 247 [.map (some M11)],aJ cv cx M11 a0.w_.heap_.set_.at_]) (cS [0,1,2,3,4,5,6,7,8,9,10,11,12,13,14,15] 19) ?_;refine zE 0 J (aw J) ?_;refine zE 1 J (aw J) ?_;refine zE 2 J (bf J) ?_;refine zE 3 J (dN J fF) ?_;refine zE 4 J (cb J nO) ?_;refine zR 5 J (aY 5 J J dv J) ?_;refine zE 6 J (dN J va) ?_;refine zR 7 J (ab (us:=bR a1.Key) 1 J J bB J) ?_;refine zE 8 J (cb J uZ) ?_;refine zR 9 J (aY 1 J J dv J) ?_;obtain ⟨y86,hy86,h⟩:=aa h
   refine zD 10 J (aE (rV hy86) IE J (aC [] [16,17,18] [0,1,2,3,4,5,6,7,8,9,10,11,12,13,14,15] 19 J)) ?_;rintro _ _ ⟨_,⟨A87,n87,c87,M88,rfl,rfl⟩,rfl⟩;refine dB (cS [3,4,5,6,7,8,9,10,11,12,13,14,15,16,17,18] 19) ?_;refine cX ?_;refine zE 11 J (aw J) ?_;refine zE 12 J (bi J J) ?_;refine zE 13 J (bi J J) ?_;refine zE 14 J (be J) ?_;refine zE 15 J (be J) ?_;refine bz V ?_;refine eg ?_;refine az ?_;refine Y ?_;refine au J (fun g89=> ?_) (fun g89=> ?_)
   ·replace h:=ah g89 h;refine Y ?_;obtain rfl:=ap h;exact aO J J (cS [8,9,10,11,12,13,14,15,16,17,18,0,1,2,5,6,7] 19) ⟨_,_,_,_,_,_,_,_,_,_,_,_,_,_,_,_,_,_,_,_,_,_,_,_,_,_,_,_,_,_,_,_,J,J⟩
   replace h:=ai g89 h;refine Y ?_;refine gO (ar (us:=[iV y86.1]) (cs':=[iV a0.Cell.Kind,iV y86.1,iV a0.Cell.Flags,iV a0.Cell.Age,I A2 n2 c2,I A3 n3 c3,pV B4 0,iV a0.at_.Kind,iV a0.at_.N,.string a0.at_.S]) 8 J J J J gz J J J) ?_;rintro _ _ rfl;refine bL ?_;refine Y ?_;exact ⟨_,_,⟨y86.1,y86.2.2.shapes_,y86.2.2.next_,A87,n87,c87,M88,h,J,J⟩,sA,cS [9,10,8,4,5,6,7,11,13,14,15,16,12,1,2,0,18,17] 19⟩
  replace h:=ai g85 h;refine Y ?_;exact ⟨_,_,⟨a0.Cell.Shape,a0.w_.shapes_.shapes_,a0.w_.shapes_.next_,A13,n13,c13,M14,h,J,J⟩,sA,cS [6,7,5,1,2,3,4,8,10,11,12,13,9,17,18,16,15,14] 19⟩
 rintro _ _ ⟨p82,p83,p84,A83,n83,c83,M84,h,rfl,rfl⟩;refine az ?_;refine bF V ([ba A2 n2 c2 a0.Cell.Slots,ba A3 n3 c3 a0.Cell.More,aj B1 140 [iV a0.Cell.Kind,iV p82,iV a0.Cell.Flags,iV a0.Cell.Age,I A2 n2 c2,I A3 n3 c3,pV B4 0,iV a0.at_.Kind,iV a0.at_.N,.string a0.at_.S],aj B18 42 (aP a1),bv A15 n15 c15 a0.w_.symbols_,cE A16 n16 c16 a0.w_.events_,bv A17 n17 c17 a0.w_.out_]) (cS [0,1,2,3,4,5,6] 18) ?_;refine zE 0 J (aw J) ?_;refine zE 1 J (bf J) ?_;refine zE 2 J (dN J fF) ?_;refine zE 3 J (cb J kn) ?_;refine zR 4 J (aY 2 J J ik J) ?_;refine zE 5 J (aw J) ?_;obtain ⟨q90,h⟩:=ay h;refine zE 6 J (bE J J q90.1 q90.2) ?_;refine zE 7 J (aw J) ?_;refine zR 8 J (ab (us:=aP a1) 3 J J cq J) ?_;refine zE 9 J (aw J) ?_;refine zE 10 J (bf J) ?_;refine zE 11 J (dN J fF) ?_;refine zE 12 J (cb J kn) ?_;refine zR 13 J (aY 2 J J ik J) ?_;refine zE 14 J (aw J) ?_;obtain ⟨q91,h⟩:=ay h;refine zE 15 J (bE J J q91.1 q91.2) ?_;obtain ⟨x92,hx92,h⟩:=aa h;obtain ⟨lx92,ux92,hx92⟩:=aI hx92;refine zR 16 J (bp 0 J aA J J hH bm lx92 ux92) ?_;refine zR 17 J (bj (us:=[iV x92.Kind,iV x92.N,.string x92.S]) 0 J aA J hx92 aD (fun _ _ _ h=>by rw [show _=_ from h];rfl)) ?_;obtain ⟨y93,hy93,h⟩:=aa h;refine zD 18 J (aE (ke hy93) Bt J (aC [4,5,6] [2,0,1,7,12,8,9,10,11,17,16,15,13,14] [3,4,5,6] 18 J)) ?_
 rintro _ _ ⟨_,⟨A94,n94,c94,A95,n95,c95,A96,n96,c96,A97,n97,c97,M98,A99,n99,c99,M100,A101,n101,c101,A102,n102,c102,A103,n103,c103,rfl,rfl⟩,rfl⟩;refine ⟨[bv A101 n101 c101 y93.2.symbols_,cE A102 n102 c102 y93.2.events_,bv A103 n103 c103 y93.2.out_,ba A2 n2 c2 a0.Cell.Slots,ba A3 n3 c3 a0.Cell.More,aj B1 140 [iV a0.Cell.Kind,iV p82,iV a0.Cell.Flags,iV a0.Cell.Age,I A2 n2 c2,I A3 n3 c3,pV B4 0,iV a0.at_.Kind,iV a0.at_.N,.string a0.at_.S],aj B18 42 (aP a1),bv A15 n15 c15 a0.w_.symbols_,cE A16 n16 c16 a0.w_.events_,bv A17 n17 c17 a0.w_.out_],cS [11,12,13,15,16,14,17,18,19,20] 21,(cv_tl).trans ((cv_tl).trans (cv_tl)),?_⟩;refine cX ?_;obtain ⟨x104,hx104,h⟩:=aa h;obtain ⟨lx104,ux104,hx104⟩:=aI hx104;refine zR 19 J (bp 3 J aA J J hH bm lx104 ux104) ?_;refine ns 20 J V V (cZ (us:=[iV y93.1.Kind,iV y93.1.N,.string y93.1.S]) (z:=(⟨y93.1.Kind,y93.1.N,y93.1.S⟩:Mg)) 15 J J J J bm J (toNat_lt lx104 ux104) J (fun S w vs xk hk hr ho=>by obtain rfl:=Option.some.inj (hk.symm.trans hx104);rw [show _=_ from hr];rfl)) ?_;rintro _ _ rfl;refine cX ?_;refine bz V ?_;refine Y ?_;obtain ⟨y105,hy105,h⟩:=aa h;refine gD (aE (gv hy105) xM J (aC [11,12,13] [14,15,16,0,1,2,3,4,5,6,7,8,9,10] [11,12,13,17,18,19,20] 21 J)) ?_;rintro _ _ ⟨_,⟨A106,n106,c106,A107,n107,c107,A108,n108,c108,A109,n109,c109,A110,n110,c110,A111,n111,c111,M112,A113,n113,c113,M114,A115,n115,c115,A116,n116,c116,A117,n117,c117,rfl,rfl⟩,rfl⟩
 refine bL ?_;refine Y ?_;obtain rfl:=ap h;exact aO J J (cS [0,1,2,3,4,5,6,7,8,9,10,11,12,13,14,15,16] 24) ⟨_,_,_,_,_,_,_,_,_,_,_,_,_,_,_,_,_,_,_,_,_,_,_,_,_,_,_,_,_,_,_,_,J,J⟩
def gH (N:Nat)(a0:Md)(a1:Mg)(a2:Mn)(a3:Mi):Option (Bool×Md):=
 (dc N a0 a1).bind fun y18=>AA y18 (fun y18_0=>some (false,a0)) (fun y18_1=>(er N a2).bind fun y36=>bif !y36 then (some (false,a0)) else ((cH N (⟨y18_1.Cell,a0,y18_1.at_⟩:Ml) a2).bind fun y38=>(ia N y38.1 y38.2.2 (!decide (aM .i64 y18_1.Cell.Flags 1=0)) a2 a3).bind fun y40=>bif y40.2 then ((gb N (⟨y18_1.Cell,a0,y18_1.at_⟩:Ml) y40.1).bind fun y44=>some (y44.1,y44.2.w_)) else (some (false,a0))))
set_option maxHeartbeats 4000000 in
theorem mN {N:Nat}{a0:Md}{a1:Mg}{a2:Mn}{a3:Mi}{r:(Bool×Md)}(h:gH N a0 a1 a2 a3=some r):Okc Tryz.prog 39 [pV B1 0,(aZ a1),(eZ a2),(ey a3)] ([bv A12 n12 c12 a0.symbols_,cE A13 n13 c13 a0.events_,bv A14 n14 c14 a0.out_,aj B1 151 (Wk a0 B2 B9 A12 n12 c12 A13 n13 c13 A14 n14 c14),aj B2 199 [I A3 n3 c3,I A4 n4 c4,I A5 n5 c5,I A6 n6 c6,pV B7 0],bx A3 n3 c3 a0.heap_.m_.Young,bx A4 n4 c4 a0.heap_.m_.Old,ba A5 n5 c5 a0.heap_.roots_,ba A6 n6 c6 a0.heap_.pending_,aj B7 247 [.map (some M8)],aJ cv cx M8 a0.heap_.set_.at_,aj B9 205 [I A10 n10 c10,.map (some M11)],cI A10 n10 c10 a0.shapes_.shapes_,aJ aG cu M11 a0.shapes_.next_]) (fun u post=> ∃A0 n0 c0 A1 n1 c1 A2 n2 c2 A3 n3 c3 M4 A5 n5 c5 M6 A7 n7 c7 A8 n8 c8 A9 n9 c9,u=.bool r.1∧post=[aj B1 151 (Wk r.2 B2 B9 A7 n7 c7 A8 n8 c8 A9 n9 c9),aj B2 199 [I A0 n0 c0,I A1 n1 c1,I A2 n2 c2,I A3 n3 c3,pV B7 0],bx A0 n0 c0 r.2.heap_.m_.Young,bx A1 n1 c1 r.2.heap_.m_.Old,ba A2 n2 c2 r.2.heap_.roots_,ba A3 n3 c3 r.2.heap_.pending_,aj B7 247 [.map (some M4)],aJ cv cx M4 r.2.heap_.set_.at_,aj B9 205 [I A5 n5 c5,.map (some M6)],cI A5 n5 c5 r.2.shapes_.shapes_,aJ aG cu M6 r.2.shapes_.next_,bv A7 n7 c7 r.2.symbols_,cE A8 n8 c8 r.2.events_,bv A9 n9 c9 r.2.out_]):=by
 refine br Tryz.func39 J J ?_;simp only [aS];refine Y ?_;refine gD (aL J J) ?_;rintro _ _ ⟨B15,rfl,rfl⟩;refine gD (aL J J) ?_;rintro _ _ ⟨B16,rfl,rfl⟩;refine gD (aL J J) ?_;rintro _ _ ⟨B17,rfl,rfl⟩;refine Y ?_;refine gR (ab (us:=av a1) 2 J J aD J) ?_;obtain ⟨y18,hy18,h⟩:=aa h;rcases y18 with y18_0|y18_1
 ·replace h:=BQ h;refine gD (aE (bO hy18) eL J (aC [3,4,5] [6,7,8,9,10,11,12,13,14,15,16] [0,1,2,3,4,5] 17 J)) ?_;rintro _ _ ⟨_,⟨rfl,rfl⟩,rfl⟩;refine Y ?_;refine az ?_;refine Y ?_;refine eN J ?_;refine Y ?_;obtain rfl:=ap h;exact aO J J (cS [0,1,2,3,4,5,6,7,8,9,10,14,15,16] 17) ⟨_,_,_,_,_,_,_,_,_,_,_,_,_,_,_,_,_,_,_,_,_,_,_,_,_,_,J,J⟩
 replace h:=BP h;refine gD (aE (bO hy18) eL J (aC [3,4,5] [6,7,8,9,10,11,12,13,14,15,16] [0,1,2,3,4,5] 17 J)) ?_;rintro _ _ ⟨_,⟨B19,A20,n20,c20,A21,n21,c21,rfl,rfl⟩,rfl⟩;refine Y ?_;refine az ?_;refine Y ?_;refine gR (ab (us:=bR a2) 15 J J bB J) ?_;obtain ⟨y36,hy36,h⟩:=aa h;refine gD (al (i4 hy36) uv J (ac) ge) ?_;rintro _ _ ⟨_,⟨rfl,rfl⟩,rfl⟩;refine Y ?_;refine au J (fun g37=> ?_) (fun g37=> ?_)
 ·replace h:=ah g37 h;refine Y ?_;obtain rfl:=ap h;exact aO J J (cS [3,4,5,6,7,8,9,10,11,12,13,17,18,19] 20) ⟨_,_,_,_,_,_,_,_,_,_,_,_,_,_,_,_,_,_,_,_,_,_,_,_,_,_,J,J⟩
 replace h:=ai g37 h;refine Y ?_;refine gR (ab (us:=bR a2) 15 J J bB J) ?_;obtain ⟨y38,hy38,h⟩:=aa h;refine gD (al (iu hy38) xO J (hD (aB (i:=0) J) (hD (aq (i:=1) J) (hD (aq (i:=2) J) (hD (aB (i:=3) J) (hD (aB (i:=4) J) (hD (aq (i:=5) J) (hD (aq (i:=6) J) (hD (aq (i:=7) J) (hD (aq (i:=8) J) (hD (aB (i:=9) J) (hD (bc (i:=10) J) (hD (aB (i:=11) J) (hD (aq (i:=12) J) (hD (bc (i:=13) J) (hD (ao (i:=17) J J) (hD (ao (i:=18) J J) (hD (ao (i:=19) J J) ac))))))))))))))))) gu) ?_;rintro _ _ ⟨_,⟨rfl,rfl⟩,rfl⟩;refine Y ?_;refine gD (aH cF J) ?_;rintro _ _ ⟨B39,rfl,rfl⟩;refine gO (ar (us:=aP y38.1) (cs':=aP y38.1) 0 J J J J bJ J J J) ?_;rintro _ _ rfl;refine bL ?_;refine Y ?_;refine az ?_;obtain ⟨y40,hy40,h⟩:=aa h;refine f3 (t:=[(6,pV B16 0),(7,pV B17 0),(8,.bool false),(9,pV B19 0),(10,.bool true),(11,pV B39 0),(13,.bool y38.2.2)]) ?_ jd (ae _)
 refine fX V 16 [14] [13,14,15] [36,37,38,39,40,41,42,43,44,45,46,47,35,48,49,14] [[],[],[],[2],[3],[4],[5],[6],[7],[],[],[0,1,8,9,10],[11],[12],[12],[]] [aV ((bA y38.1)),
aV (.bool y38.2.2),
aV (pV B19 0),
aV (pV B19 0),
aV (pV B19 0),
aV (pV B19 2),
aV (iV y18_1.Cell.Flags),
aV (iV (aM .i64 y18_1.Cell.Flags 1)),
aV (.bool (!decide (aM .i64 y18_1.Cell.Flags 1=0))),
aV ((eZ a2)),
aV ((ey a3)),
aV (.tuple #[(bA y40.1),.bool y40.2]),
aV (.tuple #[(bA y40.1),.bool y40.2]),
aV ((bA y40.1)),
aV (.bool y40.2),
aX1 (fun (B42:Nat)=>pV B42 0) (fun B42=> [aj B42 42 [iV 0,iV 0,.string (⟨#[]⟩),iV 0,iV 0,iV 0,.string (⟨#[]⟩),iV 0,iV 0,.string (⟨#[]⟩),iV 0,iV 0,.string (⟨#[]⟩)]])] [] (ae _) (d6 rfl iY) V rfl rfl ?_ ?_ ?_
 ·refine d5 J ?_ ?_
  ·exact js (bi J J) J (bh J (ae _))
  exact iX
 ·refine am J ?_ ?_
  ·refine kV (aH cF J) J ?_;rintro _ _ ⟨B41,rfl,rfl⟩;exact zK B41 (ae _)
  refine am J ?_ ?_
  ·exact bW (bi J J) J (bh J (ae _))
  refine am J ?_ ?_
  ·exact bW (bi J J) J (bh J (ae _))
  refine am J ?_ ?_
  ·exact bW (aw J) J (bh J (ae _))
  refine am J ?_ ?_
  ·refine kV (al (li hy40) vu J (ac) jq) J ?_;rintro _ _ ⟨_,⟨rfl,rfl⟩,rfl⟩;exact bh J (ae _)
  refine am J ?_ ?_
  ·exact fa (ab (us:=cc a3) 15 J J dz J) J (bh J (ae _))
  refine am J ?_ ?_
  ·exact fa (ab (us:=bR a2) 16 J J bB J) J (bh J (ae _))
  refine am J ?_ ?_
  ·exact bW (D6 J J) J (bh J (ae _))
  refine am J ?_ ?_
  ·exact bW (bD J J) J (bh J (ae _))
  refine am J ?_ ?_
  ·exact fa (aY 1 J J dv J) J (bh J (ae _))
  refine am J ?_ ?_
  ·exact bW (cb J Cw) J (bh J (ae _))
  refine am J ?_ ?_
  ·exact bW (dN J fF) J (bh J (ae _))
  refine am J ?_ ?_
  ·exact bW (bf J) J (bh J (ae _))
  refine am J ?_ ?_
  ·exact bW (aw J) J (bh J (ae _))
  refine am J ?_ ?_
  ·exact bW (aw J) J (bh J (ae _))
  refine am J ?_ ?_
  ·exact fa (ab (us:=aP y38.1) 0 J J cq J) J (bh J (ae _))
  exact dJ
 intro B42;refine lM (t:=[(48,(bA y40.1)),(49,.bool y40.2),(14,pV B42 0),(6,pV B16 0),(7,pV B17 0),(8,.bool false),(9,pV B19 0),(10,.bool true),(11,pV B39 0),(13,.bool y38.2.2)]) (L':=[aj B42 42 [iV 0,iV 0,.string (⟨#[]⟩),iV 0,iV 0,iV 0,.string (⟨#[]⟩),iV 0,iV 0,.string (⟨#[]⟩),iV 0,iV 0,.string (⟨#[]⟩)],aj B39 42 (aP y38.1),aj B19 140 [iV y18_1.Cell.Kind,iV y18_1.Cell.Shape,iV y18_1.Cell.Flags,iV y18_1.Cell.Age,I A20 n20 c20,I A21 n21 c21,pV B1 0,iV y18_1.at_.Kind,iV y18_1.at_.N,.string y18_1.at_.S],ba A20 n20 c20 y18_1.Cell.Slots,ba A21 n21 c21 y18_1.Cell.More,aj B1 151 (Wk a0 B2 B9 A12 n12 c12 A13 n13 c13 A14 n14 c14),aj B2 199 [I A3 n3 c3,I A4 n4 c4,I A5 n5 c5,I A6 n6 c6,pV B7 0],bx A3 n3 c3 a0.heap_.m_.Young,bx A4 n4 c4 a0.heap_.m_.Old,ba A5 n5 c5 a0.heap_.roots_,ba A6 n6 c6 a0.heap_.pending_,aj B7 247 [.map (some M8)],aJ cv cx M8 a0.heap_.set_.at_,aj B9 205 [I A10 n10 c10,.map (some M11)],cI A10 n10 c10 a0.shapes_.shapes_,aJ aG cu M11 a0.shapes_.next_,aj B17 32 (cc a3),aj B16 24 (bR a2),aj B15 30 (av a1),bv A12 n12 c12 a0.symbols_,cE A13 n13 c13 a0.events_,bv A14 n14 c14 a0.out_]) ?_ jd (ae _)
 refine lm 16 J V (ar (us:=aP y40.1) (cs':=aP y40.1) 0 J J J J bJ J J J) J J ?_;rintro _ _ rfl;refine tN 17 J V (be J) J J J ?_;refine jb V ?_;refine Y ?_;refine aK 51 J (fun g43=> ?_) (fun g43=> ?_)
 ·replace h:=ah g43 h;refine Y ?_;refine ci (ab (us:=aP y40.1) 0 J J cq J) J (bq g43 J) J ?_;obtain ⟨y44,hy44,h⟩:=aa h;refine cr (aE (oD hy44) EH J (aC [19,20,21] [2,3,4,5,6,7,8,9,10,11,12,13,14,15] [0,1,16,17,18,19,20,21] 22 J)) J (bq g43 J) J ?_;rintro _ _ ⟨_,⟨A45,n45,c45,A46,n46,c46,A47,n47,c47,A48,n48,c48,A49,n49,c49,A50,n50,c50,M51,A52,n52,c52,M53,A54,n54,c54,A55,n55,c55,A56,n56,c56,rfl,rfl⟩,rfl⟩;refine Y ?_;obtain rfl:=ap h;exact aO J J (cS [3,4,5,6,7,8,9,10,11,12,13,14,15,16] 25) ⟨_,_,_,_,_,_,_,_,_,_,_,_,_,_,_,_,_,_,_,_,_,_,_,_,_,_,J,J⟩
 replace h:=ai g43 h;refine Y ?_;obtain rfl:=ap h;exact aO J J (cS [5,6,7,8,9,10,11,12,13,14,15,19,20,21] 22) ⟨_,_,_,_,_,_,_,_,_,_,_,_,_,_,_,_,_,_,_,_,_,_,_,_,_,_,J,J⟩
def la (N:Nat)(a0:Bool):Option (Bool×Int):=
 bif a0 then (some (true,0)) else (some (false,11))
theorem sC {N:Nat}{a0:Bool}{r:(Bool×Int)}(h:la N a0=some r):Okc Tryz.prog 81 [.bool a0] ([]) (fun u post=>u=.tuple #[.bool r.1,iV r.2]∧post=[]):=by
 refine br Tryz.func81 J J ?_;simp only [aS];refine Y ?_;refine az ?_;refine Y ?_;refine au J (fun g1=> ?_) (fun g1=> ?_)
 ·replace h:=ah g1 h;refine Y ?_;obtain rfl:=ap h;exact cT J J J (cS [] 0) ⟨J,J⟩
 replace h:=ai g1 h;refine Y ?_;obtain rfl:=ap h;exact cT J J J (cS [] 0) ⟨J,J⟩
theorem qP {r:(Bool×Int)}: ∀v post,((fun (u:Value) (post:List Chunk)=>u=.tuple #[.bool r.1,iV r.2]∧post=[])) v post→ ∀c∈post,bV c:=by
 rintro _ _ ⟨rfl,rfl⟩;exact ac
def gX (N:Nat)(a0:Md)(a1:Mg)(a2:Mi):Option Int:=
 (bif !decide (aM .i64 a2.Has 1=0) then ((bif !decide (a2.Value.Kind=3) then (some true) else (some (decide (a2.Value.N<0)))).bind fun b18=>(bif b18 then (some true) else (some (decide (4096<a2.Value.N)))).bind fun b19=>some b19) else (some false)).bind fun b17=>bif b17 then (some 16) else ((eR N).bind fun y21=>(kr N a0 a1 y21).bind fun y22=>(eR N).bind fun y25=>(ia N y22.1 true true y25 a2).bind fun y26=>bif !y26.2 then (some 11) else (some 0))
set_option maxHeartbeats 4000000 in
theorem rX {N:Nat}{a0:Md}{a1:Mg}{a2:Mi}{r:Int}(h:gX N a0 a1 a2=some r):Okc Tryz.prog 83 [pV B1 0,(aZ a1),(ey a2)] ([bv A12 n12 c12 a0.symbols_,cE A13 n13 c13 a0.events_,bv A14 n14 c14 a0.out_,aR 0 30 [iV 8,iV 0,.string (⟨#[]⟩:ByteArray)],aj B1 151 (Wk a0 B2 B9 A12 n12 c12 A13 n13 c13 A14 n14 c14),aj B2 199 [I A3 n3 c3,I A4 n4 c4,I A5 n5 c5,I A6 n6 c6,pV B7 0],bx A3 n3 c3 a0.heap_.m_.Young,bx A4 n4 c4 a0.heap_.m_.Old,ba A5 n5 c5 a0.heap_.roots_,ba A6 n6 c6 a0.heap_.pending_,aj B7 247 [.map (some M8)],aJ cv cx M8 a0.heap_.set_.at_,aj B9 205 [I A10 n10 c10,.map (some M11)],cI A10 n10 c10 a0.shapes_.shapes_,aJ aG cu M11 a0.shapes_.next_]) (fun u post=>u=iV r∧post=[aj B1 151 (Wk a0 B2 B9 A12 n12 c12 A13 n13 c13 A14 n14 c14),aj B2 199 [I A3 n3 c3,I A4 n4 c4,I A5 n5 c5,I A6 n6 c6,pV B7 0],bx A3 n3 c3 a0.heap_.m_.Young,bx A4 n4 c4 a0.heap_.m_.Old,ba A5 n5 c5 a0.heap_.roots_,ba A6 n6 c6 a0.heap_.pending_,aj B7 247 [.map (some M8)],aJ cv cx M8 a0.heap_.set_.at_,aj B9 205 [I A10 n10 c10,.map (some M11)],cI A10 n10 c10 a0.shapes_.shapes_,aJ aG cu M11 a0.shapes_.next_]):=by
 refine br Tryz.func83 J J ?_;simp only [aS];refine Y ?_;refine gD (aL J J) ?_;rintro _ _ ⟨B15,rfl,rfl⟩;refine gD (aL J J) ?_;rintro _ _ ⟨B16,rfl,rfl⟩;refine Y ?_;refine az ?_;refine Y ?_;refine gE (bD J J) ?_;refine Y ?_;obtain ⟨b17,hb17,h⟩:=aa h;refine aN 17 32 b17 ?_ ?_
 ·clear h;refine aK 15 J (fun g17=> ?_) (fun g17=> ?_)
  ·have h:=ah g17 hb17;refine Y ?_;obtain ⟨b18,hb18,h⟩:=aa h;refine aN 5 25 b18 ?_ ?_
   ·clear h;refine aK 20 J (fun g18=> ?_) (fun g18=> ?_)
    ·have h:=ah g18 hb18;refine Y ?_;obtain rfl:=ap h;exact ad sA (cS [0,1,2,3,4,5,6,7,8,9,10,11,12,13,14,15,16] 17)
    have h:=ai g18 hb18;refine Y ?_;obtain rfl:=ap h;exact ad sA (cS [0,1,2,3,4,5,6,7,8,9,10,11,12,13,14,15,16] 17)
   refine Y ?_;obtain ⟨b19,hb19,h⟩:=aa h;refine aN 5 31 b19 ?_ ?_
   ·clear h;refine aK 26 J (fun g19=> ?_) (fun g19=> ?_)
    ·have h:=ah g19 hb19;refine Y ?_;obtain rfl:=ap h;exact ad sA (cS [0,1,2,3,4,5,6,7,8,9,10,11,12,13,14,15,16] 17)
    have h:=ai g19 hb19;refine Y ?_;obtain rfl:=ap h;exact ad sA (cS [0,1,2,3,4,5,6,7,8,9,10,11,12,13,14,15,16] 17)
   refine Y ?_;obtain rfl:=ap h;exact ad sA (cS [0,1,2,3,4,5,6,7,8,9,10,11,12,13,14,15,16] 17)
  have h:=ai g17 hb17;refine Y ?_;obtain rfl:=ap h;exact ad sA (cS [0,1,2,3,4,5,6,7,8,9,10,11,12,13,14,15,16] 17)
 refine Y ?_;refine au J (fun g20=> ?_) (fun g20=> ?_)
 ·replace h:=ah g20 h;refine Y ?_;obtain rfl:=ap h;exact aO J J (cS [6,7,8,9,10,11,12,13,14,15,16] 17) ⟨J,J⟩
 replace h:=ai g20 h;refine Y ?_;refine az ?_;obtain ⟨y21,hy21,h⟩:=aa h;obtain ⟨y22,hy22,h⟩:=aa h;refine f3 (t:=[(0,pV B1 0),(4,pV B15 0),(5,pV B16 0),(6,iV 0)]) ?_ jd (ae _)
 refine fX V 8 [6] [5,6,7] [34,35,36,37,33,38,39,7] [[],[],[],[0,1,2],[3],[4],[4],[]] [aV (pV B1 0),
aV ((aZ a1)),
aV (.agg #[iV y21.Kind,iV y21.N,.string y21.S]),
aV (.tuple #[(bA y22.1),.bool y22.2]),
aV (.tuple #[(bA y22.1),.bool y22.2]),
aV ((bA y22.1)),
aV (.bool y22.2),
aX1 (fun (B24:Nat)=>pV B24 0) (fun B24=> [aj B24 42 [iV 0,iV 0,.string (⟨#[]⟩),iV 0,iV 0,iV 0,.string (⟨#[]⟩),iV 0,iV 0,.string (⟨#[]⟩),iV 0,iV 0,.string (⟨#[]⟩)]])] [] (ae _) (d6 rfl iY) V rfl rfl ?_ ?_ ?_
 ·refine d5 J ?_ ?_
  ·exact js (bi J J) J (bh J (ae _))
  exact iX
 ·refine am J ?_ ?_
  ·refine kV (aH cF J) J ?_;rintro _ _ ⟨B23,rfl,rfl⟩;exact zK B23 (ae _)
  refine am J ?_ ?_
  ·exact bW (bi J J) J (bh J (ae _))
  refine am J ?_ ?_
  ·exact bW (bi J J) J (bh J (ae _))
  refine am J ?_ ?_
  ·exact bW (aw J) J (bh J (ae _))
  refine am J ?_ ?_
  ·refine kV (aE (oW hy22) zi J (aC [2,3,4,5] [6,7,8,9,10,11,12,13,14,15,16] [0,1,2,3,4,5] 17 J)) J ?_;rintro _ _ ⟨_,⟨rfl,rfl⟩,rfl⟩;exact bh J (cS [11,12,13,14,15,16,0,1,2,3,4,5,6,7,8,9,10] 17)
  refine am J ?_ ?_
  ·refine kV (al (kz hy21) Bi J (ac) i3) J ?_;rintro _ _ ⟨_,⟨rfl,rfl⟩,rfl⟩;exact bh J (ae _)
  refine am J ?_ ?_
  ·exact fa (ab (us:=av a1) 1 J J aD J) J (bh J (ae _))
  refine am J ?_ ?_
  ·exact bW (aw J) J (bh J (ae _))
  exact dJ
 intro B24;refine lM (t:=[(38,(bA y22.1)),(39,.bool y22.2),(7,pV B24 0),(0,pV B1 0),(4,pV B15 0),(5,pV B16 0),(6,iV 0)]) (L':=[aj B24 42 [iV 0,iV 0,.string (⟨#[]⟩),iV 0,iV 0,iV 0,.string (⟨#[]⟩),iV 0,iV 0,.string (⟨#[]⟩),iV 0,iV 0,.string (⟨#[]⟩)],aj B16 32 (cc a2),aj B15 30 (av a1),bv A12 n12 c12 a0.symbols_,cE A13 n13 c13 a0.events_,bv A14 n14 c14 a0.out_,aR 0 30 [iV 8,iV 0,.string (⟨#[]⟩:ByteArray)],aj B1 151 (Wk a0 B2 B9 A12 n12 c12 A13 n13 c13 A14 n14 c14),aj B2 199 [I A3 n3 c3,I A4 n4 c4,I A5 n5 c5,I A6 n6 c6,pV B7 0],bx A3 n3 c3 a0.heap_.m_.Young,bx A4 n4 c4 a0.heap_.m_.Old,ba A5 n5 c5 a0.heap_.roots_,ba A6 n6 c6 a0.heap_.pending_,aj B7 247 [.map (some M8)],aJ cv cx M8 a0.heap_.set_.at_,aj B9 205 [I A10 n10 c10,.map (some M11)],cI A10 n10 c10 a0.shapes_.shapes_,aJ aG cu M11 a0.shapes_.next_]) ?_ jd (ae _);refine lm 8 J V (ar (us:=aP y22.1) (cs':=aP y22.1) 0 J J J J bJ J J J) J J ?_;rintro _ _ rfl;refine tN 9 J V (be J) J J J ?_;refine jb V ?_;refine eg ?_;refine az ?_;refine az ?_;obtain ⟨y25,hy25,h⟩:=aa h;obtain ⟨y26,hy26,h⟩:=aa h;refine f3 (t:=[(5,pV B16 0),(6,iV 0),(7,pV B24 0)]) ?_ jd (ae _)
 refine fX V 8 [6] [5,6,7] [41,42,43,44,40,45,46,9] [[],[],[],[0,1,2],[3],[4],[4],[]] [aV ((bA y22.1)),
aV (.agg #[iV y25.Kind,iV y25.N,.string y25.S]),
aV ((ey a2)),
aV (.tuple #[(bA y26.1),.bool y26.2]),
aV (.tuple #[(bA y26.1),.bool y26.2]),
aV ((bA y26.1)),
aV (.bool y26.2),
aX1 (fun (B28:Nat)=>pV B28 0) (fun B28=> [aj B28 42 [iV 0,iV 0,.string (⟨#[]⟩),iV 0,iV 0,iV 0,.string (⟨#[]⟩),iV 0,iV 0,.string (⟨#[]⟩),iV 0,iV 0,.string (⟨#[]⟩)]])] [] (ae _) (d6 rfl iY) V rfl rfl ?_ ?_ ?_
 ·refine d5 J ?_ ?_
  ·exact js (bi J J) J (bh J (ae _))
  exact iX
 ·refine am J ?_ ?_
  ·refine kV (aH cF J) J ?_;rintro _ _ ⟨B27,rfl,rfl⟩;exact zK B27 (ae _)
  refine am J ?_ ?_
  ·exact bW (bi J J) J (bh J (ae _))
  refine am J ?_ ?_
  ·exact bW (bi J J) J (bh J (ae _))
  refine am J ?_ ?_
  ·exact bW (aw J) J (bh J (ae _))
  refine am J ?_ ?_
  ·refine kV (al (li hy26) vu J (ac) jq) J ?_;rintro _ _ ⟨_,⟨rfl,rfl⟩,rfl⟩;exact bh J (ae _)
  refine am J ?_ ?_
  ·exact fa (ab (us:=cc a2) 1 J J dz J) J (bh J (ae _))
  refine am J ?_ ?_
  ·refine kV (al (kz hy25) Bi J (ac) i3) J ?_;rintro _ _ ⟨_,⟨rfl,rfl⟩,rfl⟩;exact bh J (ae _)
  refine am J ?_ ?_
  ·exact fa (ab (us:=aP y22.1) 0 J J cq J) J (bh J (ae _))
  exact dJ
 intro B28;refine lM (t:=[(45,(bA y26.1)),(46,.bool y26.2),(9,pV B28 0),(5,pV B16 0),(6,iV 0),(7,pV B24 0)]) (L':=[aj B28 42 [iV 0,iV 0,.string (⟨#[]⟩),iV 0,iV 0,iV 0,.string (⟨#[]⟩),iV 0,iV 0,.string (⟨#[]⟩),iV 0,iV 0,.string (⟨#[]⟩)],aj B24 42 (aP y22.1),aj B16 32 (cc a2),aj B15 30 (av a1),bv A12 n12 c12 a0.symbols_,cE A13 n13 c13 a0.events_,bv A14 n14 c14 a0.out_,aR 0 30 [iV 8,iV 0,.string (⟨#[]⟩:ByteArray)],aj B1 151 (Wk a0 B2 B9 A12 n12 c12 A13 n13 c13 A14 n14 c14),aj B2 199 [I A3 n3 c3,I A4 n4 c4,I A5 n5 c5,I A6 n6 c6,pV B7 0],bx A3 n3 c3 a0.heap_.m_.Young,bx A4 n4 c4 a0.heap_.m_.Old,ba A5 n5 c5 a0.heap_.roots_,ba A6 n6 c6 a0.heap_.pending_,aj B7 247 [.map (some M8)],aJ cv cx M8 a0.heap_.set_.at_,aj B9 205 [I A10 n10 c10,.map (some M11)],cI A10 n10 c10 a0.shapes_.shapes_,aJ aG cu M11 a0.shapes_.next_]) ?_ jd (ae _);refine lm 8 J V (ar (us:=aP y26.1) (cs':=aP y26.1) 0 J J J J bJ J J J) J J ?_;rintro _ _ rfl;refine tN 9 J V (be J) J J J ?_;refine jb V ?_;refine Y ?_;refine au J (fun g29=> ?_) (fun g29=> ?_)
 ·replace h:=ah g29 h;refine Y ?_;obtain rfl:=ap h;exact aO J J (cS [8,9,10,11,12,13,14,15,16,17,18] 19) ⟨J,J⟩
 replace h:=ai g29 h;refine Y ?_;obtain rfl:=ap h;exact aO J J (cS [8,9,10,11,12,13,14,15,16,17,18] 19) ⟨J,J⟩
def qe (N:Nat)(a0:Mg):Option Bool:=
 (bif decide (a0.Kind=0) then (some true) else (some (decide (a0.Kind=7)))).bind fun b2=>some b2
theorem vh {N:Nat}{a0:Mg}{r:Bool}(h:qe N a0=some r):Okc Tryz.prog 154 [(aZ a0)] ([]) (fun u post=>u=.bool r∧post=[]):=by
 refine br Tryz.func154 J J ?_;simp only [aS];refine Y ?_;refine gD (aL J J) ?_;rintro _ _ ⟨B1,rfl,rfl⟩;refine Y ?_;obtain ⟨b2,hb2,h⟩:=aa h;refine aN 4 10 b2 ?_ ?_
 ·clear h;refine aK 6 J (fun g2=> ?_) (fun g2=> ?_)
  ·have h:=ah g2 hb2;refine Y ?_;obtain rfl:=ap h;exact ad sA (cS [0] 1)
  have h:=ai g2 hb2;refine Y ?_;obtain rfl:=ap h;exact ad sA (cS [0] 1)
 refine Y ?_;obtain rfl:=ap h;exact aO J J (cS [] 1) ⟨J,J⟩
theorem sM {r:Bool}: ∀v post,((fun (u:Value) (post:List Chunk)=>u=.bool r∧post=[])) v post→ ∀c∈post,bV c:=by
 rintro _ _ ⟨rfl,rfl⟩;exact ac
def oS (N:Nat)(a0:Mi):Option Bool:=
 (bif !decide (bw .i64 a0.Has 63=0) then (some true) else ((bQ N a0 3).bind fun y3=>(bif y3 then ((bQ N a0 12).bind fun y5=>some y5) else (some false)).bind fun b4=>some b4)).bind fun b2=>(bif b2 then (some true) else ((ms N a0).bind fun y7=>some (!decide (bw .i64 a0.Attrs y7=0)))).bind fun b6=>bif b6 then (some false) else ((bif decide (a0.Value.Kind<0) then (some true) else (some (decide (7<a0.Value.Kind)))).bind fun b9=>(bif b9 then (some true) else ((qe N a0.Get).bind fun y11=>some (!y11))).bind fun b10=>(bif b10 then (some true) else ((qe N a0.Set).bind fun y13=>some (!y13))).bind fun b12=>bif b12 then (some false) else ((bQ N a0 1).bind fun y16=>(bif y16 then (some true) else (some (decide (a0.Value=(⟨0,0,⟨#[]⟩⟩:Mg))))).bind fun b17=>(bif b17 then ((bQ N a0 4).bind fun y19=>(bif y19 then (some true) else (some (decide (a0.Get=(⟨0,0,⟨#[]⟩⟩:Mg))))).bind fun b20=>some b20) else (some false)).bind fun b18=>(bif b18 then ((bQ N a0 8).bind fun y22=>(bif y22 then (some true) else (some (decide (a0.Set=(⟨0,0,⟨#[]⟩⟩:Mg))))).bind fun b23=>some b23) else (some false)).bind fun b21=>some b21))
set_option maxHeartbeats 4000000 in
theorem zJ {N:Nat}{a0:Mi}{r:Bool}(h:oS N a0=some r):Okc Tryz.prog 101 [(ey a0)] ([]) (fun u post=>u=.bool r∧post=[]):=by
 refine br Tryz.func101 J J ?_;simp only [aS];refine Y ?_;refine gD (aL J J) ?_;rintro _ _ ⟨B1,rfl,rfl⟩;refine Y ?_;refine az ?_;refine az ?_;refine bF V _ (ae _) ?_;refine zE 0 J (dN J D4) ?_;refine zR 1 J (aY 0 J J dv J) ?_;refine zE 2 J (jw J J) ?_;refine zE 3 J (D6 J J) ?_;refine zE 4 J (aw J) ?_;obtain ⟨b2,hb2,h⟩:=aa h;refine iL (fun l=>(((((((l.setIfInBounds 5 true).setIfInBounds 6 true).setIfInBounds 7 true).setIfInBounds 8 true).setIfInBounds 9 true).setIfInBounds 10 true).setIfInBounds 11 true)) 8 15 b2 (fun rest=> ?_) ?_
 ·clear h;refine jS 8 J (fun g2=> ?_) (fun g2=> ?_)
  ·have h:=ah g2 hb2;refine cC 5 J V (yI g2 J) J ?_;refine cC 6 J V (yI g2 J) J ?_;refine cC 7 J V (yI g2 J) J ?_;refine zU 8 J ?_;refine zU 9 J ?_;refine cC 10 J V (yI g2 J) J ?_;refine zE 11 J (eh g2 J J) ?_;obtain rfl:=ap h;exact ft rest (cY J (aF (aF (aF (aF (aF (aF (aF bX J) J) J) J) J) J) J)) (ae _) (ae _)
  have h:=ai g2 hb2;refine kK 5 J V (ab (us:=cc a0) 0 J J dz J) (cU g2 J) J ?_;obtain ⟨y3,hy3,h⟩:=aa h;refine ot 6 J V (al (co hy3) fx J (ac) bT) J (cU g2 J) J ?_;rintro _ _ ⟨_,⟨rfl,rfl⟩,rfl⟩;refine ⟨_,ae _,ae _,?_⟩;refine dZ 7 J V (aw J) (cU g2 J) J ?_;obtain ⟨b4,hb4,h⟩:=aa h;refine iL (fun l=>(((l.setIfInBounds 8 true).setIfInBounds 9 true).setIfInBounds 10 true)) 9 14 b4 (fun rest=> ?_) ?_
  ·clear h;refine jS 11 J (fun g4=> ?_) (fun g4=> ?_)
   ·have h:=ah g4 hb4;refine kK 8 J V (ab (us:=cc a0) 0 J J dz J) (bq g4 J) J ?_;obtain ⟨y5,hy5,h⟩:=aa h;refine ot 9 J V (al (co hy5) fx J (ac) bT) J (bq g4 J) J ?_;rintro _ _ ⟨_,⟨rfl,rfl⟩,rfl⟩;refine ⟨_,ae _,ae _,?_⟩;refine dZ 10 J V (eh g4 J J) (cU g2 J) J ?_;obtain rfl:=ap h;exact ft rest (cY J (aF (aF (aF bX J) J) J)) (ae _) (ae _)
   have h:=ai g4 hb4;refine cC 8 J V (fq g4 J) J ?_;refine cC 9 J V (fq g4 J) J ?_;refine dZ 10 J V (ei g4 J J) (cU g2 J) J ?_;obtain rfl:=ap h;exact ft rest (cY J (aF (aF (aF bX J) J) J)) (ae _) (ae _)
  refine zE 11 J (ei g2 J J) ?_;obtain rfl:=ap h;exact ft rest (cY J (aF (aF (aF (aF (aF bX J) J) J) J) J)) (ae _) (ae _)
 refine zE 12 J (aw J) ?_;obtain ⟨b6,hb6,h⟩:=aa h;refine iL (fun l=>(((((((l.setIfInBounds 13 true).setIfInBounds 14 true).setIfInBounds 15 true).setIfInBounds 16 true).setIfInBounds 17 true).setIfInBounds 18 true).setIfInBounds 19 true)) 0 23 b6 (fun rest=> ?_) ?_
 ·clear h;refine jS 16 J (fun g6=> ?_) (fun g6=> ?_)
  ·have h:=ah g6 hb6;refine cC 13 J V (yI g6 J) J ?_;refine cC 14 J V (yI g6 J) J ?_;refine cC 15 J V (yI g6 J) J ?_;refine cC 16 J V (yI g6 J) J ?_;refine cC 17 J V (yI g6 J) J ?_;refine cC 18 J V (yI g6 J) J ?_;refine zE 19 J (eh g6 J J) ?_;obtain rfl:=ap h;exact ft rest (cY J (aF (aF (aF (aF (aF (aF (aF bX J) J) J) J) J) J) J)) (ae _) (ae _)
  have h:=ai g6 hb6;refine dZ 13 J V (cb J D3) (cU g6 J) J ?_;refine kK 14 J V (aY 0 J J dv J) (cU g6 J) J ?_;refine kK 15 J V (ab (us:=cc a0) 0 J J dz J) (cU g6 J) J ?_;obtain ⟨y7,hy7,h⟩:=aa h;refine ot 16 J V (al (t7 hy7) Ez J (ac) rO) J (cU g6 J) J ?_;rintro _ _ ⟨_,⟨rfl,rfl⟩,rfl⟩;refine ⟨_,ae _,ae _,?_⟩;refine dZ 17 J V (jw J J) (cU g6 J) J ?_;refine dZ 18 J V (D6 J J) (cU g6 J) J ?_;refine zE 19 J (ei g6 J J) ?_;obtain rfl:=ap h;exact ft rest (cY J (aF (aF (aF (aF (aF (aF (aF bX J) J) J) J) J) J) J)) (ae _) (ae _)
 refine bz V ?_;refine eg ?_;refine au J (fun g8=> ?_) (fun g8=> ?_)
 ·replace h:=ah g8 h;refine Y ?_;obtain rfl:=ap h;exact aO J J (cS [] 1) ⟨J,J⟩
 replace h:=ai g8 h;refine Y ?_;refine az ?_;refine Y ?_;obtain ⟨b9,hb9,h⟩:=aa h;refine aN 5 33 b9 ?_ ?_
 ·clear h;refine aK 28 J (fun g9=> ?_) (fun g9=> ?_)
  ·have h:=ah g9 hb9;refine Y ?_;obtain rfl:=ap h;exact ad sA (cS [0] 1)
  have h:=ai g9 hb9;refine Y ?_;obtain rfl:=ap h;exact ad sA (cS [0] 1)
 refine Y ?_;obtain ⟨b10,hb10,h⟩:=aa h;refine aN 5 39 b10 ?_ ?_
 ·clear h;refine aK 34 J (fun g10=> ?_) (fun g10=> ?_)
  ·have h:=ah g10 hb10;refine Y ?_;obtain rfl:=ap h;exact ad sA (cS [0] 1)
  have h:=ai g10 hb10;refine Y ?_;refine ci (ab (us:=av a0.Get) 0 J J aD J) J (cU g10 J) J ?_;obtain ⟨y11,hy11,h⟩:=aa h;refine cr (al (vh hy11) Ey J (ac) sM) J (cU g10 J) J ?_;rintro _ _ ⟨_,⟨rfl,rfl⟩,rfl⟩;refine Y ?_;obtain rfl:=ap h;exact ad sA (cS [0] 1)
 refine Y ?_;obtain ⟨b12,hb12,h⟩:=aa h;refine aN 5 45 b12 ?_ ?_
 ·clear h;refine aK 40 J (fun g12=> ?_) (fun g12=> ?_)
  ·have h:=ah g12 hb12;refine Y ?_;obtain rfl:=ap h;exact ad sA (cS [0] 1)
  have h:=ai g12 hb12;refine Y ?_;refine ci (ab (us:=av a0.Set) 0 J J aD J) J (cU g12 J) J ?_;obtain ⟨y13,hy13,h⟩:=aa h;refine cr (al (vh hy13) Ey J (ac) sM) J (cU g12 J) J ?_;rintro _ _ ⟨_,⟨rfl,rfl⟩,rfl⟩;refine Y ?_;obtain rfl:=ap h;exact ad sA (cS [0] 1)
 refine Y ?_;refine au J (fun g14=> ?_) (fun g14=> ?_)
 ·replace h:=ah g14 h;refine Y ?_;obtain rfl:=ap h;exact aO J J (cS [] 1) ⟨J,J⟩
 replace h:=ai g14 h;refine Y ?_;refine gE (bd J (eM)) ?_;refine gD (aH d9 J) ?_;rintro _ _ ⟨B15,rfl,rfl⟩;refine gO (ar (us:=[iV 0,iV 0,.string (⟨#[]⟩)]) (cs':=[iV 0,iV 0,.string (⟨#[]⟩)]) 0 J J J J bm J J J) ?_;rintro _ _ rfl;refine Y ?_;refine gR (ab (us:=cc a0) 1 J J dz J) ?_;obtain ⟨y16,hy16,h⟩:=aa h;refine gD (al (co hy16) fx J (ac) bT) ?_;rintro _ _ ⟨_,⟨rfl,rfl⟩,rfl⟩;refine Y ?_;obtain ⟨b17,hb17,h⟩:=aa h;refine aN 5 54 b17 ?_ ?_
 ·clear h;refine aK 49 J (fun g17=> ?_) (fun g17=> ?_)
  ·have h:=ah g17 hb17;refine Y ?_;obtain rfl:=ap h;exact ad sA (cS [0,1] 2)
  have h:=ai g17 hb17;refine Y ?_;refine ci (ab (us:=av a0.Value) 1 J J aD J) J (cU g17 J) J ?_;refine ci (ab (us:=[iV 0,iV 0,.string (⟨#[]⟩)]) 0 J J aD J) J (cU g17 J) J ?_;refine d3 (mq (x:=a0.Value) (y:=(⟨0,0,⟨#[]⟩⟩:Mg)) J J) J (cU g17 J) J ?_;refine Y ?_;obtain rfl:=ap h;exact ad sA (cS [0,1] 2)
 refine Y ?_;obtain ⟨b18,hb18,h⟩:=aa h;refine aN 9 64 b18 ?_ ?_
 ·clear h;refine aK 55 J (fun g18=> ?_) (fun g18=> ?_)
  ·have h:=ah g18 hb18;refine ci (ab (us:=cc a0) 1 J J dz J) J (bq g18 J) J ?_;obtain ⟨y19,hy19,h⟩:=aa h;refine cr (al (co hy19) fx J (ac) bT) J (bq g18 J) J ?_;rintro _ _ ⟨_,⟨rfl,rfl⟩,rfl⟩;refine Y ?_;obtain ⟨b20,hb20,h⟩:=aa h;refine aN 5 63 b20 ?_ ?_
   ·clear h;refine aK 58 J (fun g20=> ?_) (fun g20=> ?_)
    ·have h:=ah g20 hb20;refine Y ?_;obtain rfl:=ap h;exact ad sA (cS [0,1] 2)
    have h:=ai g20 hb20;refine Y ?_;refine ci (ab (us:=av a0.Get) 1 J J aD J) J (cU g20 J) J ?_;refine ci (ab (us:=[iV 0,iV 0,.string (⟨#[]⟩)]) 0 J J aD J) J (cU g20 J) J ?_;refine d3 (mq (x:=a0.Get) (y:=(⟨0,0,⟨#[]⟩⟩:Mg)) J J) J (cU g20 J) J ?_;refine Y ?_;obtain rfl:=ap h;exact ad sA (cS [0,1] 2)
   refine Y ?_;obtain rfl:=ap h;exact ad sA (cS [0,1] 2)
  have h:=ai g18 hb18;refine Y ?_;obtain rfl:=ap h;exact ad sA (cS [0,1] 2)
 refine Y ?_;obtain ⟨b21,hb21,h⟩:=aa h;refine aN 9 74 b21 ?_ ?_
 ·clear h;refine aK 65 J (fun g21=> ?_) (fun g21=> ?_)
  ·have h:=ah g21 hb21;refine ci (ab (us:=cc a0) 1 J J dz J) J (bq g21 J) J ?_;obtain ⟨y22,hy22,h⟩:=aa h;refine cr (al (co hy22) fx J (ac) bT) J (bq g21 J) J ?_;rintro _ _ ⟨_,⟨rfl,rfl⟩,rfl⟩;refine Y ?_;obtain ⟨b23,hb23,h⟩:=aa h;refine aN 5 73 b23 ?_ ?_
   ·clear h;refine aK 68 J (fun g23=> ?_) (fun g23=> ?_)
    ·have h:=ah g23 hb23;refine Y ?_;obtain rfl:=ap h;exact ad sA (cS [0,1] 2)
    have h:=ai g23 hb23;refine Y ?_;refine ci (ab (us:=av a0.Set) 1 J J aD J) J (cU g23 J) J ?_;refine ci (ab (us:=[iV 0,iV 0,.string (⟨#[]⟩)]) 0 J J aD J) J (cU g23 J) J ?_;refine d3 (mq (x:=a0.Set) (y:=(⟨0,0,⟨#[]⟩⟩:Mg)) J J) J (cU g23 J) J ?_;refine Y ?_;obtain rfl:=ap h;exact ad sA (cS [0,1] 2)
   refine Y ?_;obtain rfl:=ap h;exact ad sA (cS [0,1] 2)
  have h:=ai g21 hb21;refine Y ?_;obtain rfl:=ap h;exact ad sA (cS [0,1] 2)
 refine Y ?_;obtain rfl:=ap h;exact aO J J (cS [] 2) ⟨J,J⟩
theorem xf {r:Bool}: ∀v post,((fun (u:Value) (post:List Chunk)=>u=.bool r∧post=[])) v post→ ∀c∈post,bV c:=by
 rintro _ _ ⟨rfl,rfl⟩;exact ac
def eW (N:Nat)(a0:Mh)(a1:Int)(a2:Mn):Option (Int×Int×Mh):=
 (eO N a0 a1 a2 0).bind fun y5=>bif !decide (y5=0) then (some (0,y5,a0)) else ((ed N a0 a1 a2).bind fun y7=>bif !y7.2.2 then (some (0,3,a0)) else ((fC N a0 a1 y7.1).bind fun y9=>(eE N a0 a1).bind fun y10=>cR (bK (y7.1+1)) (cR ((0:Int)≤y7.1+1∧(y7.1+1).toNat≤y10.length∧y10.length≤y10.length) ((gQ N a0 y9 ((y10.drop ((y7.1+1).toNat)).take (y10.length - (y7.1+1).toNat))).bind fun y15=>some (y15.1,y15.2.1,y15.2.2)))))
theorem ri {N:Nat}{a0:Mh}{a1:Int}{a2:Mn}{r:(Int×Int×Mh)}(h:eW N a0 a1 a2=some r):Okc Tryz.prog 119 [pV B1 0,iV a1,(eZ a2)] ([aj B1 205 [I A2 n2 c2,.map (some M3)],cI A2 n2 c2 a0.shapes_,aJ aG cu M3 a0.next_]) (fun u post=> ∃A0 n0 c0 M1,u=.tuple #[iV r.1,iV r.2.1]∧post=[aj B1 205 [I A0 n0 c0,.map (some M1)],cI A0 n0 c0 r.2.2.shapes_,aJ aG cu M1 r.2.2.next_]):=by
 refine br Tryz.func119 J J ?_;simp only [aS];refine Y ?_;refine gD (aL J J) ?_;rintro _ _ ⟨B4,rfl,rfl⟩;refine Y ?_;refine az ?_;refine Y ?_;refine gR (ab (us:=bR a2) 0 J J bB J) ?_;obtain ⟨y5,hy5,h⟩:=aa h;refine gD (al (jW hy5) Bw J (hD (aB (i:=1) J) (hD (aq (i:=2) J) (hD (bc (i:=3) J) ac))) iS) ?_;rintro _ _ ⟨_,⟨rfl,rfl⟩,rfl⟩;refine Y ?_;refine au J (fun g6=> ?_) (fun g6=> ?_)
 ·replace h:=ah g6 h;refine Y ?_;obtain rfl:=ap h;exact cT J J J (cS [1,2,3] 4) ⟨_,_,_,_,J,J⟩
 replace h:=ai g6 h;refine Y ?_;refine gR (ab (us:=bR a2) 0 J J bB J) ?_;obtain ⟨y7,hy7,h⟩:=aa h;refine gD (al (iq hy7) xH J (hD (aB (i:=1) J) (hD (aq (i:=2) J) (hD (bc (i:=3) J) ac))) gr) ?_;rintro _ _ ⟨_,⟨rfl,rfl⟩,rfl⟩;refine Y ?_;refine az ?_;refine Y ?_;refine au J (fun g8=> ?_) (fun g8=> ?_)
 ·replace h:=ah g8 h;refine Y ?_;obtain rfl:=ap h;exact cT J J J (cS [1,2,3] 4) ⟨_,_,_,_,J,J⟩
 replace h:=ai g8 h;refine Y ?_;obtain ⟨y9,hy9,h⟩:=aa h;refine gD (al (mE hy9) Ep J (hD (aB (i:=1) J) (hD (aq (i:=2) J) (hD (bc (i:=3) J) ac))) lI) ?_;rintro _ _ ⟨_,⟨rfl,rfl⟩,rfl⟩;refine Y ?_;obtain ⟨y10,hy10,h⟩:=aa h;refine gD (al (iQ hy10) xG J (hD (aB (i:=1) J) (hD (aq (i:=2) J) (hD (bc (i:=3) J) ac))) gP) ?_;rintro _ _ ⟨_,⟨A11,n11,c11,rfl,rfl⟩,rfl⟩;refine Y ?_;obtain ⟨q12,h⟩:=ay h;refine gE (bE J J q12.1 q12.2) ?_;refine lN (dj 0 J) ?_;obtain ⟨q13,h⟩:=ay h;refine Jr 0 J (l:=(y7.1+1).toNat) (h:=y10.length) q13.2.1 q13.2.2 ?_;rintro A14 n14 c14 e14;refine gR (xr 1 J e14 J LS dD J (by rw [Int.toNat_of_nonneg q13.1];rfl) q13.2.1) ?_;obtain ⟨y15,hy15,h⟩:=aa h;refine gD (aE (ly hy15) Bv J (aC [0] [3,4,5] [0,1,2] 6 J)) ?_;rintro _ _ ⟨_,⟨A16,n16,c16,M17,rfl,rfl⟩,rfl⟩;refine Y ?_;obtain rfl:=ap h;exact cT J J J (cS [0,1,2] 6) ⟨_,_,_,_,J,J⟩
def jh (N:Nat)(a0:Md)(a1:Mg)(a2:Mn):Option (Bool×Md):=
 (dc N a0 a1).bind fun y17=>AA y17 (fun y17_0=>some (false,a0)) (fun y17_1=>(cH N (⟨y17_1.Cell,a0,y17_1.at_⟩:Ml) a2).bind fun y35=>bif !y35.2.2 then (some (true,a0)) else (bif decide (aM .i64 y35.1.Attrs 4=0) then (some (false,a0)) else ((dg N a0).bind fun y39=>(eW N a0.shapes_ y17_1.Cell.Shape a2).bind fun y40=>bif !decide (y40.2.1=0) then (some (false,(⟨a0.spent_,a0.config_,(),a0.heap_,y40.2.2,a0.symbols_,a0.epoch_,a0.serial_,a0.sleepers_,a0.events_,a0.out_⟩:Md))) else (cR (bK (y35.2.1+1)) (cR (bK (y35.2.1+2)) ((ln N y17_1.Cell.Slots (y35.2.1+1) (y35.2.1+2)).bind fun y46=>(dh N (⟨(⟨y17_1.Cell.Kind,y40.1,y17_1.Cell.Flags,y17_1.Cell.Age,y46,y17_1.Cell.More⟩:Mb),(⟨a0.spent_,a0.config_,(),a0.heap_,y40.2.2,a0.symbols_,a0.epoch_,a0.serial_,a0.sleepers_,a0.events_,a0.out_⟩:Md),y17_1.at_⟩:Ml) true).bind fun y48=>some (true,y48.w_)))))))
set_option maxHeartbeats 4000000 in
theorem qL {N:Nat}{a0:Md}{a1:Mg}{a2:Mn}{r:(Bool×Md)}(h:jh N a0 a1 a2=some r):Okc Tryz.prog 38 [pV B1 0,(aZ a1),(eZ a2)] ([bv A12 n12 c12 a0.symbols_,cE A13 n13 c13 a0.events_,bv A14 n14 c14 a0.out_,aj B1 151 (Wk a0 B2 B9 A12 n12 c12 A13 n13 c13 A14 n14 c14),aj B2 199 [I A3 n3 c3,I A4 n4 c4,I A5 n5 c5,I A6 n6 c6,pV B7 0],bx A3 n3 c3 a0.heap_.m_.Young,bx A4 n4 c4 a0.heap_.m_.Old,ba A5 n5 c5 a0.heap_.roots_,ba A6 n6 c6 a0.heap_.pending_,aj B7 247 [.map (some M8)],aJ cv cx M8 a0.heap_.set_.at_,aj B9 205 [I A10 n10 c10,.map (some M11)],cI A10 n10 c10 a0.shapes_.shapes_,aJ aG cu M11 a0.shapes_.next_]) (fun u post=> ∃A0 n0 c0 A1 n1 c1 A2 n2 c2 A3 n3 c3 M4 A5 n5 c5 M6 A7 n7 c7 A8 n8 c8 A9 n9 c9,u=.bool r.1∧post=[aj B1 151 (Wk r.2 B2 B9 A7 n7 c7 A8 n8 c8 A9 n9 c9),aj B2 199 [I A0 n0 c0,I A1 n1 c1,I A2 n2 c2,I A3 n3 c3,pV B7 0],bx A0 n0 c0 r.2.heap_.m_.Young,bx A1 n1 c1 r.2.heap_.m_.Old,ba A2 n2 c2 r.2.heap_.roots_,ba A3 n3 c3 r.2.heap_.pending_,aj B7 247 [.map (some M4)],aJ cv cx M4 r.2.heap_.set_.at_,aj B9 205 [I A5 n5 c5,.map (some M6)],cI A5 n5 c5 r.2.shapes_.shapes_,aJ aG cu M6 r.2.shapes_.next_,bv A7 n7 c7 r.2.symbols_,cE A8 n8 c8 r.2.events_,bv A9 n9 c9 r.2.out_]):=by
 refine br Tryz.func38 J J ?_;simp only [aS];refine Y ?_;refine gD (aL J J) ?_;rintro _ _ ⟨B15,rfl,rfl⟩;refine gD (aL J J) ?_;rintro _ _ ⟨B16,rfl,rfl⟩;refine Y ?_;refine gR (ab (us:=av a1) 1 J J aD J) ?_;obtain ⟨y17,hy17,h⟩:=aa h;rcases y17 with y17_0|y17_1
 ·replace h:=BQ h;refine gD (aE (bO hy17) eL J (aC [2,3,4] [5,6,7,8,9,10,11,12,13,14,15] [0,1,2,3,4] 16 J)) ?_;rintro _ _ ⟨_,⟨rfl,rfl⟩,rfl⟩;refine Y ?_;refine az ?_;refine Y ?_;refine eN J ?_;refine Y ?_;obtain rfl:=ap h;exact aO J J (cS [0,1,2,3,4,5,6,7,8,9,10,13,14,15] 16) ⟨_,_,_,_,_,_,_,_,_,_,_,_,_,_,_,_,_,_,_,_,_,_,_,_,_,_,J,J⟩
 replace h:=BP h;refine gD (aE (bO hy17) eL J (aC [2,3,4] [5,6,7,8,9,10,11,12,13,14,15] [0,1,2,3,4] 16 J)) ?_;rintro _ _ ⟨_,⟨B18,A19,n19,c19,A20,n20,c20,rfl,rfl⟩,rfl⟩;refine Y ?_;refine az ?_;refine Y ?_;refine fI J ?_;refine Y ?_;refine gR (ab (us:=bR a2) 14 J J bB J) ?_;obtain ⟨y35,hy35,h⟩:=aa h;refine gD (al (iu hy35) xO J (hD (aB (i:=0) J) (hD (aq (i:=1) J) (hD (aq (i:=2) J) (hD (aB (i:=3) J) (hD (aB (i:=4) J) (hD (aq (i:=5) J) (hD (aq (i:=6) J) (hD (aq (i:=7) J) (hD (aq (i:=8) J) (hD (aB (i:=9) J) (hD (bc (i:=10) J) (hD (aB (i:=11) J) (hD (aq (i:=12) J) (hD (bc (i:=13) J) (hD (ao (i:=16) J J) (hD (ao (i:=17) J J) (hD (ao (i:=18) J J) ac))))))))))))))))) gu) ?_;rintro _ _ ⟨_,⟨rfl,rfl⟩,rfl⟩;refine Y ?_;refine gD (aH cF J) ?_;rintro _ _ ⟨B36,rfl,rfl⟩;refine gO (ar (us:=aP y35.1) (cs':=aP y35.1) 0 J J J J bJ J J J) ?_;rintro _ _ rfl;refine bL ?_;refine Y ?_;refine az ?_;refine Y ?_;refine au J (fun g37=> ?_) (fun g37=> ?_)
 ·replace h:=ah g37 h;refine Y ?_;obtain rfl:=ap h;exact aO J J (cS [4,5,6,7,8,9,10,11,12,13,14,17,18,19] 20) ⟨_,_,_,_,_,_,_,_,_,_,_,_,_,_,_,_,_,_,_,_,_,_,_,_,_,_,J,J⟩
 replace h:=ai g37 h;refine Y ?_;refine az ?_;refine Y ?_;refine gE (bD J J) ?_;refine Y ?_;refine au J (fun g38=> ?_) (fun g38=> ?_)
 ·replace h:=ah g38 h;refine Y ?_;obtain rfl:=ap h;exact aO J J (cS [4,5,6,7,8,9,10,11,12,13,14,17,18,19] 20) ⟨_,_,_,_,_,_,_,_,_,_,_,_,_,_,_,_,_,_,_,_,_,_,_,_,_,_,J,J⟩
 replace h:=ai g38 h;refine Y ?_;refine az ?_;refine bF V ([aj B36 42 (aP y35.1),aj B18 140 [iV y17_1.Cell.Kind,iV y17_1.Cell.Shape,iV y17_1.Cell.Flags,iV y17_1.Cell.Age,I A19 n19 c19,I A20 n20 c20,pV B1 0,iV y17_1.at_.Kind,iV y17_1.at_.N,.string y17_1.at_.S],ba A19 n19 c19 y17_1.Cell.Slots,ba A20 n20 c20 y17_1.Cell.More,aj B1 151 (Wk a0 B2 B9 A12 n12 c12 A13 n13 c13 A14 n14 c14),aj B2 199 [I A3 n3 c3,I A4 n4 c4,I A5 n5 c5,I A6 n6 c6,pV B7 0],bx A3 n3 c3 a0.heap_.m_.Young,bx A4 n4 c4 a0.heap_.m_.Old,ba A5 n5 c5 a0.heap_.roots_,ba A6 n6 c6 a0.heap_.pending_,aj B7 247 [.map (some M8)],aJ cv cx M8 a0.heap_.set_.at_,aj B16 24 (bR a2),aj B15 30 (av a1),bv A12 n12 c12 a0.symbols_,cE A13 n13 c13 a0.events_,bv A14 n14 c14 a0.out_]) (cS [0,1,2,3,4,5,6,7,8,9,10,11,15,16,17,18,19] 20) ?_;refine zE 0 J (aw J) ?_;refine zE 2 J (aw J) ?_;refine zE 3 J (bf J) ?_;refine zE 4 J (dN J fF) ?_;refine zE 5 J (cb J nO) ?_;refine zR 6 J (aY 1 J J dv J) ?_;refine zR 7 J (ab (us:=bR a2) 12 J J bB J) ?_;obtain ⟨y39,hy39,h⟩:=aa h
 refine zD 1 J (al (dW hy39) tz J (hD (aB (i:=4) J) (hD (aB (i:=5) J) (hD (aq (i:=6) J) (hD (aq (i:=7) J) (hD (aq (i:=8) J) (hD (aq (i:=9) J) (hD (aB (i:=10) J) (hD (bc (i:=11) J) (hD (aB (i:=12) J) (hD (aq (i:=13) J) (hD (bc (i:=14) J) (hD (ao (i:=17) J J) (hD (ao (i:=18) J J) (hD (ao (i:=19) J J) ac)))))))))))))) dA) ?_;rintro _ _ ⟨_,⟨rfl,rfl⟩,rfl⟩;refine dB (cS [0,1,2,3,4,5,6,7,8,9,10,11,15,16,17,18,19] 20) ?_;obtain ⟨y40,hy40,h⟩:=aa h;refine zD 8 J (aE (ri hy40) IU J (aC [] [12,13,14] [0,1,2,3,4,5,6,7,8,9,10,11,15,16,17,18,19] 20 J)) ?_;rintro _ _ ⟨_,⟨A41,n41,c41,M42,rfl,rfl⟩,rfl⟩;refine dB (cS [3,4,5,6,7,8,9,10,11,12,13,14,15,16,17,18,19] 20) ?_;refine cX ?_;refine zE 9 J (aw J) ?_;refine zE 10 J (bi J J) ?_;refine zE 11 J (bi J J) ?_;refine zE 12 J (be J) ?_;refine zE 13 J (be J) ?_;refine bz V ?_;refine eg ?_;refine az ?_;refine Y ?_;refine au J (fun g43=> ?_) (fun g43=> ?_)
 ·replace h:=ah g43 h;refine Y ?_;obtain rfl:=ap h;exact aO J J (cS [7,8,9,10,11,12,13,14,0,1,2,17,18,19] 20) ⟨_,_,_,_,_,_,_,_,_,_,_,_,_,_,_,_,_,_,_,_,_,_,_,_,_,_,J,J⟩
 replace h:=ai g43 h;refine Y ?_;refine gO (ar (us:=[iV y40.1]) (cs':=[iV y17_1.Cell.Kind,iV y40.1,iV y17_1.Cell.Flags,iV y17_1.Cell.Age,I A19 n19 c19,I A20 n20 c20,pV B1 0,iV y17_1.at_.Kind,iV y17_1.at_.N,.string y17_1.at_.S]) 4 J J J J gz J J J) ?_;rintro _ _ rfl;refine Y ?_;obtain ⟨q44,h⟩:=ay h;refine gE (bE J J q44.1 q44.2) ?_;refine Y ?_;obtain ⟨q45,h⟩:=ay h;refine gE (bE J J q45.1 q45.2) ?_;obtain ⟨y46,hy46,h⟩:=aa h;refine gD (aE (vR hy46) IT J (aC [] [5] [0,1,2,3,4,6,7,8,9,10,11,12,13,14,15,16,17,18,19] 20 J)) ?_;rintro _ _ ⟨_,⟨A47,n47,c47,rfl,rfl⟩,rfl⟩;refine Y ?_;refine gO (ar (us:=[I A47 n47 c47]) (cs':=[iV y17_1.Cell.Kind,iV y40.1,iV y17_1.Cell.Flags,iV y17_1.Cell.Age,I A47 n47 c47,I A20 n20 c20,pV B1 0,iV y17_1.at_.Kind,iV y17_1.at_.N,.string y17_1.at_.S]) 5 J J J J nW J J J) ?_;rintro _ _ rfl;refine bL ?_;refine Y ?_;obtain ⟨y48,hy48,h⟩:=aa h;refine gD (aE (gv hy48) xM J (aC [17,18,19] [5,0,6,7,8,9,10,11,12,13,14,1,2,3] [4,15,16,17,18,19] 20 J)) ?_;rintro _ _ ⟨_,⟨A49,n49,c49,A50,n50,c50,A51,n51,c51,A52,n52,c52,A53,n53,c53,A54,n54,c54,M55,A56,n56,c56,M57,A58,n58,c58,A59,n59,c59,A60,n60,c60,rfl,rfl⟩,rfl⟩;refine Y ?_;obtain rfl:=ap h;exact aO J J (cS [3,4,5,6,7,8,9,10,11,12,13,14,15,16] 23) ⟨_,_,_,_,_,_,_,_,_,_,_,_,_,_,_,_,_,_,_,_,_,_,_,_,_,_,J,J⟩
end Go.Proofs.YtanojiedimeegaaGreatDoor