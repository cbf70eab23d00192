/- Merged texts: part 5. No conditions of their own. -/
import Derived.Test.YtanojiedimeegaaGreatDoorG4
namespace Go.Proofs.YtanojiedimeegaaGreatDoor
theorem LR:type_of% Tryz.underlying245:=Tryz.underlying245
theorem LQ:type_of% Tryz.underlying211:=Tryz.underlying211
theorem LP:type_of% Tryz.underlying4:=Tryz.underlying4
theorem LO:type_of% Tryz.underlying82:=Tryz.underlying82
variable {A1 A10 A12 A13 A14 A15 A16 A2 A3 A4 A5 A6:Option Addr} {B1 B2 B6 B7 B9 M11 M2 M7 M8 c1 c10 c12 c13 c14 c15 c16 c2 c3 c4 c5 c6 n1 n10 n12 n13 n14 n15 n16 n2 n3 n4 n5 n6:Nat}
open Go.RowKit Asn
set_option maxRecDepth 20000
def uB (N:Nat):Option Bool:=
 some true
def ku (N:Nat)(kb5:Int→Int→Option Bool)(p7:Int)(a0:Mr)(p10:Int):Option Bool:=
 cR (bK (p7+1)) (kb5 p10 (p7+1))
def jt (N:Nat)(kb5:Int→Int→Option Bool)(p6:Int)(x11:Me)(p7:Int)(a0:Mr)(p26:Bool):Option Bool:=
 bif p26 then (bif !decide (x11.Value=(⟨x11.Value.Kind,0,⟨#[]⟩⟩:Mg)) then (some false) else (ku N kb5 p7 a0 (p6+((x11.Key.S.size:Int)+(x11.Value.S.size:Int))))) else (bif decide (x11.Value.Kind=3) then ((bif !(x11.Value.S.toList==(⟨#[]⟩:ByteArray).toList) then (some true) else (some (decide (x11.Value.N<(-9007199254740992))))).bind fun b32=>(bif b32 then (some true) else (some (decide (9007199254740992<x11.Value.N)))).bind fun b33=>bif b33 then (some false) else (ku N kb5 p7 a0 (p6+((x11.Key.S.size:Int)+(x11.Value.S.size:Int))))) else (bif decide (x11.Value.Kind=5) then ((bif !decide (x11.Value.N=0) then (some true) else (some (decide (65536<(x11.Value.S.size:Int))))).bind fun b36=>bif b36 then (some false) else (ku N kb5 p7 a0 (p6+((x11.Key.S.size:Int)+(x11.Value.S.size:Int))))) else (some false)))
def fv (N:Nat)(a0:Mr):Nat→Int→Int→Option Bool
 |0,_,_=>none
 |m5+1,p6,p7=>bif decide (p7<(a0.Props.length:Int)) then ((bU a0.Props p7).bind fun x11=>cR (bK ((x11.Key.S.size:Int)+(x11.Value.S.size:Int))) (cR (bK (p6+((x11.Key.S.size:Int)+(x11.Value.S.size:Int)))) ((bif decide (70000<p6+((x11.Key.S.size:Int)+(x11.Value.S.size:Int))) then (some true) else ((pW N x11.Key).bind fun y16=>some (!y16))).bind fun b15=>(bif b15 then (some true) else ((lp N x11).bind fun y18=>some (!y18))).bind fun b17=>(bif b17 then (some true) else (some (decide (x11.Value.Kind=7)))).bind fun b19=>(bif b19 then (some true) else (some (decide (x11.Get.Kind=7)))).bind fun b20=>(bif b20 then (some true) else (some (decide (x11.Set.Kind=7)))).bind fun b21=>(bif b21 then (some true) else ((bif decide (x11.Key.Kind=0) then (some (decide (50<x11.Key.N))) else (some false)).bind fun b23=>some b23)).bind fun b22=>bif b22 then (some false) else (bif decide (x11.Value.Kind=0) then (jt N (fv N a0 m5) p6 x11 p7 a0 (decide (x11.Value.Kind=0))) else (bif decide (x11.Value.Kind=1) then (jt N (fv N a0 m5) p6 x11 p7 a0 (decide (x11.Value.Kind=1))) else (jt N (fv N a0 m5) p6 x11 p7 a0 (decide (x11.Value.Kind=4)))))))) else (uB N)
def lF (N:Nat)(a0:Mr):Option Bool:=
 bif decide (30<(a0.Props.length:Int)) then (some false) else (fv N a0 N 0 0)
set_option maxHeartbeats 4000000 in
theorem uA {N:Nat}{a0:Mr}{r:Bool}(h:lF N a0=some r):Okc Tryz.prog 49 [.agg #[.bool a0.Array,iV a0.Elements,I A1 n1 c1,.bool a0.Shut]] ([wc A1 n1 c1 a0.Props]) (fun u post=>u=.bool r∧post=[]):=by
 refine br Tryz.func49 J J ?_;simp only [aS];refine Y ?_;refine gD (aL J J) ?_;rintro _ _ ⟨B2,rfl,rfl⟩;refine Y ?_;refine az ?_;refine Y ?_;refine gR (bG 1 J aU J LO) ?_;refine Y ?_;refine au J (fun g3=> ?_) (fun g3=> ?_)
 ·replace h:=ah g3 h;refine Y ?_;obtain rfl:=ap h;exact aO J J (cS [] 2) ⟨J,J⟩
 replace h:=ai g3 h;refine Y ?_;refine aW (fun s L=>uB N=some r∧s=[(2,.bool false)]∧L=[]) ?_ ?_
 ·refine Y ?_;refine bN (fun m s L=> ∃p6 p7,fv N a0 m p6 p7=some r∧s=[(1,pV B2 0),(2,.bool false),(3,iV p6),(4,iV p7)]∧L=[wc A1 n1 c1 a0.Props,aj B2 84 [.bool a0.Array,iV a0.Elements,I A1 n1 c1,.bool a0.Shut]]) N _ _ ⟨0,0,h,J,J⟩ sA (cS [1,0] 2) ?_;rintro (_|m5) _ _ ⟨p6,p7,h,rfl,rfl⟩
  ·exact bg h
  rw [fv.eq_2] at h;refine az ?_;refine Y ?_;refine gR (bG 0 J aU J LO) ?_;refine Y ?_;refine au J (fun g8=> ?_) (fun g8=> ?_)
  ·replace h:=ah g8 h;refine Y ?_;refine aW (fun s L=> ∃p10,ku N (fv N a0 m5) p7 a0 p10=some r∧s=[(1,pV B2 0),(2,.bool false),(3,iV p10),(4,iV p7)]∧L=[wc A1 n1 c1 a0.Props,aj B2 84 [.bool a0.Array,iV a0.Elements,I A1 n1 c1,.bool a0.Shut]]) ?_ ?_
   ·refine Y ?_;obtain ⟨x11,hx11,h⟩:=aa h;obtain ⟨lx11,ux11,hx11⟩:=aI hx11;refine gR (bp 0 J aU J J LO bJ lx11 ux11) ?_;refine gR (bj (us:=aP x11) 0 J aU J hx11 cq (fun _ _ _ h=>by rw [show _=_ from h];rfl)) ?_;refine gD (aH cF J) ?_;rintro _ _ ⟨B12,rfl,rfl⟩;refine gO (ar (us:=aP x11) (cs':=aP x11) 0 J J J J bJ J J J) ?_;rintro _ _ rfl;refine Y ?_;refine gE (ls J Ex) ?_;refine Y ?_;refine gE (ls J Ex) ?_;obtain ⟨q13,h⟩:=ay h;refine gE (bE J J q13.1 q13.2) ?_;obtain ⟨q14,h⟩:=ay h;refine gE (bE J J q14.1 q14.2) ?_;refine Y ?_;refine az ?_;refine Y ?_;obtain ⟨b15,hb15,h⟩:=aa h;refine aN 5 40 b15 ?_ ?_
    ·clear h;refine aK 35 J (fun g15=> ?_) (fun g15=> ?_)
     ·have h:=ah g15 hb15;refine Y ?_;obtain rfl:=ap h;exact ad sA (cS [0,1,2] 3)
     have h:=ai g15 hb15;refine Y ?_;refine ci (ab (us:=bR x11.Key) 0 J J bB J) J (cU g15 J) J ?_;obtain ⟨y16,hy16,h⟩:=aa h;refine cr (al (AH hy16) J8 J (ac) yi) J (cU g15 J) J ?_;rintro _ _ ⟨_,⟨rfl,rfl⟩,rfl⟩;refine Y ?_;obtain rfl:=ap h;exact ad sA (cS [0,1,2] 3)
    refine Y ?_;obtain ⟨b17,hb17,h⟩:=aa h;refine aN 4 45 b17 ?_ ?_
    ·clear h;refine aK 41 J (fun g17=> ?_) (fun g17=> ?_)
     ·have h:=ah g17 hb17;refine Y ?_;obtain rfl:=ap h;exact ad sA (cS [0,1,2] 3)
     have h:=ai g17 hb17;refine ci (ab (us:=aP x11) 0 J J cq J) J (cU g17 J) J ?_;obtain ⟨y18,hy18,h⟩:=aa h;refine cr (al (vW hy18) IS J (ac) uk) J (cU g17 J) J ?_;rintro _ _ ⟨_,⟨rfl,rfl⟩,rfl⟩;refine Y ?_;obtain rfl:=ap h;exact ad sA (cS [0,1,2] 3)
    refine Y ?_;obtain ⟨b19,hb19,h⟩:=aa h;refine aN 5 51 b19 ?_ ?_
    ·clear h;refine aK 46 J (fun g19=> ?_) (fun g19=> ?_)
     ·have h:=ah g19 hb19;refine Y ?_;obtain rfl:=ap h;exact ad sA (cS [0,1,2] 3)
     have h:=ai g19 hb19;refine Y ?_;obtain rfl:=ap h;exact ad sA (cS [0,1,2] 3)
    refine Y ?_;obtain ⟨b20,hb20,h⟩:=aa h;refine aN 5 57 b20 ?_ ?_
    ·clear h;refine aK 52 J (fun g20=> ?_) (fun g20=> ?_)
     ·have h:=ah g20 hb20;refine Y ?_;obtain rfl:=ap h;exact ad sA (cS [0,1,2] 3)
     have h:=ai g20 hb20;refine Y ?_;obtain rfl:=ap h;exact ad sA (cS [0,1,2] 3)
    refine Y ?_;obtain ⟨b21,hb21,h⟩:=aa h;refine aN 5 63 b21 ?_ ?_
    ·clear h;refine aK 58 J (fun g21=> ?_) (fun g21=> ?_)
     ·have h:=ah g21 hb21;refine Y ?_;obtain rfl:=ap h;exact ad sA (cS [0,1,2] 3)
     have h:=ai g21 hb21;refine Y ?_;obtain rfl:=ap h;exact ad sA (cS [0,1,2] 3)
    refine Y ?_;obtain ⟨b22,hb22,h⟩:=aa h;refine aN 11 75 b22 ?_ ?_
    ·clear h;refine aK 64 J (fun g22=> ?_) (fun g22=> ?_)
     ·have h:=ah g22 hb22;refine Y ?_;obtain rfl:=ap h;exact ad sA (cS [0,1,2] 3)
     have h:=ai g22 hb22;refine Y ?_;obtain ⟨b23,hb23,h⟩:=aa h;refine aN 5 74 b23 ?_ ?_
     ·clear h;refine aK 69 J (fun g23=> ?_) (fun g23=> ?_)
      ·have h:=ah g23 hb23;refine Y ?_;obtain rfl:=ap h;exact ad sA (cS [0,1,2] 3)
      have h:=ai g23 hb23;refine Y ?_;obtain rfl:=ap h;exact ad sA (cS [0,1,2] 3)
     refine Y ?_;obtain rfl:=ap h;exact ad sA (cS [0,1,2] 3)
    refine Y ?_;refine au J (fun g24=> ?_) (fun g24=> ?_)
    ·replace h:=ah g24 h;refine Y ?_;obtain rfl:=ap h;exact aO J J (cS [] 3) ⟨J,J⟩
    replace h:=ai g24 h;refine Y ?_;refine aW (fun s L=> ∃p26,jt N (fv N a0 m5) p6 x11 p7 a0 p26=some r∧s=[(1,pV B2 0),(2,.bool false),(3,iV (p6+((x11.Key.S.size:Int)+(x11.Value.S.size:Int)))),(4,iV p7),(5,pV B12 0),(78,iV x11.Value.Kind),(79,.bool p26)]∧L=[wc A1 n1 c1 a0.Props,aj B2 84 [.bool a0.Array,iV a0.Elements,I A1 n1 c1,.bool a0.Shut],aj B12 42 (aP x11)]) ?_ ?_
    ·refine Y ?_;refine au J (fun g27=> ?_) (fun g27=> ?_)
     ·replace h:=ah g27 h;refine Y ?_;exact ⟨_,_,⟨decide (x11.Value.Kind=0),h,J,J⟩,sA,cS [1,2,0] 3⟩
     replace h:=ai g27 h;refine Y ?_;refine au J (fun g28=> ?_) (fun g28=> ?_)
     ·replace h:=ah g28 h;refine Y ?_;exact ⟨_,_,⟨decide (x11.Value.Kind=1),h,J,J⟩,sA,cS [1,2,0] 3⟩
     replace h:=ai g28 h;refine Y ?_;exact ⟨_,_,⟨decide (x11.Value.Kind=4),h,J,J⟩,sA,cS [1,2,0] 3⟩
    rintro _ _ ⟨p26,h,rfl,rfl⟩;refine au J (fun g29=> ?_) (fun g29=> ?_)
    ·replace h:=ah g29 h;refine Y ?_;refine gR (ab (us:=av x11.Value) 2 J J aD J) ?_;refine Y ?_;refine gE (bd J (sV _)) ?_;refine gE (wi (x:=x11.Value) (y:=(⟨x11.Value.Kind,0,⟨#[]⟩⟩:Mg)) J J) ?_;refine Y ?_;refine au J (fun g30=> ?_) (fun g30=> ?_)
     ·replace h:=ah g30 h;refine Y ?_;obtain rfl:=ap h;exact aO J J (cS [] 3) ⟨J,J⟩
     replace h:=ai g30 h;refine Y ?_;exact ⟨_,_,⟨p6+((x11.Key.S.size:Int)+(x11.Value.S.size:Int)),h,J,J⟩,sA,cS [0,1] 3⟩
    replace h:=ai g29 h;refine Y ?_;refine au J (fun g31=> ?_) (fun g31=> ?_)
    ·replace h:=ah g31 h;refine Y ?_;refine gE (yO J J) ?_;refine Y ?_;obtain ⟨b32,hb32,h⟩:=aa h;refine aN 5 101 b32 ?_ ?_
     ·clear h;refine aK 96 J (fun g32=> ?_) (fun g32=> ?_)
      ·have h:=ah g32 hb32;refine Y ?_;obtain rfl:=ap h;exact ad sA (cS [0,1,2] 3)
      have h:=ai g32 hb32;refine Y ?_;obtain rfl:=ap h;exact ad sA (cS [0,1,2] 3)
     refine Y ?_;obtain ⟨b33,hb33,h⟩:=aa h;refine aN 5 107 b33 ?_ ?_
     ·clear h;refine aK 102 J (fun g33=> ?_) (fun g33=> ?_)
      ·have h:=ah g33 hb33;refine Y ?_;obtain rfl:=ap h;exact ad sA (cS [0,1,2] 3)
      have h:=ai g33 hb33;refine Y ?_;obtain rfl:=ap h;exact ad sA (cS [0,1,2] 3)
     refine Y ?_;refine au J (fun g34=> ?_) (fun g34=> ?_)
     ·replace h:=ah g34 h;refine Y ?_;obtain rfl:=ap h;exact aO J J (cS [] 3) ⟨J,J⟩
     replace h:=ai g34 h;refine Y ?_;exact ⟨_,_,⟨p6+((x11.Key.S.size:Int)+(x11.Value.S.size:Int)),h,J,J⟩,sA,cS [0,1] 3⟩
    replace h:=ai g31 h;refine Y ?_;refine au J (fun g35=> ?_) (fun g35=> ?_)
    ·replace h:=ah g35 h;refine Y ?_;obtain ⟨b36,hb36,h⟩:=aa h;refine aN 6 120 b36 ?_ ?_
     ·clear h;refine aK 114 J (fun g36=> ?_) (fun g36=> ?_)
      ·have h:=ah g36 hb36;refine Y ?_;obtain rfl:=ap h;exact ad sA (cS [0,1,2] 3)
      have h:=ai g36 hb36;refine Y ?_;refine d3 (ls J Ex) J (cU g36 J) J ?_;refine Y ?_;obtain rfl:=ap h;exact ad sA (cS [0,1,2] 3)
     refine Y ?_;refine au J (fun g37=> ?_) (fun g37=> ?_)
     ·replace h:=ah g37 h;refine Y ?_;obtain rfl:=ap h;exact aO J J (cS [] 3) ⟨J,J⟩
     replace h:=ai g37 h;refine Y ?_;exact ⟨_,_,⟨p6+((x11.Key.S.size:Int)+(x11.Value.S.size:Int)),h,J,J⟩,sA,cS [0,1] 3⟩
    replace h:=ai g35 h;refine Y ?_;obtain rfl:=ap h;exact aO J J (cS [] 3) ⟨J,J⟩
   rintro _ _ ⟨p10,h,rfl,rfl⟩;refine Y ?_;obtain ⟨q38,h⟩:=ay h;refine gE (bE J J q38.1 q38.2) ?_;refine Y ?_;exact ⟨m5,_,_,Mw _,⟨p10,p7+1,h,J,J⟩,sA,cS [0,1] 2⟩
  replace h:=ai g8 h;refine Y ?_;exact ⟨_,_,⟨h,J,J⟩,sA,cS [] 2⟩
 rintro _ _ ⟨h,rfl,rfl⟩;refine Y ?_;obtain rfl:=ap h;exact aO J J (cS [] 0) ⟨J,J⟩
theorem sa {r:Bool}: ∀v post,((fun (u:Value) (post:List Chunk)=>u=.bool r∧post=[])) v post→ ∀c∈post,bV c:=by
 rintro _ _ ⟨rfl,rfl⟩;exact ac
def lG (N:Nat)(a0:Int):Option Mg:=
 some (⟨3,a0,⟨#[]⟩⟩:Mg)
theorem mI {N:Nat}{a0:Int}{r:Mg}(h:lG N a0=some r):Okc Tryz.prog 55 [iV a0] ([]) (fun u post=>u=(aZ r)∧post=[]):=by
 refine br Tryz.func55 J J ?_;simp only [aS];refine Y ?_;refine gD (aH d9 J) ?_;rintro _ _ ⟨B1,rfl,rfl⟩;refine Y ?_;refine gE (bd J (pH _ _)) ?_;refine gO (ar (us:=[iV 3,iV a0,.string (⟨#[]⟩)]) (cs':=[iV 3,iV a0,.string (⟨#[]⟩)]) 0 J J J J bm J J J) ?_;rintro _ _ rfl;refine Y ?_;obtain rfl:=ap h;exact ca (rs:=[.cell 2 30]) (vs:=[.agg #[iV 3,iV a0,.string (⟨#[]⟩)]]) J (.cons (bu 0 J J aD) .nil) J (cS [] 1) ⟨J,J⟩
theorem kw {r:Mg}: ∀v post,((fun (u:Value) (post:List Chunk)=>u=(aZ r)∧post=[])) v post→ ∀c∈post,bV c:=by
 rintro _ _ ⟨rfl,rfl⟩;exact ac
def ep (N:Nat)(a0:Md)(a1:Int):Option Mg:=
 (bif decide (a1<0) then (some true) else (some (decide (18≤a1)))).bind fun b16=>bif b16 then (some (⟨0,0,⟨#[]⟩⟩:Mg)) else ((iF N a0.heap_ a1).bind fun y18=>some y18)
theorem qv {N:Nat}{a0:Md}{a1:Int}{r:Mg}(h:ep N a0 a1=some r):Okc Tryz.prog 24 [pV B1 0,iV a1] ([aR B1 151 (Wk a0 B2 B9 A12 n12 c12 A13 n13 c13 A14 n14 c14),aR B2 199 [I A3 n3 c3,I A4 n4 c4,I A5 n5 c5,I A6 n6 c6,pV B7 0],rL A3 n3 c3 a0.heap_.m_.Young,rL A4 n4 c4 a0.heap_.m_.Old,dm A5 n5 c5 a0.heap_.roots_,dm A6 n6 c6 a0.heap_.pending_,aR B7 247 [.map (some M8)],iM cv cx M8 a0.heap_.set_.at_,aR B9 205 [I A10 n10 c10,.map (some M11)],vL A10 n10 c10 a0.shapes_.shapes_,iM aG cu M11 a0.shapes_.next_,bv A12 n12 c12 a0.symbols_,cE A13 n13 c13 a0.events_,bv A14 n14 c14 a0.out_]) (fun u post=>u=(aZ r)∧post=[]):=by
 refine br Tryz.func24 J J ?_;simp only [aS];refine Y ?_;refine gD (aH d9 J) ?_;rintro _ _ ⟨B15,rfl,rfl⟩;refine Y ?_;refine az ?_;refine Y ?_;refine gE (di J LN) ?_;refine Y ?_;obtain ⟨b16,hb16,h⟩:=aa h;refine aN 3 14 b16 ?_ ?_
 ·clear h;refine aK 11 J (fun g16=> ?_) (fun g16=> ?_)
  ·have h:=ah g16 hb16;refine Y ?_;obtain rfl:=ap h;exact ad sA (cS [0,1,2,3,4,5,6,7,8,9,10,11,12,13,14] 15)
  have h:=ai g16 hb16;refine Y ?_;obtain rfl:=ap h;exact ad sA (cS [0,1,2,3,4,5,6,7,8,9,10,11,12,13,14] 15)
 refine Y ?_;refine au J (fun g17=> ?_) (fun g17=> ?_)
 ·replace h:=ah g17 h;refine Y ?_;refine gE (bd J (eM)) ?_;refine gO (ar (us:=[iV 0,iV 0,.string (⟨#[]⟩)]) (cs':=[iV 0,iV 0,.string (⟨#[]⟩)]) 0 J J J J bm J J J) ?_;rintro _ _ rfl;refine Y ?_;obtain rfl:=ap h;exact ca (rs:=[.cell 4 30]) (vs:=[.agg #[iV 0,iV 0,.string (⟨#[]⟩)]]) J (.cons (bu 0 J J aD) .nil) J (cS [] 15) ⟨J,J⟩
 replace h:=ai g17 h;refine Y ?_;refine gR (cJ 1 J J lV J) ?_;refine Y ?_;obtain ⟨y18,hy18,h⟩:=aa h;refine gD (al (jM hy18) Bh J (hD (ao (i:=2) J J) (hD (ao (i:=3) J J) (hD (ao (i:=4) J J) (hD (ao (i:=5) J J) (hD (ao (i:=6) J J) (hD (ao (i:=7) J J) (hD (ao (i:=8) J J) ac))))))) iw) ?_;rintro _ _ ⟨_,⟨rfl,rfl⟩,rfl⟩;refine gO (ar (us:=[iV y18.Kind,iV y18.N,.string y18.S]) (cs':=[iV y18.Kind,iV y18.N,.string y18.S]) 0 J J J J bm J J J) ?_;rintro _ _ rfl;refine Y ?_;obtain rfl:=ap h;exact ca (rs:=[.cell 4 30]) (vs:=[.agg #[iV y18.Kind,iV y18.N,.string y18.S]]) J (.cons (bu 0 J J aD) .nil) J (cS [] 15) ⟨J,J⟩
theorem pi {r:Mg}: ∀v post,((fun (u:Value) (post:List Chunk)=>u=(aZ r)∧post=[])) v post→ ∀c∈post,bV c:=by
 rintro _ _ ⟨rfl,rfl⟩;exact ac
def iW (N:Nat)(a0:Md)(a1:Mb):Option (Mg×Bool×Md):=
 bif decide (a0.config_.Made≤a0.spent_.made_) then (some ((⟨0,0,⟨#[]⟩⟩:Mg),false,a0)) else ((f5 N a0.heap_ a1).bind fun y20=>bif !decide (y20.2.1=0) then (some ((⟨0,0,⟨#[]⟩⟩:Mg),false,(⟨a0.spent_,a0.config_,(),y20.2.2,a0.shapes_,a0.symbols_,a0.epoch_,a0.serial_,a0.sleepers_,a0.events_,a0.out_⟩:Md))) else (cR (bK (a0.spent_.made_+1)) (some ((⟨7,y20.1,⟨#[]⟩⟩:Mg),true,(⟨(⟨a0.spent_.steps_,a0.spent_.made_+1,a0.spent_.calls_⟩:Mj),a0.config_,(),y20.2.2,a0.shapes_,a0.symbols_,a0.epoch_,a0.serial_,a0.sleepers_,a0.events_,a0.out_⟩:Md)))))
set_option maxHeartbeats 4000000 in
theorem oC {N:Nat}{a0:Md}{a1:Mb}{r:(Mg×Bool×Md)}(h:iW N a0 a1=some r):Okc Tryz.prog 110 [pV B1 0,.agg #[iV a1.Kind,iV a1.Shape,iV a1.Flags,iV a1.Age,I A15 n15 c15,I A16 n16 c16]] ([bv A12 n12 c12 a0.symbols_,cE A13 n13 c13 a0.events_,bv A14 n14 c14 a0.out_,dm A15 n15 c15 a1.Slots,dm A16 n16 c16 a1.More,aj B1 151 (Wk a0 B2 B9 A12 n12 c12 A13 n13 c13 A14 n14 c14),aj B2 199 [I A3 n3 c3,I A4 n4 c4,I A5 n5 c5,I A6 n6 c6,pV B7 0],bx A3 n3 c3 a0.heap_.m_.Young,bx A4 n4 c4 a0.heap_.m_.Old,ba A5 n5 c5 a0.heap_.roots_,ba A6 n6 c6 a0.heap_.pending_,aj B7 247 [.map (some M8)],aJ cv cx M8 a0.heap_.set_.at_,aj B9 205 [I A10 n10 c10,.map (some M11)],cI A10 n10 c10 a0.shapes_.shapes_,aJ aG cu M11 a0.shapes_.next_]) (fun u post=> ∃A0 n0 c0 A1 n1 c1 A2 n2 c2 A3 n3 c3 M4 A5 n5 c5 M6 A7 n7 c7 A8 n8 c8 A9 n9 c9,u=.tuple #[.agg #[iV r.1.Kind,iV r.1.N,.string r.1.S],.bool r.2.1]∧post=[aj B1 151 (Wk r.2.2 B2 B9 A7 n7 c7 A8 n8 c8 A9 n9 c9),aj B2 199 [I A0 n0 c0,I A1 n1 c1,I A2 n2 c2,I A3 n3 c3,pV B7 0],bx A0 n0 c0 r.2.2.heap_.m_.Young,bx A1 n1 c1 r.2.2.heap_.m_.Old,ba A2 n2 c2 r.2.2.heap_.roots_,ba A3 n3 c3 r.2.2.heap_.pending_,aj B7 247 [.map (some M4)],aJ cv cx M4 r.2.2.heap_.set_.at_,aj B9 205 [I A5 n5 c5,.map (some M6)],cI A5 n5 c5 r.2.2.shapes_.shapes_,aJ aG cu M6 r.2.2.shapes_.next_,bv A7 n7 c7 r.2.2.symbols_,cE A8 n8 c8 r.2.2.events_,bv A9 n9 c9 r.2.2.out_]):=by
 refine br Tryz.func110 J J ?_;simp only [aS];refine Y ?_;refine gD (aL J J) ?_;rintro _ _ ⟨B17,rfl,rfl⟩;refine gD (aH d9 J) ?_;rintro _ _ ⟨B18,rfl,rfl⟩;refine Y ?_;refine az ?_;refine az ?_;refine bF V _ (ae _) ?_;refine zE 0 J (aw J) ?_;refine zE 1 J (di J LN) ?_;refine zE 2 J (aw J) ?_;refine zE 3 J (aw J) ?_;refine zE 4 J (bf J) ?_;refine zE 5 J (dN J Cs) ?_;refine zE 6 J (cb J Ct) ?_;refine zR 7 J (aY 7 J J dv J) ?_;refine zE 8 J (aw J) ?_;refine zE 9 J (bf J) ?_;refine zE 10 J (cb J Cr) ?_;refine zE 11 J (cb J D1) ?_;refine zR 12 J (aY 7 J J dv J) ?_;refine zE 13 J (GB J J) ?_;refine zE 14 J (qX J J) ?_;refine bz V ?_;refine eg ?_;refine au J (fun g19=> ?_) (fun g19=> ?_)
 ·replace h:=ah g19 h;refine Y ?_;refine gE (bd J (eM)) ?_;refine gO (ar (us:=[iV 0,iV 0,.string (⟨#[]⟩)]) (cs':=[iV 0,iV 0,.string (⟨#[]⟩)]) 0 J J J J bm J J J) ?_;rintro _ _ rfl;refine Y ?_;obtain rfl:=ap h;exact ca (rs:=[.cell 4 30,.tmp 5]) (vs:=[.agg #[iV 0,iV 0,.string (⟨#[]⟩)],.bool false]) J (.cons (bu 0 J J aD) (.cons (cD J) .nil)) J (cS [7,8,9,10,11,12,13,14,15,16,17,2,3,4] 18) ⟨_,_,_,_,_,_,_,_,_,_,_,_,_,_,_,_,_,_,_,_,_,_,_,_,_,_,J,J⟩
 replace h:=ai g19 h;refine Y ?_;refine az ?_;refine bF V ([aj B18 30 [iV 0,iV 0,.string (⟨#[]⟩)],aj B17 138 [iV a1.Kind,iV a1.Shape,iV a1.Flags,iV a1.Age,I A15 n15 c15,I A16 n16 c16],bv A12 n12 c12 a0.symbols_,cE A13 n13 c13 a0.events_,bv A14 n14 c14 a0.out_,dm A15 n15 c15 a1.Slots,dm A16 n16 c16 a1.More,aj B1 151 (Wk a0 B2 B9 A12 n12 c12 A13 n13 c13 A14 n14 c14),aj B9 205 [I A10 n10 c10,.map (some M11)],cI A10 n10 c10 a0.shapes_.shapes_,aJ aG cu M11 a0.shapes_.next_]) (cS [0,1,2,3,4,5,6,7,15,16,17] 18) ?_;refine zE 0 J (aw J) ?_;refine zE 1 J (bf J) ?_;refine zE 2 J (cb J lg) ?_;refine zR 3 J (aY 7 J J lV J) ?_;refine zR 4 J (ab (us:=[iV a1.Kind,iV a1.Shape,iV a1.Flags,iV a1.Age,I A15 n15 c15,I A16 n16 c16]) 1 J J ce J) ?_;obtain ⟨y20,hy20,h⟩:=aa h;refine zD 5 J (aE (mm hy20) By J (aC [5,6] [8,9,10,11,12,13,14] [0,1,2,3,4,5,6,7,15,16,17] 18 J)) ?_;rintro _ _ ⟨_,⟨A21,n21,c21,A22,n22,c22,A23,n23,c23,A24,n24,c24,M25,rfl,rfl⟩,rfl⟩;refine dB (cS [7,8,9,10,11,12,13,14,15,16,17] 18) ?_;refine cX ?_;refine zE 6 J (aw J) ?_;refine zE 7 J (bi J J) ?_;refine zE 8 J (bi J J) ?_;refine zE 9 J (be J) ?_
 refine zE 10 J (be J) ?_;refine bz V ?_;refine eg ?_;refine az ?_;refine Y ?_;refine au J (fun g26=> ?_) (fun g26=> ?_)
 ·replace h:=ah g26 h;refine Y ?_;refine gE (bd J (eM)) ?_;refine gO (ar (us:=[iV 0,iV 0,.string (⟨#[]⟩)]) (cs':=[iV 0,iV 0,.string (⟨#[]⟩)]) 7 J J J J bm J J J) ?_;rintro _ _ rfl;refine Y ?_;obtain rfl:=ap h;exact ca (rs:=[.cell 4 30,.tmp 5]) (vs:=[.agg #[iV 0,iV 0,.string (⟨#[]⟩)],.bool false]) J (.cons (bu 7 J J aD) (.cons (cD J) .nil)) J (cS [14,0,1,2,3,4,5,6,15,16,17,9,10,11] 18) ⟨_,_,_,_,_,_,_,_,_,_,_,_,_,_,_,_,_,_,_,_,_,_,_,_,_,_,J,J⟩
 replace h:=ai g26 h;refine Y ?_;refine gR (aY 14 J J dv J) ?_;obtain ⟨q27,h⟩:=ay h;refine gE (bE J J q27.1 q27.2) ?_;refine Y ?_;refine gO (ar (us:=[iV (a0.spent_.made_+1)]) (cs':=[iV a0.spent_.steps_,iV (a0.spent_.made_+1),iV a0.spent_.calls_,iV a0.config_.Way,iV a0.config_.Steps,iV a0.config_.Calls,iV a0.config_.Made,iV a0.config_.Young,iV a0.config_.Full,iV a0.config_.Sites,.nilIface,pV B2 0,pV B9 0,I A12 n12 c12,iV a0.epoch_,iV a0.serial_,iV a0.sleepers_,I A13 n13 c13,I A14 n14 c14]) 14 J J J J gz J J J) ?_;rintro _ _ rfl;refine bL ?_;refine Y ?_;refine gE (bd J (pH _ _)) ?_;refine gO (ar (us:=[iV 7,iV y20.1,.string (⟨#[]⟩)]) (cs':=[iV 7,iV y20.1,.string (⟨#[]⟩)]) 7 J J J J bm J J J) ?_;rintro _ _ rfl;refine Y ?_;obtain rfl:=ap h;exact ca (rs:=[.cell 4 30,.tmp 5]) (vs:=[.agg #[iV 7,iV y20.1,.string (⟨#[]⟩)],.bool true]) J (.cons (bu 7 J J aD) (.cons (cD J) .nil)) J (cS [14,0,1,2,3,4,5,6,15,16,17,9,10,11] 18) ⟨_,_,_,_,_,_,_,_,_,_,_,_,_,_,_,_,_,_,_,_,_,_,_,_,_,_,J,J⟩
def nD (N:Nat)(a1:Mb):Option (Mg×Bool):=
 some ((⟨0,0,⟨#[]⟩⟩:Mg),false)
theorem rW {N:Nat}{a1:Mb}{r:(Mg×Bool)}(h:nD N a1=some r):Okc Tryz.prog 110 [.pointer none,.agg #[iV a1.Kind,iV a1.Shape,iV a1.Flags,iV a1.Age,I A1 n1 c1,I A2 n2 c2]] ([dm A1 n1 c1 a1.Slots,dm A2 n2 c2 a1.More]) (fun u post=>u=.tuple #[.agg #[iV r.1.Kind,iV r.1.N,.string r.1.S],.bool r.2]∧post=[]):=by
 refine br Tryz.func110 J J ?_;simp only [aS];refine Y ?_;refine gD (aL J J) ?_;rintro _ _ ⟨B3,rfl,rfl⟩;refine gD (aH d9 J) ?_;rintro _ _ ⟨B4,rfl,rfl⟩;refine Y ?_;refine az ?_;refine az ?_;refine bF V _ (ae _) ?_;refine zE 0 J (aw J) ?_;refine zE 1 J (di J LN) ?_;refine zE 2 J (aw J) ?_;refine zU 3 J ?_;refine zU 4 J ?_;refine zU 5 J ?_;refine zU 6 J ?_;refine zU 7 J ?_;refine zU 8 J ?_;refine zU 9 J ?_;refine zU 10 J ?_;refine zU 11 J ?_;refine zU 12 J ?_;refine zU 13 J ?_;refine zE 14 J (wj J J) ?_;refine bz V ?_;refine eg ?_;refine eN J ?_;refine Y ?_;refine gE (bd J (eM)) ?_;refine gO (ar (us:=[iV 0,iV 0,.string (⟨#[]⟩)]) (cs':=[iV 0,iV 0,.string (⟨#[]⟩)]) 0 J J J J bm J J J) ?_;rintro _ _ rfl;refine Y ?_;obtain rfl:=ap h;exact ca (rs:=[.cell 4 30,.tmp 5]) (vs:=[.agg #[iV 0,iV 0,.string (⟨#[]⟩)],.bool false]) J (.cons (bu 0 J J aD) (.cons (cD J) .nil)) J (cS [] 4) ⟨J,J⟩
theorem qF {r:(Mg×Bool)}: ∀v post,((fun (u:Value) (post:List Chunk)=>u=.tuple #[.agg #[iV r.1.Kind,iV r.1.N,.string r.1.S],.bool r.2]∧post=[])) v post→ ∀c∈post,bV c:=by
 rintro _ _ ⟨rfl,rfl⟩;exact ac
def nT (N:Nat)(a0:Md)(a1:(List Mg)):Option (Mg×Bool×Md):=
 (ep N a0 2).bind fun y17=>(iW N a0 (⟨2,0,1,0,([y17]:List Mg),a1⟩:Mb)).bind fun y19=>some (y19.1,y19.2.1,y19.2.2)
theorem vF {N:Nat}{a0:Md}{a1:(List Mg)}{r:(Mg×Bool×Md)}(h:nT N a0 a1=some r):Okc Tryz.prog 66 [pV B1 0,I A15 n15 c15] ([bv A12 n12 c12 a0.symbols_,cE A13 n13 c13 a0.events_,bv A14 n14 c14 a0.out_,dm A15 n15 c15 a1,aj B1 151 (Wk a0 B2 B9 A12 n12 c12 A13 n13 c13 A14 n14 c14),aj B2 199 [I A3 n3 c3,I A4 n4 c4,I A5 n5 c5,I A6 n6 c6,pV B7 0],bx A3 n3 c3 a0.heap_.m_.Young,bx A4 n4 c4 a0.heap_.m_.Old,ba A5 n5 c5 a0.heap_.roots_,ba A6 n6 c6 a0.heap_.pending_,aj B7 247 [.map (some M8)],aJ cv cx M8 a0.heap_.set_.at_,aj B9 205 [I A10 n10 c10,.map (some M11)],cI A10 n10 c10 a0.shapes_.shapes_,aJ aG cu M11 a0.shapes_.next_]) (fun u post=> ∃A0 n0 c0 A1 n1 c1 A2 n2 c2 A3 n3 c3 M4 A5 n5 c5 M6 A7 n7 c7 A8 n8 c8 A9 n9 c9,u=.tuple #[.agg #[iV r.1.Kind,iV r.1.N,.string r.1.S],.bool r.2.1]∧post=[aj B1 151 (Wk r.2.2 B2 B9 A7 n7 c7 A8 n8 c8 A9 n9 c9),aj B2 199 [I A0 n0 c0,I A1 n1 c1,I A2 n2 c2,I A3 n3 c3,pV B7 0],bx A0 n0 c0 r.2.2.heap_.m_.Young,bx A1 n1 c1 r.2.2.heap_.m_.Old,ba A2 n2 c2 r.2.2.heap_.roots_,ba A3 n3 c3 r.2.2.heap_.pending_,aj B7 247 [.map (some M4)],aJ cv cx M4 r.2.2.heap_.set_.at_,aj B9 205 [I A5 n5 c5,.map (some M6)],cI A5 n5 c5 r.2.2.shapes_.shapes_,aJ aG cu M6 r.2.2.shapes_.next_,bv A7 n7 c7 r.2.2.symbols_,cE A8 n8 c8 r.2.2.events_,bv A9 n9 c9 r.2.2.out_]):=by
 refine br Tryz.func66 J J ?_;simp only [aS];refine Y ?_;refine gD (aH d9 J) ?_;rintro _ _ ⟨B16,rfl,rfl⟩;refine Y ?_;refine az ?_;refine Y ?_;refine gE (di J LN) ?_;refine Y ?_;refine fI J ?_;refine Y ?_;obtain ⟨y17,hy17,h⟩:=aa h;refine gD (al (qv hy17) J7 J (hD (aB (i:=5) J) (hD (aB (i:=6) J) (hD (aq (i:=7) J) (hD (aq (i:=8) J) (hD (aq (i:=9) J) (hD (aq (i:=10) J) (hD (aB (i:=11) J) (hD (bc (i:=12) J) (hD (aB (i:=13) J) (hD (aq (i:=14) J) (hD (bc (i:=15) J) (hD (ao (i:=1) J J) (hD (ao (i:=2) J J) (hD (ao (i:=3) J J) ac)))))))))))))) pi) ?_;rintro _ _ ⟨_,⟨rfl,rfl⟩,rfl⟩;refine gD (bP (R:=bS) (vss:=[[iV y17.Kind,iV y17.N,.string y17.S]]) (xs:=[y17]) J (ib _ _ _) J J (fun _ _ hr=> .cons J All2.nil)) ?_;rintro _ _ ⟨A18,n18,c18,rfl,rfl⟩;refine Y ?_;refine gE (bd J (om _ _ _ _ _ _ _ _)) ?_;refine lN (dj 0 J) ?_;obtain ⟨y19,hy19,h⟩:=aa h;refine gD (aE (oC hy19) BA J (aC [2,3,4,0,5] [6,7,8,9,10,11,12,13,14,15,16] [0,1,2,3,4,5] 17 J)) ?_;rintro _ _ ⟨_,⟨A20,n20,c20,A21,n21,c21,A22,n22,c22,A23,n23,c23,M24,A25,n25,c25,M26,A27,n27,c27,A28,n28,c28,A29,n29,c29,rfl,rfl⟩,rfl⟩;refine Y ?_;refine gO (ar (us:=[iV y19.1.Kind,iV y19.1.N,.string y19.1.S]) (cs':=[iV y19.1.Kind,iV y19.1.N,.string y19.1.S]) 15 J J J J bm J J J) ?_;rintro _ _ rfl;refine bL ?_;refine Y ?_;obtain rfl:=ap h
 exact ca (rs:=[.cell 4 30,.tmp 5]) (vs:=[.agg #[iV y19.1.Kind,iV y19.1.N,.string y19.1.S],.bool y19.2.1]) J (.cons (bu 15 J J aD) (.cons (cD J) .nil)) J (cS [0,1,2,3,4,5,6,7,8,9,10,11,12,13] 20) ⟨_,_,_,_,_,_,_,_,_,_,_,_,_,_,_,_,_,_,_,_,_,_,_,_,_,_,J,J⟩
def ud (N:Nat)(a1:(List Mg)):Option (Mg×Bool):=
 some ((⟨0,0,⟨#[]⟩⟩:Mg),false)
theorem zq {N:Nat}{a1:(List Mg)}{r:(Mg×Bool)}(h:ud N a1=some r):Okc Tryz.prog 66 [.pointer none,I A1 n1 c1] ([dm A1 n1 c1 a1]) (fun u post=>u=.tuple #[.agg #[iV r.1.Kind,iV r.1.N,.string r.1.S],.bool r.2]∧post=[]):=by
 refine br Tryz.func66 J J ?_;simp only [aS];refine Y ?_;refine gD (aH d9 J) ?_;rintro _ _ ⟨B2,rfl,rfl⟩;refine Y ?_;refine az ?_;refine Y ?_;refine gE (di J LN) ?_;refine Y ?_;refine eN J ?_;refine Y ?_;refine gE (bd J (eM)) ?_;refine gO (ar (us:=[iV 0,iV 0,.string (⟨#[]⟩)]) (cs':=[iV 0,iV 0,.string (⟨#[]⟩)]) 0 J J J J bm J J J) ?_;rintro _ _ rfl;refine Y ?_;obtain rfl:=ap h;exact ca (rs:=[.cell 4 30,.tmp 5]) (vs:=[.agg #[iV 0,iV 0,.string (⟨#[]⟩)],.bool false]) J (.cons (bu 0 J J aD) (.cons (cD J) .nil)) J (cS [] 2) ⟨J,J⟩
theorem wv {r:(Mg×Bool)}: ∀v post,((fun (u:Value) (post:List Chunk)=>u=.tuple #[.agg #[iV r.1.Kind,iV r.1.N,.string r.1.S],.bool r.2]∧post=[])) v post→ ∀c∈post,bV c:=by
 rintro _ _ ⟨rfl,rfl⟩;exact ac
def kO (N:Nat)(a0:Me):Option Mi:=
 some (⟨32,0,(⟨0,0,⟨#[]⟩⟩:Mg),(⟨0,0,⟨#[]⟩⟩:Mg),(⟨0,0,⟨#[]⟩⟩:Mg)⟩:Mi)
theorem nK {N:Nat}{a0:Me}{r:Mi}(h:kO N a0=some r):Okc Tryz.prog 126 [(bA a0)] ([]) (fun u post=>u=(ey r)∧post=[]):=by
 refine br Tryz.func126 J J ?_;simp only [aS];refine Y ?_;refine gD (aL J J) ?_;rintro _ _ ⟨B1,rfl,rfl⟩;refine gD (aH vM J) ?_;rintro _ _ ⟨B2,rfl,rfl⟩;refine Y ?_;refine gE (bd J (CH _)) ?_;refine gO (ar (us:=[iV 32,iV 0,iV 0,iV 0,.string (⟨#[]⟩),iV 0,iV 0,.string (⟨#[]⟩),iV 0,iV 0,.string (⟨#[]⟩)]) (cs':=[iV 32,iV 0,iV 0,iV 0,.string (⟨#[]⟩),iV 0,iV 0,.string (⟨#[]⟩),iV 0,iV 0,.string (⟨#[]⟩)]) 0 J J J J sf J J J) ?_;rintro _ _ rfl;refine Y ?_;obtain rfl:=ap h;exact ca (rs:=[.cell 2 32]) (vs:=[.agg #[iV 32,iV 0,iV 0,iV 0,.string (⟨#[]⟩),iV 0,iV 0,.string (⟨#[]⟩),iV 0,iV 0,.string (⟨#[]⟩)]]) J (.cons (bu 0 J J dz) .nil) J (cS [] 2) ⟨J,J⟩
theorem mg {r:Mi}: ∀v post,((fun (u:Value) (post:List Chunk)=>u=(ey r)∧post=[])) v post→ ∀c∈post,bV c:=by
 rintro _ _ ⟨rfl,rfl⟩;exact ac
def qg (N:Nat)(a0:Mg)(a1:Int):Option Mi:=
 some (⟨51,aM .i64 a1 7,a0,(⟨0,0,⟨#[]⟩⟩:Mg),(⟨0,0,⟨#[]⟩⟩:Mg)⟩:Mi)
theorem Be {N:Nat}{a0:Mg}{a1:Int}{r:Mi}(h:qg N a0 a1=some r):Okc Tryz.prog 135 [(aZ a0),iV a1] ([]) (fun u post=>u=(ey r)∧post=[]):=by
 refine br Tryz.func135 J J ?_;simp only [aS];refine Y ?_;refine gD (aL J J) ?_;rintro _ _ ⟨B1,rfl,rfl⟩;refine gD (aH vM J) ?_;rintro _ _ ⟨B2,rfl,rfl⟩;refine Y ?_;refine gE (bD J J) ?_;refine gR (ab (us:=av a0) 1 J J aD J) ?_;refine gE (bd J (vz _ _ _ _ _)) ?_;refine gO (ar (us:=[iV 51,iV (aM .i64 a1 7),iV a0.Kind,iV a0.N,.string a0.S,iV 0,iV 0,.string (⟨#[]⟩),iV 0,iV 0,.string (⟨#[]⟩)]) (cs':=[iV 51,iV (aM .i64 a1 7),iV a0.Kind,iV a0.N,.string a0.S,iV 0,iV 0,.string (⟨#[]⟩),iV 0,iV 0,.string (⟨#[]⟩)]) 0 J J J J sf J J J) ?_;rintro _ _ rfl;refine Y ?_;obtain rfl:=ap h;exact ca (rs:=[.cell 4 32]) (vs:=[.agg #[iV 51,iV (aM .i64 a1 7),iV a0.Kind,iV a0.N,.string a0.S,iV 0,iV 0,.string (⟨#[]⟩),iV 0,iV 0,.string (⟨#[]⟩)]]) J (.cons (bu 0 J J dz) .nil) J (cS [] 2) ⟨J,J⟩
theorem yY {r:Mi}: ∀v post,((fun (u:Value) (post:List Chunk)=>u=(ey r)∧post=[])) v post→ ∀c∈post,bV c:=by
 rintro _ _ ⟨rfl,rfl⟩;exact ac
def ra (N:Nat)(a0:Me):Option Mi:=
 bif !decide (aM .i64 a0.Attrs 8=0) then (some (⟨60,aM .i64 a0.Attrs 6,(⟨0,0,⟨#[]⟩⟩:Mg),a0.Get,a0.Set⟩:Mi)) else ((qg N a0.Value a0.Attrs).bind fun y4=>some y4)
theorem yW {N:Nat}{a0:Me}{r:Mi}(h:ra N a0=some r):Okc Tryz.prog 128 [(bA a0)] ([]) (fun u post=>u=(ey r)∧post=[]):=by
 refine br Tryz.func128 J J ?_;simp only [aS];refine Y ?_;refine gD (aL J J) ?_;rintro _ _ ⟨B1,rfl,rfl⟩;refine gD (aH vM J) ?_;rintro _ _ ⟨B2,rfl,rfl⟩;refine Y ?_;refine az ?_;refine Y ?_;refine gE (bD J J) ?_;refine Y ?_;refine au J (fun g3=> ?_) (fun g3=> ?_)
 ·replace h:=ah g3 h;refine Y ?_;refine gE (bD J J) ?_;refine Y ?_;refine gR (ab (us:=av a0.Get) 1 J J aD J) ?_;refine Y ?_;refine gR (ab (us:=av a0.Set) 1 J J aD J) ?_;refine gE (bd J (sU _ _ _ _ _ _ _ _)) ?_;refine gO (ar (us:=[iV 60,iV (aM .i64 a0.Attrs 6),iV 0,iV 0,.string (⟨#[]⟩),iV a0.Get.Kind,iV a0.Get.N,.string a0.Get.S,iV a0.Set.Kind,iV a0.Set.N,.string a0.Set.S]) (cs':=[iV 60,iV (aM .i64 a0.Attrs 6),iV 0,iV 0,.string (⟨#[]⟩),iV a0.Get.Kind,iV a0.Get.N,.string a0.Get.S,iV a0.Set.Kind,iV a0.Set.N,.string a0.Set.S]) 0 J J J J sf J J J) ?_;rintro _ _ rfl;refine Y ?_;obtain rfl:=ap h;exact ca (rs:=[.cell 2 32]) (vs:=[.agg #[iV 60,iV (aM .i64 a0.Attrs 6),iV 0,iV 0,.string (⟨#[]⟩),iV a0.Get.Kind,iV a0.Get.N,.string a0.Get.S,iV a0.Set.Kind,iV a0.Set.N,.string a0.Set.S]]) J (.cons (bu 0 J J dz) .nil) J (cS [] 2) ⟨J,J⟩
 replace h:=ai g3 h;refine Y ?_;refine gR (ab (us:=av a0.Value) 1 J J aD J) ?_;refine Y ?_;obtain ⟨y4,hy4,h⟩:=aa h;refine gD (al (Be hy4) IQ J (ac) yY) ?_;rintro _ _ ⟨_,⟨rfl,rfl⟩,rfl⟩;refine gO (ar (us:=cc y4) (cs':=cc y4) 0 J J J J sf J J J) ?_;rintro _ _ rfl;refine Y ?_;obtain rfl:=ap h;exact ca (rs:=[.cell 2 32]) (vs:=[(ey y4)]) J (.cons (bu 0 J J dz) .nil) J (cS [] 2) ⟨J,J⟩
theorem vj {r:Mi}: ∀v post,((fun (u:Value) (post:List Chunk)=>u=(ey r)∧post=[])) v post→ ∀c∈post,bV c:=by
 rintro _ _ ⟨rfl,rfl⟩;exact ac
def eY (N:Nat)(a0:Me):Option Mi:=
 (ra N a0).bind fun y3=>some (⟨aM .i64 34 y3.Has,0,(⟨0,0,⟨#[]⟩⟩:Mg),(⟨0,0,⟨#[]⟩⟩:Mg),(⟨0,0,⟨#[]⟩⟩:Mg)⟩:Mi)
theorem mi {N:Nat}{a0:Me}{r:Mi}(h:eY N a0=some r):Okc Tryz.prog 127 [(bA a0)] ([]) (fun u post=>u=(ey r)∧post=[]):=by
 refine br Tryz.func127 J J ?_;simp only [aS];refine Y ?_;refine gD (aL J J) ?_;rintro _ _ ⟨B1,rfl,rfl⟩;refine gD (aH vM J) ?_;rintro _ _ ⟨B2,rfl,rfl⟩;refine Y ?_;refine gR (ab (us:=aP a0) 1 J J cq J) ?_;obtain ⟨y3,hy3,h⟩:=aa h;refine gD (al (yW hy3) ED J (ac) vj) ?_;rintro _ _ ⟨_,⟨rfl,rfl⟩,rfl⟩;refine gE (yR J (Gu _ _ _ _ _ _ _ _ _ _ _)) ?_;refine gE (bD J J) ?_;refine gE (bd J (CH _)) ?_;refine gO (ar (us:=[iV (aM .i64 34 y3.Has),iV 0,iV 0,iV 0,.string (⟨#[]⟩),iV 0,iV 0,.string (⟨#[]⟩),iV 0,iV 0,.string (⟨#[]⟩)]) (cs':=[iV (aM .i64 34 y3.Has),iV 0,iV 0,iV 0,.string (⟨#[]⟩),iV 0,iV 0,.string (⟨#[]⟩),iV 0,iV 0,.string (⟨#[]⟩)]) 0 J J J J sf J J J) ?_;rintro _ _ rfl;refine Y ?_;obtain rfl:=ap h;exact ca (rs:=[.cell 2 32]) (vs:=[.agg #[iV (aM .i64 34 y3.Has),iV 0,iV 0,iV 0,.string (⟨#[]⟩),iV 0,iV 0,.string (⟨#[]⟩),iV 0,iV 0,.string (⟨#[]⟩)]]) J (.cons (bu 0 J J dz) .nil) J (cS [] 2) ⟨J,J⟩
theorem ld {r:Mi}: ∀v post,((fun (u:Value) (post:List Chunk)=>u=(ey r)∧post=[])) v post→ ∀c∈post,bV c:=by
 rintro _ _ ⟨rfl,rfl⟩;exact ac
def jv (N:Nat)(a0:Mg):Option Bool:=
 (bif decide (a0.Kind=7) then (some true) else (some (decide (a0.Kind=9)))).bind fun b2=>some b2
theorem ph {N:Nat}{a0:Mg}{r:Bool}(h:jv N a0=some r):Okc Tryz.prog 162 [(aZ a0)] ([]) (fun u post=>u=.bool r∧post=[]):=by
 refine br Tryz.func162 J J ?_;simp only [aS];refine Y ?_;refine gD (aL J J) ?_;rintro _ _ ⟨B1,rfl,rfl⟩;refine Y ?_;obtain ⟨b2,hb2,h⟩:=aa h;refine aN 4 10 b2 ?_ ?_
 ·clear h;refine aK 6 J (fun g2=> ?_) (fun g2=> ?_)
  ·have h:=ah g2 hb2;refine Y ?_;obtain rfl:=ap h;exact ad sA (cS [0] 1)
  have h:=ai g2 hb2;refine Y ?_;obtain rfl:=ap h;exact ad sA (cS [0] 1)
 refine Y ?_;obtain rfl:=ap h;exact aO J J (cS [] 1) ⟨J,J⟩
theorem mM {r:Bool}: ∀v post,((fun (u:Value) (post:List Chunk)=>u=.bool r∧post=[])) v post→ ∀c∈post,bV c:=by
 rintro _ _ ⟨rfl,rfl⟩;exact ac
def jZ (N:Nat)(a1:Int)(p6:(List Mb))(p7:Int):Option ((List Mb)×Int×Bool):=
 (bif decide (0<a1) then (some (decide (p7<(p6.length:Int)))) else (some false)).bind fun b11=>some (p6,p7,b11)
def ni (N:Nat)(a0:Mq)(a1:Int):Option ((List Mb)×Int×Bool):=
 cR (bK (a1.tdiv 2)) (bif decide (a1.tmod 2=0) then (cR (bK (a1.tdiv 2)) (cR (bK ((a1.tdiv 2) - 1)) (jZ N a1 a0.Old ((a1.tdiv 2) - 1)))) else (jZ N a1 a0.Young (a1.tdiv 2)))
theorem yg {N:Nat}{a0:Mq}{a1:Int}{r:((List Mb)×Int×Bool)}(h:ni N a0 a1=some r):Okc Tryz.prog 244 [.agg #[I A1 n1 c1,I A2 n2 c2],iV a1] ([rL A1 n1 c1 a0.Young,rL A2 n2 c2 a0.Old]) (fun u post=> ∃A0 n0 c0,u=.tuple #[I A0 n0 c0,iV r.2.1,.bool r.2.2]∧post=[rL A0 n0 c0 r.1]):=by
 refine br Tryz.func244 J J ?_;simp only [aS];refine Y ?_;refine gD (aL J J) ?_;rintro _ _ ⟨B3,rfl,rfl⟩;refine Y ?_;obtain ⟨q4,h⟩:=ay h;refine gE (yP J J (by decide) q4.1 q4.2) ?_;refine Y ?_;refine aW (fun s L=> ∃p6 p7 A6 n6 c6,jZ N a1 p6 p7=some r∧s=[(1,iV a1),(4,I none 0 0),(5,iV 0),(6,.bool false),(7,I A6 n6 c6),(8,iV p7)]∧L=[rL A6 n6 c6 p6]) ?_ ?_
 ·refine Y ?_;refine gE (pF J J (by decide)) ?_;refine Y ?_;refine au J (fun g8=> ?_) (fun g8=> ?_)
  ·replace h:=ah g8 h;refine Y ?_;obtain ⟨q9,h⟩:=ay h;refine gE (yP J J (by decide) q9.1 q9.2) ?_;obtain ⟨q10,h⟩:=ay h;refine gE (dl J J q10.1 q10.2) ?_;refine Y ?_;exact ⟨_,_,⟨a0.Old,(a1.tdiv 2) - 1,A2,n2,c2,h,J,J⟩,sA,cS [2] 3⟩
  replace h:=ai g8 h;refine Y ?_;exact ⟨_,_,⟨a0.Young,a1.tdiv 2,A1,n1,c1,h,J,J⟩,sA,cS [1] 3⟩
 rintro _ _ ⟨p6,p7,A6,n6,c6,h,rfl,rfl⟩;refine Y ?_;obtain ⟨b11,hb11,h⟩:=aa h;refine aN 5 30 b11 ?_ ?_
 ·clear h;refine aK 25 J (fun g11=> ?_) (fun g11=> ?_)
  ·have h:=ah g11 hb11;refine Y ?_;refine ci (bG 0 J aU J LM) J (bq g11 J) J ?_;refine Y ?_;obtain rfl:=ap h;exact ad sA (cS [0] 1)
  have h:=ai g11 hb11;refine Y ?_;obtain rfl:=ap h;exact ad sA (cS [0] 1)
 refine Y ?_;obtain rfl:=ap h;exact D8 J J J J (cS [0] 1) ⟨_,_,_,J,J⟩
def pS (N:Nat)(a0:Mq)(a1:Int):Option Bool:=
 (ni N a0 a1).bind fun y4=>some y4.2.2
theorem AG {N:Nat}{a0:Mq}{a1:Int}{r:Bool}(h:pS N a0 a1=some r):Okc Tryz.prog 233 [.agg #[I A1 n1 c1,I A2 n2 c2],iV a1] ([rL A1 n1 c1 a0.Young,rL A2 n2 c2 a0.Old]) (fun u post=>u=.bool r∧post=[]):=by
 refine br Tryz.func233 J J ?_;simp only [aS];refine Y ?_;refine gD (aL J J) ?_;rintro _ _ ⟨B3,rfl,rfl⟩;refine Y ?_;refine gR (ab (us:=[I A1 n1 c1,I A2 n2 c2]) 0 J J G9 J) ?_;refine Y ?_;obtain ⟨y4,hy4,h⟩:=aa h;refine gD (aE (yg hy4) Ip J (aC [1,2] [] [0,1,2] 3 J)) ?_;rintro _ _ ⟨_,⟨A5,n5,c5,rfl,rfl⟩,rfl⟩;refine Y ?_;obtain rfl:=ap h;exact aO J J (cS [] 4) ⟨J,J⟩
theorem yh {r:Bool}: ∀v post,((fun (u:Value) (post:List Chunk)=>u=.bool r∧post=[])) v post→ ∀c∈post,bV c:=by
 rintro _ _ ⟨rfl,rfl⟩;exact ac
def d8 (N:Nat)(a0:Ma)(a1:Int):Option Bool:=
 (cm N a0).bind fun y8=>(bif !y8 then ((pS N a0.m_ a1).bind fun y10=>some y10) else (some false)).bind fun b9=>some b9
theorem mT {N:Nat}{a0:Ma}{a1:Int}{r:Bool}(h:d8 N a0 a1=some r):Okc Tryz.prog 209 [pV B1 0,iV a1] ([aR B1 199 [I A2 n2 c2,I A3 n3 c3,I A4 n4 c4,I A5 n5 c5,pV B6 0],rL A2 n2 c2 a0.m_.Young,rL A3 n3 c3 a0.m_.Old,dm A4 n4 c4 a0.roots_,dm A5 n5 c5 a0.pending_,aR B6 247 [.map (some M7)],iM cv cx M7 a0.set_.at_]) (fun u post=>u=.bool r∧post=[]):=by
 refine br Tryz.func209 J J ?_;simp only [aS];refine Y ?_;obtain ⟨y8,hy8,h⟩:=aa h;refine gD (al (eP hy8) tx J (hD (ao (i:=0) J J) (hD (ao (i:=1) J J) (hD (ao (i:=2) J J) (hD (ao (i:=3) J J) (hD (ao (i:=4) J J) (hD (ao (i:=5) J J) (hD (ao (i:=6) J J) ac))))))) dX) ?_;rintro _ _ ⟨_,⟨rfl,rfl⟩,rfl⟩;refine Y ?_;obtain ⟨b9,hb9,h⟩:=aa h;refine aN 7 15 b9 ?_ ?_
 ·clear h;refine aK 8 J (fun g9=> ?_) (fun g9=> ?_)
  ·have h:=ah g9 hb9;refine Y ?_;refine ci (nE (us:=[I A2 n2 c2,I A3 n3 c3]) 0 J J G9 J) J (bq g9 J) J ?_;refine Y ?_;obtain ⟨y10,hy10,h⟩:=aa h;refine cr (al (AG hy10) Iu J (hD (ao (i:=1) J J) (hD (ao (i:=2) J J) ac)) yh) J (bq g9 J) J ?_;rintro _ _ ⟨_,⟨rfl,rfl⟩,rfl⟩;refine Y ?_;obtain rfl:=ap h;exact ad sA (cS [0,1,2,3,4,5,6] 7)
  have h:=ai g9 hb9;refine Y ?_;obtain rfl:=ap h;exact ad sA (cS [0,1,2,3,4,5,6] 7)
 refine Y ?_;obtain rfl:=ap h;exact aO J J (cS [] 7) ⟨J,J⟩
theorem lC {r:Bool}: ∀v post,((fun (u:Value) (post:List Chunk)=>u=.bool r∧post=[])) v post→ ∀c∈post,bV c:=by
 rintro _ _ ⟨rfl,rfl⟩;exact ac
def fK (N:Nat)(a0:Ma)(a1:Int):Option (Int ⊕ Int):=
 bif decide (a1.tmod 2=1) then (cR (bK (a1.tdiv 2)) ((bU a0.m_.Young (a1.tdiv 2)).bind fun x10=>some (.inl (a1.tdiv 2)))) else (cR (bK (a1.tdiv 2)) (cR (bK ((a1.tdiv 2) - 1)) ((bU a0.m_.Old ((a1.tdiv 2) - 1)).bind fun x13=>some (.inr ((a1.tdiv 2) - 1)))))
theorem fo {N:Nat}{a0:Ma}{a1:Int}{r:(Int ⊕ Int)}(h:fK N a0 a1=some r):Okc Tryz.prog 210 [pV B1 0,iV a1] ([aR B1 199 [I A2 n2 c2,I A3 n3 c3,I A4 n4 c4,I A5 n5 c5,pV B6 0],rL A2 n2 c2 a0.m_.Young,rL A3 n3 c3 a0.m_.Old,dm A4 n4 c4 a0.roots_,dm A5 n5 c5 a0.pending_,aR B6 247 [.map (some M7)],iM cv cx M7 a0.set_.at_]) (fun u post=>Kr (fun (r:Int)=>u=eA (I A2 n2 c2) r.toNat 6 0∧post=[]) (fun (r:Int)=>u=eA (I A3 n3 c3) r.toNat 6 0∧post=[]) r):=by
 refine br Tryz.func210 J J ?_;simp only [aS];refine Y ?_;refine az ?_;refine Y ?_;refine gE (pF J J (by decide)) ?_;refine Y ?_;refine au J (fun g8=> ?_) (fun g8=> ?_)
 ·replace h:=ah g8 h;refine Y ?_;refine gR (cJ 0 J J AM J) ?_;refine Y ?_;obtain ⟨q9,h⟩:=ay h;refine gE (yP J J (by decide) q9.1 q9.2) ?_;obtain ⟨x10,hx10,h⟩:=aa h;obtain ⟨lx10,ux10,hx10⟩:=aI hx10;refine gR (bp 1 J aU J J LM cO lx10 ux10) ?_;refine Y ?_;obtain rfl:=ap h;exact aO J J (cS [] 7) ⟨J,J⟩
 replace h:=ai g8 h;refine Y ?_;refine gR (cJ 0 J J AM J) ?_;refine Y ?_;obtain ⟨q11,h⟩:=ay h;refine gE (yP J J (by decide) q11.1 q11.2) ?_;obtain ⟨q12,h⟩:=ay h;refine gE (dl J J q12.1 q12.2) ?_;obtain ⟨x13,hx13,h⟩:=aa h;obtain ⟨lx13,ux13,hx13⟩:=aI hx13;refine gR (bp 2 J aU J J LM cO lx13 ux13) ?_;refine Y ?_;obtain rfl:=ap h;exact aO J J (cS [] 7) ⟨J,J⟩
theorem eu {r:(Int ⊕ Int)}{A2:Option Addr}{n2:Nat}{c2:Nat}{A3:Option Addr}{n3:Nat}{c3:Nat}: ∀v post,((fun (u:Value) (post:List Chunk)=>Kr (fun (r:Int)=>u=eA (I A2 n2 c2) r.toNat 6 0∧post=[]) (fun (r:Int)=>u=eA (I A3 n3 c3) r.toNat 6 0∧post=[]) r)) v post→ ∀c∈post,bV c:=by
 rcases r with _|_<;>(rintro _ _ ⟨rfl,rfl⟩;exact ac)
def mn (N:Nat)(a0:Ma)(a1:Int):Option (Mb×Bool):=
 (d8 N a0 a1).bind fun y9=>bif !y9 then (some ((⟨0,0,0,0,[],[]⟩:Mb),false)) else ((fK N a0 a1).bind fun y13=>AA y13 (fun y13_0=>(bU a0.m_.Young y13_0).bind fun x14=>(fZ N x14).bind fun y18=>some (y18,true)) (fun y13_1=>(bU a0.m_.Old y13_1).bind fun x21=>(fZ N x21).bind fun y25=>some (y25,true)))
theorem rM {N:Nat}{a0:Ma}{a1:Int}{r:(Mb×Bool)}(h:mn N a0 a1=some r):Okc Tryz.prog 203 [pV B1 0,iV a1] ([aR B1 199 [I A2 n2 c2,I A3 n3 c3,I A4 n4 c4,I A5 n5 c5,pV B6 0],rL A2 n2 c2 a0.m_.Young,rL A3 n3 c3 a0.m_.Old,dm A4 n4 c4 a0.roots_,dm A5 n5 c5 a0.pending_,aR B6 247 [.map (some M7)],iM cv cx M7 a0.set_.at_]) (fun u post=> ∃A0 n0 c0 A1 n1 c1,u=.tuple #[.agg #[iV r.1.Kind,iV r.1.Shape,iV r.1.Flags,iV r.1.Age,I A0 n0 c0,I A1 n1 c1],.bool r.2]∧post=[ba A0 n0 c0 r.1.Slots,ba A1 n1 c1 r.1.More]):=by
 refine br Tryz.func203 J J ?_;simp only [aS];refine Y ?_;refine gD (aH eT J) ?_;rintro _ _ ⟨B8,rfl,rfl⟩;refine Y ?_;refine az ?_;refine Y ?_;obtain ⟨y9,hy9,h⟩:=aa h;refine gD (al (mT hy9) Bq J (hD (ao (i:=1) J J) (hD (ao (i:=2) J J) (hD (ao (i:=3) J J) (hD (ao (i:=4) J J) (hD (ao (i:=5) J J) (hD (ao (i:=6) J J) (hD (ao (i:=7) J J) ac))))))) lC) ?_;rintro _ _ ⟨_,⟨rfl,rfl⟩,rfl⟩;refine Y ?_;refine au J (fun g10=> ?_) (fun g10=> ?_)
 ·replace h:=ah g10 h;refine Y ?_;refine gE (bd J (vA)) ?_;refine gO (ar (us:=[iV 0,iV 0,iV 0,iV 0,I none 0 0,I none 0 0]) (cs':=[iV 0,iV 0,iV 0,iV 0,I none 0 0,I none 0 0]) 0 J J J J cO J J J) ?_;rintro _ _ rfl;refine Y ?_;obtain rfl:=ap h;exact ca (rs:=[.cell 4 138,.tmp 5]) (vs:=[.agg #[iV 0,iV 0,iV 0,iV 0,I none 0 0,I none 0 0],.bool false]) J (.cons (bu 0 J J ce) (.cons (cD J) .nil)) J ((dY bS 30 _).trans ((dY bS 30 _).trans (cS [1,0] 10))) ⟨_,_,_,_,_,_,J,J⟩
 replace h:=ai g10 h;refine Y ?_;obtain ⟨y13,hy13,h⟩:=aa h;rcases y13 with y13_0|y13_1
 ·replace h:=BQ h;refine gD (al (fo hy13) tw J (hD (ao (i:=1) J J) (hD (ao (i:=2) J J) (hD (ao (i:=3) J J) (hD (ao (i:=4) J J) (hD (ao (i:=5) J J) (hD (ao (i:=6) J J) (hD (ao (i:=7) J J) ac))))))) eu) ?_;rintro _ _ ⟨_,⟨rfl,rfl⟩,rfl⟩;obtain ⟨x14,hx14,h⟩:=aa h;obtain ⟨lx14,ux14,hx14⟩:=aI hx14;refine gR (jD 2 J aU J (toNat_lt lx14 ux14)) ?_;refine Jp 2 J hx14 (yt x14) ?_;rintro _ _ ⟨A15,n15,c15,A16,n16,c16,rfl,rfl⟩;refine gR (DL (us:=[iV x14.Kind,iV x14.Shape,iV x14.Flags,iV x14.Age,I A15 n15 c15,I A16 n16 c16]) 0 J J ce J) ?_;obtain ⟨y18,hy18,h⟩:=aa h;refine gD (al (i7 hy18) ry J (hD (ao (i:=1) J J) (hD (ao (i:=2) J J) ac)) gk) ?_;rintro _ _ ⟨_,⟨A19,n19,c19,A20,n20,c20,rfl,rfl⟩,rfl⟩;refine gO (ar (us:=[iV y18.Kind,iV y18.Shape,iV y18.Flags,iV y18.Age,I A19 n19 c19,I A20 n20 c20]) (cs':=[iV y18.Kind,iV y18.Shape,iV y18.Flags,iV y18.Age,I A19 n19 c19,I A20 n20 c20]) 5 J J J J cO J J J) ?_;rintro _ _ rfl;refine Y ?_;obtain rfl:=ap h;exact ca (rs:=[.cell 4 138,.tmp 5]) (vs:=[.agg #[iV y18.Kind,iV y18.Shape,iV y18.Flags,iV y18.Age,I A19 n19 c19,I A20 n20 c20],.bool true]) J (.cons (bu 5 J J ce) (.cons (cD J) .nil)) J (cS [0,1] 13) ⟨_,_,_,_,_,_,J,J⟩
 replace h:=BP h;refine gD (al (fo hy13) tw J (hD (ao (i:=1) J J) (hD (ao (i:=2) J J) (hD (ao (i:=3) J J) (hD (ao (i:=4) J J) (hD (ao (i:=5) J J) (hD (ao (i:=6) J J) (hD (ao (i:=7) J J) ac))))))) eu) ?_;rintro _ _ ⟨_,⟨rfl,rfl⟩,rfl⟩;obtain ⟨x21,hx21,h⟩:=aa h;obtain ⟨lx21,ux21,hx21⟩:=aI hx21;refine gR (jD 3 J aU J (toNat_lt lx21 ux21)) ?_;refine Jp 3 J hx21 (yt x21) ?_;rintro _ _ ⟨A22,n22,c22,A23,n23,c23,rfl,rfl⟩;refine gR (DL (us:=[iV x21.Kind,iV x21.Shape,iV x21.Flags,iV x21.Age,I A22 n22 c22,I A23 n23 c23]) 0 J J ce J) ?_;obtain ⟨y25,hy25,h⟩:=aa h;refine gD (al (i7 hy25) ry J (hD (ao (i:=1) J J) (hD (ao (i:=2) J J) ac)) gk) ?_;rintro _ _ ⟨_,⟨A26,n26,c26,A27,n27,c27,rfl,rfl⟩,rfl⟩;refine gO (ar (us:=[iV y25.Kind,iV y25.Shape,iV y25.Flags,iV y25.Age,I A26 n26 c26,I A27 n27 c27]) (cs':=[iV y25.Kind,iV y25.Shape,iV y25.Flags,iV y25.Age,I A26 n26 c26,I A27 n27 c27]) 5 J J J J cO J J J) ?_;rintro _ _ rfl;refine bL ?_;refine Y ?_;obtain rfl:=ap h;exact ca (rs:=[.cell 4 138,.tmp 5]) (vs:=[.agg #[iV y25.Kind,iV y25.Shape,iV y25.Flags,iV y25.Age,I A26 n26 c26,I A27 n27 c27],.bool true]) J (.cons (bu 5 J J ce) (.cons (cD J) .nil)) J (cS [0,1] 13) ⟨_,_,_,_,_,_,J,J⟩
theorem qc {r:(Mb×Bool)}: ∀v post,((fun (u:Value) (post:List Chunk)=> ∃A0 n0 c0 A1 n1 c1,u=.tuple #[.agg #[iV r.1.Kind,iV r.1.Shape,iV r.1.Flags,iV r.1.Age,I A0 n0 c0,I A1 n1 c1],.bool r.2]∧post=[ba A0 n0 c0 r.1.Slots,ba A1 n1 c1 r.1.More])) v post→ ∀c∈post,bV c:=by
 rintro _ _ ⟨_,_,_,_,_,_,rfl,rfl⟩;exact hD dk (hD dk (ac))
def gW (N:Nat)(p23:Int)(p24:Int)(p25:Int)(p26:Int)(p27:(List Mg))(p28:(List Mg)):Option Mb:=
 some (⟨p23,p24,p25,p26,p27,p28⟩:Mb)
def cG (N:Nat)(a0:Md)(a1:Mg):Option Mb:=
 (jv N a1).bind fun y17=>bif !y17 then (some (⟨0,0,0,0,[],[]⟩:Mb)) else ((mn N a0.heap_ a1.N).bind fun y29=>gW N y29.1.Kind y29.1.Shape y29.1.Flags y29.1.Age y29.1.Slots y29.1.More)
theorem ir {N:Nat}{a0:Md}{a1:Mg}{r:Mb}(h:cG N a0 a1=some r):Okc Tryz.prog 146 [pV B1 0,(aZ a1)] ([aR B1 151 (Wk a0 B2 B9 A12 n12 c12 A13 n13 c13 A14 n14 c14),aR B2 199 [I A3 n3 c3,I A4 n4 c4,I A5 n5 c5,I A6 n6 c6,pV B7 0],rL A3 n3 c3 a0.heap_.m_.Young,rL A4 n4 c4 a0.heap_.m_.Old,dm A5 n5 c5 a0.heap_.roots_,dm A6 n6 c6 a0.heap_.pending_,aR B7 247 [.map (some M8)],iM cv cx M8 a0.heap_.set_.at_,aR B9 205 [I A10 n10 c10,.map (some M11)],vL A10 n10 c10 a0.shapes_.shapes_,iM aG cu M11 a0.shapes_.next_,bv A12 n12 c12 a0.symbols_,cE A13 n13 c13 a0.events_,bv A14 n14 c14 a0.out_]) (fun u post=> ∃A0 n0 c0 A1 n1 c1,u=.agg #[iV r.Kind,iV r.Shape,iV r.Flags,iV r.Age,I A0 n0 c0,I A1 n1 c1]∧post=[ba A0 n0 c0 r.Slots,ba A1 n1 c1 r.More]):=by
 refine br Tryz.func146 J J ?_;simp only [aS];refine Y ?_;refine gD (aL J J) ?_;rintro _ _ ⟨B15,rfl,rfl⟩;refine gD (aH eT J) ?_;rintro _ _ ⟨B16,rfl,rfl⟩;refine Y ?_;refine az ?_;refine Y ?_;refine gE (di J LN) ?_;refine Y ?_;refine gR (ab (us:=av a1) 1 J J aD J) ?_;obtain ⟨y17,hy17,h⟩:=aa h;refine gD (al (ph hy17) Bx J (ac) mM) ?_;rintro _ _ ⟨_,⟨rfl,rfl⟩,rfl⟩;refine Y ?_;refine au J (fun g18=> ?_) (fun g18=> ?_)
 ·replace h:=ah g18 h;refine Y ?_;refine gE (bd J (vA)) ?_;refine gO (ar (us:=[iV 0,iV 0,iV 0,iV 0,I none 0 0,I none 0 0]) (cs':=[iV 0,iV 0,iV 0,iV 0,I none 0 0,I none 0 0]) 0 J J J J cO J J J) ?_;rintro _ _ rfl;refine Y ?_;obtain rfl:=ap h;exact ca (rs:=[.cell 4 138]) (vs:=[.agg #[iV 0,iV 0,iV 0,iV 0,I none 0 0,I none 0 0]]) J (.cons (bu 0 J J ce) .nil) J ((dY bS 30 _).trans ((dY bS 30 _).trans (cS [1,0] 18))) ⟨_,_,_,_,_,_,J,J⟩
 replace h:=ai g18 h;refine Y ?_;refine aW (fun s L=> ∃p23 p24 p25 p26 p27 p28 B22 A27 n27 c27 A28 n28 c28,gW N p23 p24 p25 p26 p27 p28=some r∧s=[(4,pV B16 0),(5,pV B22 0)]∧L=[ba A27 n27 c27 p27,ba A28 n28 c28 p28,aj B22 138 [iV p23,iV p24,iV p25,iV p26,I A27 n27 c27,I A28 n28 c28],aj B16 138 [iV 0,iV 0,iV 0,iV 0,I none 0 0,I none 0 0]]) ?_ ?_
 ·refine bF V _ (ae _) ?_;refine zE 0 J (aw J) ?_;refine zE 1 J (bf J) ?_;refine zE 2 J (cb J lg) ?_;refine zR 3 J (cJ 2 J J lV J) ?_;refine zE 4 J (cb J xB) ?_;refine zR 5 J (aY 1 J J dv J) ?_;refine wx 6 10 V ?_ ?_
  ·obtain ⟨y29,hy29,h⟩:=aa h;refine jc J (al (rM hy29) En J (hD (ao (i:=3) J J) (hD (ao (i:=4) J J) (hD (ao (i:=5) J J) (hD (ao (i:=6) J J) (hD (ao (i:=7) J J) (hD (ao (i:=8) J J) (hD (ao (i:=9) J J) ac))))))) qc) J J J ?_;rintro _ _ ⟨_,⟨A30,n30,c30,A31,n31,c31,rfl,rfl⟩,rfl⟩;refine dB (cS [2,3,4,5,6,7,8,9,10,11,12,13,14,15,16,17] 18) ?_;refine zE 7 J (aw J) ?_;refine zE 8 J (bi J J) ?_;refine zE 9 J (bi J J) ?_;refine zD 10 J (aH eT J) ?_;rintro _ _ ⟨B32,rfl,rfl⟩;refine dB (cS [3,4,5,6,7,8,9,10,11,12,13,14,15,16,17,18] 19) ?_;refine zO 11 J (ar (us:=[iV y29.1.Kind,iV y29.1.Shape,iV y29.1.Flags,iV y29.1.Age,I A30 n30 c30,I A31 n31 c31]) (cs':=[iV y29.1.Kind,iV y29.1.Shape,iV y29.1.Flags,iV y29.1.Age,I A30 n30 c30,I A31 n31 c31]) 0 J J J J cO J J J) ?_;rintro _ _ rfl;refine dB (cS [3,4,5,6,7,8,9,10,11,12,13,14,15,16,17,18] 19) ?_;refine cX ?_;refine zE 12 J (be J) ?_;refine bz V ?_;refine eg ?_;exact ⟨_,_,⟨y29.1.Kind,y29.1.Shape,y29.1.Flags,y29.1.Age,y29.1.Slots,y29.1.More,B32,A30,n30,c30,A31,n31,c31,h,J,J⟩,sA,cS [1,2,0,3] 19⟩
  refine jc J (aH eT J) J J J ?_;rintro _ _ ⟨B29,rfl,rfl⟩;refine dB (cS [1,2,3,4,5,6,7,8,9,10,11,12,13,14,15,16] 17) ?_;obtain ⟨y30,hy30,h⟩:=aa h;refine zD 6 J (al (rM hy30) En J (hD (ao (i:=4) J J) (hD (ao (i:=5) J J) (hD (ao (i:=6) J J) (hD (ao (i:=7) J J) (hD (ao (i:=8) J J) (hD (ao (i:=9) J J) (hD (ao (i:=10) J J) ac))))))) qc) ?_;rintro _ _ ⟨_,⟨A31,n31,c31,A32,n32,c32,rfl,rfl⟩,rfl⟩;refine dB (cS [3,4,5,6,7,8,9,10,11,12,13,14,15,16,17,18] 19) ?_;refine zE 7 J (aw J) ?_;refine zE 8 J (bi J J) ?_;refine zE 9 J (bi J J) ?_;refine zO 11 J (ar (us:=[iV y30.1.Kind,iV y30.1.Shape,iV y30.1.Flags,iV y30.1.Age,I A31 n31 c31,I A32 n32 c32]) (cs':=[iV y30.1.Kind,iV y30.1.Shape,iV y30.1.Flags,iV y30.1.Age,I A31 n31 c31,I A32 n32 c32]) 2 J J J J cO J J J) ?_;rintro _ _ rfl;refine dB (cS [3,4,5,6,7,8,9,10,11,12,13,14,15,16,17,18] 19) ?_;refine cX ?_;refine zE 12 J (be J) ?_;refine bz V ?_;refine eg ?_;exact ⟨_,_,⟨y30.1.Kind,y30.1.Shape,y30.1.Flags,y30.1.Age,y30.1.Slots,y30.1.More,B29,A31,n31,c31,A32,n32,c32,h,J,J⟩,sA,cS [0,1,2,3] 19⟩
 rintro _ _ ⟨p23,p24,p25,p26,p27,p28,B22,A27,n27,c27,A28,n28,c28,h,rfl,rfl⟩;refine Y ?_;refine gR (ab (us:=[iV p23,iV p24,iV p25,iV p26,I A27 n27 c27,I A28 n28 c28]) 2 J J ce J) ?_;refine gO (ar (us:=[iV p23,iV p24,iV p25,iV p26,I A27 n27 c27,I A28 n28 c28]) (cs':=[iV p23,iV p24,iV p25,iV p26,I A27 n27 c27,I A28 n28 c28]) 3 J J J J cO J J J) ?_;rintro _ _ rfl;refine Y ?_;obtain rfl:=ap h;exact ca (rs:=[.cell 4 138]) (vs:=[.agg #[iV p23,iV p24,iV p25,iV p26,I A27 n27 c27,I A28 n28 c28]]) J (.cons (bu 3 J J ce) .nil) J (cS [0,1] 4) ⟨_,_,_,_,_,_,J,J⟩
theorem gt {r:Mb}: ∀v post,((fun (u:Value) (post:List Chunk)=> ∃A0 n0 c0 A1 n1 c1,u=.agg #[iV r.Kind,iV r.Shape,iV r.Flags,iV r.Age,I A0 n0 c0,I A1 n1 c1]∧post=[ba A0 n0 c0 r.Slots,ba A1 n1 c1 r.More])) v post→ ∀c∈post,bV c:=by
 rintro _ _ ⟨_,_,_,_,_,_,rfl,rfl⟩;exact hD dk (hD dk (ac))
def dc (N:Nat)(a0:Md)(a1:Mg):Option (Unit ⊕ Ml):=
 bif !decide (a1.Kind=7) then (some (.inl ())) else ((cG N a0 a1).bind fun y17=>(bif decide ((y17.Slots.length:Int)=0) then (some true) else ((bU y17.Slots 0).bind fun x22=>(bif !decide (x22.Kind=1) then ((bU y17.Slots 0).bind fun x24=>some (!decide (x24.Kind=7))) else (some false)).bind fun b23=>some b23)).bind fun b21=>bif b21 then (some (.inl ())) else (some (.inr (⟨y17,a0,a1⟩:Ml))))
set_option maxHeartbeats 4000000 in
theorem bO {N:Nat}{a0:Md}{a1:Mg}{r:(Unit ⊕ Ml)}(h:dc N a0 a1=some r):Okc Tryz.prog 84 [pV B1 0,(aZ a1)] ([bv A12 n12 c12 a0.symbols_,cE A13 n13 c13 a0.events_,bv A14 n14 c14 a0.out_,aj B1 151 (Wk a0 B2 B9 A12 n12 c12 A13 n13 c13 A14 n14 c14),aj B2 199 [I A3 n3 c3,I A4 n4 c4,I A5 n5 c5,I A6 n6 c6,pV B7 0],bx A3 n3 c3 a0.heap_.m_.Young,bx A4 n4 c4 a0.heap_.m_.Old,ba A5 n5 c5 a0.heap_.roots_,ba A6 n6 c6 a0.heap_.pending_,aj B7 247 [.map (some M8)],aJ cv cx M8 a0.heap_.set_.at_,aj B9 205 [I A10 n10 c10,.map (some M11)],cI A10 n10 c10 a0.shapes_.shapes_,aJ aG cu M11 a0.shapes_.next_]) (fun u post=>Kr (fun (r:Unit)=>u=.tuple #[.pointer none,.bool false]∧post=[aj B1 151 (Wk a0 B2 B9 A12 n12 c12 A13 n13 c13 A14 n14 c14),aj B2 199 [I A3 n3 c3,I A4 n4 c4,I A5 n5 c5,I A6 n6 c6,pV B7 0],bx A3 n3 c3 a0.heap_.m_.Young,bx A4 n4 c4 a0.heap_.m_.Old,ba A5 n5 c5 a0.heap_.roots_,ba A6 n6 c6 a0.heap_.pending_,aj B7 247 [.map (some M8)],aJ cv cx M8 a0.heap_.set_.at_,aj B9 205 [I A10 n10 c10,.map (some M11)],cI A10 n10 c10 a0.shapes_.shapes_,aJ aG cu M11 a0.shapes_.next_]) (fun (r:Ml)=> ∃B500 A501 n501 c501 A502 n502 c502,u=.tuple #[pV B500 0,.bool true]∧post=[aj B500 140 [iV r.Cell.Kind,iV r.Cell.Shape,iV r.Cell.Flags,iV r.Cell.Age,I A501 n501 c501,I A502 n502 c502,pV B1 0,iV r.at_.Kind,iV r.at_.N,.string r.at_.S],ba A501 n501 c501 r.Cell.Slots,ba A502 n502 c502 r.Cell.More,aj B1 151 (Wk a0 B2 B9 A12 n12 c12 A13 n13 c13 A14 n14 c14),aj B2 199 [I A3 n3 c3,I A4 n4 c4,I A5 n5 c5,I A6 n6 c6,pV B7 0],bx A3 n3 c3 a0.heap_.m_.Young,bx A4 n4 c4 a0.heap_.m_.Old,ba A5 n5 c5 a0.heap_.roots_,ba A6 n6 c6 a0.heap_.pending_,aj B7 247 [.map (some M8)],aJ cv cx M8 a0.heap_.set_.at_,aj B9 205 [I A10 n10 c10,.map (some M11)],cI A10 n10 c10 a0.shapes_.shapes_,aJ aG cu M11 a0.shapes_.next_]) r):=by
 refine br Tryz.func84 J J ?_;simp only [aS];refine Y ?_;refine gD (aL J J) ?_;rintro _ _ ⟨B15,rfl,rfl⟩;refine Y ?_;refine az ?_;refine Y ?_;refine gE (di J LN) ?_;refine Y ?_;refine au J (fun g16=> ?_) (fun g16=> ?_)
 ·replace h:=ah g16 h;refine Y ?_;obtain rfl:=ap h;exact cT J J J (cS [4,5,6,7,8,9,10,11,12,13,14] 15) ⟨J,J⟩
 replace h:=ai g16 h;refine Y ?_;refine az ?_;refine bF V _ (ae _) ?_;refine zE 0 J (aw J) ?_;refine zR 1 J (ab (us:=av a1) 0 J J aD J) ?_;refine zE 3 J (aw J) ?_;refine zR 4 J (ab (us:=av a1) 0 J J aD J) ?_;obtain ⟨y17,hy17,h⟩:=aa h;refine zD 2 J (al (ir hy17) xJ J (hD (aB (i:=4) J) (hD (aB (i:=5) J) (hD (aq (i:=6) J) (hD (aq (i:=7) J) (hD (aq (i:=8) J) (hD (aq (i:=9) J) (hD (aB (i:=10) J) (hD (bc (i:=11) J) (hD (aB (i:=12) J) (hD (aq (i:=13) J) (hD (bc (i:=14) J) (hD (ao (i:=1) J J) (hD (ao (i:=2) J J) (hD (ao (i:=3) J J) ac)))))))))))))) gt) ?_;rintro _ _ ⟨_,⟨A18,n18,c18,A19,n19,c19,rfl,rfl⟩,rfl⟩;refine dB (cS [2,3,4,5,6,7,8,9,10,11,12,13,14,15,16] 17) ?_;refine zE 5 J (bd J (zS _ _ _ _ _ _ _ _ _ _ _ _ _ _)) ?_;refine zD 6 J (aL J J) ?_;rintro _ _ ⟨B20,rfl,rfl⟩;refine dB (cS [3,4,5,6,7,8,9,10,11,12,13,14,15,16,17] 18) ?_;refine zE 7 J (be J) ?_;refine bz V ?_;refine eg ?_;refine az ?_;refine Y ?_;refine gR (bG 1 J aA J hH) ?_;refine Y ?_;obtain ⟨b21,hb21,h⟩:=aa h;refine aN 21 49 b21 ?_ ?_
 ·clear h;refine aK 28 J (fun g21=> ?_) (fun g21=> ?_)
  ·have h:=ah g21 hb21;refine Y ?_;obtain rfl:=ap h;exact ad sA (cS [0,1,2,3,4,5,6,7,8,9,10,11,12,13,14,15,16,17] 18)
  have h:=ai g21 hb21;refine Y ?_;obtain ⟨x22,hx22,h⟩:=aa h;obtain ⟨lx22,ux22,hx22⟩:=aI hx22;refine ci (bp 1 J aA J J hH bm lx22 ux22) J (cU g21 J) J ?_;refine ci (pj 1 J aA J (toNat_lt lx22 ux22) oQ) J (cU g21 J) J ?_;refine ci (eX (u:=iV x22.Kind) 1 J aA J hx22 dv (fun _ _ _ h=>by rw [show _=_ from h];rfl)) J (cU g21 J) J ?_;refine Y ?_;obtain ⟨b23,hb23,h⟩:=aa h;refine aN 10 48 b23 ?_ ?_
  ·clear h;refine aK 38 J (fun g23=> ?_) (fun g23=> ?_)
   ·have h:=ah g23 hb23;refine Y ?_;obtain ⟨x24,hx24,h⟩:=aa h;obtain ⟨lx24,ux24,hx24⟩:=aI hx24;refine ci (bp 1 J aA J J hH bm lx24 ux24) J (bq g23 J) J ?_;refine ci (pj 1 J aA J (toNat_lt lx24 ux24) oQ) J (bq g23 J) J ?_;refine ci (eX (u:=iV x24.Kind) 1 J aA J hx24 dv (fun _ _ _ h=>by rw [show _=_ from h];rfl)) J (bq g23 J) J ?_;refine Y ?_;obtain rfl:=ap h;exact ad sA (cS [0,1,2,3,4,5,6,7,8,9,10,11,12,13,14,15,16,17] 18)
   have h:=ai g23 hb23;refine Y ?_;obtain rfl:=ap h;exact ad sA (cS [0,1,2,3,4,5,6,7,8,9,10,11,12,13,14,15,16,17] 18)
  refine Y ?_;obtain rfl:=ap h;exact ad sA (cS [0,1,2,3,4,5,6,7,8,9,10,11,12,13,14,15,16,17] 18)
 refine Y ?_;refine au J (fun g25=> ?_) (fun g25=> ?_)
 ·replace h:=ah g25 h;refine Y ?_;obtain rfl:=ap h;exact cT J J J (cS [7,8,9,10,11,12,13,14,15,16,17] 18) ⟨J,J⟩
 replace h:=ai g25 h;refine Y ?_;obtain rfl:=ap h;exact cT J J J (cS [0,1,2,7,8,9,10,11,12,13,14,15,16,17] 18) ⟨_,_,_,_,_,_,_,J,J⟩
def eQ (N:Nat)(a1:Mg):Option Unit:=
 some ()
theorem fm {N:Nat}{a1:Mg}{r:Unit}(h:eQ N a1=some r):Okc Tryz.prog 84 [.pointer none,(aZ a1)] ([]) (fun u post=>u=.tuple #[.pointer none,.bool false]∧post=[]):=by
 refine br Tryz.func84 J J ?_;simp only [aS];refine Y ?_;refine gD (aL J J) ?_;rintro _ _ ⟨B1,rfl,rfl⟩;refine Y ?_;refine az ?_;refine Y ?_;refine gE (di J LN) ?_;refine Y ?_;refine eN J ?_;refine Y ?_;obtain rfl:=ap h;exact cT J J J (cS [] 1) ⟨J,J⟩
theorem ef: ∀v post,((fun (u:Value) (post:List Chunk)=>u=.tuple #[.pointer none,.bool false]∧post=[])) v post→ ∀c∈post,bV c:=by
 rintro _ _ ⟨rfl,rfl⟩;exact ac
def lY (N:Nat)(a0:Md)(a1:Mg):Option Mg:=
 (dc N a0 a1).bind fun y17=>AA y17 (fun y17_0=>some (⟨0,0,⟨#[]⟩⟩:Mg)) (fun y17_1=>(bU y17_1.Cell.Slots 0).bind fun x35=>some x35)
theorem xb {N:Nat}{a0:Md}{a1:Mg}{r:Mg}(h:lY N a0 a1=some r):Okc Tryz.prog 79 [pV B1 0,(aZ a1)] ([bv A12 n12 c12 a0.symbols_,cE A13 n13 c13 a0.events_,bv A14 n14 c14 a0.out_,aj B1 151 (Wk a0 B2 B9 A12 n12 c12 A13 n13 c13 A14 n14 c14),aj B2 199 [I A3 n3 c3,I A4 n4 c4,I A5 n5 c5,I A6 n6 c6,pV B7 0],bx A3 n3 c3 a0.heap_.m_.Young,bx A4 n4 c4 a0.heap_.m_.Old,ba A5 n5 c5 a0.heap_.roots_,ba A6 n6 c6 a0.heap_.pending_,aj B7 247 [.map (some M8)],aJ cv cx M8 a0.heap_.set_.at_,aj B9 205 [I A10 n10 c10,.map (some M11)],cI A10 n10 c10 a0.shapes_.shapes_,aJ aG cu M11 a0.shapes_.next_]) (fun u post=>u=(aZ r)∧post=[aj B1 151 (Wk a0 B2 B9 A12 n12 c12 A13 n13 c13 A14 n14 c14),aj B2 199 [I A3 n3 c3,I A4 n4 c4,I A5 n5 c5,I A6 n6 c6,pV B7 0],bx A3 n3 c3 a0.heap_.m_.Young,bx A4 n4 c4 a0.heap_.m_.Old,ba A5 n5 c5 a0.heap_.roots_,ba A6 n6 c6 a0.heap_.pending_,aj B7 247 [.map (some M8)],aJ cv cx M8 a0.heap_.set_.at_,aj B9 205 [I A10 n10 c10,.map (some M11)],cI A10 n10 c10 a0.shapes_.shapes_,aJ aG cu M11 a0.shapes_.next_]):=by
 refine br Tryz.func79 J J ?_;simp only [aS];refine Y ?_;refine gD (aL J J) ?_;rintro _ _ ⟨B15,rfl,rfl⟩;refine gD (aH d9 J) ?_;rintro _ _ ⟨B16,rfl,rfl⟩;refine Y ?_;refine gR (ab (us:=av a1) 1 J J aD J) ?_;obtain ⟨y17,hy17,h⟩:=aa h;rcases y17 with y17_0|y17_1
 ·replace h:=BQ h;refine gD (aE (bO hy17) eL J (aC [2,3,4] [5,6,7,8,9,10,11,12,13,14,15] [0,1,2,3,4] 16 J)) ?_;rintro _ _ ⟨_,⟨rfl,rfl⟩,rfl⟩;refine Y ?_;refine az ?_;refine Y ?_;refine eN J ?_;refine Y ?_;refine gE (bd J (eM)) ?_;refine gO (ar (us:=[iV 0,iV 0,.string (⟨#[]⟩)]) (cs':=[iV 0,iV 0,.string (⟨#[]⟩)]) 11 J J J J bm J J J) ?_;rintro _ _ rfl;refine Y ?_;obtain rfl:=ap h;exact ca (rs:=[.cell 4 30]) (vs:=[.agg #[iV 0,iV 0,.string (⟨#[]⟩)]]) J (.cons (bu 11 J J aD) .nil) J (cS [0,1,2,3,4,5,6,7,8,9,10] 16) ⟨J,J⟩
 replace h:=BP h;refine gD (aE (bO hy17) eL J (aC [2,3,4] [5,6,7,8,9,10,11,12,13,14,15] [0,1,2,3,4] 16 J)) ?_;rintro _ _ ⟨_,⟨B18,A19,n19,c19,A20,n20,c20,rfl,rfl⟩,rfl⟩;refine bL ?_;refine Y ?_;refine az ?_;refine Y ?_;refine fI J ?_;refine Y ?_;obtain ⟨x35,hx35,h⟩:=aa h;obtain ⟨lx35,ux35,hx35⟩:=aI hx35;refine gR (bp 1 J aA J J hH bm lx35 ux35) ?_;refine gR (bj (us:=[iV x35.Kind,iV x35.N,.string x35.S]) 1 J aA J hx35 aD (fun _ _ _ h=>by rw [show _=_ from h];rfl)) ?_;refine gO (ar (us:=[iV x35.Kind,iV x35.N,.string x35.S]) (cs':=[iV x35.Kind,iV x35.N,.string x35.S]) 14 J J J J bm J J J) ?_;rintro _ _ rfl;refine Y ?_;obtain rfl:=ap h;exact ca (rs:=[.cell 4 30]) (vs:=[.agg #[iV x35.Kind,iV x35.N,.string x35.S]]) J (.cons (bu 14 J J aD) .nil) J (cS [3,4,5,6,7,8,9,10,11,12,13] 19) ⟨J,J⟩
def gg (N:Nat)(a0:Md)(a1:Mg):Option Bool:=
 bif decide (a1.Kind=7) then ((lY N a0 a1).bind fun y17=>some (!decide (y17.Kind=0))) else (some false)
theorem lq {N:Nat}{a0:Md}{a1:Mg}{r:Bool}(h:gg N a0 a1=some r):Okc Tryz.prog 177 [pV B1 0,(aZ a1)] ([bv A12 n12 c12 a0.symbols_,cE A13 n13 c13 a0.events_,bv A14 n14 c14 a0.out_,aj B1 151 (Wk a0 B2 B9 A12 n12 c12 A13 n13 c13 A14 n14 c14),aj B2 199 [I A3 n3 c3,I A4 n4 c4,I A5 n5 c5,I A6 n6 c6,pV B7 0],bx A3 n3 c3 a0.heap_.m_.Young,bx A4 n4 c4 a0.heap_.m_.Old,ba A5 n5 c5 a0.heap_.roots_,ba A6 n6 c6 a0.heap_.pending_,aj B7 247 [.map (some M8)],aJ cv cx M8 a0.heap_.set_.at_,aj B9 205 [I A10 n10 c10,.map (some M11)],cI A10 n10 c10 a0.shapes_.shapes_,aJ aG cu M11 a0.shapes_.next_]) (fun u post=>u=.bool r∧post=[aj B1 151 (Wk a0 B2 B9 A12 n12 c12 A13 n13 c13 A14 n14 c14),aj B2 199 [I A3 n3 c3,I A4 n4 c4,I A5 n5 c5,I A6 n6 c6,pV B7 0],bx A3 n3 c3 a0.heap_.m_.Young,bx A4 n4 c4 a0.heap_.m_.Old,ba A5 n5 c5 a0.heap_.roots_,ba A6 n6 c6 a0.heap_.pending_,aj B7 247 [.map (some M8)],aJ cv cx M8 a0.heap_.set_.at_,aj B9 205 [I A10 n10 c10,.map (some M11)],cI A10 n10 c10 a0.shapes_.shapes_,aJ aG cu M11 a0.shapes_.next_]):=by
 refine br Tryz.func177 J J ?_;simp only [aS];refine Y ?_;refine gD (aL J J) ?_;rintro _ _ ⟨B15,rfl,rfl⟩;refine Y ?_;refine gE (lL J LN) ?_;refine Y ?_;refine aK 12 J (fun g16=> ?_) (fun g16=> ?_)
 ·replace h:=ah g16 h;refine Y ?_;refine ci (ab (us:=av a1) 0 J J aD J) J (bq g16 J) J ?_;obtain ⟨y17,hy17,h⟩:=aa h;refine cr (aE (xb hy17) J1 J (aC [1,2,3] [4,5,6,7,8,9,10,11,12,13,14] [0,1,2,3] 15 J)) J (bq g16 J) J ?_;rintro _ _ ⟨_,⟨rfl,rfl⟩,rfl⟩;refine d3 (yR J (Gv _ _ _)) J (bq g16 J) J ?_;refine Y ?_;obtain rfl:=ap h;exact aO J J (cS [0,1,2,3,4,5,6,7,8,9,10] 15) ⟨J,J⟩
 replace h:=ai g16 h;refine Y ?_;obtain rfl:=ap h;exact aO J J (cS [4,5,6,7,8,9,10,11,12,13,14] 15) ⟨J,J⟩
def iD (N:Nat)(a1:Mg):Option Bool:=
 some false
theorem jJ {N:Nat}{a1:Mg}{r:Bool}(h:iD N a1=some r):Okc Tryz.prog 177 [.pointer none,(aZ a1)] ([]) (fun u post=>u=.bool r∧post=[]):=by
 refine br Tryz.func177 J J ?_;simp only [aS];refine Y ?_;refine gD (aL J J) ?_;rintro _ _ ⟨B1,rfl,rfl⟩;refine Y ?_;refine gE (lL J LN) ?_;refine Y ?_;obtain rfl:=ap h;exact aO J J (cS [] 1) ⟨J,J⟩
theorem iv {r:Bool}: ∀v post,((fun (u:Value) (post:List Chunk)=>u=.bool r∧post=[])) v post→ ∀c∈post,bV c:=by
 rintro _ _ ⟨rfl,rfl⟩;exact ac
def uE (N:Nat)(a0:Int):Option Bool:=
 (bif decide (0<a0) then (some (decide (a0.tmod 2=0))) else (some false)).bind fun b1=>some b1
theorem zv {N:Nat}{a0:Int}{r:Bool}(h:uE N a0=some r):Okc Tryz.prog 234 [iV a0] ([]) (fun u post=>u=.bool r∧post=[]):=by
 refine br Tryz.func234 J J ?_;simp only [aS];refine Y ?_;obtain ⟨b1,hb1,h⟩:=aa h;refine aN 4 9 b1 ?_ ?_
 ·clear h;refine aK 5 J (fun g1=> ?_) (fun g1=> ?_)
  ·have h:=ah g1 hb1;refine Y ?_;refine d3 (pF J J (by decide)) J (bq g1 J) J ?_;refine Y ?_;obtain rfl:=ap h;exact ad sA (cS [] 0)
  have h:=ai g1 hb1;refine Y ?_;obtain rfl:=ap h;exact ad sA (cS [] 0)
 refine Y ?_;obtain rfl:=ap h;exact aO J J (cS [] 0) ⟨J,J⟩
theorem wX {r:Bool}: ∀v post,((fun (u:Value) (post:List Chunk)=>u=.bool r∧post=[])) v post→ ∀c∈post,bV c:=by
 rintro _ _ ⟨rfl,rfl⟩;exact ac
def vq (N:Nat)(a0:Mg):Option Bool:=
 (bif decide (a0.Kind=7) then (some true) else (some (decide (a0.Kind=9)))).bind fun b2=>some b2
theorem zM {N:Nat}{a0:Mg}{r:Bool}(h:vq N a0=some r):Okc Tryz.prog 263 [(aZ a0)] ([]) (fun u post=>u=.bool r∧post=[]):=by
 refine br Tryz.func263 J J ?_;simp only [aS];refine Y ?_;refine gD (aL J J) ?_;rintro _ _ ⟨B1,rfl,rfl⟩;refine Y ?_;obtain ⟨b2,hb2,h⟩:=aa h;refine aN 4 10 b2 ?_ ?_
 ·clear h;refine aK 6 J (fun g2=> ?_) (fun g2=> ?_)
  ·have h:=ah g2 hb2;refine Y ?_;obtain rfl:=ap h;exact ad sA (cS [0] 1)
  have h:=ai g2 hb2;refine Y ?_;obtain rfl:=ap h;exact ad sA (cS [0] 1)
 refine Y ?_;obtain rfl:=ap h;exact aO J J (cS [] 1) ⟨J,J⟩
theorem xg {r:Bool}: ∀v post,((fun (u:Value) (post:List Chunk)=>u=.bool r∧post=[])) v post→ ∀c∈post,bV c:=by
 rintro _ _ ⟨rfl,rfl⟩;exact ac
def mw (N:Nat)(a1:Bool)(x8:Bool×Mg):((List Int))→Option (Option Exit×(List Int))
 |p9=>(bif x8.1==a1 then ((vq N x8.2).bind fun y14=>some y14) else (some false)).bind fun b13=>bif b13 then (cR (fu (p9.length+([x8.2.N]:List Int).length)) (some (none,p9++([x8.2.N]:List Int)))) else (some (none,p9))
def mW (N:Nat)(a0:Mb)(a1:Bool):Option (List Int):=
 (uu N a0).bind fun y6=>(ll N a0 (kj (fun x st=>mw N a1 x st)) (none,[])).bind fun y10=>wP y10.1 (some y10.2) none (fun _=>none)
theorem qi {N:Nat}{a0:Mb}{a1:Bool}{r:(List Int)}(h:mW N a0 a1=some r):Okc Tryz.prog 256 [.agg #[iV a0.Kind,iV a0.Shape,iV a0.Flags,iV a0.Age,I A1 n1 c1,I A2 n2 c2],.bool a1] ([dm A1 n1 c1 a0.Slots,dm A2 n2 c2 a0.More]) (fun u post=> ∃A0 n0 c0,u=I A0 n0 c0∧post=[dH (nX .i64) 3 (I A0 n0 c0) r]):=by
 refine br Tryz.func256 J J ?_;simp only [aS];refine Y ?_;refine gD (aL J J) ?_;rintro _ _ ⟨B3,rfl,rfl⟩;refine gD (aL J J) ?_;rintro _ _ ⟨B4,rfl,rfl⟩;refine Y ?_;refine gD (aH Hj J) ?_;rintro _ _ ⟨B5,rfl,rfl⟩;refine Y ?_;refine az ?_;refine Y ?_;refine gR (ab (us:=[iV a0.Kind,iV a0.Shape,iV a0.Flags,iV a0.Age,I A1 n1 c1,I A2 n2 c2]) 2 J J ce J) ?_;obtain ⟨y6,hy6,h⟩:=aa h;refine gD (al (wO hy6) El J (hD (ao (i:=3) J J) (hD (ao (i:=4) J J) ac)) t8) ?_;rintro _ _ ⟨_,⟨B7,rfl,rfl⟩,rfl⟩;refine jT ?_;refine eg ?_;refine f3 ?_ bX (o4 0 J);obtain ⟨y10,hy10,h⟩:=aa h;refine vJ (en:=(fun x=> [.bool x.1,.agg #[iV x.2.Kind,iV x.2.N,.string x.2.S]])) (fun x st=>mw N a1 x st) (fun (st:(List Int)) (mz:((Option Addr×Nat×Nat)))=> [aj B4 4 [.bool a1],dH (nX .i64) 3 (.slice mz.1 mz.2.1 mz.2.2) st,aj B5 211 [.slice mz.1 mz.2.1 mz.2.2]]) [aR B7 138 [iV a0.Kind,iV a0.Shape,iV a0.Flags,iV a0.Age,I A1 n1 c1,I A2 n2 c2],dm A1 n1 c1 a0.Slots,dm A2 n2 c2 a0.More] ([]) ((none,0,0)) J J Ei J (fun _=>J) (fun l G hY=>(sS hy10 hY).mono fun _ _ hh=>hh.2) ((dY (nX .i64) 3 _).trans (aC [1,5,6] [] [3,0,2] 7 J)) h ?_ ?_ ?_ ?_
 ·rintro l x8 p9 je sr8 ⟨A9,n9,c9⟩ h;replace h:mw N a1 x8 p9=some (je,sr8):=h;simp only [yU,List.zip_cons_cons,List.zip_nil_left,List.zip_nil_right,List.reverse_cons,List.reverse_nil,List.nil_append,List.cons_append];refine Y ?_;refine gD (aH d9 J) ?_;rintro _ _ ⟨B12,rfl,rfl⟩;refine gO (ar (us:=[iV x8.2.Kind,iV x8.2.N,.string x8.2.S]) (cs':=[iV x8.2.Kind,iV x8.2.N,.string x8.2.S]) 0 J J J J bm J J J) ?_;rintro _ _ rfl;refine Y ?_;refine gE (yT J J LP) ?_;refine Y ?_;obtain ⟨b13,hb13,h⟩:=aa h;refine aN 3 18 b13 ?_ ?_
  ·clear h;refine aK 15 J (fun g13=> ?_) (fun g13=> ?_)
   ·have h:=ah g13 hb13;refine ci (ab (us:=[iV x8.2.Kind,iV x8.2.N,.string x8.2.S]) 0 J J aD J) J (bq g13 J) J ?_;obtain ⟨y14,hy14,h⟩:=aa h;refine cr (al (zM hy14) Ij J (ac) xg) J (bq g13 J) J ?_;rintro _ _ ⟨_,⟨rfl,rfl⟩,rfl⟩;refine Y ?_;obtain rfl:=ap h;exact ad sA (cS [0,1,2,3] 4)
   have h:=ai g13 hb13;refine Y ?_;obtain rfl:=ap h;exact ad sA (cS [0,1,2,3] 4)
  refine Y ?_;refine au J (fun g15=> ?_) (fun g15=> ?_)
  ·replace h:=ah g15 h;refine Y ?_;refine gD (bP (R:=(nX .i64)) (vss:=[[iV x8.2.N]]) (xs:=[x8.2.N]) J (Am _) J J (fun _ _ hr=> .cons J All2.nil)) ?_;rintro _ _ ⟨A16,n16,c16,rfl,rfl⟩;obtain ⟨q17,h⟩:=ay h;refine gD (da 3 0 J J aA J J LQ La J J q17) ?_;rintro _ _ ⟨A18,n18,c18,rfl,rfl⟩;refine bL ?_;refine gO (ar (us:=[I A18 n18 c18]) (cs':=[I A18 n18 c18]) 4 J J J J Hx J J J) ?_;rintro _ _ rfl;refine Y ?_;obtain ⟨rfl,rfl⟩:=Prod.mk.inj (Option.some.inj h);exact FI ((cS [2,3,4] 5).trans (ko (A18,n18,c18) J))
  replace h:=ai g15 h;refine Y ?_;obtain ⟨rfl,rfl⟩:=Prod.mk.inj (Option.some.inj h);exact FI ((cS [1,2,3] 4).trans (ko (A9,n9,c9) J))
 ·rintro ⟨A9,n9,c9⟩ h;refine rC ([aj B4 4 [.bool a1],dH (nX .i64) 3 (I A9 n9 c9) y10.2,aj B5 211 [I A9 n9 c9]]) J ?_;refine Y ?_;obtain rfl:=ap h;exact aO J J (cS [1] 3) ⟨_,_,_,J,J⟩
 ·rintro ⟨A9,n9,c9⟩ h;exact bg h
 rintro i ⟨A9,n9,c9⟩ h;exact bg h
theorem oG {r:(List Int)}: ∀v post,((fun (u:Value) (post:List Chunk)=> ∃A0 n0 c0,u=I A0 n0 c0∧post=[dH (nX .i64) 3 (I A0 n0 c0) r])) v post→ ∀c∈post,bV c:=by
 rintro _ _ ⟨_,_,_,rfl,rfl⟩;exact hD dk (ac)
def vt (N:Nat)(a0:Mb):Option (List Int):=
 (mW N a0 true).bind fun y4=>some y4
theorem zP {N:Nat}{a0:Mb}{r:(List Int)}(h:vt N a0=some r):Okc Tryz.prog 246 [.agg #[iV a0.Kind,iV a0.Shape,iV a0.Flags,iV a0.Age,I A1 n1 c1,I A2 n2 c2]] ([dm A1 n1 c1 a0.Slots,dm A2 n2 c2 a0.More]) (fun u post=> ∃A0 n0 c0,u=I A0 n0 c0∧post=[dH (nX .i64) 3 (I A0 n0 c0) r]):=by
 refine br Tryz.func246 J J ?_;simp only [aS];refine Y ?_;refine gD (aL J J) ?_;rintro _ _ ⟨B3,rfl,rfl⟩;refine Y ?_;refine gR (ab (us:=[iV a0.Kind,iV a0.Shape,iV a0.Flags,iV a0.Age,I A1 n1 c1,I A2 n2 c2]) 0 J J ce J) ?_;obtain ⟨y4,hy4,h⟩:=aa h;refine gD (al (qi hy4) Ee J (hD (ao (i:=1) J J) (hD (ao (i:=2) J J) ac)) oG) ?_;rintro _ _ ⟨_,⟨A5,n5,c5,rfl,rfl⟩,rfl⟩;refine Y ?_;obtain rfl:=ap h;exact aO J J (cS [0] 4) ⟨_,_,_,J,J⟩
theorem xh {r:(List Int)}: ∀v post,((fun (u:Value) (post:List Chunk)=> ∃A0 n0 c0,u=I A0 n0 c0∧post=[dH (nX .i64) 3 (I A0 n0 c0) r])) v post→ ∀c∈post,bV c:=by
 rintro _ _ ⟨_,_,_,rfl,rfl⟩;exact hD dk (ac)
def ou (N:Nat)(ff:Int→Option Bool):Option Int:=
 some (-1)
def kL (N:Nat)(ff:Int→Option Bool)(a0:(List Int)):Nat→Int→Option Int
 |0,_=>none
 |m3+1,p4=>bif decide (p4<(a0.length:Int)) then ((bU a0 p4).bind fun x6=>(ff x6).bind fun y7=>bif y7 then (some p4) else (cR (bK (p4+1)) ((kL N ff a0 m3) (p4+1)))) else (ou N ff)
def o9 (N:Nat)(a0:(List Int))(ff:Int→Option Bool):Option Int:=
 kL N ff a0 N 0
theorem tC {N:Nat}{a0:(List Int)}{ff:Int→Option Bool}{r:Int}(h:o9 N a0 ff=some r){vf:Value}{G:List Chunk}(hf:Ki Tryz.prog vf G (fun x=> [iV x]) (fun r=> .bool r) ff):Okc Tryz.prog 255 [I A1 n1 c1,vf] (pc (nX .i64) (I A1 n1 c1) a0::G) (fun u post=>u=iV r∧post=[]):=by
 refine br Tryz.func255 J J ?_;simp only [aS];refine Y ?_;refine aW (fun s L=>ou N ff=some r∧s=[(4,iV 0)]∧L=G) ?_ ?_
 ·refine Y ?_;refine gR (bG 0 J aU J LQ) ?_;refine Y ?_;refine bN (fun m s L=> ∃p4,kL N ff a0 m p4=some r∧s=[(0,I A1 n1 c1),(1,vf),(4,iV 0),(7,iV (a0.length:Int)),(8,iV p4)]∧L=pc (nX .i64) (I A1 n1 c1) a0::G) N _ _ ⟨0,h,J,J⟩ sA (cS [0] 1) ?_;rintro (_|m3) _ _ ⟨p4,h,rfl,rfl⟩
  ·exact bg h
  rw [kL.eq_2] at h;refine Y ?_;refine az ?_;refine au J (fun g5=> ?_) (fun g5=> ?_)
  ·replace h:=ah g5 h;refine Y ?_;refine az ?_;refine Y ?_;obtain ⟨x6,hx6,h⟩:=aa h;obtain ⟨lx6,ux6,hx6⟩:=aI hx6;refine gR (bp 0 J aU J J LQ gz lx6 ux6) ?_;refine gR (eX (u:=iV x6) 0 J aU J hx6 dv (fun _ _ _ h=>by rw [show _=_ from h];rfl)) ?_;obtain ⟨y7,hy7,h⟩:=aa h;refine gD (F8 (a:=x6) [pc (nX .i64) (I A1 n1 c1) a0] hf hy7 J J) ?_;rintro _ _ ⟨rfl,rfl⟩;refine Y ?_;refine au J (fun g8=> ?_) (fun g8=> ?_)
   ·replace h:=ah g8 h;refine Y ?_;obtain rfl:=ap h;exact aO J J (Bf [] 1 J J) ⟨J,J⟩
   replace h:=ai g8 h;refine Y ?_;obtain ⟨q9,h⟩:=ay h;refine gE (bE J J q9.1 q9.2) ?_;refine Y ?_;exact ⟨m3,_,_,Mw _,⟨p4+1,h,J,J⟩,sA,cS [0] 1⟩
  replace h:=ai g5 h;refine Y ?_;exact ⟨_,_,⟨h,J,J⟩,sA,cS [] 1⟩
 rintro _ _ ⟨h,rfl,rfl⟩;refine Y ?_;obtain rfl:=ap h;exact aO J J (Bf [] 0 J J) ⟨J,J⟩
theorem rT {r:Int}: ∀v post,((fun (u:Value) (post:List Chunk)=>u=iV r∧post=[])) v post→ ∀c∈post,bV c:=by
 rintro _ _ ⟨rfl,rfl⟩;exact ac
def jx (N:Nat)(a0:(List Int))(ff:Int→Option Bool):Option Bool:=
 (o9 N a0 ff).bind fun y2=>some (decide (0≤y2))
theorem lR {N:Nat}{a0:(List Int)}{ff:Int→Option Bool}{r:Bool}(h:jx N a0 ff=some r){vf:Value}{G:List Chunk}(hf:Ki Tryz.prog vf G (fun x=> [iV x]) (fun r=> .bool r) ff):Okc Tryz.prog 245 [I A1 n1 c1,vf] (pc (nX .i64) (I A1 n1 c1) a0::G) (fun u post=>u=.bool r∧post=[]):=by
 refine br Tryz.func245 J J ?_;simp only [aS];refine Y ?_;obtain ⟨y2,hy2,h⟩:=aa h;refine gD (al (tC hy2 hf) Il J (hD (ao (i:=0) J J) (z8 (E:=[pc (nX .i64) (I A1 n1 c1) a0]) hf.1)) rT) ?_;rintro _ _ ⟨_,⟨rfl,rfl⟩,rfl⟩;refine Y ?_;obtain rfl:=ap h;exact aO J J (Bf [] 1 J J) ⟨J,J⟩
theorem kW {r:Bool}: ∀v post,((fun (u:Value) (post:List Chunk)=>u=.bool r∧post=[])) v post→ ∀c∈post,bV c:=by
 rintro _ _ ⟨rfl,rfl⟩;exact ac
def pg (N:Nat)(a0:Int):Option Bool:=
 (bif decide (0<a0) then (some (decide (a0.tmod 2=1))) else (some false)).bind fun b1=>some b1
theorem rE {N:Nat}{a0:Int}{r:Bool}(h:pg N a0=some r):Okc Tryz.prog 247 [iV a0] ([]) (fun u post=>u=.bool r∧post=[]):=by
 refine br Tryz.func247 J J ?_;simp only [aS];refine Y ?_;obtain ⟨b1,hb1,h⟩:=aa h;refine aN 4 9 b1 ?_ ?_
 ·clear h;refine aK 5 J (fun g1=> ?_) (fun g1=> ?_)
  ·have h:=ah g1 hb1;refine Y ?_;refine d3 (pF J J (by decide)) J (bq g1 J) J ?_;refine Y ?_;obtain rfl:=ap h;exact ad sA (cS [] 0)
  have h:=ai g1 hb1;refine Y ?_;obtain rfl:=ap h;exact ad sA (cS [] 0)
 refine Y ?_;obtain rfl:=ap h;exact aO J J (cS [] 0) ⟨J,J⟩
def t9 (N:Nat)(a0:Mb):Option (List Int):=
 (mW N a0 false).bind fun y4=>some y4
theorem zg {N:Nat}{a0:Mb}{r:(List Int)}(h:t9 N a0=some r):Okc Tryz.prog 248 [.agg #[iV a0.Kind,iV a0.Shape,iV a0.Flags,iV a0.Age,I A1 n1 c1,I A2 n2 c2]] ([dm A1 n1 c1 a0.Slots,dm A2 n2 c2 a0.More]) (fun u post=> ∃A0 n0 c0,u=I A0 n0 c0∧post=[dH (nX .i64) 3 (I A0 n0 c0) r]):=by
 refine br Tryz.func248 J J ?_;simp only [aS];refine Y ?_;refine gD (aL J J) ?_;rintro _ _ ⟨B3,rfl,rfl⟩;refine Y ?_;refine gR (ab (us:=[iV a0.Kind,iV a0.Shape,iV a0.Flags,iV a0.Age,I A1 n1 c1,I A2 n2 c2]) 0 J J ce J) ?_;obtain ⟨y4,hy4,h⟩:=aa h;refine gD (al (qi hy4) Ee J (hD (ao (i:=1) J J) (hD (ao (i:=2) J J) ac)) oG) ?_;rintro _ _ ⟨_,⟨A5,n5,c5,rfl,rfl⟩,rfl⟩;refine Y ?_;obtain rfl:=ap h;exact aO J J (cS [0] 4) ⟨_,_,_,J,J⟩
theorem wk {r:(List Int)}: ∀v post,((fun (u:Value) (post:List Chunk)=> ∃A0 n0 c0,u=I A0 n0 c0∧post=[dH (nX .i64) 3 (I A0 n0 c0) r])) v post→ ∀c∈post,bV c:=by
 rintro _ _ ⟨_,_,_,rfl,rfl⟩;exact hD dk (ac)
def sk (N:Nat)(a0:Mb):Option Bool:=
 (vt N a0).bind fun y4=>(jx N y4 (fun x=>pg N x)).bind fun y6=>(bif y6 then (some true) else ((t9 N a0).bind fun y8=>(jx N y8 (fun x=>pg N x)).bind fun y10=>some y10)).bind fun b7=>some b7
theorem wY {N:Nat}{a0:Mb}{r:Bool}(h:sk N a0=some r):Okc Tryz.prog 235 [.agg #[iV a0.Kind,iV a0.Shape,iV a0.Flags,iV a0.Age,I A1 n1 c1,I A2 n2 c2]] ([dm A1 n1 c1 a0.Slots,dm A2 n2 c2 a0.More]) (fun u post=>u=.bool r∧post=[]):=by
 refine br Tryz.func235 J J ?_;simp only [aS];refine Y ?_;refine gD (aL J J) ?_;rintro _ _ ⟨B3,rfl,rfl⟩;refine Y ?_;refine gR (ab (us:=[iV a0.Kind,iV a0.Shape,iV a0.Flags,iV a0.Age,I A1 n1 c1,I A2 n2 c2]) 0 J J ce J) ?_;obtain ⟨y4,hy4,h⟩:=aa h;refine gD (al (zP hy4) Io J (hD (ao (i:=1) J J) (hD (ao (i:=2) J J) ac)) xh) ?_;rintro _ _ ⟨_,⟨A5,n5,c5,rfl,rfl⟩,rfl⟩;obtain ⟨y6,hy6,h⟩:=aa h;refine gD (al (lR hy6 ⟨ac,247, #[], #[],J,Ef,fun _ _ hh=>rE hh⟩) Eg J (hD (aq (i:=0) J) ac) kW) ?_;rintro _ _ ⟨_,⟨rfl,rfl⟩,rfl⟩;refine Y ?_;obtain ⟨b7,hb7,h⟩:=aa h;refine aN 4 10 b7 ?_ ?_
 ·clear h;refine aK 6 J (fun g7=> ?_) (fun g7=> ?_)
  ·have h:=ah g7 hb7;refine Y ?_;obtain rfl:=ap h;exact ad sA (cS [0,1,2,3] 4)
  have h:=ai g7 hb7;refine ci (ab (us:=[iV a0.Kind,iV a0.Shape,iV a0.Flags,iV a0.Age,I A1 n1 c1,I A2 n2 c2]) 1 J J ce J) J (cU g7 J) J ?_;obtain ⟨y8,hy8,h⟩:=aa h;refine cr (al (zg hy8) In J (hD (ao (i:=2) J J) (hD (ao (i:=3) J J) ac)) wk) J (cU g7 J) J ?_;rintro _ _ ⟨_,⟨A9,n9,c9,rfl,rfl⟩,rfl⟩;obtain ⟨y10,hy10,h⟩:=aa h;refine cr (al (lR hy10 ⟨ac,247, #[], #[],J,Ef,fun _ _ hh=>rE hh⟩) Eg J (hD (aq (i:=0) J) ac) kW) J (cU g7 J) J ?_;rintro _ _ ⟨_,⟨rfl,rfl⟩,rfl⟩;refine Y ?_;obtain rfl:=ap h;exact ad sA (cS [1,2,3,4] 5)
 refine Y ?_;obtain rfl:=ap h;exact aO J J (cS [] 4) ⟨J,J⟩
theorem uF {r:Bool}: ∀v post,((fun (u:Value) (post:List Chunk)=>u=.bool r∧post=[])) v post→ ∀c∈post,bV c:=by
 rintro _ _ ⟨rfl,rfl⟩;exact ac
def oA (N:Nat)(a1:Int)(a0:Mc):Option (Bool×Mc):=
 some (true,(⟨CU a0.at_ a1 true⟩:Mc))
def gV (N:Nat)(a0:Mc)(a1:Int)(a2:Mb):Option (Bool×Mc):=
 (uE N a1).bind fun y6=>bif !y6 then (some (false,a0)) else ((sk N a2).bind fun y8=>bif !y8 then (some (false,(⟨FA a0.at_ a1⟩:Mc))) else (oA N a1 a0))
theorem iU {N:Nat}{a0:Mc}{a1:Int}{a2:Mb}{r:(Bool×Mc)}(h:gV N a0 a1 a2=some r):Okc Tryz.prog 211 [pV B1 0,iV a1,.agg #[iV a2.Kind,iV a2.Shape,iV a2.Flags,iV a2.Age,I A3 n3 c3,I A4 n4 c4]] ([dm A3 n3 c3 a2.Slots,dm A4 n4 c4 a2.More,aj B1 247 [.map (some M2)],aJ cv cx M2 a0.at_]) (fun u post=> ∃M0,u=.bool r.1∧post=[aj B1 247 [.map (some M0)],aJ cv cx M0 r.2.at_]):=by
 refine br Tryz.func211 J J ?_;simp only [aS];refine Y ?_;refine gD (aL J J) ?_;rintro _ _ ⟨B5,rfl,rfl⟩;refine Y ?_;refine az ?_;refine Y ?_;refine gE (di J Tryz.underlying193) ?_;refine Y ?_;obtain ⟨y6,hy6,h⟩:=aa h;refine gD (al (zv hy6) It J (ac) wX) ?_;rintro _ _ ⟨_,⟨rfl,rfl⟩,rfl⟩;refine Y ?_;refine au J (fun g7=> ?_) (fun g7=> ?_)
 ·replace h:=ah g7 h;refine Y ?_;obtain rfl:=ap h;exact aO J J (cS [3,4] 5) ⟨_,J,J⟩
 replace h:=ai g7 h;refine Y ?_;refine az ?_;refine Y ?_;refine gR (ab (us:=[iV a2.Kind,iV a2.Shape,iV a2.Flags,iV a2.Age,I A3 n3 c3,I A4 n4 c4]) 0 J J ce J) ?_;obtain ⟨y8,hy8,h⟩:=aa h;refine gD (al (wY hy8) Is J (hD (ao (i:=1) J J) (hD (ao (i:=2) J J) ac)) uF) ?_;rintro _ _ ⟨_,⟨rfl,rfl⟩,rfl⟩;refine Y ?_;refine au J (fun g9=> ?_) (fun g9=> ?_)
 ·replace h:=ah g9 h;refine Y ?_;refine gO (Fa (a:=a1) 4 J J J LR (Ad EM)) ?_;rintro _ _ rfl;refine Y ?_;obtain rfl:=ap h;exact aO J J (cS [3,4] 5) ⟨_,J,J⟩
 replace h:=ai g9 h;refine Y ?_;refine aW (fun s L=>oA N a1 a0=some r∧s=[(0,pV B1 0),(1,iV a1),(6,.bool false)]∧L=[aJ cv cx M2 a0.at_,aj B1 247 [.map (some M2)]]) ?_ ?_
 ·refine Y ?_;refine gE (Fv J LR) ?_;refine Y ?_;refine fI J ?_;refine Y ?_;exact ⟨_,_,⟨h,J,J⟩,sA,cS [4,3] 5⟩
 rintro _ _ ⟨h,rfl,rfl⟩;refine Y ?_;refine gO (uL (a:=a1) (b:=true) 0 J J J J LR (Ad EM)) ?_;rintro _ _ rfl;refine Y ?_;obtain rfl:=ap h;exact aO J J (cS [1,0] 2) ⟨_,J,J⟩
theorem mH {r:(Bool×Mc)}{B1:Nat}: ∀v post,((fun (u:Value) (post:List Chunk)=> ∃M0,u=.bool r.1∧post=[aj B1 247 [.map (some M0)],aJ cv cx M0 r.2.at_])) v post→ ∀c∈post,bV c:=by
 rintro _ _ ⟨_,rfl,rfl⟩;exact hD sF (hD Fn (ac))
end Go.Proofs.YtanojiedimeegaaGreatDoor