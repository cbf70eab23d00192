/- Merged texts: part 9. No conditions of their own. -/
import Derived.Test.YtanojiedimeegaaGreatDoorG8
import Derived.Test.YtanojiedimeegaaGreatDoorG1
import Derived.KernelRfl
import Derived.Test.YtanojiedimeegaaGreatDoorG2
import Derived.Test.YtanojiedimeegaaGreatDoorRows
import Derived.ProofKit
import Derived.LaidMore
import Derived.OpenShut
import Derived.Stop.Joined
namespace Go.Proofs.YtanojiedimeegaaGreatDoor
section
theorem Ck:type_of% Tryz.underlying30:=Tryz.underlying30
theorem Cj:type_of% Tryz.func4:=Tryz.func4
variable {A1 A10 A12 A13 A14 A2 A3 A4 A5 A6:Option Addr} {B1 B2 B7 B9 M11 M8 c1 c10 c12 c13 c14 c2 c3 c4 c5 c6 n1 n10 n12 n13 n14 n2 n3 n4 n5 n6:Nat}
open Go.RowKit Asn
set_option maxRecDepth 20000
def pg (N:Nat)(a0:Cp):Option Bool:=
 (bif decide (a0.Kind<0) then (some true) else (some (decide (9<a0.Kind)))).bind fun b2=>bif b2 then (some false) else (bif decide (a0.Kind=5) then ((bif decide (a0.N=0) then (some (decide ((a0.S.size:Int)≤65536))) else (some false)).bind fun b5=>some b5) else (bif !(a0.S.toList==(⟨#[]⟩:ByteArray).toList) then (some false) else (bif decide (a0.Kind=2) then ((bif decide (a0.N=0) then (some true) else (some (decide (a0.N=1)))).bind fun b8=>some b8) else (bif decide (a0.Kind=3) then ((bif decide ((-9007199254740992)≤a0.N) then (some (decide (a0.N≤9007199254740992))) else (some false)).bind fun b10=>some b10) else ((bif decide (a0.Kind=6) then (some true) else (some (decide (a0.Kind=7)))).bind fun b11=>(bif b11 then (some true) else (some (decide (a0.Kind=9)))).bind fun b12=>bif b12 then (some (decide (1≤a0.N))) else (some (decide (a0.N=0))))))))
set_option maxHeartbeats 4000000 in
theorem t8 {N:Nat}{a0:Cp}{r:Bool}(h:pg N a0=some r):Okc Tryz.prog 60 [.agg #[iV a0.Kind,iV a0.N,.string a0.S]] ([]) (fun u post=>u=.bool r∧post=[]):=by
 refine bj Tryz.func60 J J ?_;simp only [aS];refine U ?_;refine gD (aN J J) ?_;rintro _ _ ⟨B1,rfl,rfl⟩;refine U ?_;refine aw ?_;refine U ?_;obtain ⟨b2,hb2,h⟩:=aa h;refine aA 4 10 b2 ?_ ?_
 ·clear h;refine ax 6 J (fun g2=> ?_) (fun g2=> ?_)
  ·have h:=ad g2 hb2;refine U ?_;obtain rfl:=al h;exact ab sA (cS [0] 1)
  have h:=ae g2 hb2;refine U ?_;obtain rfl:=al h;exact ab sA (cS [0] 1)
 refine U ?_;refine aq J (fun g3=> ?_) (fun g3=> ?_)
 ·replace h:=ad g3 h;refine U ?_;obtain rfl:=al h;exact aJ J J (cS [] 1) ⟨J,J⟩
 replace h:=ae g3 h;refine U ?_;refine aw ?_;refine U ?_;refine aq J (fun g4=> ?_) (fun g4=> ?_)
 ·replace h:=ad g4 h;refine U ?_;obtain ⟨b5,hb5,h⟩:=aa h;refine aA 5 22 b5 ?_ ?_
  ·clear h;refine ax 17 J (fun g5=> ?_) (fun g5=> ?_)
   ·have h:=ad g5 hb5;refine U ?_;refine fR (lH J hJ) J (aZ g5 J) J ?_;refine U ?_;obtain rfl:=al h;exact ab sA (cS [0] 1)
   have h:=ae g5 hb5;refine U ?_;obtain rfl:=al h;exact ab sA (cS [0] 1)
  refine U ?_;obtain rfl:=al h;exact aJ J J (cS [] 1) ⟨J,J⟩
 replace h:=ae g4 h;refine U ?_;refine aw ?_;refine U ?_;refine gE (tI J J) ?_;refine U ?_;refine aq J (fun g6=> ?_) (fun g6=> ?_)
 ·replace h:=ad g6 h;refine U ?_;obtain rfl:=al h;exact aJ J J (cS [] 1) ⟨J,J⟩
 replace h:=ae g6 h;refine U ?_;refine aw ?_;refine U ?_;refine aq J (fun g7=> ?_) (fun g7=> ?_)
 ·replace h:=ad g7 h;refine U ?_;obtain ⟨b8,hb8,h⟩:=aa h;refine aA 4 36 b8 ?_ ?_
  ·clear h;refine ax 32 J (fun g8=> ?_) (fun g8=> ?_)
   ·have h:=ad g8 hb8;refine U ?_;obtain rfl:=al h;exact ab sA (cS [0] 1)
   have h:=ae g8 hb8;refine U ?_;obtain rfl:=al h;exact ab sA (cS [0] 1)
  refine U ?_;obtain rfl:=al h;exact aJ J J (cS [] 1) ⟨J,J⟩
 replace h:=ae g7 h;refine U ?_;refine aw ?_;refine U ?_;refine aq J (fun g9=> ?_) (fun g9=> ?_)
 ·replace h:=ad g9 h;refine U ?_;obtain ⟨b10,hb10,h⟩:=aa h;refine aA 4 47 b10 ?_ ?_
  ·clear h;refine ax 43 J (fun g10=> ?_) (fun g10=> ?_)
   ·have h:=ad g10 hb10;refine U ?_;obtain rfl:=al h;exact ab sA (cS [0] 1)
   have h:=ae g10 hb10;refine U ?_;obtain rfl:=al h;exact ab sA (cS [0] 1)
  refine U ?_;obtain rfl:=al h;exact aJ J J (cS [] 1) ⟨J,J⟩
 replace h:=ae g9 h;refine U ?_;refine aw ?_;refine U ?_;obtain ⟨b11,hb11,h⟩:=aa h;refine aA 4 55 b11 ?_ ?_
 ·clear h;refine ax 51 J (fun g11=> ?_) (fun g11=> ?_)
  ·have h:=ad g11 hb11;refine U ?_;obtain rfl:=al h;exact ab sA (cS [0] 1)
  have h:=ae g11 hb11;refine U ?_;obtain rfl:=al h;exact ab sA (cS [0] 1)
 refine U ?_;obtain ⟨b12,hb12,h⟩:=aa h;refine aA 4 60 b12 ?_ ?_
 ·clear h;refine ax 56 J (fun g12=> ?_) (fun g12=> ?_)
  ·have h:=ad g12 hb12;refine U ?_;obtain rfl:=al h;exact ab sA (cS [0] 1)
  have h:=ae g12 hb12;refine U ?_;obtain rfl:=al h;exact ab sA (cS [0] 1)
 refine U ?_;refine aq J (fun g13=> ?_) (fun g13=> ?_)
 ·replace h:=ad g13 h;refine U ?_;obtain rfl:=al h;exact aJ J J (cS [] 1) ⟨J,J⟩
 replace h:=ae g13 h;refine U ?_;obtain rfl:=al h;exact aJ J J (cS [] 1) ⟨J,J⟩
theorem so {r:Bool}: ∀v post,((fun (u:Value) (post:List Chunk)=>u=.bool r∧post=[])) v post→ ∀c∈post,bS c:=by
 rintro _ _ ⟨rfl,rfl⟩;exact ac
def lC (N:Nat):Option Cp:=
 some (⟨8,0,⟨#[]⟩⟩:Cp)
theorem mC {N:Nat}{r:Cp}(h:lC N=some r):Okc Tryz.prog 92 [] ([]) (fun u post=>u=.agg #[iV r.Kind,iV r.N,.string r.S]∧post=[]):=by
 refine bj Tryz.func92 J J ?_;simp only [aS];refine U ?_;refine gD (aF dF J) ?_;rintro _ _ ⟨B1,rfl,rfl⟩;refine U ?_;refine gE (aW J (tR _)) ?_;refine gO (ao (us:=[iV 8,iV 0,.string (⟨#[]⟩)]) (cs':=[iV 8,iV 0,.string (⟨#[]⟩)]) 0 J J J J aT J J J) ?_;rintro _ _ rfl;refine U ?_;obtain rfl:=al h;exact bR (rs:=[.cell 0 30]) (vs:=[.agg #[iV 8,iV 0,.string (⟨#[]⟩)]]) J (.cons (bg 0 J J aH) .nil) J (cS [] 1) ⟨J,J⟩
theorem kC {r:Cp}: ∀v post,((fun (u:Value) (post:List Chunk)=>u=.agg #[iV r.Kind,iV r.N,.string r.S]∧post=[])) v post→ ∀c∈post,bS c:=by
 rintro _ _ ⟨rfl,rfl⟩;exact ac
def ga (N:Nat)(a0:Cp):Option Bool:=
 (bif decide (a0.Kind<7) then ((pg N a0).bind fun y3=>some y3) else (some false)).bind fun b2=>(bif b2 then (some true) else ((lC N).bind fun y5=>some (decide (a0=y5)))).bind fun b4=>some b4
theorem ki {N:Nat}{a0:Cp}{r:Bool}(h:ga N a0=some r):Okc Tryz.prog 91 [.agg #[iV a0.Kind,iV a0.N,.string a0.S]] ([]) (fun u post=>u=.bool r∧post=[]):=by
 refine bj Tryz.func91 J J ?_;simp only [aS];refine U ?_;refine gD (aN J J) ?_;rintro _ _ ⟨B1,rfl,rfl⟩;refine U ?_;refine aw ?_;refine bn O _ (am _) ?_;refine zE 0 J (cD J iB) ?_;refine zR 1 J (aM 0 J J co J) ?_;refine zE 2 J (uV J J) ?_;refine zE 3 J (av J) ?_;obtain ⟨b2,hb2,h⟩:=aa h;refine iS (fun l=>(((l.setIfInBounds 4 true).setIfInBounds 5 true).setIfInBounds 6 true)) 6 9 b2 (fun rest=> ?_) ?_
 ·clear h;refine ky 6 J (fun g2=> ?_) (fun g2=> ?_)
  ·have h:=ad g2 hb2;refine ie 4 J O (ai (us:=[iV a0.Kind,iV a0.N,.string a0.S]) 0 J J aH J) (aZ g2 J) J ?_;obtain ⟨y3,hy3,h⟩:=aa h;refine nc 5 J O (ak (t8 hy3) Au J (ac) so) J (aZ g2 J) J ?_;rintro _ _ ⟨_,⟨rfl,rfl⟩,rfl⟩;refine ⟨_,am _,am _,?_⟩;refine zE 6 J (eH g2 J J) ?_;obtain rfl:=al h;exact fx rest (dr J (ay (ay (ay bX J) J) J)) (am _) (am _)
  have h:=ae g2 hb2;refine cx 4 J O (fW g2 J) J ?_;refine cx 5 J O (fW g2 J) J ?_;refine zE 6 J (eI g2 J J) ?_;obtain rfl:=al h;exact fx rest (dr J (ay (ay (ay bX J) J) J)) (am _) (am _)
 refine zE 7 J (av J) ?_;obtain ⟨b4,hb4,h⟩:=aa h;refine iS (fun l=>((((l.setIfInBounds 8 true).setIfInBounds 9 true).setIfInBounds 10 true).setIfInBounds 11 true)) 1 14 b4 (fun rest=> ?_) ?_
 ·clear h;refine ky 10 J (fun g4=> ?_) (fun g4=> ?_)
  ·have h:=ad g4 hb4;refine cx 8 J O (oK g4 J) J ?_;refine cx 9 J O (oK g4 J) J ?_;refine cx 10 J O (oK g4 J) J ?_;refine zE 11 J (eH g4 J J) ?_;obtain rfl:=al h;exact fx rest (dr J (ay (ay (ay (ay bX J) J) J) J)) (am _) (am _)
  have h:=ae g4 hb4;refine ie 8 J O (ai (us:=[iV a0.Kind,iV a0.N,.string a0.S]) 0 J J aH J) (bO g4 J) J ?_;obtain ⟨y5,hy5,h⟩:=aa h;refine nc 9 J O (ak (mC hy5) uo J (ac) kC) J (bO g4 J) J ?_;rintro _ _ ⟨_,⟨rfl,rfl⟩,rfl⟩;refine ⟨_,am _,am _,?_⟩;refine fA 10 J O (mI (x:=a0) (y:=y5) J J) (bO g4 J) J ?_;refine zE 11 J (eI g4 J J) ?_;obtain rfl:=al h;exact fx rest (dr J (ay (ay (ay (ay bX J) J) J) J)) (am _) (am _)
 refine zE 12 J (aQ J) ?_;refine bc O ?_;refine U ?_;obtain rfl:=al h;exact aJ J J (cS [] 1) ⟨J,J⟩
theorem iy {r:Bool}: ∀v post,((fun (u:Value) (post:List Chunk)=>u=.bool r∧post=[])) v post→ ∀c∈post,bS c:=by
 rintro _ _ ⟨rfl,rfl⟩;exact ac
def px (N:Nat):Option Bool:=
 some true
def kj (N:Nat)(a0:(List CA)):Nat→Int→Option Bool
 |0,_=>none
 |m3+1,p4=>(bif decide (p4<(a0.length:Int)) then (some (decide (p4<40))) else (some false)).bind fun b5=>bif b5 then ((ck a0 p4).bind fun x7=>(ga N x7.V).bind fun y9=>(bif !y9 then (some true) else ((ga N x7.D.Value).bind fun y11=>some (!y11))).bind fun b10=>(bif b10 then (some true) else ((ga N x7.D.Get).bind fun y13=>some (!y13))).bind fun b12=>(bif b12 then (some true) else ((ga N x7.D.Set).bind fun y15=>some (!y15))).bind fun b14=>(bif b14 then (some true) else (some (decide (2000<(x7.K.S.size:Int))))).bind fun b16=>bif b16 then (some false) else ((bif decide (2000<x7.N) then (some (decide (x7.N≤4096))) else (some false)).bind fun b18=>(bif b18 then (some true) else ((bif decide (2000<x7.K.N) then (some (decide (x7.K.N<4096))) else (some false)).bind fun b20=>some b20)).bind fun b19=>(bif b19 then (some true) else ((bif decide (2000<x7.D.Value.N) then (some (decide (x7.D.Value.N≤4096))) else (some false)).bind fun b22=>some b22)).bind fun b21=>bif b21 then (some false) else (dD (cc (p4+1)) ((kj N a0 m3) (p4+1))))) else (px N)
def jE (N:Nat)(a0:(List CA)):Option Bool:=
 kj N a0 N 0
set_option maxHeartbeats 4000000 in
theorem ti {N:Nat}{a0:(List CA)}{r:Bool}(h:jE N a0=some r):Okc Tryz.prog 22 [I A1 n1 c1] ([iT uL (I A1 n1 c1) a0]) (fun u post=>u=.bool r∧post=[]):=by
 refine bj Tryz.func22 J J ?_;simp only [aS];refine U ?_;refine aY (fun s L=>px N=some r∧s=[(2,.bool false)]∧L=[]) ?_ ?_
 ·refine U ?_;refine ci (fun m s L=> ∃p4,kj N a0 m p4=some r∧s=[(0,I A1 n1 c1),(2,.bool false),(3,iV p4)]∧L=[iT uL (I A1 n1 c1) a0]) N _ _ ⟨0,h,J,J⟩ sA (cS [0] 1) ?_;rintro (_|m3) _ _ ⟨p4,h,rfl,rfl⟩
  ·exact bd h
  rw [kj.eq_2] at h;refine aw ?_;refine U ?_;refine gR (br 0 J aI J Tryz.underlying59) ?_;refine U ?_;obtain ⟨b5,hb5,h⟩:=aa h;refine aA 3 12 b5 ?_ ?_
  ·clear h;refine ax 9 J (fun g5=> ?_) (fun g5=> ?_)
   ·have h:=ad g5 hb5;refine U ?_;obtain rfl:=al h;exact ab sA (cS [0] 1)
   have h:=ae g5 hb5;refine U ?_;obtain rfl:=al h;exact ab sA (cS [0] 1)
  refine U ?_;refine aq J (fun g6=> ?_) (fun g6=> ?_)
  ·replace h:=ad g6 h;refine U ?_;refine aw ?_;refine U ?_;obtain ⟨x7,hx7,h⟩:=aa h;obtain ⟨lx7,ux7,hx7⟩:=aG hx7;refine gR (bf 0 J aI J J Tryz.underlying59 wD lx7 ux7) ?_;refine gR (bi (us:=[iV x7.Kind,iV x7.N,iV x7.K.Kind,iV x7.K.N,.string x7.K.S,iV x7.D.Has,iV x7.D.Attrs,iV x7.D.Value.Kind,iV x7.D.Value.N,.string x7.D.Value.S,iV x7.D.Get.Kind,iV x7.D.Get.N,.string x7.D.Get.S,iV x7.D.Set.Kind,iV x7.D.Set.N,.string x7.D.Set.S,iV x7.V.Kind,iV x7.V.N,.string x7.V.S]) 0 J aI J hx7 zP (fun _ _ _ h=>by rw [show _=_ from h];rfl)) ?_;refine gD (aF zY J) ?_;rintro _ _ ⟨B8,rfl,rfl⟩;refine gO (ao (us:=[iV x7.Kind,iV x7.N,iV x7.K.Kind,iV x7.K.N,.string x7.K.S,iV x7.D.Has,iV x7.D.Attrs,iV x7.D.Value.Kind,iV x7.D.Value.N,.string x7.D.Value.S,iV x7.D.Get.Kind,iV x7.D.Get.N,.string x7.D.Get.S,iV x7.D.Set.Kind,iV x7.D.Set.N,.string x7.D.Set.S,iV x7.V.Kind,iV x7.V.N,.string x7.V.S]) (cs':=[iV x7.Kind,iV x7.N,iV x7.K.Kind,iV x7.K.N,.string x7.K.S,iV x7.D.Has,iV x7.D.Attrs,iV x7.D.Value.Kind,iV x7.D.Value.N,.string x7.D.Value.S,iV x7.D.Get.Kind,iV x7.D.Get.N,.string x7.D.Get.S,iV x7.D.Set.Kind,iV x7.D.Set.N,.string x7.D.Set.S,iV x7.V.Kind,iV x7.V.N,.string x7.V.S]) 0 J J J J wD J J J) ?_;rintro _ _ rfl;refine U ?_;refine aw ?_;refine U ?_;refine gR (ai (us:=[iV x7.V.Kind,iV x7.V.N,.string x7.V.S]) 0 J J aH J) ?_;obtain ⟨y9,hy9,h⟩:=aa h;refine gD (ak (ki hy9) sL J (ac) iy) ?_;rintro _ _ ⟨_,⟨rfl,rfl⟩,rfl⟩;refine U ?_;obtain ⟨b10,hb10,h⟩:=aa h
   refine aA 6 29 b10 ?_ ?_
   ·clear h;refine ax 23 J (fun g10=> ?_) (fun g10=> ?_)
    ·have h:=ad g10 hb10;refine U ?_;obtain rfl:=al h;exact ab sA (cS [0,1] 2)
    have h:=ae g10 hb10;refine U ?_;refine bv (ai (us:=[iV x7.D.Value.Kind,iV x7.D.Value.N,.string x7.D.Value.S]) 0 J J aH J) J (bO g10 J) J ?_;obtain ⟨y11,hy11,h⟩:=aa h;refine bx (ak (ki hy11) sL J (ac) iy) J (bO g10 J) J ?_;rintro _ _ ⟨_,⟨rfl,rfl⟩,rfl⟩;refine U ?_;obtain rfl:=al h;exact ab sA (cS [0,1] 2)
   refine U ?_;obtain ⟨b12,hb12,h⟩:=aa h;refine aA 6 36 b12 ?_ ?_
   ·clear h;refine ax 30 J (fun g12=> ?_) (fun g12=> ?_)
    ·have h:=ad g12 hb12;refine U ?_;obtain rfl:=al h;exact ab sA (cS [0,1] 2)
    have h:=ae g12 hb12;refine U ?_;refine bv (ai (us:=[iV x7.D.Get.Kind,iV x7.D.Get.N,.string x7.D.Get.S]) 0 J J aH J) J (bO g12 J) J ?_;obtain ⟨y13,hy13,h⟩:=aa h;refine bx (ak (ki hy13) sL J (ac) iy) J (bO g12 J) J ?_;rintro _ _ ⟨_,⟨rfl,rfl⟩,rfl⟩;refine U ?_;obtain rfl:=al h;exact ab sA (cS [0,1] 2)
   refine U ?_;obtain ⟨b14,hb14,h⟩:=aa h;refine aA 6 43 b14 ?_ ?_
   ·clear h;refine ax 37 J (fun g14=> ?_) (fun g14=> ?_)
    ·have h:=ad g14 hb14;refine U ?_;obtain rfl:=al h;exact ab sA (cS [0,1] 2)
    have h:=ae g14 hb14;refine U ?_;refine bv (ai (us:=[iV x7.D.Set.Kind,iV x7.D.Set.N,.string x7.D.Set.S]) 0 J J aH J) J (bO g14 J) J ?_;obtain ⟨y15,hy15,h⟩:=aa h;refine bx (ak (ki hy15) sL J (ac) iy) J (bO g14 J) J ?_;rintro _ _ ⟨_,⟨rfl,rfl⟩,rfl⟩;refine U ?_;obtain rfl:=al h;exact ab sA (cS [0,1] 2)
   refine U ?_;obtain ⟨b16,hb16,h⟩:=aa h;refine aA 6 50 b16 ?_ ?_
   ·clear h;refine ax 44 J (fun g16=> ?_) (fun g16=> ?_)
    ·have h:=ad g16 hb16;refine U ?_;obtain rfl:=al h;exact ab sA (cS [0,1] 2)
    have h:=ae g16 hb16;refine U ?_;refine fR (lH J hJ) J (bO g16 J) J ?_;refine U ?_;obtain rfl:=al h;exact ab sA (cS [0,1] 2)
   refine U ?_;refine aq J (fun g17=> ?_) (fun g17=> ?_)
   ·replace h:=ad g17 h;refine U ?_;obtain rfl:=al h;exact aJ J J (cS [] 2) ⟨J,J⟩
   replace h:=ae g17 h;refine U ?_;obtain ⟨b18,hb18,h⟩:=aa h;refine aA 4 58 b18 ?_ ?_
   ·clear h;refine ax 54 J (fun g18=> ?_) (fun g18=> ?_)
    ·have h:=ad g18 hb18;refine U ?_;obtain rfl:=al h;exact ab sA (cS [0,1] 2)
    have h:=ae g18 hb18;refine U ?_;obtain rfl:=al h;exact ab sA (cS [0,1] 2)
   refine U ?_;obtain ⟨b19,hb19,h⟩:=aa h;refine aA 11 70 b19 ?_ ?_
   ·clear h;refine ax 59 J (fun g19=> ?_) (fun g19=> ?_)
    ·have h:=ad g19 hb19;refine U ?_;obtain rfl:=al h;exact ab sA (cS [0,1] 2)
    have h:=ae g19 hb19;refine U ?_;obtain ⟨b20,hb20,h⟩:=aa h;refine aA 5 69 b20 ?_ ?_
    ·clear h;refine ax 64 J (fun g20=> ?_) (fun g20=> ?_)
     ·have h:=ad g20 hb20;refine U ?_;obtain rfl:=al h;exact ab sA (cS [0,1] 2)
     have h:=ae g20 hb20;refine U ?_;obtain rfl:=al h;exact ab sA (cS [0,1] 2)
    refine U ?_;obtain rfl:=al h;exact ab sA (cS [0,1] 2)
   refine U ?_;obtain ⟨b21,hb21,h⟩:=aa h;refine aA 13 84 b21 ?_ ?_
   ·clear h;refine ax 71 J (fun g21=> ?_) (fun g21=> ?_)
    ·have h:=ad g21 hb21;refine U ?_;obtain rfl:=al h;exact ab sA (cS [0,1] 2)
    have h:=ae g21 hb21;refine U ?_;obtain ⟨b22,hb22,h⟩:=aa h;refine aA 6 83 b22 ?_ ?_
    ·clear h;refine ax 77 J (fun g22=> ?_) (fun g22=> ?_)
     ·have h:=ad g22 hb22;refine U ?_;obtain rfl:=al h;exact ab sA (cS [0,1] 2)
     have h:=ae g22 hb22;refine U ?_;obtain rfl:=al h;exact ab sA (cS [0,1] 2)
    refine U ?_;obtain rfl:=al h;exact ab sA (cS [0,1] 2)
   refine U ?_;refine aq J (fun g23=> ?_) (fun g23=> ?_)
   ·replace h:=ad g23 h;refine U ?_;obtain rfl:=al h;exact aJ J J (cS [] 2) ⟨J,J⟩
   replace h:=ae g23 h;refine U ?_;obtain ⟨q24,h⟩:=aB h;refine gE (bU J J q24.1 q24.2) ?_;refine U ?_;exact ⟨m3,_,_,CG _,⟨p4+1,h,J,J⟩,sA,cS [1] 2⟩
  replace h:=ae g6 h;refine U ?_;exact ⟨_,_,⟨h,J,J⟩,sA,cS [] 1⟩
 rintro _ _ ⟨h,rfl,rfl⟩;refine U ?_;obtain rfl:=al h;exact aJ J J (cS [] 0) ⟨J,J⟩
theorem rA {r:Bool}: ∀v post,((fun (u:Value) (post:List Chunk)=>u=.bool r∧post=[])) v post→ ∀c∈post,bS c:=by
 rintro _ _ ⟨rfl,rfl⟩;exact ac
def qy (N:Nat)(a0:(List Cp)):Option (Cp ⊕ (Cw×Cp×Bool)):=
 (iL N (⟨0,1048576,50,100,0,0,0⟩:Cs)).bind fun y3=>vP y3 (fun y3_0=>some (.inl (⟨0,0,⟨#[]⟩⟩:Cp))) (fun y3_1=>bif !decide (y3_1.2=0) then (some (.inl (⟨0,0,⟨#[]⟩⟩:Cp))) else ((pQ N y3_1.1 a0).bind fun y19=>some (.inr (y19.2.2,y19.1,y19.2.1))))
theorem eu {N:Nat}{a0:(List Cp)}{r:(Cp ⊕ (Cw×Cp×Bool))}(h:qy N a0=some r):Okc Tryz.prog 34 [I A1 n1 c1] ([cn A1 n1 c1 a0]) (fun u post=>AP (fun (r:Cp)=>u=.tuple #[.pointer none,.agg #[iV r.Kind,iV r.N,.string r.S],.bool false]∧post=[]) (fun (r:Cw×Cp×Bool)=> ∃B0 B1 A2 n2 c2 A3 n3 c3 A4 n4 c4 A5 n5 c5 B6 M7 B8 A9 n9 c9 M10 A11 n11 c11 A12 n12 c12 A13 n13 c13,u=.tuple #[pV B0 0,.agg #[iV r.2.1.Kind,iV r.2.1.N,.string r.2.1.S],.bool r.2.2]∧post=[aj B0 151 [iV r.1.spent_.steps_,iV r.1.spent_.made_,iV r.1.spent_.calls_,iV r.1.config_.Way,iV r.1.config_.Steps,iV r.1.config_.Calls,iV r.1.config_.Made,iV r.1.config_.Young,iV r.1.config_.Full,iV r.1.config_.Sites,.nilIface,pV B1 0,pV B8 0,I A11 n11 c11,iV r.1.epoch_,iV r.1.serial_,iV r.1.sleepers_,I A12 n12 c12,I A13 n13 c13],aj B1 199 [I A2 n2 c2,I A3 n3 c3,I A4 n4 c4,I A5 n5 c5,pV B6 0],bu A2 n2 c2 r.1.heap_.m_.Young,bu A3 n3 c3 r.1.heap_.m_.Old,aU A4 n4 c4 r.1.heap_.roots_,aU A5 n5 c5 r.1.heap_.pending_,aj B6 247 [.map (some M7)],aL cv cy M7 r.1.heap_.set_.at_,aj B8 205 [I A9 n9 c9,.map (some M10)],cR A9 n9 c9 r.1.shapes_.shapes_,aL aD cu M10 r.1.shapes_.next_,be A11 n11 c11 r.1.symbols_,ct A12 n12 c12 r.1.events_,be A13 n13 c13 r.1.out_]) r):=by
 refine bj Tryz.func34 J J ?_;simp only [aS];refine U ?_;refine gD (aF dF J) ?_;rintro _ _ ⟨B2,rfl,rfl⟩;refine U ?_;refine gE (aW J (oZ _ _ _)) ?_;obtain ⟨y3,hy3,h⟩:=aa h;rcases y3 with y3_0|y3_1
 ·replace h:=uH h;refine gD (aE (jt hy3) sQ J (aC [] [] [0,1] 2 J)) ?_;rintro _ _ ⟨_,⟨rfl,rfl⟩,rfl⟩;refine U ?_;refine aw ?_;refine U ?_;refine gE (cZ J hP) ?_;refine U ?_;refine f3 J ?_;refine U ?_;refine gE (aW J (iC)) ?_;refine U ?_;refine gO (ao (us:=[iV 0,iV 0,.string (⟨#[]⟩)]) (cs':=[iV 0,iV 0,.string (⟨#[]⟩)]) 0 J J J J aT J J J) ?_;rintro _ _ rfl;refine U ?_;obtain rfl:=al h;exact bR (rs:=[.tmp 2,.cell 3 30,.tmp 4]) (vs:=[.pointer none,.agg #[iV 0,iV 0,.string (⟨#[]⟩)],.bool false]) J (.cons (cJ J) (.cons (bg 0 J J aH) (.cons (cJ J) .nil))) J (cS [] 2) ⟨J,J⟩
 replace h:=uG h;refine gD (aE (jt hy3) sQ J (aC [] [] [0,1] 2 J)) ?_;rintro _ _ ⟨_,⟨B4,B5,A6,n6,c6,A7,n7,c7,A8,n8,c8,A9,n9,c9,B10,M11,B12,A13,n13,c13,M14,A15,n15,c15,A16,n16,c16,A17,n17,c17,rfl,rfl⟩,rfl⟩;refine bG ?_;refine U ?_;refine aw ?_;refine U ?_;refine gE (cZ J hP) ?_;refine U ?_;refine aq J (fun g18=> ?_) (fun g18=> ?_)
 ·replace h:=ad g18 h;refine U ?_;refine gE (aW J (iC)) ?_;refine U ?_;refine gO (ao (us:=[iV 0,iV 0,.string (⟨#[]⟩)]) (cs':=[iV 0,iV 0,.string (⟨#[]⟩)]) 14 J J J J aT J J J) ?_;rintro _ _ rfl;refine U ?_;obtain rfl:=al h;exact bR (rs:=[.tmp 2,.cell 3 30,.tmp 4]) (vs:=[.pointer none,.agg #[iV 0,iV 0,.string (⟨#[]⟩)],.bool false]) J (.cons (cJ J) (.cons (bg 14 J J aH) (.cons (cJ J) .nil))) J (cS [] 16) ⟨J,J⟩
 replace h:=ae g18 h;refine U ?_;obtain ⟨y19,hy19,h⟩:=aa h;refine gD (aE (tb hy19) At J (aC [11,12,13,15] [0,1,2,3,4,5,6,7,8,9,10] [11,12,13,14,15] 16 J)) ?_;rintro _ _ ⟨_,⟨A20,n20,c20,A21,n21,c21,A22,n22,c22,A23,n23,c23,M24,A25,n25,c25,M26,A27,n27,c27,A28,n28,c28,A29,n29,c29,rfl,rfl⟩,rfl⟩;refine U ?_;refine gD (aF dF J) ?_;rintro _ _ ⟨B30,rfl,rfl⟩;refine gO (ao (us:=[iV y19.1.Kind,iV y19.1.N,.string y19.1.S]) (cs':=[iV y19.1.Kind,iV y19.1.N,.string y19.1.S]) 0 J J J J aT J J J) ?_;rintro _ _ rfl;refine bG ?_;refine U ?_;refine aw ?_
 refine bn O ([aj B30 30 [iV y19.1.Kind,iV y19.1.N,.string y19.1.S],aj B4 151 [iV y19.2.2.spent_.steps_,iV y19.2.2.spent_.made_,iV y19.2.2.spent_.calls_,iV y19.2.2.config_.Way,iV y19.2.2.config_.Steps,iV y19.2.2.config_.Calls,iV y19.2.2.config_.Made,iV y19.2.2.config_.Young,iV y19.2.2.config_.Full,iV y19.2.2.config_.Sites,.nilIface,pV B5 0,pV B12 0,I A27 n27 c27,iV y19.2.2.epoch_,iV y19.2.2.serial_,iV y19.2.2.sleepers_,I A28 n28 c28,I A29 n29 c29],aj B5 199 [I A20 n20 c20,I A21 n21 c21,I A22 n22 c22,I A23 n23 c23,pV B10 0],bu A20 n20 c20 y19.2.2.heap_.m_.Young,bu A21 n21 c21 y19.2.2.heap_.m_.Old,aU A22 n22 c22 y19.2.2.heap_.roots_,aU A23 n23 c23 y19.2.2.heap_.pending_,aj B10 247 [.map (some M24)],aL cv cy M24 y19.2.2.heap_.set_.at_,aj B12 205 [I A25 n25 c25,.map (some M26)],cR A25 n25 c25 y19.2.2.shapes_.shapes_,aL aD cu M26 y19.2.2.shapes_.next_,be A27 n27 c27 y19.2.2.symbols_,ct A28 n28 c28 y19.2.2.events_,be A29 n29 c29 y19.2.2.out_,be A15 n15 c15 y3_1.1.symbols_,ct A16 n16 c16 y3_1.1.events_,be A17 n17 c17 y3_1.1.out_,cn A1 n1 c1 a0]) (cS [0,1,2,3,4,5,6,7,8,9,10,11,12,13,14,15,16,17,19] 20) ?_;refine zE 0 J (av J) ?_;refine zR 1 J (ai (us:=[iV y19.1.Kind,iV y19.1.N,.string y19.1.S]) 0 J J aH J) ?_;refine zE 2 J (av J) ?_;refine zE 3 J (aQ J) ?_;refine zO 4 J (ao (us:=[iV y19.1.Kind,iV y19.1.N,.string y19.1.S]) (cs':=[iV y19.1.Kind,iV y19.1.N,.string y19.1.S]) 18 J J J J aT J J J) ?_
 rintro _ _ rfl;refine cf (cS [0,1,2,3,4,5,6,7,8,9,10,11,12,13,14,15,16,17,19] 20) ?_;refine bC ?_;refine zE 5 J (aQ J) ?_;refine bc O ?_;refine U ?_;obtain rfl:=al h;exact bR (rs:=[.tmp 2,.cell 3 30,.tmp 4]) (vs:=[pV B4 0,.agg #[iV y19.1.Kind,iV y19.1.N,.string y19.1.S],.bool y19.2.1]) J (.cons (cJ J) (.cons (bg 18 J J aH) (.cons (cJ J) .nil))) J (cS [1,2,3,4,5,6,7,8,9,10,11,12,13,14] 20) ⟨_,_,_,_,_,_,_,_,_,_,_,_,_,_,_,_,_,_,_,_,_,_,_,_,_,_,_,_,_,_,J,J⟩
def gt (N:Nat)(a0:Int):Option CC:=
 some (⟨0,a0,⟨#[]⟩⟩:CC)
theorem gB {N:Nat}{a0:Int}{r:CC}(h:gt N a0=some r):Okc Tryz.prog 93 [iV a0] ([]) (fun u post=>u=.agg #[iV r.Kind,iV r.N,.string r.S]∧post=[]):=by
 refine bj Tryz.func93 J J ?_;simp only [aS];refine U ?_;refine gD (aF qx J) ?_;rintro _ _ ⟨B1,rfl,rfl⟩;refine U ?_;refine gE (aW J (rt _ _)) ?_;refine gO (ao (us:=[iV 0,iV a0,.string (⟨#[]⟩)]) (cs':=[iV 0,iV a0,.string (⟨#[]⟩)]) 0 J J J J fd J J J) ?_;rintro _ _ rfl;refine U ?_;obtain rfl:=al h;exact bR (rs:=[.cell 2 24]) (vs:=[.agg #[iV 0,iV a0,.string (⟨#[]⟩)]]) J (.cons (bg 0 J J bH) .nil) J (cS [] 1) ⟨J,J⟩
theorem fc {r:CC}: ∀v post,((fun (u:Value) (post:List Chunk)=>u=.agg #[iV r.Kind,iV r.N,.string r.S]∧post=[])) v post→ ∀c∈post,bS c:=by
 rintro _ _ ⟨rfl,rfl⟩;exact ac
def lB (N:Nat):Option CC:=
 some (⟨1,0,(⟨#[108,101,110,103,116,104]⟩:ByteArray)⟩:CC)
theorem nN {N:Nat}{r:CC}(h:lB N=some r):Okc Tryz.prog 36 [] ([]) (fun u post=>u=.agg #[iV r.Kind,iV r.N,.string r.S]∧post=[]):=by
 refine bj Tryz.func36 J J ?_;simp only [aS];refine U ?_;refine gD (aF qx J) ?_;rintro _ _ ⟨B1,rfl,rfl⟩;refine U ?_;refine gE (aW J (rq _ _)) ?_;refine gO (ao (us:=[iV 1,iV 0,.string (⟨#[108,101,110,103,116,104]⟩:ByteArray)]) (cs':=[iV 1,iV 0,.string (⟨#[108,101,110,103,116,104]⟩:ByteArray)]) 0 J J J J fd J J J) ?_;rintro _ _ rfl;refine U ?_;obtain rfl:=al h;exact bR (rs:=[.cell 0 24]) (vs:=[.agg #[iV 1,iV 0,.string (⟨#[108,101,110,103,116,104]⟩:ByteArray)]]) J (.cons (bg 0 J J bH) .nil) J (cS [] 1) ⟨J,J⟩
theorem lY {r:CC}: ∀v post,((fun (u:Value) (post:List Chunk)=>u=.agg #[iV r.Kind,iV r.N,.string r.S]∧post=[])) v post→ ∀c∈post,bS c:=by
 rintro _ _ ⟨rfl,rfl⟩;exact ac
def pF (N:Nat):Option Bool:=
 some true
def mD (N:Nat)(a0:(List CC))(a1:(List CC)):Nat→Int→Option Bool
 |0,_=>none
 |m5+1,p6=>bif decide (p6<(a0.length:Int)) then ((ck a0 p6).bind fun x8=>(ck a1 p6).bind fun x9=>bif !decide (x8=x9) then (some false) else (dD (cc (p6+1)) ((mD N a0 a1 m5) (p6+1)))) else (pF N)
def od (N:Nat)(a0:(List CC))(a1:(List CC)):Option Bool:=
 bif !decide ((a0.length:Int)=(a1.length:Int)) then (some false) else (mD N a0 a1 N 0)
theorem pE {N:Nat}{a0:(List CC)}{a1:(List CC)}{r:Bool}(h:od N a0 a1=some r):Okc Tryz.prog 59 [I A1 n1 c1,I A2 n2 c2] ([iT fF (I A1 n1 c1) a0,iT fF (I A2 n2 c2) a1]) (fun u post=>u=.bool r∧post=[]):=by
 refine bj Tryz.func59 J J ?_;simp only [aS];refine U ?_;refine aw ?_;refine U ?_;refine gR (br 0 J aI J Ch) ?_;refine U ?_;refine gR (br 1 J aI J Ch) ?_;refine U ?_;refine aq J (fun g3=> ?_) (fun g3=> ?_)
 ·replace h:=ad g3 h;refine U ?_;obtain rfl:=al h;exact aJ J J (cS [] 2) ⟨J,J⟩
 replace h:=ae g3 h;refine U ?_;refine aY (fun s L=>pF N=some r∧s=[(4,.bool false)]∧L=[]) ?_ ?_
 ·refine U ?_;refine ci (fun m s L=> ∃p6,mD N a0 a1 m p6=some r∧s=[(0,I A1 n1 c1),(1,I A2 n2 c2),(4,.bool false),(5,iV p6)]∧L=[iT fF (I A1 n1 c1) a0,iT fF (I A2 n2 c2) a1]) N _ _ ⟨0,h,J,J⟩ sA (cS [0,1] 2) ?_;rintro (_|m5) _ _ ⟨p6,h,rfl,rfl⟩
  ·exact bd h
  rw [mD.eq_2] at h;refine aw ?_;refine U ?_;refine gR (br 0 J aI J Ch) ?_;refine U ?_;refine aq J (fun g7=> ?_) (fun g7=> ?_)
  ·replace h:=ad g7 h;refine U ?_;refine aw ?_;refine eK ?_;refine aw ?_;refine bn O _ (am _) ?_;refine zE 0 J (av J) ?_;refine zE 1 J (av J) ?_;obtain ⟨x8,hx8,h⟩:=aa h;obtain ⟨lx8,ux8,hx8⟩:=aG hx8;refine zR 2 J (bf 0 J aI J J Ch fd lx8 ux8) ?_;refine zR 3 J (bi (us:=[iV x8.Kind,iV x8.N,.string x8.S]) 0 J aI J hx8 bH (fun _ _ _ h=>by rw [show _=_ from h];rfl)) ?_;refine zE 4 J (av J) ?_;refine zE 5 J (av J) ?_;obtain ⟨x9,hx9,h⟩:=aa h;obtain ⟨lx9,ux9,hx9⟩:=aG hx9;refine zR 6 J (bf 1 J aI J J Ch fd lx9 ux9) ?_;refine zR 7 J (bi (us:=[iV x9.Kind,iV x9.N,.string x9.S]) 1 J aI J hx9 bH (fun _ _ _ h=>by rw [show _=_ from h];rfl)) ?_;refine zE 8 J (wk (x:=x8) (y:=x9) J J) ?_;refine bc O ?_;refine dz ?_;refine aq J (fun g10=> ?_) (fun g10=> ?_)
   ·replace h:=ad g10 h;refine U ?_;obtain rfl:=al h;exact aJ J J (cS [] 2) ⟨J,J⟩
   replace h:=ae g10 h;refine U ?_;obtain ⟨q11,h⟩:=aB h;refine gE (bU J J q11.1 q11.2) ?_;refine U ?_;exact ⟨m5,_,_,CG _,⟨p6+1,h,J,J⟩,sA,cS [0,1] 2⟩
  replace h:=ae g7 h;refine U ?_;exact ⟨_,_,⟨h,J,J⟩,sA,cS [] 2⟩
 rintro _ _ ⟨h,rfl,rfl⟩;refine U ?_;obtain rfl:=al h;exact aJ J J (cS [] 0) ⟨J,J⟩
theorem nO {r:Bool}: ∀v post,((fun (u:Value) (post:List Chunk)=>u=.bool r∧post=[])) v post→ ∀c∈post,bS c:=by
 rintro _ _ ⟨rfl,rfl⟩;exact ac
def nY (N:Nat)(a0:Int)(a1:Int):Option Cm:=
 some (⟨51,a1,(⟨3,a0,⟨#[]⟩⟩:Cp),(⟨0,0,⟨#[]⟩⟩:Cp),(⟨0,0,⟨#[]⟩⟩:Cp)⟩:Cm)
theorem py {N:Nat}{a0:Int}{a1:Int}{r:Cm}(h:nY N a0 a1=some r):Okc Tryz.prog 94 [iV a0,iV a1] ([]) (fun u post=>u=.agg #[iV r.Has,iV r.Attrs,iV r.Value.Kind,iV r.Value.N,.string r.Value.S,iV r.Get.Kind,iV r.Get.N,.string r.Get.S,iV r.Set.Kind,iV r.Set.N,.string r.Set.S]∧post=[]):=by
 refine bj Tryz.func94 J J ?_;simp only [aS];refine U ?_;refine gD (aF se J) ?_;rintro _ _ ⟨B1,rfl,rfl⟩;refine U ?_;refine gE (aW J (iu _ _)) ?_;refine gE (aW J (o0 _ _ _ _ _)) ?_;refine gO (ao (us:=[iV 51,iV a1,iV 3,iV a0,.string (⟨#[]⟩),iV 0,iV 0,.string (⟨#[]⟩),iV 0,iV 0,.string (⟨#[]⟩)]) (cs':=[iV 51,iV a1,iV 3,iV a0,.string (⟨#[]⟩),iV 0,iV 0,.string (⟨#[]⟩),iV 0,iV 0,.string (⟨#[]⟩)]) 0 J J J J qB J J J) ?_;rintro _ _ rfl;refine U ?_;obtain rfl:=al h;exact bR (rs:=[.cell 4 32]) (vs:=[.agg #[iV 51,iV a1,iV 3,iV a0,.string (⟨#[]⟩),iV 0,iV 0,.string (⟨#[]⟩),iV 0,iV 0,.string (⟨#[]⟩)]]) J (.cons (bg 0 J J cU) .nil) J (cS [] 1) ⟨J,J⟩
theorem nI {r:Cm}: ∀v post,((fun (u:Value) (post:List Chunk)=>u=.agg #[iV r.Has,iV r.Attrs,iV r.Value.Kind,iV r.Value.N,.string r.Value.S,iV r.Get.Kind,iV r.Get.N,.string r.Get.S,iV r.Set.Kind,iV r.Set.N,.string r.Set.S]∧post=[])) v post→ ∀c∈post,bS c:=by
 rintro _ _ ⟨rfl,rfl⟩;exact ac
def pw (N:Nat)(p4:Int)(p5:Int)(p6:ByteArray):Option Bool:=
 some false
def pv (N:Nat)(p9:Int)(p10:Int)(p11:Int)(p12:Int)(p13:Int)(p14:Int)(p15:Int)(p16:Int)(p17:Int)(p18:Int)(p20:(List Cl))(p21:(List Cl))(p22:(List Cp))(p23:(List Cp))(p25:(List (Int×Bool)))(p27:(List Ct))(p28:(List (Cy×Int)))(p29:(List ByteArray))(p30:Int)(p31:Int)(p32:Int)(p33:(List CD))(p34:(List ByteArray))(p36:Int)(p37:Int)(p38:ByteArray)(p39:Bool):Option Bool:=
 bif !p39 then (some false) else ((gW N (⟨(⟨p9,p10,p11⟩:Cu),(⟨p12,p13,p14,p15,p16,p17,p18⟩:Cs),(),(⟨(⟨p20,p21⟩:Co),p22,p23,(⟨p25⟩:Cq)⟩:CB),(⟨p27,p28⟩:Cz),p29,p30,p31,p32,p33,p34⟩:Cw) (⟨p36,p37,p38⟩:Cp)).bind fun y59=>(gt N 0).bind fun y61=>(gt N 2).bind fun y62=>(lB N).bind fun y63=>(od N y59 ([y61,y62,y63]:List CC)).bind fun y65=>bif !y65 then (some false) else ((gt N 5).bind fun y67=>(nY N 7 7).bind fun y68=>(fw N (⟨(⟨p9,p10,p11⟩:Cu),(⟨p12,p13,p14,p15,p16,p17,p18⟩:Cs),(),(⟨(⟨p20,p21⟩:Co),p22,p23,(⟨p25⟩:Cq)⟩:CB),(⟨p27,p28⟩:Cz),p29,p30,p31,p32,p33,p34⟩:Cw) (⟨p36,p37,p38⟩:Cp) y67 y68).bind fun y69=>(iR N y69.2.2 (⟨p36,p37,p38⟩:Cp)).bind fun y80=>(er N y69.2.2 (⟨p36,p37,p38⟩:Cp) 1).bind fun y81=>(bif !y69.1 then (some true) else (some y69.2.1)).bind fun b92=>(bif b92 then (some true) else (some (!decide (y80=6)))).bind fun b93=>(bif b93 then (some true) else (some (!y81.1))).bind fun b94=>(bif b94 then (some true) else ((gW N y81.2 (⟨p36,p37,p38⟩:Cp)).bind fun y96=>(gt N 0).bind fun y98=>(lB N).bind fun y99=>(od N y96 ([y98,y99]:List CC)).bind fun y101=>some (!y101))).bind fun b95=>bif b95 then (some false) else ((gt N 2).bind fun y103=>(nY N 7 0).bind fun y104=>(fw N y81.2 (⟨p36,p37,p38⟩:Cp) y103 y104).bind fun y105=>bif y105.1 then ((er N y105.2.2 (⟨p36,p37,p38⟩:Cp) 0).bind fun y117=>(bif !y117.1 then ((iR N y117.2 (⟨p36,p37,p38⟩:Cp)).bind fun y129=>some (decide (y129=3))) else (some false)).bind fun b128=>some b128) else (some false))))
def gb (N:Nat):Option Bool:=
 (lC N).bind fun y40=>(qy N ([(⟨3,1,⟨#[]⟩⟩:Cp),y40,(⟨3,1,⟨#[]⟩⟩:Cp)]:List Cp)).bind fun y42=>vP y42 (fun y42_0=>pw N y42_0.Kind y42_0.N y42_0.S) (fun y42_1=>pv N y42_1.1.spent_.steps_ y42_1.1.spent_.made_ y42_1.1.spent_.calls_ y42_1.1.config_.Way y42_1.1.config_.Steps y42_1.1.config_.Calls y42_1.1.config_.Made y42_1.1.config_.Young y42_1.1.config_.Full y42_1.1.config_.Sites y42_1.1.heap_.m_.Young y42_1.1.heap_.m_.Old y42_1.1.heap_.roots_ y42_1.1.heap_.pending_ y42_1.1.heap_.set_.at_ y42_1.1.shapes_.shapes_ y42_1.1.shapes_.next_ y42_1.1.symbols_ y42_1.1.epoch_ y42_1.1.serial_ y42_1.1.sleepers_ y42_1.1.events_ y42_1.1.out_ y42_1.2.1.Kind y42_1.2.1.N y42_1.2.1.S y42_1.2.2)
set_option maxHeartbeats 4000000 in
theorem mn {N:Nat}{r:Bool}(h:gb N=some r):Okc Tryz.prog 23 [] ([aR 0 30 [iV 8,iV 0,.string (⟨#[]⟩:ByteArray)]]) (fun u post=>u=.bool r∧post=[]):=by
 refine bj Tryz.func23 J J ?_;simp only [aS];refine U ?_;refine gE (aW J (iu _ _)) ?_;refine gD (aF dF J) ?_;rintro _ _ ⟨B1,rfl,rfl⟩;refine gO (ao (us:=[iV 3,iV 1,.string (⟨#[]⟩)]) (cs':=[iV 3,iV 1,.string (⟨#[]⟩)]) 0 J J J J aT J J J) ?_;rintro _ _ rfl;refine bG ?_;refine U ?_
 refine aY (fun s L=>(∃p4 p5 p6 B3,pw N p4 p5 p6=some r∧s=[(0,.bool false),(2,.pointer none),(3,pV B3 0),(4,.bool false)]∧L=[aj B3 30 [iV p4,iV p5,.string p6],aR 0 30 [iV 8,iV 0,.string (⟨#[]⟩:ByteArray)]])∨(∃(p9:Int) (p10:Int) (p11:Int) (p12:Int) (p13:Int) (p14:Int) (p15:Int) (p16:Int) (p17:Int) (p18:Int) (p20:(List Cl)) (p21:(List Cl)) (p22:(List Cp)) (p23:(List Cp)) (p25:(List (Int×Bool))) (p27:(List Ct)) (p28:(List (Cy×Int))) (p29:(List ByteArray)) (p30:Int) (p31:Int) (p32:Int) (p33:(List CD)) (p34:(List ByteArray)) (p36:Int) (p37:Int) (p38:ByteArray) (p39:Bool) (B8:Nat) (B19:Nat) (A20:Option Addr) (n20 c20:Nat) (A21:Option Addr) (n21 c21:Nat) (A22:Option Addr) (n22 c22:Nat) (A23:Option Addr) (n23 c23:Nat) (B24:Nat) (M25:Nat) (B26:Nat) (A27:Option Addr) (n27 c27:Nat) (M28:Nat) (A29:Option Addr) (n29 c29:Nat) (A33:Option Addr) (n33 c33:Nat) (A34:Option Addr) (n34 c34:Nat) (B35:Nat),pv N p9 p10 p11 p12 p13 p14 p15 p16 p17 p18 p20 p21 p22 p23 p25 p27 p28 p29 p30 p31 p32 p33 p34 p36 p37 p38 p39=some r∧s=[(0,.bool false),(2,pV B8 0),(3,pV B35 0),(4,.bool p39)]∧L=[bu A20 n20 c20 p20,bu A21 n21 c21 p21,aU A22 n22 c22 p22,aU A23 n23 c23 p23,aL cv cy M25 p25,aj B24 247 [.map (some M25)],aj B19 199 [I A20 n20 c20,I A21 n21 c21,I A22 n22 c22,I A23 n23 c23,pV B24 0],cR A27 n27 c27 p27,aL aD cu M28 p28,aj B26 205 [I A27 n27 c27,.map (some M28)],be A29 n29 c29 p29,ct A33 n33 c33 p33,be A34 n34 c34 p34,aj B8 151 [iV p9,iV p10,iV p11,iV p12,iV p13,iV p14,iV p15,iV p16,iV p17,iV p18,.nilIface,pV B19 0,pV B26 0,I A29 n29 c29,iV p30,iV p31,iV p32,I A33 n33 c33,I A34 n34 c34],aj B35 30 [iV p36,iV p37,.string p38],aR 0 30 [iV 8,iV 0,.string (⟨#[]⟩:ByteArray)]])) ?_ ?_
 ·refine bn O _ (am _) ?_;refine zR 0 J (ai (us:=[iV 3,iV 1,.string (⟨#[]⟩)]) 0 J J aH J) ?_;refine zR 2 J (ai (us:=[iV 3,iV 1,.string (⟨#[]⟩)]) 0 J J aH J) ?_;refine lU 1 9 O ?_ ?_
  ·obtain ⟨y40,hy40,h⟩:=aa h;refine cW J (ak (mC hy40) uo J (ac) kC) J J J ?_;rintro _ _ ⟨_,⟨rfl,rfl⟩,rfl⟩;refine ⟨_,am _,am _,?_⟩;refine lU 3 9 O ?_ ?_
   ·refine cW J (bD (R:=bA) (vss:=[[iV 3,iV 1,.string (⟨#[]⟩)],[iV y40.Kind,iV y40.N,.string y40.S],[iV 3,iV 1,.string (⟨#[]⟩)]]) (xs:=[(⟨3,1,⟨#[]⟩⟩:Cp),y40,(⟨3,1,⟨#[]⟩⟩:Cp)]) J (rn _ _ _ _ _ _ _ _ _) J J (fun _ _ hr=> .cons J (.cons J (.cons J All2.nil)))) J J J ?_;rintro _ _ ⟨A41,n41,c41,rfl,rfl⟩;refine cf (cS [1,2] 3) ?_;refine lU 4 9 O ?_ ?_
    ·obtain ⟨y42,hy42,h⟩:=aa h;rcases y42 with y42_0|y42_1
     ·replace h:=uH h;refine ni (bV 0 J) (cS [1,2] 3) ?_;refine zC ?_;refine cW J (aE (eu hy42) mT J (aC [0] [] [0,1,2] 3 J)) J J J ?_;rintro _ _ ⟨_,⟨rfl,rfl⟩,rfl⟩;refine cf (cS [1,2] 3) ?_;refine bC ?_;refine zE 5 J (av J) ?_;refine zE 6 J (aO J J) ?_;refine zE 7 J (aO J J) ?_;refine zE 8 J (aO J J) ?_;refine zD 9 J (aF dF J) ?_;rintro _ _ ⟨B43,rfl,rfl⟩;refine cf (cS [2,3] 4) ?_;refine zE 10 J (aQ J) ?_;refine zO 11 J (ao (us:=[iV y42_0.Kind,iV y42_0.N,.string y42_0.S]) (cs':=[iV y42_0.Kind,iV y42_0.N,.string y42_0.S]) 0 J J J J aT J J J) ?_;rintro _ _ rfl;refine cf (cS [2,3] 4) ?_;refine bC ?_;refine zE 12 J (aQ J) ?_;refine bc O ?_;refine dz ?_;exact ⟨_,_,.inl (⟨y42_0.Kind,y42_0.N,y42_0.S,B43,h,J,J⟩),sA,cS [0,3] 4⟩
     replace h:=uG h;refine ni (bV 0 J) (cS [1,2] 3) ?_;refine zC ?_;refine cW J (aE (eu hy42) mT J (aC [0] [] [0,1,2] 3 J)) J J J ?_;rintro _ _ ⟨_,⟨B44,B45,A46,n46,c46,A47,n47,c47,A48,n48,c48,A49,n49,c49,B50,M51,B52,A53,n53,c53,M54,A55,n55,c55,A56,n56,c56,A57,n57,c57,rfl,rfl⟩,rfl⟩;refine ⟨[be A55 n55 c55 y42_1.1.symbols_,ct A56 n56 c56 y42_1.1.events_,be A57 n57 c57 y42_1.1.out_,aj B1 30 [iV 3,iV 1,.string (⟨#[]⟩)],aR 0 30 [iV 8,iV 0,.string (⟨#[]⟩:ByteArray)]],cS [11,12,13,15,16] 17,(cv_tl).trans ((cv_tl).trans (cv_tl)),?_⟩;refine bC ?_;refine zE 5 J (av J) ?_;refine zE 6 J (aO J J) ?_;refine zE 7 J (aO J J) ?_;refine zE 8 J (aO J J) ?_;refine zD 9 J (aF dF J) ?_;rintro _ _ ⟨B58,rfl,rfl⟩;refine cf (cS [12,13,14,16,17] 18) ?_;refine zE 10 J (aQ J) ?_;refine zO 11 J (ao (us:=[iV y42_1.2.1.Kind,iV y42_1.2.1.N,.string y42_1.2.1.S]) (cs':=[iV y42_1.2.1.Kind,iV y42_1.2.1.N,.string y42_1.2.1.S]) 0 J J J J aT J J J) ?_;rintro _ _ rfl;refine cf (cS [12,13,14,16,17] 18) ?_;refine bC ?_;refine zE 12 J (aQ J) ?_;refine bc O ?_;refine dz ?_
     exact ⟨_,_,.inr (⟨y42_1.1.spent_.steps_,y42_1.1.spent_.made_,y42_1.1.spent_.calls_,y42_1.1.config_.Way,y42_1.1.config_.Steps,y42_1.1.config_.Calls,y42_1.1.config_.Made,y42_1.1.config_.Young,y42_1.1.config_.Full,y42_1.1.config_.Sites,y42_1.1.heap_.m_.Young,y42_1.1.heap_.m_.Old,y42_1.1.heap_.roots_,y42_1.1.heap_.pending_,y42_1.1.heap_.set_.at_,y42_1.1.shapes_.shapes_,y42_1.1.shapes_.next_,y42_1.1.symbols_,y42_1.1.epoch_,y42_1.1.serial_,y42_1.1.sleepers_,y42_1.1.events_,y42_1.1.out_,y42_1.2.1.Kind,y42_1.2.1.N,y42_1.2.1.S,y42_1.2.2,B44,B45,A46,n46,c46,A47,n47,c47,A48,n48,c48,A49,n49,c49,B50,M51,B52,A53,n53,c53,M54,A55,n55,c55,A56,n56,c56,A57,n57,c57,B58,h,J,J⟩),sA,cS [3,4,5,6,8,7,2,10,11,9,12,13,14,1,0,17] 18⟩
    refine cW J (aF dF J) J J J ?_;rintro _ _ ⟨B42,rfl,rfl⟩;refine cf (cS [2,3] 4) ?_;obtain ⟨y43,hy43,h⟩:=aa h;rcases y43 with y43_0|y43_1
    ·replace h:=uH h;refine ig (bV 1 J) (cS [2,3] 4) ?_;refine bC ?_;refine zD 4 J (aE (eu hy43) mT J (aC [1] [] [0,1,2,3] 4 J)) ?_;rintro _ _ ⟨_,⟨rfl,rfl⟩,rfl⟩;refine cf (cS [2,3] 4) ?_;refine bC ?_;refine zE 5 J (av J) ?_;refine zE 6 J (aO J J) ?_;refine zE 7 J (aO J J) ?_;refine zE 8 J (aO J J) ?_;refine zE 10 J (aQ J) ?_;refine zO 11 J (ao (us:=[iV y43_0.Kind,iV y43_0.N,.string y43_0.S]) (cs':=[iV y43_0.Kind,iV y43_0.N,.string y43_0.S]) 0 J J J J aT J J J) ?_;rintro _ _ rfl;refine cf (cS [2,3] 4) ?_;refine bC ?_;refine zE 12 J (aQ J) ?_;refine bc O ?_;refine dz ?_;exact ⟨_,_,.inl (⟨y43_0.Kind,y43_0.N,y43_0.S,B42,h,J,J⟩),sA,cS [0,3] 4⟩
    replace h:=uG h;refine ig (bV 1 J) (cS [2,3] 4) ?_;refine bC ?_;refine zD 4 J (aE (eu hy43) mT J (aC [1] [] [0,1,2,3] 4 J)) ?_;rintro _ _ ⟨_,⟨B44,B45,A46,n46,c46,A47,n47,c47,A48,n48,c48,A49,n49,c49,B50,M51,B52,A53,n53,c53,M54,A55,n55,c55,A56,n56,c56,A57,n57,c57,rfl,rfl⟩,rfl⟩;refine ⟨[be A55 n55 c55 y43_1.1.symbols_,ct A56 n56 c56 y43_1.1.events_,be A57 n57 c57 y43_1.1.out_,aj B1 30 [iV 3,iV 1,.string (⟨#[]⟩)],aR 0 30 [iV 8,iV 0,.string (⟨#[]⟩:ByteArray)]],cS [11,12,13,16,17] 18,(cv_tl).trans ((cv_tl).trans (cv_tl)),?_⟩;refine bC ?_;refine zE 5 J (av J) ?_;refine zE 6 J (aO J J) ?_;refine zE 7 J (aO J J) ?_;refine zE 8 J (aO J J) ?_;refine zE 10 J (aQ J) ?_;refine zO 11 J (ao (us:=[iV y43_1.2.1.Kind,iV y43_1.2.1.N,.string y43_1.2.1.S]) (cs':=[iV y43_1.2.1.Kind,iV y43_1.2.1.N,.string y43_1.2.1.S]) 14 J J J J aT J J J) ?_;rintro _ _ rfl;refine cf (cS [11,12,13,16,17] 18) ?_;refine bC ?_;refine zE 12 J (aQ J) ?_;refine bc O ?_;refine dz ?_
    exact ⟨_,_,.inr (⟨y43_1.1.spent_.steps_,y43_1.1.spent_.made_,y43_1.1.spent_.calls_,y43_1.1.config_.Way,y43_1.1.config_.Steps,y43_1.1.config_.Calls,y43_1.1.config_.Made,y43_1.1.config_.Young,y43_1.1.config_.Full,y43_1.1.config_.Sites,y43_1.1.heap_.m_.Young,y43_1.1.heap_.m_.Old,y43_1.1.heap_.roots_,y43_1.1.heap_.pending_,y43_1.1.heap_.set_.at_,y43_1.1.shapes_.shapes_,y43_1.1.shapes_.next_,y43_1.1.symbols_,y43_1.1.epoch_,y43_1.1.serial_,y43_1.1.sleepers_,y43_1.1.events_,y43_1.1.out_,y43_1.2.1.Kind,y43_1.2.1.N,y43_1.2.1.S,y43_1.2.2,B44,B45,A46,n46,c46,A47,n47,c47,A48,n48,c48,A49,n49,c49,B50,M51,B52,A53,n53,c53,M54,A55,n55,c55,A56,n56,c56,A57,n57,c57,B42,h,J,J⟩),sA,cS [2,3,4,5,7,6,1,9,10,8,11,12,13,0,14,17] 18⟩
   refine cW J (aF dF J) J J J ?_;rintro _ _ ⟨B41,rfl,rfl⟩;refine cf (cS [1,2] 3) ?_;refine zD 3 J (bD (R:=bA) (vss:=[[iV 3,iV 1,.string (⟨#[]⟩)],[iV y40.Kind,iV y40.N,.string y40.S],[iV 3,iV 1,.string (⟨#[]⟩)]]) (xs:=[(⟨3,1,⟨#[]⟩⟩:Cp),y40,(⟨3,1,⟨#[]⟩⟩:Cp)]) J (rn _ _ _ _ _ _ _ _ _) J J (fun _ _ hr=> .cons J (.cons J (.cons J All2.nil)))) ?_;rintro _ _ ⟨A42,n42,c42,rfl,rfl⟩;refine cf (cS [2,3] 4) ?_;obtain ⟨y43,hy43,h⟩:=aa h;rcases y43 with y43_0|y43_1
   ·replace h:=uH h;refine ig (bV 0 J) (cS [2,3] 4) ?_;refine bC ?_;refine zD 4 J (aE (eu hy43) mT J (aC [0] [] [0,1,2,3] 4 J)) ?_;rintro _ _ ⟨_,⟨rfl,rfl⟩,rfl⟩;refine cf (cS [2,3] 4) ?_;refine bC ?_;refine zE 5 J (av J) ?_;refine zE 6 J (aO J J) ?_;refine zE 7 J (aO J J) ?_;refine zE 8 J (aO J J) ?_;refine zE 10 J (aQ J) ?_;refine zO 11 J (ao (us:=[iV y43_0.Kind,iV y43_0.N,.string y43_0.S]) (cs':=[iV y43_0.Kind,iV y43_0.N,.string y43_0.S]) 1 J J J J aT J J J) ?_;rintro _ _ rfl;refine cf (cS [2,3] 4) ?_;refine bC ?_;refine zE 12 J (aQ J) ?_;refine bc O ?_;refine dz ?_;exact ⟨_,_,.inl (⟨y43_0.Kind,y43_0.N,y43_0.S,B41,h,J,J⟩),sA,cS [1,3] 4⟩
   replace h:=uG h;refine ig (bV 0 J) (cS [2,3] 4) ?_;refine bC ?_;refine zD 4 J (aE (eu hy43) mT J (aC [0] [] [0,1,2,3] 4 J)) ?_;rintro _ _ ⟨_,⟨B44,B45,A46,n46,c46,A47,n47,c47,A48,n48,c48,A49,n49,c49,B50,M51,B52,A53,n53,c53,M54,A55,n55,c55,A56,n56,c56,A57,n57,c57,rfl,rfl⟩,rfl⟩;refine ⟨[be A55 n55 c55 y43_1.1.symbols_,ct A56 n56 c56 y43_1.1.events_,be A57 n57 c57 y43_1.1.out_,aj B1 30 [iV 3,iV 1,.string (⟨#[]⟩)],aR 0 30 [iV 8,iV 0,.string (⟨#[]⟩:ByteArray)]],cS [11,12,13,16,17] 18,(cv_tl).trans ((cv_tl).trans (cv_tl)),?_⟩;refine bC ?_;refine zE 5 J (av J) ?_;refine zE 6 J (aO J J) ?_;refine zE 7 J (aO J J) ?_;refine zE 8 J (aO J J) ?_;refine zE 10 J (aQ J) ?_;refine zO 11 J (ao (us:=[iV y43_1.2.1.Kind,iV y43_1.2.1.N,.string y43_1.2.1.S]) (cs':=[iV y43_1.2.1.Kind,iV y43_1.2.1.N,.string y43_1.2.1.S]) 15 J J J J aT J J J) ?_;rintro _ _ rfl;refine cf (cS [11,12,13,16,17] 18) ?_;refine bC ?_;refine zE 12 J (aQ J) ?_;refine bc O ?_;refine dz ?_
   exact ⟨_,_,.inr (⟨y43_1.1.spent_.steps_,y43_1.1.spent_.made_,y43_1.1.spent_.calls_,y43_1.1.config_.Way,y43_1.1.config_.Steps,y43_1.1.config_.Calls,y43_1.1.config_.Made,y43_1.1.config_.Young,y43_1.1.config_.Full,y43_1.1.config_.Sites,y43_1.1.heap_.m_.Young,y43_1.1.heap_.m_.Old,y43_1.1.heap_.roots_,y43_1.1.heap_.pending_,y43_1.1.heap_.set_.at_,y43_1.1.shapes_.shapes_,y43_1.1.shapes_.next_,y43_1.1.symbols_,y43_1.1.epoch_,y43_1.1.serial_,y43_1.1.sleepers_,y43_1.1.events_,y43_1.1.out_,y43_1.2.1.Kind,y43_1.2.1.N,y43_1.2.1.S,y43_1.2.2,B44,B45,A46,n46,c46,A47,n47,c47,A48,n48,c48,A49,n49,c49,B50,M51,B52,A53,n53,c53,M54,A55,n55,c55,A56,n56,c56,A57,n57,c57,B41,h,J,J⟩),sA,cS [2,3,4,5,7,6,1,9,10,8,11,12,13,0,15,17] 18⟩
  refine cW J (aF dF J) J J J ?_;rintro _ _ ⟨B40,rfl,rfl⟩;refine cf (cS [1,2] 3) ?_;obtain ⟨y41,hy41,h⟩:=aa h;refine zD 1 J (ak (mC hy41) uo J (ac) kC) ?_;rintro _ _ ⟨_,⟨rfl,rfl⟩,rfl⟩;refine cf (cS [1,2] 3) ?_;refine zD 3 J (bD (R:=bA) (vss:=[[iV 3,iV 1,.string (⟨#[]⟩)],[iV y41.Kind,iV y41.N,.string y41.S],[iV 3,iV 1,.string (⟨#[]⟩)]]) (xs:=[(⟨3,1,⟨#[]⟩⟩:Cp),y41,(⟨3,1,⟨#[]⟩⟩:Cp)]) J (rn _ _ _ _ _ _ _ _ _) J J (fun _ _ hr=> .cons J (.cons J (.cons J All2.nil)))) ?_;rintro _ _ ⟨A42,n42,c42,rfl,rfl⟩;refine cf (cS [2,3] 4) ?_;obtain ⟨y43,hy43,h⟩:=aa h;rcases y43 with y43_0|y43_1
  ·replace h:=uH h;refine ig (bV 0 J) (cS [2,3] 4) ?_;refine bC ?_;refine zD 4 J (aE (eu hy43) mT J (aC [0] [] [0,1,2,3] 4 J)) ?_;rintro _ _ ⟨_,⟨rfl,rfl⟩,rfl⟩;refine cf (cS [2,3] 4) ?_;refine bC ?_;refine zE 5 J (av J) ?_;refine zE 6 J (aO J J) ?_;refine zE 7 J (aO J J) ?_;refine zE 8 J (aO J J) ?_;refine zE 10 J (aQ J) ?_;refine zO 11 J (ao (us:=[iV y43_0.Kind,iV y43_0.N,.string y43_0.S]) (cs':=[iV y43_0.Kind,iV y43_0.N,.string y43_0.S]) 1 J J J J aT J J J) ?_;rintro _ _ rfl;refine cf (cS [2,3] 4) ?_;refine bC ?_;refine zE 12 J (aQ J) ?_;refine bc O ?_;refine dz ?_;exact ⟨_,_,.inl (⟨y43_0.Kind,y43_0.N,y43_0.S,B40,h,J,J⟩),sA,cS [1,3] 4⟩
  replace h:=uG h;refine ig (bV 0 J) (cS [2,3] 4) ?_;refine bC ?_;refine zD 4 J (aE (eu hy43) mT J (aC [0] [] [0,1,2,3] 4 J)) ?_;rintro _ _ ⟨_,⟨B44,B45,A46,n46,c46,A47,n47,c47,A48,n48,c48,A49,n49,c49,B50,M51,B52,A53,n53,c53,M54,A55,n55,c55,A56,n56,c56,A57,n57,c57,rfl,rfl⟩,rfl⟩;refine ⟨[be A55 n55 c55 y43_1.1.symbols_,ct A56 n56 c56 y43_1.1.events_,be A57 n57 c57 y43_1.1.out_,aj B1 30 [iV 3,iV 1,.string (⟨#[]⟩)],aR 0 30 [iV 8,iV 0,.string (⟨#[]⟩:ByteArray)]],cS [11,12,13,16,17] 18,(cv_tl).trans ((cv_tl).trans (cv_tl)),?_⟩;refine bC ?_;refine zE 5 J (av J) ?_;refine zE 6 J (aO J J) ?_;refine zE 7 J (aO J J) ?_;refine zE 8 J (aO J J) ?_;refine zE 10 J (aQ J) ?_;refine zO 11 J (ao (us:=[iV y43_1.2.1.Kind,iV y43_1.2.1.N,.string y43_1.2.1.S]) (cs':=[iV y43_1.2.1.Kind,iV y43_1.2.1.N,.string y43_1.2.1.S]) 15 J J J J aT J J J) ?_;rintro _ _ rfl;refine cf (cS [11,12,13,16,17] 18) ?_;refine bC ?_;refine zE 12 J (aQ J) ?_;refine bc O ?_;refine dz ?_
  exact ⟨_,_,.inr (⟨y43_1.1.spent_.steps_,y43_1.1.spent_.made_,y43_1.1.spent_.calls_,y43_1.1.config_.Way,y43_1.1.config_.Steps,y43_1.1.config_.Calls,y43_1.1.config_.Made,y43_1.1.config_.Young,y43_1.1.config_.Full,y43_1.1.config_.Sites,y43_1.1.heap_.m_.Young,y43_1.1.heap_.m_.Old,y43_1.1.heap_.roots_,y43_1.1.heap_.pending_,y43_1.1.heap_.set_.at_,y43_1.1.shapes_.shapes_,y43_1.1.shapes_.next_,y43_1.1.symbols_,y43_1.1.epoch_,y43_1.1.serial_,y43_1.1.sleepers_,y43_1.1.events_,y43_1.1.out_,y43_1.2.1.Kind,y43_1.2.1.N,y43_1.2.1.S,y43_1.2.2,B44,B45,A46,n46,c46,A47,n47,c47,A48,n48,c48,A49,n49,c49,B50,M51,B52,A53,n53,c53,M54,A55,n55,c55,A56,n56,c56,A57,n57,c57,B40,h,J,J⟩),sA,cS [2,3,4,5,7,6,1,9,10,8,11,12,13,0,15,17] 18⟩
 rintro _ _ (⟨p4,p5,p6,B3,h,rfl,rfl⟩|⟨p9,p10,p11,p12,p13,p14,p15,p16,p17,p18,p20,p21,p22,p23,p25,p27,p28,p29,p30,p31,p32,p33,p34,p36,p37,p38,p39,B8,B19,A20,n20,c20,A21,n21,c21,A22,n22,c22,A23,n23,c23,B24,M25,B26,A27,n27,c27,M28,A29,n29,c29,A33,n33,c33,A34,n34,c34,B35,h,rfl,rfl⟩)
 ·refine aw ?_;refine U ?_;refine f3 J ?_;refine U ?_;obtain rfl:=al h;exact aJ J J (cS [] 2) ⟨J,J⟩
 refine aw ?_;refine U ?_;refine ax 23 J (fun g58=> ?_) (fun g58=> ?_)
 ·replace h:=ad g58 h;refine U ?_;refine f3 J ?_;refine U ?_;obtain rfl:=al h;exact aJ J J (cS [] 16) ⟨J,J⟩
 replace h:=ae g58 h;refine U ?_;refine bv (ai (us:=[iV p36,iV p37,.string p38]) 14 J J aH J) J (bO g58 J) J ?_;obtain ⟨y59,hy59,h⟩:=aa h;refine bx (aE (kT hy59) uq J (aC [10,11,12,15] [13,6,0,1,2,3,5,4,9,7,8] [10,11,12,14,15] 16 J)) J (bO g58 J) J ?_;rintro _ _ ⟨_,⟨A60,n60,c60,rfl,rfl⟩,rfl⟩;refine bG ?_;obtain ⟨y61,hy61,h⟩:=aa h;refine bx (ak (gB hy61) rl J (ac) fc) J (bO g58 J) J ?_;rintro _ _ ⟨_,⟨rfl,rfl⟩,rfl⟩;obtain ⟨y62,hy62,h⟩:=aa h;refine bx (ak (gB hy62) rl J (ac) fc) J (bO g58 J) J ?_;rintro _ _ ⟨_,⟨rfl,rfl⟩,rfl⟩;obtain ⟨y63,hy63,h⟩:=aa h;refine bx (ak (nN hy63) xp J (ac) lY) J (bO g58 J) J ?_;rintro _ _ ⟨_,⟨rfl,rfl⟩,rfl⟩;refine bx (bD (R:=fF) (vss:=[[iV y61.Kind,iV y61.N,.string y61.S],[iV y62.Kind,iV y62.N,.string y62.S],[iV y63.Kind,iV y63.N,.string y63.S]]) (xs:=[y61,y62,y63]) J (xt _ _ _ _ _ _ _ _ _) J J (fun _ _ hr=> .cons J (.cons J (.cons J All2.nil)))) J (bO g58 J) J ?_;rintro _ _ ⟨A64,n64,c64,rfl,rfl⟩;obtain ⟨y65,hy65,h⟩:=aa h;refine bx (ak (pE hy65) xm J (hE (ah (i:=1) J) (hE (ah (i:=0) J) ac)) nO) J (bO g58 J) J ?_;rintro _ _ ⟨_,⟨rfl,rfl⟩,rfl⟩;refine U ?_;refine aq J (fun g66=> ?_) (fun g66=> ?_)
 ·replace h:=ad g66 h;refine U ?_;obtain rfl:=al h;exact aJ J J (cS [] 18) ⟨J,J⟩
 replace h:=ae g66 h;refine U ?_;refine aw ?_;refine bn O _ (am _) ?_;refine zE 0 J (av J) ?_;refine zR 1 J (ai (us:=[iV p36,iV p37,.string p38]) 16 J J aH J) ?_;obtain ⟨y67,hy67,h⟩:=aa h;refine zD 2 J (ak (gB hy67) rl J (ac) fc) ?_;rintro _ _ ⟨_,⟨rfl,rfl⟩,rfl⟩;refine ⟨_,am _,am _,?_⟩;obtain ⟨y68,hy68,h⟩:=aa h;refine zD 3 J (ak (py hy68) xj J (ac) nI) ?_;rintro _ _ ⟨_,⟨rfl,rfl⟩,rfl⟩;refine ⟨_,am _,am _,?_⟩;obtain ⟨y69,hy69,h⟩:=aa h;refine te 4 J O O (aE (jh hy69) ut J (aC [13,14,15,17] [2,3,4,5,6,7,8,9,10,11,12] [0,1,13,14,15,16,17] 18 J)) ?_;rintro _ _ ⟨_,⟨A70,n70,c70,A71,n71,c71,A72,n72,c72,A73,n73,c73,M74,A75,n75,c75,M76,A77,n77,c77,A78,n78,c78,A79,n79,c79,rfl,rfl⟩,rfl⟩;refine bC ?_;refine zE 5 J (av J) ?_;refine zE 6 J (aO J J) ?_;refine zE 7 J (aO J J) ?_;refine zE 8 J (aQ J) ?_;refine zE 9 J (aQ J) ?_;refine bc O ?_;refine U ?_;refine gR (ai (us:=[iV p36,iV p37,.string p38]) 19 J J aH J) ?_;obtain ⟨y80,hy80,h⟩:=aa h;refine gD (ak (lS hy80) ur J (hE (ap (i:=0) J) (hE (ap (i:=1) J) (hE (ah (i:=2) J) (hE (ah (i:=3) J) (hE (ah (i:=4) J) (hE (ah (i:=5) J) (hE (ap (i:=6) J) (hE (aK (i:=7) J) (hE (ap (i:=8) J) (hE (ah (i:=9) J) (hE (aK (i:=10) J) (hE (ag (i:=11) J J) (hE (ag (i:=12) J J) (hE (ag (i:=13) J J) ac)))))))))))))) kd) ?_
 rintro _ _ ⟨_,⟨rfl,rfl⟩,rfl⟩;refine U ?_;refine gR (ai (us:=[iV p36,iV p37,.string p38]) 19 J J aH J) ?_;obtain ⟨y81,hy81,h⟩:=aa h;refine gD (aE (f9 hy81) sM J (aC [11,12,13,20] [0,1,2,3,4,5,6,7,8,9,10] [11,12,13,14,15,16,17,18,19,20] 21 J)) ?_;rintro _ _ ⟨_,⟨A82,n82,c82,A83,n83,c83,A84,n84,c84,A85,n85,c85,M86,A87,n87,c87,M88,A89,n89,c89,A90,n90,c90,A91,n91,c91,rfl,rfl⟩,rfl⟩;refine bG ?_;refine U ?_;refine aw ?_;refine U ?_;obtain ⟨b92,hb92,h⟩:=aa h;refine aA 2 52 b92 ?_ ?_
 ·clear h;refine ax 50 J (fun g92=> ?_) (fun g92=> ?_)
  ·have h:=ad g92 hb92;refine U ?_;obtain rfl:=al h;exact ab sA (cS [0,1,2,3,4,5,6,7,8,9,10,11,12,13,14,15,16,17,18,19,20,21,22,23] 24)
  have h:=ae g92 hb92;refine U ?_;obtain rfl:=al h;exact ab sA (cS [0,1,2,3,4,5,6,7,8,9,10,11,12,13,14,15,16,17,18,19,20,21,22,23] 24)
 refine U ?_;obtain ⟨b93,hb93,h⟩:=aa h;refine aA 3 56 b93 ?_ ?_
 ·clear h;refine ax 53 J (fun g93=> ?_) (fun g93=> ?_)
  ·have h:=ad g93 hb93;refine U ?_;obtain rfl:=al h;exact ab sA (cS [0,1,2,3,4,5,6,7,8,9,10,11,12,13,14,15,16,17,18,19,20,21,22,23] 24)
  have h:=ae g93 hb93;refine U ?_;obtain rfl:=al h;exact ab sA (cS [0,1,2,3,4,5,6,7,8,9,10,11,12,13,14,15,16,17,18,19,20,21,22,23] 24)
 refine U ?_;obtain ⟨b94,hb94,h⟩:=aa h;refine aA 3 60 b94 ?_ ?_
 ·clear h;refine ax 57 J (fun g94=> ?_) (fun g94=> ?_)
  ·have h:=ad g94 hb94;refine U ?_;obtain rfl:=al h;exact ab sA (cS [0,1,2,3,4,5,6,7,8,9,10,11,12,13,14,15,16,17,18,19,20,21,22,23] 24)
  have h:=ae g94 hb94;refine U ?_;obtain rfl:=al h;exact ab sA (cS [0,1,2,3,4,5,6,7,8,9,10,11,12,13,14,15,16,17,18,19,20,21,22,23] 24)
 refine U ?_;obtain ⟨b95,hb95,h⟩:=aa h;refine aA 9 70 b95 ?_ ?_
 ·clear h;refine ax 61 J (fun g95=> ?_) (fun g95=> ?_)
  ·have h:=ad g95 hb95;refine U ?_;obtain rfl:=al h;exact ab sA (cS [0,1,2,3,4,5,6,7,8,9,10,11,12,13,14,15,16,17,18,19,20,21,22,23] 24)
  have h:=ae g95 hb95;refine U ?_;refine bv (ai (us:=[iV p36,iV p37,.string p38]) 22 J J aH J) J (bO g95 J) J ?_;obtain ⟨y96,hy96,h⟩:=aa h;refine bx (aE (kT hy96) uq J (aC [11,12,13,23] [0,1,2,3,4,5,6,7,8,9,10] [11,12,13,14,15,16,17,18,19,20,21,22,23] 24 J)) J (bO g95 J) J ?_;rintro _ _ ⟨_,⟨A97,n97,c97,rfl,rfl⟩,rfl⟩;refine bG ?_;obtain ⟨y98,hy98,h⟩:=aa h;refine bx (ak (gB hy98) rl J (ac) fc) J (bO g95 J) J ?_;rintro _ _ ⟨_,⟨rfl,rfl⟩,rfl⟩;obtain ⟨y99,hy99,h⟩:=aa h;refine bx (ak (nN hy99) xp J (ac) lY) J (bO g95 J) J ?_;rintro _ _ ⟨_,⟨rfl,rfl⟩,rfl⟩;refine bx (bD (R:=fF) (vss:=[[iV y98.Kind,iV y98.N,.string y98.S],[iV y99.Kind,iV y99.N,.string y99.S]]) (xs:=[y98,y99]) J (xu _ _ _ _ _ _) J J (fun _ _ hr=> .cons J (.cons J All2.nil))) J (bO g95 J) J ?_;rintro _ _ ⟨A100,n100,c100,rfl,rfl⟩;obtain ⟨y101,hy101,h⟩:=aa h;refine bx (ak (pE hy101) xm J (hE (ah (i:=1) J) (hE (ah (i:=0) J) ac)) nO) J (bO g95 J) J ?_;rintro _ _ ⟨_,⟨rfl,rfl⟩,rfl⟩;refine U ?_;obtain rfl:=al h;exact ab sA (cS [2,3,4,5,6,7,8,9,10,11,12,13,14,15,16,17,18,19,20,21,22,23,24,25] 26)
 refine U ?_;refine aq J (fun g102=> ?_) (fun g102=> ?_)
 ·replace h:=ad g102 h;refine U ?_;obtain rfl:=al h;exact aJ J J (cS [] 24) ⟨J,J⟩
 replace h:=ae g102 h;refine U ?_;refine aw ?_;refine bn O _ (am _) ?_;refine zE 0 J (av J) ?_;refine zR 1 J (ai (us:=[iV p36,iV p37,.string p38]) 22 J J aH J) ?_;obtain ⟨y103,hy103,h⟩:=aa h;refine zD 2 J (ak (gB hy103) rl J (ac) fc) ?_;rintro _ _ ⟨_,⟨rfl,rfl⟩,rfl⟩;refine ⟨_,am _,am _,?_⟩;obtain ⟨y104,hy104,h⟩:=aa h;refine zD 3 J (ak (py hy104) xj J (ac) nI) ?_;rintro _ _ ⟨_,⟨rfl,rfl⟩,rfl⟩;refine ⟨_,am _,am _,?_⟩;obtain ⟨y105,hy105,h⟩:=aa h;refine te 4 J O O (aE (jh hy105) ut J (aC [11,12,13,23] [0,1,2,3,4,5,6,7,8,9,10] [11,12,13,14,15,16,17,18,19,20,21,22,23] 24 J)) ?_;rintro _ _ ⟨_,⟨A106,n106,c106,A107,n107,c107,A108,n108,c108,A109,n109,c109,M110,A111,n111,c111,M112,A113,n113,c113,A114,n114,c114,A115,n115,c115,rfl,rfl⟩,rfl⟩;refine bC ?_;refine zE 5 J (av J) ?_;refine zE 6 J (aO J J) ?_;refine zE 7 J (aO J J) ?_;refine zE 8 J (aQ J) ?_;refine zE 9 J (aQ J) ?_;refine bc O ?_;refine U ?_;refine ax 80 J (fun g116=> ?_) (fun g116=> ?_)
 ·replace h:=ad g116 h;refine U ?_;refine bv (ai (us:=[iV p36,iV p37,.string p38]) 25 J J aH J) J (aZ g116 J) J ?_;obtain ⟨y117,hy117,h⟩:=aa h;refine bx (aE (f9 hy117) sM J (aC [11,12,13,26] [0,1,2,3,4,5,6,7,8,9,10] [11,12,13,14,15,16,17,18,19,20,21,22,23,24,25,26] 27 J)) J (aZ g116 J) J ?_;rintro _ _ ⟨_,⟨A118,n118,c118,A119,n119,c119,A120,n120,c120,A121,n121,c121,M122,A123,n123,c123,M124,A125,n125,c125,A126,n126,c126,A127,n127,c127,rfl,rfl⟩,rfl⟩;refine bG ?_;refine U ?_;obtain ⟨b128,hb128,h⟩:=aa h;refine aA 5 91 b128 ?_ ?_
  ·clear h;refine ax 86 J (fun g128=> ?_) (fun g128=> ?_)
   ·have h:=ad g128 hb128;refine U ?_;refine bv (ai (us:=[iV p36,iV p37,.string p38]) 28 J J aH J) J (aZ g128 J) J ?_;obtain ⟨y129,hy129,h⟩:=aa h;refine bx (ak (lS hy129) ur J (hE (ap (i:=0) J) (hE (ap (i:=1) J) (hE (ah (i:=2) J) (hE (ah (i:=3) J) (hE (ah (i:=4) J) (hE (ah (i:=5) J) (hE (ap (i:=6) J) (hE (aK (i:=7) J) (hE (ap (i:=8) J) (hE (ah (i:=9) J) (hE (aK (i:=10) J) (hE (ag (i:=11) J J) (hE (ag (i:=12) J J) (hE (ag (i:=13) J J) ac)))))))))))))) kd) J (aZ g128 J) J ?_;rintro _ _ ⟨_,⟨rfl,rfl⟩,rfl⟩;refine U ?_;obtain rfl:=al h;exact ab sA (cS [0,1,2,3,4,5,6,7,8,9,10,11,12,13,14,15,16,17,18,19,20,21,22,23,24,25,26,27,28,29] 30)
   have h:=ae g128 hb128;refine U ?_;obtain rfl:=al h;exact ab sA (cS [0,1,2,3,4,5,6,7,8,9,10,11,12,13,14,15,16,17,18,19,20,21,22,23,24,25,26,27,28,29] 30)
  refine U ?_;obtain rfl:=al h;exact aJ J J (cS [] 30) ⟨J,J⟩
 replace h:=ae g116 h;refine U ?_;obtain rfl:=al h;exact aJ J J (cS [] 27) ⟨J,J⟩
theorem kA {r:Bool}: ∀v post,((fun (u:Value) (post:List Chunk)=>u=.bool r∧post=[])) v post→ ∀c∈post,bS c:=by
 rintro _ _ ⟨rfl,rfl⟩;exact ac
def mZ (N:Nat)(a0:Cw)(a1:Cp):Option (List Cp):=
 (bM N a0 a1).bind fun y16=>bif !y16.2 then (some []) else (some y16.1.More)
theorem tc {N:Nat}{a0:Cw}{a1:Cp}{r:(List Cp)}(h:mZ N a0 a1=some r):Okc Tryz.prog 29 [pV B1 0,.agg #[iV a1.Kind,iV a1.N,.string a1.S]] ([aR B1 151 [iV a0.spent_.steps_,iV a0.spent_.made_,iV a0.spent_.calls_,iV a0.config_.Way,iV a0.config_.Steps,iV a0.config_.Calls,iV a0.config_.Made,iV a0.config_.Young,iV a0.config_.Full,iV a0.config_.Sites,.nilIface,pV B2 0,pV B9 0,I A12 n12 c12,iV a0.epoch_,iV a0.serial_,iV a0.sleepers_,I A13 n13 c13,I A14 n14 c14],aR B2 199 [I A3 n3 c3,I A4 n4 c4,I A5 n5 c5,I A6 n6 c6,pV B7 0],lv A3 n3 c3 a0.heap_.m_.Young,lv A4 n4 c4 a0.heap_.m_.Old,cn A5 n5 c5 a0.heap_.roots_,cn A6 n6 c6 a0.heap_.pending_,aR B7 247 [.map (some M8)],d5 cv cy M8 a0.heap_.set_.at_,aR B9 205 [I A10 n10 c10,.map (some M11)],oJ A10 n10 c10 a0.shapes_.shapes_,d5 aD cu M11 a0.shapes_.next_,be A12 n12 c12 a0.symbols_,ct A13 n13 c13 a0.events_,be A14 n14 c14 a0.out_]) (fun u post=> ∃A0 n0 c0,u=I A0 n0 c0∧post=[aU A0 n0 c0 r]):=by
 refine bj Tryz.func29 J J ?_;simp only [aS];refine U ?_;refine gD (aN J J) ?_;rintro _ _ ⟨B15,rfl,rfl⟩;refine U ?_;refine gR (ai (us:=[iV a1.Kind,iV a1.N,.string a1.S]) 0 J J aH J) ?_;obtain ⟨y16,hy16,h⟩:=aa h;refine gD (ak (cr hy16) jf J (hE (ag (i:=1) J J) (hE (ag (i:=2) J J) (hE (ag (i:=3) J J) (hE (ag (i:=4) J J) (hE (ag (i:=5) J J) (hE (ag (i:=6) J J) (hE (ag (i:=7) J J) (hE (ag (i:=8) J J) (hE (ag (i:=9) J J) (hE (ag (i:=10) J J) (hE (ag (i:=11) J J) (hE (ag (i:=12) J J) (hE (ag (i:=13) J J) (hE (ag (i:=14) J J) ac)))))))))))))) bZ) ?_;rintro _ _ ⟨_,⟨A17,n17,c17,A18,n18,c18,rfl,rfl⟩,rfl⟩;refine U ?_;refine gD (aF dv J) ?_;rintro _ _ ⟨B19,rfl,rfl⟩;refine gO (ao (us:=[iV y16.1.Kind,iV y16.1.Shape,iV y16.1.Flags,iV y16.1.Age,I A17 n17 c17,I A18 n18 c18]) (cs':=[iV y16.1.Kind,iV y16.1.Shape,iV y16.1.Flags,iV y16.1.Age,I A17 n17 c17,I A18 n18 c18]) 0 J J J J bY J J J) ?_;rintro _ _ rfl;refine U ?_;refine aw ?_;refine U ?_;refine aq J (fun g20=> ?_) (fun g20=> ?_)
 ·replace h:=ad g20 h;refine U ?_;obtain rfl:=al h;exact aJ J J ((ei bA 30 _).trans (cS [0] 19)) ⟨_,_,_,J,J⟩
 replace h:=ae g20 h;refine U ?_;obtain rfl:=al h;exact aJ J J (cS [2] 18) ⟨_,_,_,J,J⟩
theorem rv {r:(List Cp)}: ∀v post,((fun (u:Value) (post:List Chunk)=> ∃A0 n0 c0,u=I A0 n0 c0∧post=[aU A0 n0 c0 r])) v post→ ∀c∈post,bS c:=by
 rintro _ _ ⟨_,_,_,rfl,rfl⟩;exact hE dh (ac)
def kg (N:Nat)(a0:Cw)(a1:Cp)(a2:CC):Option (Bool×Cw):=
 (bM N a0 a1).bind fun y17=>bif !y17.2 then (some (false,a0)) else ((iQ N a0 a1 a2).bind fun y22=>bif !y22.2 then (some (true,a0)) else (bif decide (aX .i64 y22.1.Attrs 4=0) then (some (false,a0)) else ((bif decide (a2.Kind=0) then ((kS N y17.1 a2.N).bind fun y27=>some y27) else (some false)).bind fun b26=>bif b26 then ((ck y17.1.More a2.N).bind fun x29=>(cm N a0 a1 (⟨y17.1.Kind,y17.1.Shape,y17.1.Flags,y17.1.Age,y17.1.Slots,List.set y17.1.More a2.N.toNat (⟨8,0,(⟨#[]⟩:ByteArray)⟩:Cp)⟩:Cl)).bind fun y30=>some (true,y30)) else ((f7 N a0 a1 a2).bind fun y41=>some (y41.1,y41.2)))))
set_option maxHeartbeats 4000000 in
theorem qf {N:Nat}{a0:Cw}{a1:Cp}{a2:CC}{r:(Bool×Cw)}(h:kg N a0 a1 a2=some r):Okc Tryz.prog 31 [pV B1 0,.agg #[iV a1.Kind,iV a1.N,.string a1.S],.agg #[iV a2.Kind,iV a2.N,.string a2.S]] ([be A12 n12 c12 a0.symbols_,ct A13 n13 c13 a0.events_,be A14 n14 c14 a0.out_,aR 0 30 [iV 8,iV 0,.string (⟨#[]⟩:ByteArray)],aj B1 151 [iV a0.spent_.steps_,iV a0.spent_.made_,iV a0.spent_.calls_,iV a0.config_.Way,iV a0.config_.Steps,iV a0.config_.Calls,iV a0.config_.Made,iV a0.config_.Young,iV a0.config_.Full,iV a0.config_.Sites,.nilIface,pV B2 0,pV B9 0,I A12 n12 c12,iV a0.epoch_,iV a0.serial_,iV a0.sleepers_,I A13 n13 c13,I A14 n14 c14],aj B2 199 [I A3 n3 c3,I A4 n4 c4,I A5 n5 c5,I A6 n6 c6,pV B7 0],bu A3 n3 c3 a0.heap_.m_.Young,bu A4 n4 c4 a0.heap_.m_.Old,aU A5 n5 c5 a0.heap_.roots_,aU A6 n6 c6 a0.heap_.pending_,aj B7 247 [.map (some M8)],aL cv cy M8 a0.heap_.set_.at_,aj B9 205 [I A10 n10 c10,.map (some M11)],cR A10 n10 c10 a0.shapes_.shapes_,aL aD cu M11 a0.shapes_.next_]) (fun u post=> ∃A0 n0 c0 A1 n1 c1 A2 n2 c2 A3 n3 c3 M4 A5 n5 c5 M6 A7 n7 c7 A8 n8 c8 A9 n9 c9,u=.bool r.1∧post=[aj B1 151 [iV r.2.spent_.steps_,iV r.2.spent_.made_,iV r.2.spent_.calls_,iV r.2.config_.Way,iV r.2.config_.Steps,iV r.2.config_.Calls,iV r.2.config_.Made,iV r.2.config_.Young,iV r.2.config_.Full,iV r.2.config_.Sites,.nilIface,pV B2 0,pV B9 0,I A7 n7 c7,iV r.2.epoch_,iV r.2.serial_,iV r.2.sleepers_,I A8 n8 c8,I A9 n9 c9],aj B2 199 [I A0 n0 c0,I A1 n1 c1,I A2 n2 c2,I A3 n3 c3,pV B7 0],bu A0 n0 c0 r.2.heap_.m_.Young,bu A1 n1 c1 r.2.heap_.m_.Old,aU A2 n2 c2 r.2.heap_.roots_,aU A3 n3 c3 r.2.heap_.pending_,aj B7 247 [.map (some M4)],aL cv cy M4 r.2.heap_.set_.at_,aj B9 205 [I A5 n5 c5,.map (some M6)],cR A5 n5 c5 r.2.shapes_.shapes_,aL aD cu M6 r.2.shapes_.next_,be A7 n7 c7 r.2.symbols_,ct A8 n8 c8 r.2.events_,be A9 n9 c9 r.2.out_]):=by
 refine bj Tryz.func31 J J ?_;simp only [aS];refine U ?_;refine gD (aN J J) ?_;rintro _ _ ⟨B15,rfl,rfl⟩;refine gD (aN J J) ?_;rintro _ _ ⟨B16,rfl,rfl⟩;refine U ?_;refine gR (ai (us:=[iV a1.Kind,iV a1.N,.string a1.S]) 1 J J aH J) ?_;obtain ⟨y17,hy17,h⟩:=aa h;refine gD (ak (cr hy17) jf J (hE (ap (i:=6) J) (hE (ap (i:=7) J) (hE (ah (i:=8) J) (hE (ah (i:=9) J) (hE (ah (i:=10) J) (hE (ah (i:=11) J) (hE (ap (i:=12) J) (hE (aK (i:=13) J) (hE (ap (i:=14) J) (hE (ah (i:=15) J) (hE (aK (i:=16) J) (hE (ag (i:=2) J J) (hE (ag (i:=3) J J) (hE (ag (i:=4) J J) ac)))))))))))))) bZ) ?_;rintro _ _ ⟨_,⟨A18,n18,c18,A19,n19,c19,rfl,rfl⟩,rfl⟩;refine U ?_;refine gD (aF dv J) ?_;rintro _ _ ⟨B20,rfl,rfl⟩;refine gO (ao (us:=[iV y17.1.Kind,iV y17.1.Shape,iV y17.1.Flags,iV y17.1.Age,I A18 n18 c18,I A19 n19 c19]) (cs':=[iV y17.1.Kind,iV y17.1.Shape,iV y17.1.Flags,iV y17.1.Age,I A18 n18 c18,I A19 n19 c19]) 0 J J J J bY J J J) ?_;rintro _ _ rfl;refine U ?_;refine aw ?_;refine U ?_;refine aq J (fun g21=> ?_) (fun g21=> ?_)
 ·replace h:=ad g21 h;refine U ?_;obtain rfl:=al h;exact aJ J J (cS [9,10,11,12,13,14,15,16,17,18,19,5,6,7] 20) ⟨_,_,_,_,_,_,_,_,_,_,_,_,_,_,_,_,_,_,_,_,_,_,_,_,_,_,J,J⟩
 replace h:=ae g21 h;refine U ?_;refine gR (ai (us:=[iV a1.Kind,iV a1.N,.string a1.S]) 4 J J aH J) ?_;refine gR (ai (us:=[iV a2.Kind,iV a2.N,.string a2.S]) 3 J J bH J) ?_;obtain ⟨y22,hy22,h⟩:=aa h;refine gD (aE (lR hy22) uu J (aC [5,6,7,8] [9,10,11,12,13,14,15,16,17,18,19] [0,1,2,3,4,5,6,7,8] 20 J)) ?_;rintro _ _ ⟨_,⟨rfl,rfl⟩,rfl⟩;refine U ?_;refine gD (aF dy J) ?_;rintro _ _ ⟨B23,rfl,rfl⟩;refine gO (ao (us:=[iV y22.1.Key.Kind,iV y22.1.Key.N,.string y22.1.Key.S,iV y22.1.Attrs,iV y22.1.Value.Kind,iV y22.1.Value.N,.string y22.1.Value.S,iV y22.1.Get.Kind,iV y22.1.Get.N,.string y22.1.Get.S,iV y22.1.Set.Kind,iV y22.1.Set.N,.string y22.1.Set.S]) (cs':=[iV y22.1.Key.Kind,iV y22.1.Key.N,.string y22.1.Key.S,iV y22.1.Attrs,iV y22.1.Value.Kind,iV y22.1.Value.N,.string y22.1.Value.S,iV y22.1.Get.Kind,iV y22.1.Get.N,.string y22.1.Get.S,iV y22.1.Set.Kind,iV y22.1.Set.N,.string y22.1.Set.S]) 0 J J J J cj J J J) ?_;rintro _ _ rfl;refine bG ?_;refine U ?_;refine aw ?_;refine U ?_;refine aq J (fun g24=> ?_) (fun g24=> ?_)
 ·replace h:=ad g24 h;refine U ?_;obtain rfl:=al h;exact aJ J J (cS [1,2,3,4,5,6,7,8,9,10,11,17,18,19] 21) ⟨_,_,_,_,_,_,_,_,_,_,_,_,_,_,_,_,_,_,_,_,_,_,_,_,_,_,J,J⟩
 replace h:=ae g24 h;refine U ?_;refine gE (bm J J) ?_;refine U ?_;refine aq J (fun g25=> ?_) (fun g25=> ?_)
 ·replace h:=ad g25 h;refine U ?_;obtain rfl:=al h;exact aJ J J (cS [1,2,3,4,5,6,7,8,9,10,11,17,18,19] 21) ⟨_,_,_,_,_,_,_,_,_,_,_,_,_,_,_,_,_,_,_,_,_,_,_,_,_,_,J,J⟩
 replace h:=ae g25 h;refine U ?_;refine gR (aM 15 J J co J) ?_;refine U ?_;obtain ⟨b26,hb26,h⟩:=aa h;refine aA 5 43 b26 ?_ ?_
 ·clear h;refine ax 38 J (fun g26=> ?_) (fun g26=> ?_)
  ·have h:=ad g26 hb26;refine bv (ai (us:=[iV y17.1.Kind,iV y17.1.Shape,iV y17.1.Flags,iV y17.1.Age,I A18 n18 c18,I A19 n19 c19]) 12 J J bw J) J (aZ g26 J) J ?_;refine U ?_;refine bv (aM 15 J J co J) J (aZ g26 J) J ?_;obtain ⟨y27,hy27,h⟩:=aa h;refine bx (ak (mV hy27) vI J (hE (ah (i:=13) J) (hE (ah (i:=14) J) (hE (ag (i:=20) J J) ac))) ln) J (aZ g26 J) J ?_;rintro _ _ ⟨_,⟨rfl,rfl⟩,rfl⟩;refine U ?_;obtain rfl:=al h;exact ab sA (cS [0,1,2,3,4,5,6,7,8,9,10,11,12,13,14,15,16,17,18,19,20] 21)
  have h:=ae g26 hb26;refine U ?_;obtain rfl:=al h;exact ab sA (cS [0,1,2,3,4,5,6,7,8,9,10,11,12,13,14,15,16,17,18,19,20] 21)
 refine U ?_;refine aq J (fun g28=> ?_) (fun g28=> ?_)
 ·replace h:=ad g28 h;refine U ?_;refine gR (aM 12 J J d4 J) ?_;refine U ?_;refine gR (aM 15 J J co J) ?_;refine gR (gG (us:=[iV 8,iV 0,.string (⟨#[]⟩:ByteArray)]) 20 J J aH J) ?_;obtain ⟨x29,hx29,h⟩:=aa h;obtain ⟨lx29,ux29,hx29⟩:=aG hx29;refine gR (bf 14 J az J J hH aT lx29 ux29) ?_;refine gO (cF (us:=[iV 8,iV 0,.string (⟨#[]⟩:ByteArray)]) (z:=(⟨8,0,(⟨#[]⟩:ByteArray)⟩:Cp)) 14 J J J J aT J (ba lx29 ux29) J (fun S w vs xk hk hr ho=>by obtain rfl:=Option.some.inj (hk.symm.trans hx29);rw [show _=_ from hr];rfl)) ?_;rintro _ _ rfl;refine U ?_;refine gR (ai (us:=[iV a1.Kind,iV a1.N,.string a1.S]) 16 J J aH J) ?_;refine gR (ai (us:=[iV y17.1.Kind,iV y17.1.Shape,iV y17.1.Flags,iV y17.1.Age,I A18 n18 c18,I A19 n19 c19]) 12 J J bw J) ?_;refine gY (bV 13 J) ?_;refine gY (bV 14 J) ?_;refine bG ?_;obtain ⟨y30,hy30,h⟩:=aa h;refine gD (aE (cq hy30) jB J (aC [17,18,19,13,14] [1,2,3,4,5,6,7,8,9,10,11] [0,12,13,14,15,16,17,18,19,20] 21 J)) ?_;rintro _ _ ⟨_,⟨A31,n31,c31,A32,n32,c32,A33,n33,c33,A34,n34,c34,M35,A36,n36,c36,M37,A38,n38,c38,A39,n39,c39,A40,n40,c40,rfl,rfl⟩,rfl⟩;refine U ?_;obtain rfl:=al h;exact aJ J J (cS [0,1,2,3,4,5,6,7,8,9,10,11,12,13] 24) ⟨_,_,_,_,_,_,_,_,_,_,_,_,_,_,_,_,_,_,_,_,_,_,_,_,_,_,J,J⟩
 replace h:=ae g28 h;refine U ?_;refine gR (ai (us:=[iV a1.Kind,iV a1.N,.string a1.S]) 16 J J aH J) ?_;refine gR (ai (us:=[iV a2.Kind,iV a2.N,.string a2.S]) 15 J J bH J) ?_;obtain ⟨y41,hy41,h⟩:=aa h;refine gD (aE (io hy41) up J (aC [17,18,19] [1,2,3,4,5,6,7,8,9,10,11] [0,12,13,14,15,16,17,18,19,20] 21 J)) ?_;rintro _ _ ⟨_,⟨A42,n42,c42,A43,n43,c43,A44,n44,c44,A45,n45,c45,M46,A47,n47,c47,M48,A49,n49,c49,A50,n50,c50,A51,n51,c51,rfl,rfl⟩,rfl⟩;refine U ?_;obtain rfl:=al h;exact aJ J J (cS [0,1,2,3,4,5,6,7,8,9,10,11,12,13] 24) ⟨_,_,_,_,_,_,_,_,_,_,_,_,_,_,_,_,_,_,_,_,_,_,_,_,_,_,J,J⟩
def dA (N:Nat)(a0:CA)(y3_1:(Cw×Int))(p26:Int)(p27:Int)(p28:ByteArray):Option Bool:=
 (iQ N y3_1.1 (⟨p26,p27,p28⟩:Cp) a0.K).bind fun y31=>(fw N y3_1.1 (⟨p26,p27,p28⟩:Cp) a0.K a0.D).bind fun y33=>(ot N y33.2.2 (⟨p26,p27,p28⟩:Cp)).bind fun y44=>(bif !y44 then ((iR N y33.2.2 (⟨p26,p27,p28⟩:Cp)).bind fun y46=>some (decide (y46=0))) else (some false)).bind fun b45=>(bif b45 then ((mZ N y33.2.2 (⟨p26,p27,p28⟩:Cp)).bind fun y48=>some (decide ((y48.length:Int)=0))) else (some false)).bind fun b47=>(bif b47 then ((gW N y33.2.2 (⟨p26,p27,p28⟩:Cp)).bind fun y51=>some (decide ((y51.length:Int)=0))) else (some false)).bind fun b50=>(bif b50 then (some (decide (y31.1=(⟨(⟨0,0,⟨#[]⟩⟩:CC),0,(⟨0,0,⟨#[]⟩⟩:Cp),(⟨0,0,⟨#[]⟩⟩:Cp),(⟨0,0,⟨#[]⟩⟩:Cp)⟩:Cr)))) else (some false)).bind fun b53=>(bif b53 then (some (!y31.2)) else (some false)).bind fun b54=>(bif b54 then (some (!y33.1)) else (some false)).bind fun b55=>(bif b55 then (some (!y33.2.1)) else (some false)).bind fun b56=>bif b56 then ((kg N y33.2.2 (⟨p26,p27,p28⟩:Cp) a0.K).bind fun y58=>bif !y58.1 then ((er N y58.2 (⟨p26,p27,p28⟩:Cp) a0.N).bind fun y70=>bif !y70.1 then ((lQ N y70.2 (⟨p26,p27,p28⟩:Cp) a0.V).bind fun y82=>(bif !y82.1 then ((gb N).bind fun y94=>some y94) else (some false)).bind fun b93=>some b93) else (some false)) else (some false)) else (some false)
def gC (N:Nat)(a0:CA)(a1:Cp):Option Bool:=
 (iL N (⟨0,9,5,5,0,0,0⟩:Cs)).bind fun y3=>vP y3 (fun y3_0=>(gb N).bind fun y4=>some y4) (fun y3_1=>(bif !decide (y3_1.2=0) then (some true) else ((jE N ([a0]:List CA)).bind fun y21=>some (!y21))).bind fun b19=>(bif b19 then (some true) else (some (decide (a1.Kind=9)))).bind fun b22=>bif b22 then ((gb N).bind fun y24=>some y24) else (bif decide (a1.Kind=7) then ((ca N y3_1.1 2).bind fun y30=>dA N a0 y3_1 y30.Kind y30.N y30.S) else (dA N a0 y3_1 a1.Kind a1.N a1.S)))
set_option maxHeartbeats 4000000 in
theorem nZ {N:Nat}{a0:CA}{a1:Cp}{r:Bool}(h:gC N a0 a1=some r):Okc Tryz.prog 4 [.agg #[iV a0.Kind,iV a0.N,iV a0.K.Kind,iV a0.K.N,.string a0.K.S,iV a0.D.Has,iV a0.D.Attrs,iV a0.D.Value.Kind,iV a0.D.Value.N,.string a0.D.Value.S,iV a0.D.Get.Kind,iV a0.D.Get.N,.string a0.D.Get.S,iV a0.D.Set.Kind,iV a0.D.Set.N,.string a0.D.Set.S,iV a0.V.Kind,iV a0.V.N,.string a0.V.S],.agg #[iV a1.Kind,iV a1.N,.string a1.S]] ([aR 0 30 [iV 8,iV 0,.string (⟨#[]⟩:ByteArray)]]) (fun u post=>u=.bool r∧post=[]):=by
 refine bj Cj J J ?_;simp only [aS];refine U ?_;refine gD (aN J J) ?_;rintro _ _ ⟨B1,rfl,rfl⟩;refine gD (aN J J) ?_;rintro _ _ ⟨B2,rfl,rfl⟩;refine U ?_;refine gE (aW J (oZ _ _ _)) ?_;obtain ⟨y3,hy3,h⟩:=aa h;rcases y3 with y3_0|y3_1
 ·replace h:=uH h;refine gD (aE (jt hy3) sQ J (aC [] [] [0,1,2] 3 J)) ?_;rintro _ _ ⟨_,⟨rfl,rfl⟩,rfl⟩;refine U ?_;refine aw ?_;refine U ?_;refine gE (cZ J hP) ?_;refine U ?_;refine f3 J ?_;refine U ?_;obtain ⟨y4,hy4,h⟩:=aa h;refine gD (ak (mn hy4) uv J (hE (ag (i:=2) J J) ac) kA) ?_;rintro _ _ ⟨_,⟨rfl,rfl⟩,rfl⟩;refine U ?_;obtain rfl:=al h;exact aJ J J (cS [] 3) ⟨J,J⟩
 replace h:=uG h;refine gD (aE (jt hy3) sQ J (aC [] [] [0,1,2] 3 J)) ?_;rintro _ _ ⟨_,⟨B5,B6,A7,n7,c7,A8,n8,c8,A9,n9,c9,A10,n10,c10,B11,M12,B13,A14,n14,c14,M15,A16,n16,c16,A17,n17,c17,A18,n18,c18,rfl,rfl⟩,rfl⟩;refine U ?_;refine aw ?_;refine U ?_;refine gE (cZ J hP) ?_;refine U ?_;obtain ⟨b19,hb19,h⟩:=aa h;refine aA 5 28 b19 ?_ ?_
 ·clear h;refine ax 23 J (fun g19=> ?_) (fun g19=> ?_)
  ·have h:=ad g19 hb19;refine U ?_;obtain rfl:=al h;exact ab sA (cS [0,1,2,3,4,5,6,7,8,9,10,11,12,13,14,15,16] 17)
  have h:=ae g19 hb19;refine bv (ai (us:=[iV a0.Kind,iV a0.N,iV a0.K.Kind,iV a0.K.N,.string a0.K.S,iV a0.D.Has,iV a0.D.Attrs,iV a0.D.Value.Kind,iV a0.D.Value.N,.string a0.D.Value.S,iV a0.D.Get.Kind,iV a0.D.Get.N,.string a0.D.Get.S,iV a0.D.Set.Kind,iV a0.D.Set.N,.string a0.D.Set.S,iV a0.V.Kind,iV a0.V.N,.string a0.V.S]) 15 J J zP J) J (bO g19 J) J ?_;refine bx (bD (R:=uL) (vss:=[[iV a0.Kind,iV a0.N,iV a0.K.Kind,iV a0.K.N,.string a0.K.S,iV a0.D.Has,iV a0.D.Attrs,iV a0.D.Value.Kind,iV a0.D.Value.N,.string a0.D.Value.S,iV a0.D.Get.Kind,iV a0.D.Get.N,.string a0.D.Get.S,iV a0.D.Set.Kind,iV a0.D.Set.N,.string a0.D.Set.S,iV a0.V.Kind,iV a0.V.N,.string a0.V.S]]) (xs:=[a0]) J (xv _ _ _ _ _ _ _ _ _ _ _ _ _ _ _ _ _ _ _) J J (fun _ _ hr=> .cons J All2.nil)) J (bO g19 J) J ?_;rintro _ _ ⟨A20,n20,c20,rfl,rfl⟩;obtain ⟨y21,hy21,h⟩:=aa h;refine bx (ak (ti hy21) AA J (hE (ah (i:=0) J) ac) rA) J (bO g19 J) J ?_;rintro _ _ ⟨_,⟨rfl,rfl⟩,rfl⟩;refine U ?_;obtain rfl:=al h;exact ab sA (cS [1,2,3,4,5,6,7,8,9,10,11,12,13,14,15,16,17] 18)
 refine U ?_;obtain ⟨b22,hb22,h⟩:=aa h;refine aA 4 33 b22 ?_ ?_
 ·clear h;refine ax 29 J (fun g22=> ?_) (fun g22=> ?_)
  ·have h:=ad g22 hb22;refine U ?_;obtain rfl:=al h;exact ab sA (cS [0,1,2,3,4,5,6,7,8,9,10,11,12,13,14,15,16] 17)
  have h:=ae g22 hb22;refine U ?_;refine bv (aM 14 J J co J) J (bO g22 J) J ?_;refine U ?_;obtain rfl:=al h;exact ab sA (cS [0,1,2,3,4,5,6,7,8,9,10,11,12,13,14,15,16] 17)
 refine U ?_;refine aq J (fun g23=> ?_) (fun g23=> ?_)
 ·replace h:=ad g23 h;refine U ?_;obtain ⟨y24,hy24,h⟩:=aa h;refine gD (ak (mn hy24) uv J (hE (ag (i:=16) J J) ac) kA) ?_;rintro _ _ ⟨_,⟨rfl,rfl⟩,rfl⟩;refine U ?_;obtain rfl:=al h;exact aJ J J (cS [] 17) ⟨J,J⟩
 replace h:=ae g23 h;refine U ?_;refine aY (fun s L=> ∃p26 p27 p28,dA N a0 y3_1 p26 p27 p28=some r∧s=[(2,pV B1 0),(3,pV B2 0),(4,.bool false),(5,pV B5 0)]∧L=[aj B1 52 [iV a0.Kind,iV a0.N,iV a0.K.Kind,iV a0.K.N,.string a0.K.S,iV a0.D.Has,iV a0.D.Attrs,iV a0.D.Value.Kind,iV a0.D.Value.N,.string a0.D.Value.S,iV a0.D.Get.Kind,iV a0.D.Get.N,.string a0.D.Get.S,iV a0.D.Set.Kind,iV a0.D.Set.N,.string a0.D.Set.S,iV a0.V.Kind,iV a0.V.N,.string a0.V.S],aj B2 30 [iV p26,iV p27,.string p28],be A16 n16 c16 y3_1.1.symbols_,ct A17 n17 c17 y3_1.1.events_,be A18 n18 c18 y3_1.1.out_,aj B5 151 [iV y3_1.1.spent_.steps_,iV y3_1.1.spent_.made_,iV y3_1.1.spent_.calls_,iV y3_1.1.config_.Way,iV y3_1.1.config_.Steps,iV y3_1.1.config_.Calls,iV y3_1.1.config_.Made,iV y3_1.1.config_.Young,iV y3_1.1.config_.Full,iV y3_1.1.config_.Sites,.nilIface,pV B6 0,pV B13 0,I A16 n16 c16,iV y3_1.1.epoch_,iV y3_1.1.serial_,iV y3_1.1.sleepers_,I A17 n17 c17,I A18 n18 c18],aR 0 30 [iV 8,iV 0,.string (⟨#[]⟩:ByteArray)],bu A7 n7 c7 y3_1.1.heap_.m_.Young,bu A8 n8 c8 y3_1.1.heap_.m_.Old,aU A9 n9 c9 y3_1.1.heap_.roots_,aU A10 n10 c10 y3_1.1.heap_.pending_,aj B6 199 [I A7 n7 c7,I A8 n8 c8,I A9 n9 c9,I A10 n10 c10,pV B11 0],cR A14 n14 c14 y3_1.1.shapes_.shapes_,aL aD cu M15 y3_1.1.shapes_.next_,aj B13 205 [I A14 n14 c14,.map (some M15)],aL cv cy M12 y3_1.1.heap_.set_.at_,aj B11 247 [.map (some M12)]]) ?_ ?_
 ·refine U ?_;refine gR (aM 14 J J co J) ?_;refine U ?_;refine aq J (fun g29=> ?_) (fun g29=> ?_)
  ·replace h:=ad g29 h;refine U ?_;obtain ⟨y30,hy30,h⟩:=aa h;refine gD (ak (fV hy30) xq J (hE (ap (i:=0) J) (hE (ap (i:=1) J) (hE (ah (i:=2) J) (hE (ah (i:=3) J) (hE (ah (i:=4) J) (hE (ah (i:=5) J) (hE (ap (i:=6) J) (hE (aK (i:=7) J) (hE (ap (i:=8) J) (hE (ah (i:=9) J) (hE (aK (i:=10) J) (hE (ag (i:=11) J J) (hE (ag (i:=12) J J) (hE (ag (i:=13) J J) ac)))))))))))))) fm) ?_;rintro _ _ ⟨_,⟨rfl,rfl⟩,rfl⟩;refine gO (ao (us:=[iV y30.Kind,iV y30.N,.string y30.S]) (cs':=[iV y30.Kind,iV y30.N,.string y30.S]) 14 J J J J aT J J J) ?_;rintro _ _ rfl;refine bG ?_;refine U ?_;exact ⟨_,_,⟨y30.Kind,y30.N,y30.S,h,J,J⟩,sA,cS [15,14,11,12,13,0,16,2,3,4,5,1,9,10,8,7,6] 17⟩
  replace h:=ae g29 h;refine U ?_;exact ⟨_,_,⟨a1.Kind,a1.N,a1.S,h,J,J⟩,sA,cS [15,14,11,12,13,0,16,2,3,4,5,1,9,10,8,7,6] 17⟩
 rintro _ _ ⟨p26,p27,p28,h,rfl,rfl⟩;refine U ?_;refine gR (ai (us:=[iV p26,iV p27,.string p28]) 1 J J aH J) ?_;refine U ?_;refine gR (ai (us:=[iV a0.K.Kind,iV a0.K.N,.string a0.K.S]) 0 J J bH J) ?_;obtain ⟨y31,hy31,h⟩:=aa h;refine gD (aE (lR hy31) uu J (aC [2,3,4,6] [5,11,7,8,9,10,16,15,14,12,13] [0,1,2,3,4,6] 17 J)) ?_;rintro _ _ ⟨_,⟨rfl,rfl⟩,rfl⟩;refine U ?_;refine gD (aF dy J) ?_;rintro _ _ ⟨B32,rfl,rfl⟩;refine gO (ao (us:=[iV y31.1.Key.Kind,iV y31.1.Key.N,.string y31.1.Key.S,iV y31.1.Attrs,iV y31.1.Value.Kind,iV y31.1.Value.N,.string y31.1.Value.S,iV y31.1.Get.Kind,iV y31.1.Get.N,.string y31.1.Get.S,iV y31.1.Set.Kind,iV y31.1.Set.N,.string y31.1.Set.S]) (cs':=[iV y31.1.Key.Kind,iV y31.1.Key.N,.string y31.1.Key.S,iV y31.1.Attrs,iV y31.1.Value.Kind,iV y31.1.Value.N,.string y31.1.Value.S,iV y31.1.Get.Kind,iV y31.1.Get.N,.string y31.1.Get.S,iV y31.1.Set.Kind,iV y31.1.Set.N,.string y31.1.Set.S]) 0 J J J J cj J J J) ?_;rintro _ _ rfl;refine U ?_;refine gR (ai (us:=[iV p26,iV p27,.string p28]) 13 J J aH J) ?_;refine U ?_;refine gR (ai (us:=[iV a0.K.Kind,iV a0.K.N,.string a0.K.S]) 12 J J bH J) ?_;refine U ?_;refine gR (ai (us:=[iV a0.D.Has,iV a0.D.Attrs,iV a0.D.Value.Kind,iV a0.D.Value.N,.string a0.D.Value.S,iV a0.D.Get.Kind,iV a0.D.Get.N,.string a0.D.Get.S,iV a0.D.Set.Kind,iV a0.D.Set.N,.string a0.D.Set.S]) 12 J J cU J) ?_;obtain ⟨y33,hy33,h⟩:=aa h
 refine gD (aE (jh hy33) ut J (aC [14,15,16,17] [1,2,3,4,5,6,7,8,9,10,11] [0,12,13,14,15,16,17] 18 J)) ?_;rintro _ _ ⟨_,⟨A34,n34,c34,A35,n35,c35,A36,n36,c36,A37,n37,c37,M38,A39,n39,c39,M40,A41,n41,c41,A42,n42,c42,A43,n43,c43,rfl,rfl⟩,rfl⟩;refine bG ?_;refine U ?_;refine gR (ai (us:=[iV p26,iV p27,.string p28]) 16 J J aH J) ?_;obtain ⟨y44,hy44,h⟩:=aa h;refine gD (ak (tV hy44) Az J (hE (ap (i:=0) J) (hE (ap (i:=1) J) (hE (ah (i:=2) J) (hE (ah (i:=3) J) (hE (ah (i:=4) J) (hE (ah (i:=5) J) (hE (ap (i:=6) J) (hE (aK (i:=7) J) (hE (ap (i:=8) J) (hE (ah (i:=9) J) (hE (aK (i:=10) J) (hE (ag (i:=11) J J) (hE (ag (i:=12) J J) (hE (ag (i:=13) J J) ac)))))))))))))) rR) ?_;rintro _ _ ⟨_,⟨rfl,rfl⟩,rfl⟩;refine U ?_;obtain ⟨b45,hb45,h⟩:=aa h;refine aA 5 67 b45 ?_ ?_
 ·clear h;refine ax 62 J (fun g45=> ?_) (fun g45=> ?_)
  ·have h:=ad g45 hb45;refine U ?_;refine bv (ai (us:=[iV p26,iV p27,.string p28]) 16 J J aH J) J (aZ g45 J) J ?_;obtain ⟨y46,hy46,h⟩:=aa h;refine bx (ak (lS hy46) ur J (hE (ap (i:=0) J) (hE (ap (i:=1) J) (hE (ah (i:=2) J) (hE (ah (i:=3) J) (hE (ah (i:=4) J) (hE (ah (i:=5) J) (hE (ap (i:=6) J) (hE (aK (i:=7) J) (hE (ap (i:=8) J) (hE (ah (i:=9) J) (hE (aK (i:=10) J) (hE (ag (i:=11) J J) (hE (ag (i:=12) J J) (hE (ag (i:=13) J J) ac)))))))))))))) kd) J (aZ g45 J) J ?_;rintro _ _ ⟨_,⟨rfl,rfl⟩,rfl⟩;refine U ?_;obtain rfl:=al h;exact ab sA (cS [0,1,2,3,4,5,6,7,8,9,10,11,12,13,14,15,16,17,18,19,20] 21)
  have h:=ae g45 hb45;refine U ?_;obtain rfl:=al h;exact ab sA (cS [0,1,2,3,4,5,6,7,8,9,10,11,12,13,14,15,16,17,18,19,20] 21)
 refine U ?_;obtain ⟨b47,hb47,h⟩:=aa h;refine aA 6 74 b47 ?_ ?_
 ·clear h;refine ax 68 J (fun g47=> ?_) (fun g47=> ?_)
  ·have h:=ad g47 hb47;refine U ?_;refine bv (ai (us:=[iV p26,iV p27,.string p28]) 16 J J aH J) J (aZ g47 J) J ?_;obtain ⟨y48,hy48,h⟩:=aa h;refine bx (ak (tc hy48) Ay J (hE (ap (i:=0) J) (hE (ap (i:=1) J) (hE (ah (i:=2) J) (hE (ah (i:=3) J) (hE (ah (i:=4) J) (hE (ah (i:=5) J) (hE (ap (i:=6) J) (hE (aK (i:=7) J) (hE (ap (i:=8) J) (hE (ah (i:=9) J) (hE (aK (i:=10) J) (hE (ag (i:=11) J J) (hE (ag (i:=12) J J) (hE (ag (i:=13) J J) ac)))))))))))))) rv) J (aZ g47 J) J ?_;rintro _ _ ⟨_,⟨A49,n49,c49,rfl,rfl⟩,rfl⟩;refine bv (br 0 J az J hH) J (aZ g47 J) J ?_;refine U ?_;obtain rfl:=al h;exact ab sA (cS [1,2,3,4,5,6,7,8,9,10,11,12,13,14,15,16,17,18,19,20,21] 22)
  have h:=ae g47 hb47;refine U ?_;obtain rfl:=al h;exact ab sA (cS [0,1,2,3,4,5,6,7,8,9,10,11,12,13,14,15,16,17,18,19,20] 21)
 refine U ?_;obtain ⟨b50,hb50,h⟩:=aa h;refine aA 6 81 b50 ?_ ?_
 ·clear h;refine ax 75 J (fun g50=> ?_) (fun g50=> ?_)
  ·have h:=ad g50 hb50;refine U ?_;refine bv (ai (us:=[iV p26,iV p27,.string p28]) 16 J J aH J) J (aZ g50 J) J ?_;obtain ⟨y51,hy51,h⟩:=aa h;refine bx (aE (kT hy51) uq J (aC [11,12,13,20] [0,1,2,3,4,5,6,7,8,9,10] [11,12,13,14,15,16,17,18,19,20] 21 J)) J (aZ g50 J) J ?_;rintro _ _ ⟨_,⟨A52,n52,c52,rfl,rfl⟩,rfl⟩;refine bv (br 0 J az J Ch) J (aZ g50 J) J ?_;refine U ?_;obtain rfl:=al h;exact ab sA (cS [1,2,3,4,5,6,7,8,9,10,11,12,13,14,15,16,17,18,19,20,21] 22)
  have h:=ae g50 hb50;refine U ?_;obtain rfl:=al h;exact ab sA (cS [0,1,2,3,4,5,6,7,8,9,10,11,12,13,14,15,16,17,18,19,20] 21)
 refine U ?_;obtain ⟨b53,hb53,h⟩:=aa h;refine aA 4 86 b53 ?_ ?_
 ·clear h;refine ax 82 J (fun g53=> ?_) (fun g53=> ?_)
  ·have h:=ad g53 hb53;refine bv (ai (us:=[iV y31.1.Key.Kind,iV y31.1.Key.N,.string y31.1.Key.S,iV y31.1.Attrs,iV y31.1.Value.Kind,iV y31.1.Value.N,.string y31.1.Value.S,iV y31.1.Get.Kind,iV y31.1.Get.N,.string y31.1.Get.S,iV y31.1.Set.Kind,iV y31.1.Set.N,.string y31.1.Set.S]) 14 J J da J) J (aZ g53 J) J ?_;refine fR (aW J (lO)) J (aZ g53 J) J ?_;refine fR (xb (x:=y31.1) (y:=(⟨(⟨0,0,⟨#[]⟩⟩:CC),0,(⟨0,0,⟨#[]⟩⟩:Cp),(⟨0,0,⟨#[]⟩⟩:Cp),(⟨0,0,⟨#[]⟩⟩:Cp)⟩:Cr)) J J) J (aZ g53 J) J ?_;refine U ?_;obtain rfl:=al h;exact ab sA (cS [0,1,2,3,4,5,6,7,8,9,10,11,12,13,14,15,16,17,18,19,20] 21)
  have h:=ae g53 hb53;refine U ?_;obtain rfl:=al h;exact ab sA (cS [0,1,2,3,4,5,6,7,8,9,10,11,12,13,14,15,16,17,18,19,20] 21)
 refine U ?_;obtain ⟨b54,hb54,h⟩:=aa h;refine aA 3 90 b54 ?_ ?_
 ·clear h;refine ax 87 J (fun g54=> ?_) (fun g54=> ?_)
  ·have h:=ad g54 hb54;refine U ?_;obtain rfl:=al h;exact ab sA (cS [0,1,2,3,4,5,6,7,8,9,10,11,12,13,14,15,16,17,18,19,20] 21)
  have h:=ae g54 hb54;refine U ?_;obtain rfl:=al h;exact ab sA (cS [0,1,2,3,4,5,6,7,8,9,10,11,12,13,14,15,16,17,18,19,20] 21)
 refine U ?_;obtain ⟨b55,hb55,h⟩:=aa h;refine aA 3 95 b55 ?_ ?_
 ·clear h;refine ax 92 J (fun g55=> ?_) (fun g55=> ?_)
  ·have h:=ad g55 hb55;refine U ?_;obtain rfl:=al h;exact ab sA (cS [0,1,2,3,4,5,6,7,8,9,10,11,12,13,14,15,16,17,18,19,20] 21)
  have h:=ae g55 hb55;refine U ?_;obtain rfl:=al h;exact ab sA (cS [0,1,2,3,4,5,6,7,8,9,10,11,12,13,14,15,16,17,18,19,20] 21)
 refine U ?_;obtain ⟨b56,hb56,h⟩:=aa h;refine aA 3 99 b56 ?_ ?_
 ·clear h;refine ax 96 J (fun g56=> ?_) (fun g56=> ?_)
  ·have h:=ad g56 hb56;refine U ?_;obtain rfl:=al h;exact ab sA (cS [0,1,2,3,4,5,6,7,8,9,10,11,12,13,14,15,16,17,18,19,20] 21)
  have h:=ae g56 hb56;refine U ?_;obtain rfl:=al h;exact ab sA (cS [0,1,2,3,4,5,6,7,8,9,10,11,12,13,14,15,16,17,18,19,20] 21)
 refine U ?_;refine ax 100 J (fun g57=> ?_) (fun g57=> ?_)
 ·replace h:=ad g57 h;refine U ?_;refine bv (ai (us:=[iV p26,iV p27,.string p28]) 16 J J aH J) J (aZ g57 J) J ?_;refine U ?_;refine bv (ai (us:=[iV a0.K.Kind,iV a0.K.N,.string a0.K.S]) 15 J J bH J) J (aZ g57 J) J ?_;obtain ⟨y58,hy58,h⟩:=aa h;refine bx (aE (qf hy58) Ax J (aC [11,12,13,20] [0,1,2,3,4,5,6,7,8,9,10] [11,12,13,14,15,16,17,18,19,20] 21 J)) J (aZ g57 J) J ?_;rintro _ _ ⟨_,⟨A59,n59,c59,A60,n60,c60,A61,n61,c61,A62,n62,c62,M63,A64,n64,c64,M65,A66,n66,c66,A67,n67,c67,A68,n68,c68,rfl,rfl⟩,rfl⟩;refine U ?_;refine ax 108 J (fun g69=> ?_) (fun g69=> ?_)
  ·replace h:=ad g69 h;refine U ?_;refine bv (ai (us:=[iV p26,iV p27,.string p28]) 19 J J aH J) J (aZ g69 J) J ?_;refine U ?_;refine bv (aM 18 J J co J) J (aZ g69 J) J ?_;obtain ⟨y70,hy70,h⟩:=aa h;refine bx (aE (f9 hy70) sM J (aC [11,12,13,23] [0,1,2,3,4,5,6,7,8,9,10] [11,12,13,14,15,16,17,18,19,20,21,22,23] 24 J)) J (aZ g69 J) J ?_;rintro _ _ ⟨_,⟨A71,n71,c71,A72,n72,c72,A73,n73,c73,A74,n74,c74,M75,A76,n76,c76,M77,A78,n78,c78,A79,n79,c79,A80,n80,c80,rfl,rfl⟩,rfl⟩;refine bG ?_;refine U ?_;refine ax 116 J (fun g81=> ?_) (fun g81=> ?_)
   ·replace h:=ad g81 h;refine U ?_;refine bv (ai (us:=[iV p26,iV p27,.string p28]) 22 J J aH J) J (aZ g81 J) J ?_;refine U ?_;refine bv (ai (us:=[iV a0.V.Kind,iV a0.V.N,.string a0.V.S]) 21 J J aH J) J (aZ g81 J) J ?_;obtain ⟨y82,hy82,h⟩:=aa h;refine bx (aE (rQ hy82) Aw J (aC [11,12,13] [0,1,2,3,4,5,6,7,8,9,10] [11,12,13,14,15,16,17,18,19,20,21,22,23,24,25,26] 27 J)) J (aZ g81 J) J ?_;rintro _ _ ⟨_,⟨A83,n83,c83,A84,n84,c84,A85,n85,c85,A86,n86,c86,M87,A88,n88,c88,M89,A90,n90,c90,A91,n91,c91,A92,n92,c92,rfl,rfl⟩,rfl⟩;refine U ?_;obtain ⟨b93,hb93,h⟩:=aa h;refine aA 2 126 b93 ?_ ?_
    ·clear h;refine ax 124 J (fun g93=> ?_) (fun g93=> ?_)
     ·have h:=ad g93 hb93;obtain ⟨y94,hy94,h⟩:=aa h;refine bx (ak (mn hy94) uv J (hE (ag (i:=29) J J) ac) kA) J (aZ g93 J) J ?_;rintro _ _ ⟨_,⟨rfl,rfl⟩,rfl⟩;refine U ?_;obtain rfl:=al h;exact ab sA (cS [0,1,2,3,4,5,6,7,8,9,10,11,12,13,14,15,16,17,18,19,20,21,22,23,24,25,26,27,28,29] 30)
     have h:=ae g93 hb93;refine U ?_;obtain rfl:=al h;exact ab sA (cS [0,1,2,3,4,5,6,7,8,9,10,11,12,13,14,15,16,17,18,19,20,21,22,23,24,25,26,27,28,29] 30)
    refine U ?_;obtain rfl:=al h;exact aJ J J (cS [] 30) ⟨J,J⟩
   replace h:=ae g81 h;refine U ?_;obtain rfl:=al h;exact aJ J J (cS [] 27) ⟨J,J⟩
  replace h:=ae g69 h;refine U ?_;obtain rfl:=al h;exact aJ J J (cS [] 24) ⟨J,J⟩
 replace h:=ae g57 h;refine U ?_;obtain rfl:=al h;exact aJ J J (cS [] 21) ⟨J,J⟩
end
section
variable {A1 A10 A12 A13 A14 A2 A3 A4 A5 A6:Option Addr} {B1 B2 B7 B9 M11 M8 c1 c10 c12 c13 c14 c2 c3 c4 c5 c6 n1 n10 n12 n13 n14 n2 n3 n4 n5 n6:Nat}
open Go.RowKit Go.ChangeShapes Go.WideShapes Go.Deep
def kX (x:Cp):Prop:=(cc x.Kind)∧(cc x.N)∧(True)
set_option maxRecDepth 100000 in
theorem jR:AK Tryz.prog 30 bA kX:=fun {_ enc w base spare held _ cs y} h=>by
 obtain ⟨xs,m, -, -,hl,hx,hf⟩:=DataW.trod_struct Ck h
 have hc:Tryz.prog.cellsOf 30=3:=by kernel_rfl
 rw [hc] at hl
 match cs,hl,hf with
 | [c0,c1,c2],_,hf=>
  have k0:DataW.trod enc Tryz.prog w base spare held m 3 (List.take (Tryz.prog.cellsOf 3) (List.drop 0 [c0,c1,c2]))=xs[0]? :=hf 0 _ rfl
  have z0:Tryz.prog.cellsOf 3=1:=by kernel_rfl
  simp only [z0,List.drop_succ_cons,List.drop_zero,List.take_succ_cons,List.take_zero] at k0
  have l0:0<xs.length:=by rw [hx];decide
  obtain ⟨a0,r0,w0⟩:=(km hN) (k0.trans (List.getElem?_eq_getElem l0));have k1:DataW.trod enc Tryz.prog w base spare held m 3 (List.take (Tryz.prog.cellsOf 3) (List.drop 1 [c0,c1,c2]))=xs[1]? :=hf 1 _ rfl
  have z1:Tryz.prog.cellsOf 3=1:=by kernel_rfl
  simp only [z1,List.drop_succ_cons,List.drop_zero,List.take_succ_cons,List.take_zero] at k1
  have l1:1<xs.length:=by rw [hx];decide
  obtain ⟨a1,r1,w1⟩:=(km hN) (k1.trans (List.getElem?_eq_getElem l1));have k2:DataW.trod enc Tryz.prog w base spare held m 9 (List.take (Tryz.prog.cellsOf 9) (List.drop 2 [c0,c1,c2]))=xs[2]? :=hf 2 _ rfl
  have z2:Tryz.prog.cellsOf 9=1:=by kernel_rfl
  simp only [z2,List.drop_succ_cons,List.drop_zero,List.take_succ_cons,List.take_zero] at k2
  have l2:2<xs.length:=by rw [hx];decide
  obtain ⟨a2,r2,w2⟩:=(uI hJ) (k2.trans (List.getElem?_eq_getElem l2));obtain ⟨rfl, -⟩:=List.cons.inj (show [c0]=[_] from r0);obtain ⟨rfl, -⟩:=List.cons.inj (show [c1]=[_] from r1);obtain ⟨rfl, -⟩:=List.cons.inj (show [c2]=[_] from r2);exact ⟨⟨a0,a1,a2⟩,J,⟨w0,w1,w2⟩⟩
def wy (x:CC):Prop:=(cc x.Kind)∧(cc x.N)∧(True)
set_option maxRecDepth 100000 in
theorem wH:AK Tryz.prog 24 fF wy:=fun {_ enc w base spare held _ cs y} h=>by
 obtain ⟨xs,m, -, -,hl,hx,hf⟩:=DataW.trod_struct Tryz.underlying24 h
 have hc:Tryz.prog.cellsOf 24=3:=by kernel_rfl
 rw [hc] at hl
 match cs,hl,hf with
 | [c0,c1,c2],_,hf=>
  have k0:DataW.trod enc Tryz.prog w base spare held m 3 (List.take (Tryz.prog.cellsOf 3) (List.drop 0 [c0,c1,c2]))=xs[0]? :=hf 0 _ rfl
  have z0:Tryz.prog.cellsOf 3=1:=by kernel_rfl
  simp only [z0,List.drop_succ_cons,List.drop_zero,List.take_succ_cons,List.take_zero] at k0
  have l0:0<xs.length:=by rw [hx];decide
  obtain ⟨a0,r0,w0⟩:=(km hN) (k0.trans (List.getElem?_eq_getElem l0));have k1:DataW.trod enc Tryz.prog w base spare held m 3 (List.take (Tryz.prog.cellsOf 3) (List.drop 1 [c0,c1,c2]))=xs[1]? :=hf 1 _ rfl
  have z1:Tryz.prog.cellsOf 3=1:=by kernel_rfl
  simp only [z1,List.drop_succ_cons,List.drop_zero,List.take_succ_cons,List.take_zero] at k1
  have l1:1<xs.length:=by rw [hx];decide
  obtain ⟨a1,r1,w1⟩:=(km hN) (k1.trans (List.getElem?_eq_getElem l1));have k2:DataW.trod enc Tryz.prog w base spare held m 9 (List.take (Tryz.prog.cellsOf 9) (List.drop 2 [c0,c1,c2]))=xs[2]? :=hf 2 _ rfl
  have z2:Tryz.prog.cellsOf 9=1:=by kernel_rfl
  simp only [z2,List.drop_succ_cons,List.drop_zero,List.take_succ_cons,List.take_zero] at k2
  have l2:2<xs.length:=by rw [hx];decide
  obtain ⟨a2,r2,w2⟩:=(uI hJ) (k2.trans (List.getElem?_eq_getElem l2));obtain ⟨rfl, -⟩:=List.cons.inj (show [c0]=[_] from r0);obtain ⟨rfl, -⟩:=List.cons.inj (show [c1]=[_] from r1);obtain ⟨rfl, -⟩:=List.cons.inj (show [c2]=[_] from r2);exact ⟨⟨a0,a1,a2⟩,J,⟨w0,w1,w2⟩⟩
def uC (x:Cm):Prop:=(cc x.Has)∧(cc x.Attrs)∧(kX x.Value)∧(kX x.Get)∧(kX x.Set)
set_option maxRecDepth 100000 in
theorem vU:AK Tryz.prog 32 zZ uC:=fun {_ enc w base spare held _ cs y} h=>by
 obtain ⟨xs,m, -, -,hl,hx,hf⟩:=DataW.trod_struct Tryz.underlying32 h
 have hc:Tryz.prog.cellsOf 32=11:=by kernel_rfl
 rw [hc] at hl
 match cs,hl,hf with
 | [c0,c1,c2,c3,c4,c5,c6,c7,c8,c9,c10],_,hf=>
  have k0:DataW.trod enc Tryz.prog w base spare held m 3 (List.take (Tryz.prog.cellsOf 3) (List.drop 0 [c0,c1,c2,c3,c4,c5,c6,c7,c8,c9,c10]))=xs[0]? :=hf 0 _ rfl
  have z0:Tryz.prog.cellsOf 3=1:=by kernel_rfl
  simp only [z0,List.drop_succ_cons,List.drop_zero,List.take_succ_cons,List.take_zero] at k0
  have l0:0<xs.length:=by rw [hx];decide
  obtain ⟨a0,r0,w0⟩:=(km hN) (k0.trans (List.getElem?_eq_getElem l0));have k1:DataW.trod enc Tryz.prog w base spare held m 3 (List.take (Tryz.prog.cellsOf 3) (List.drop 1 [c0,c1,c2,c3,c4,c5,c6,c7,c8,c9,c10]))=xs[1]? :=hf 1 _ rfl
  have z1:Tryz.prog.cellsOf 3=1:=by kernel_rfl
  simp only [z1,List.drop_succ_cons,List.drop_zero,List.take_succ_cons,List.take_zero] at k1
  have l1:1<xs.length:=by rw [hx];decide
  obtain ⟨a1,r1,w1⟩:=(km hN) (k1.trans (List.getElem?_eq_getElem l1));have k2:DataW.trod enc Tryz.prog w base spare held m 30 (List.take (Tryz.prog.cellsOf 30) (List.drop 2 [c0,c1,c2,c3,c4,c5,c6,c7,c8,c9,c10]))=xs[2]? :=hf 2 _ rfl
  have z2:Tryz.prog.cellsOf 30=3:=by kernel_rfl
  simp only [z2,List.drop_succ_cons,List.drop_zero,List.take_succ_cons,List.take_zero] at k2
  have l2:2<xs.length:=by rw [hx];decide
  obtain ⟨a2,r2,w2⟩:=jR (k2.trans (List.getElem?_eq_getElem l2));have k3:DataW.trod enc Tryz.prog w base spare held m 30 (List.take (Tryz.prog.cellsOf 30) (List.drop 5 [c0,c1,c2,c3,c4,c5,c6,c7,c8,c9,c10]))=xs[3]? :=hf 3 _ rfl
  have z3:Tryz.prog.cellsOf 30=3:=by kernel_rfl
  simp only [z3,List.drop_succ_cons,List.drop_zero,List.take_succ_cons,List.take_zero] at k3
  have l3:3<xs.length:=by rw [hx];decide
  obtain ⟨a3,r3,w3⟩:=jR (k3.trans (List.getElem?_eq_getElem l3));have k4:DataW.trod enc Tryz.prog w base spare held m 30 (List.take (Tryz.prog.cellsOf 30) (List.drop 8 [c0,c1,c2,c3,c4,c5,c6,c7,c8,c9,c10]))=xs[4]? :=hf 4 _ rfl
  have z4:Tryz.prog.cellsOf 30=3:=by kernel_rfl
  simp only [z4,List.drop_succ_cons,List.drop_zero,List.take_succ_cons,List.take_zero] at k4
  have l4:4<xs.length:=by rw [hx];decide
  obtain ⟨a4,r4,w4⟩:=jR (k4.trans (List.getElem?_eq_getElem l4));obtain ⟨rfl, -⟩:=List.cons.inj (show [c0]=[_] from r0);obtain ⟨rfl, -⟩:=List.cons.inj (show [c1]=[_] from r1);have e2:[c2,c3,c4]=[.int .i64 a2.Kind,.int .i64 a2.N,.string a2.S]:=r2;simp only [List.cons.injEq,and_true] at e2;obtain ⟨rfl,rfl,rfl⟩:=e2;have e3:[c5,c6,c7]=[.int .i64 a3.Kind,.int .i64 a3.N,.string a3.S]:=r3;simp only [List.cons.injEq,and_true] at e3;obtain ⟨rfl,rfl,rfl⟩:=e3;have e4:[c8,c9,c10]=[.int .i64 a4.Kind,.int .i64 a4.N,.string a4.S]:=r4;simp only [List.cons.injEq,and_true] at e4;obtain ⟨rfl,rfl,rfl⟩:=e4;exact ⟨⟨a0,a1,a2,a3,a4⟩,J,⟨w0,w1,w2,w3,w4⟩⟩
def wz (x:CA):Prop:=(cc x.Kind)∧(cc x.N)∧(wy x.K)∧(uC x.D)∧(kX x.V)
set_option maxRecDepth 100000 in
theorem wI:AK Tryz.prog 52 uL wz:=fun {_ enc w base spare held _ cs y} h=>by
 obtain ⟨xs,m, -, -,hl,hx,hf⟩:=DataW.trod_struct Tryz.underlying52 h
 have hc:Tryz.prog.cellsOf 52=19:=by kernel_rfl
 rw [hc] at hl
 match cs,hl,hf with
 | [c0,c1,c2,c3,c4,c5,c6,c7,c8,c9,c10,c11,c12,c13,c14,c15,c16,c17,c18],_,hf=>
  have k0:DataW.trod enc Tryz.prog w base spare held m 3 (List.take (Tryz.prog.cellsOf 3) (List.drop 0 [c0,c1,c2,c3,c4,c5,c6,c7,c8,c9,c10,c11,c12,c13,c14,c15,c16,c17,c18]))=xs[0]? :=hf 0 _ rfl
  have z0:Tryz.prog.cellsOf 3=1:=by kernel_rfl
  simp only [z0,List.drop_succ_cons,List.drop_zero,List.take_succ_cons,List.take_zero] at k0
  have l0:0<xs.length:=by rw [hx];decide
  obtain ⟨a0,r0,w0⟩:=(km hN) (k0.trans (List.getElem?_eq_getElem l0));have k1:DataW.trod enc Tryz.prog w base spare held m 3 (List.take (Tryz.prog.cellsOf 3) (List.drop 1 [c0,c1,c2,c3,c4,c5,c6,c7,c8,c9,c10,c11,c12,c13,c14,c15,c16,c17,c18]))=xs[1]? :=hf 1 _ rfl
  have z1:Tryz.prog.cellsOf 3=1:=by kernel_rfl
  simp only [z1,List.drop_succ_cons,List.drop_zero,List.take_succ_cons,List.take_zero] at k1
  have l1:1<xs.length:=by rw [hx];decide
  obtain ⟨a1,r1,w1⟩:=(km hN) (k1.trans (List.getElem?_eq_getElem l1));have k2:DataW.trod enc Tryz.prog w base spare held m 24 (List.take (Tryz.prog.cellsOf 24) (List.drop 2 [c0,c1,c2,c3,c4,c5,c6,c7,c8,c9,c10,c11,c12,c13,c14,c15,c16,c17,c18]))=xs[2]? :=hf 2 _ rfl
  have z2:Tryz.prog.cellsOf 24=3:=by kernel_rfl
  simp only [z2,List.drop_succ_cons,List.drop_zero,List.take_succ_cons,List.take_zero] at k2
  have l2:2<xs.length:=by rw [hx];decide
  obtain ⟨a2,r2,w2⟩:=wH (k2.trans (List.getElem?_eq_getElem l2));have k3:DataW.trod enc Tryz.prog w base spare held m 32 (List.take (Tryz.prog.cellsOf 32) (List.drop 5 [c0,c1,c2,c3,c4,c5,c6,c7,c8,c9,c10,c11,c12,c13,c14,c15,c16,c17,c18]))=xs[3]? :=hf 3 _ rfl
  have z3:Tryz.prog.cellsOf 32=11:=by kernel_rfl
  simp only [z3,List.drop_succ_cons,List.drop_zero,List.take_succ_cons,List.take_zero] at k3
  have l3:3<xs.length:=by rw [hx];decide
  obtain ⟨a3,r3,w3⟩:=vU (k3.trans (List.getElem?_eq_getElem l3));have k4:DataW.trod enc Tryz.prog w base spare held m 30 (List.take (Tryz.prog.cellsOf 30) (List.drop 16 [c0,c1,c2,c3,c4,c5,c6,c7,c8,c9,c10,c11,c12,c13,c14,c15,c16,c17,c18]))=xs[4]? :=hf 4 _ rfl
  have z4:Tryz.prog.cellsOf 30=3:=by kernel_rfl
  simp only [z4,List.drop_succ_cons,List.drop_zero,List.take_succ_cons,List.take_zero] at k4
  have l4:4<xs.length:=by rw [hx];decide
  obtain ⟨a4,r4,w4⟩:=jR (k4.trans (List.getElem?_eq_getElem l4));obtain ⟨rfl, -⟩:=List.cons.inj (show [c0]=[_] from r0);obtain ⟨rfl, -⟩:=List.cons.inj (show [c1]=[_] from r1);have e2:[c2,c3,c4]=[.int .i64 a2.Kind,.int .i64 a2.N,.string a2.S]:=r2;simp only [List.cons.injEq,and_true] at e2;obtain ⟨rfl,rfl,rfl⟩:=e2;have e3:[c5,c6,c7,c8,c9,c10,c11,c12,c13,c14,c15]=[.int .i64 a3.Has,.int .i64 a3.Attrs,.int .i64 a3.Value.Kind,.int .i64 a3.Value.N,.string a3.Value.S,.int .i64 a3.Get.Kind,.int .i64 a3.Get.N,.string a3.Get.S,.int .i64 a3.Set.Kind,.int .i64 a3.Set.N,.string a3.Set.S]:=r3;simp only [List.cons.injEq,and_true] at e3;obtain ⟨rfl,rfl,rfl,rfl,rfl,rfl,rfl,rfl,rfl,rfl,rfl⟩:=e3;have e4:[c16,c17,c18]=[.int .i64 a4.Kind,.int .i64 a4.N,.string a4.S]:=r4;simp only [List.cons.injEq,and_true] at e4;obtain ⟨rfl,rfl,rfl⟩:=e4;exact ⟨⟨a0,a1,a2,a3,a4⟩,J,⟨w0,w1,w2,w3,w4⟩⟩
set_option maxRecDepth 100000 in
theorem AC {H:Type}{enc:TypeId×Value→H}{W:World}{r:Reach}{b0:Nat}{base:Nat}{spare:Nat→Bool}{held:Bool}{v:Value}{d:DataW H}{p:List MemPlace}
  (hv:Value.okWide Tryz.prog W r b0 30 v) (h:DataW.Trod enc Tryz.prog W base spare held 30 v d p): ∃(m:Cp),v=.agg #[.int .i64 m.Kind,.int .i64 m.N,.string m.S]∧(kX m):=by
 obtain ⟨cs,rfl, -⟩:=okWide_struct Ck hv;obtain ⟨fuel,hf⟩:=h;obtain ⟨m,e,hw⟩:=jR hf;obtain ⟨l⟩:=cs;have hx:l=[.int .i64 m.Kind,.int .i64 m.N,.string m.S]:=e;exact ⟨m,by rw [hx],hw⟩
set_option maxRecDepth 100000 in
theorem AB {H:Type}{enc:TypeId×Value→H}{W:World}{r:Reach}{b0:Nat}{base:Nat}{spare:Nat→Bool}{held:Bool}{v:Value}{d:DataW H}{p:List MemPlace}
  (hv:Value.okWide Tryz.prog W r b0 52 v) (h:DataW.Trod enc Tryz.prog W base spare held 52 v d p): ∃(m:CA),v=.agg #[.int .i64 m.Kind,.int .i64 m.N,.int .i64 m.K.Kind,.int .i64 m.K.N,.string m.K.S,.int .i64 m.D.Has,.int .i64 m.D.Attrs,.int .i64 m.D.Value.Kind,.int .i64 m.D.Value.N,.string m.D.Value.S,.int .i64 m.D.Get.Kind,.int .i64 m.D.Get.N,.string m.D.Get.S,.int .i64 m.D.Set.Kind,.int .i64 m.D.Set.N,.string m.D.Set.S,.int .i64 m.V.Kind,.int .i64 m.V.N,.string m.V.S]∧(wz m):=by
 obtain ⟨cs,rfl, -⟩:=okWide_struct Tryz.underlying52 hv;obtain ⟨fuel,hf⟩:=h;obtain ⟨m,e,hw⟩:=wI hf;obtain ⟨l⟩:=cs;have hx:l=[.int .i64 m.Kind,.int .i64 m.N,.int .i64 m.K.Kind,.int .i64 m.K.N,.string m.K.S,.int .i64 m.D.Has,.int .i64 m.D.Attrs,.int .i64 m.D.Value.Kind,.int .i64 m.D.Value.N,.string m.D.Value.S,.int .i64 m.D.Get.Kind,.int .i64 m.D.Get.N,.string m.D.Get.S,.int .i64 m.D.Set.Kind,.int .i64 m.D.Set.N,.string m.D.Set.S,.int .i64 m.V.Kind,.int .i64 m.V.N,.string m.V.S]:=e;exact ⟨m,by rw [hx],hw⟩
end
section
variable {A1 A10 A12 A13 A14 A2 A3 A4 A5 A6:Option Addr} {B1 B2 B7 B9 M11 M8 c1 c10 c12 c13 c14 c2 c3 c4 c5 c6 n1 n10 n12 n13 n14 n2 n3 n4 n5 n6:Nat}
open Go.RowKit
set_option maxRecDepth 20000
theorem ue:gb 64=some true:=by kernel_rfl
theorem mo {α β:Type}{x:Option α}{f:α→Option β}(h: ∃a,x=some a)(k: ∀a, ∃b,f a=some b): ∃b,x.bind f=some b:=by
 obtain ⟨a,rfl⟩:=h;exact k a
theorem tZ {β:Type}{c:Bool}{x y:Option β}(h: ∃b,x=some b)(k: ∃b,y=some b): ∃b,(bif c then x else y)=some b:=by
 cases c
 ·exact k
 exact h
theorem ts (v:Cp): ∃b,ga 64 v=some b:=by
 unfold ga pg lC
 repeat (first|refine mo ?_ (fun _=> ?_)|refine tZ ?_ ?_|exact ⟨_,rfl⟩)
theorem wW (a:CA): ∃b,jE 64 [a]=some b:=by
 have h1:kj 64 [a] 63 (0+1)=some true:=rfl
 have hr: ∀m:Option Bool,dD (cc (0+1)) m=m:=fun m=>rfl
 unfold jE;rw [show (64:Nat)=63+1 from rfl,kj.eq_2]
 refine mo ⟨true,J⟩ fun _=>tZ ?_ ⟨_,J⟩
 refine mo ⟨a,J⟩ fun x=> ?_
 refine mo (ts _) fun _=> ?_
 repeat (first|exact ts _|(rw [hr];exact ⟨_,h1⟩)|refine mo ?_ (fun _=> ?_)|refine tZ ?_ ?_|exact ⟨_,rfl⟩)
theorem tt (a0:CA)(y:Cw×Int)(p26 p27:Int)(p28:ByteArray)(c:Cl)(hc:bM 64 y.1 ⟨p26,p27,p28⟩=some (c,false)):dA 64 a0 y p26 p27 p28=some true:=by
 unfold dA iQ fw ot iR mZ gW kg er lQ;simp [hc,ue]
def rB:Cw:=match iL 64 (⟨0,9,5,5,0,0,0⟩:Cs) with
 |some (.inr w)=>w.1
 |_=>default
theorem Ab:iL 64 (⟨0,9,5,5,0,0,0⟩:Cs)=some (.inr (rB,0)):=by kernel_rfl
theorem t9 (a0:CA)(a1:Cp):gC 64 a0 a1=some true:=by
 unfold gC;rw [Ab];obtain ⟨b,hb⟩:=wW a0;show ((jE 64 [a0]).bind fun y21=>some (!y21)).bind _=_;rw [hb];show (bif !b then some true else some (decide (a1.Kind=9))).bind _=_;cases b
 ·show ((gb 64).bind fun y24=>some y24)=_;rw [ue];rfl
 show (bif decide (a1.Kind=9) then ((gb 64).bind fun y24=>some y24) else _)=_;by_cases h9:a1.Kind=9
 ·rw [decide_eq_true h9,ue];rfl
 rw [decide_eq_false h9];show (bif decide (a1.Kind=7) then _ else _)=_;by_cases h7:a1.Kind=7
 ·rw [decide_eq_true h7];obtain ⟨n,hn⟩: ∃v:Cp,ca 64 rB 2=some v:=⟨match ca 64 rB 2 with|some v=>v|none=>default,by kernel_rfl⟩;show (ca 64 rB 2).bind _=_
  have hcell:((ca 64 rB 2).bind fun v=>(bM 64 rB v).bind fun c=>some c.2)=some false:=by kernel_rfl
  rw [hn] at hcell⊢;have hcell:((bM 64 rB n).bind fun c=>some c.2)=some false:=hcell
  cases hq:bM 64 rB n with
  |none=>rw [hq] at hcell;cases hcell
  |some c=>
   rw [hq] at hcell;obtain ⟨c1,c2⟩:=c;obtain rfl:c2=false:=Option.some.inj hcell;exact tt a0 (rB,0) n.Kind n.N n.S c1 hq
 rw [decide_eq_false h7];refine tt a0 (rB,0) a1.Kind a1.N a1.S ⟨0,0,0,0,[],[]⟩ ?_;unfold bM;rw [decide_eq_false h7];rfl
end
section
variable {A1 A10 A12 A13 A14 A2 A3 A4 A5 A6:Option Addr} {B1 B2 B7 B9 M11 M8 c1 c10 c12 c13 c14 c2 c3 c4 c5 c6 n1 n10 n12 n13 n14 n2 n3 n4 n5 n6:Nat}
open Go.ChangeShapes Go.WideShapes Go.ChangeAt Go.RowKit Go.Deep
theorem gHole:Tryz.prog.globalNamed "pantomime/array.hole" =some 0:=by kernel_rfl
theorem tHole:(Tryz.prog.globals[0]?).map (·.type)=some 30:=by kernel_rfl
set_option maxRecDepth 100000 in
theorem wc {W:World}(h:laidMetH Tryz.prog [("pantomime/array.hole",Rows.laid_pantomime_array_hole)] W):(aR 0 30 [.int .i64 8,.int .i64 0,.string ⟨#[]⟩]).ok (fun _=>False) (fun q=>q<W.heap.size) W:=by
 rw [MakeChecks.laidMetH_plain _ _ _ O] at h;obtain ⟨ps,⟨g0,t0,cs0,f0,p0,q0,hg0,ht0,hv0,hd0, -⟩, -, -⟩:=h;obtain rfl:=Option.some.inj (gHole.symm.trans hg0);obtain rfl:=Option.some.inj (tHole.symm.trans ht0);obtain ⟨xs,m,rfl,hx,hl,hn,hf⟩:=DataW.trod_struct Ck hd0
 have hc:Tryz.prog.cellsOf 30=3:=by kernel_rfl
 have z3:Tryz.prog.cellsOf 3=1:=by kernel_rfl
 have z9:Tryz.prog.cellsOf 9=1:=by kernel_rfl
 rw [hc] at hl;obtain ⟨l⟩:=cs0;have hn':xs.length=3:=hn
 match l,xs,hl,hn',hf,hv0,hx with
 | [c0,c1,c2],[x0,x1,x2],_,_,hf,hv0,hx=>
  have k0:DataW.trod (fun _=>()) Tryz.prog W 0 (fun _=>true) false m 3 (List.take (Tryz.prog.cellsOf 3) (List.drop 0 [c0,c1,c2]))=[x0,x1,x2][0]? :=hf 0 _ rfl;have k1:DataW.trod (fun _=>()) Tryz.prog W 0 (fun _=>true) false m 3 (List.take (Tryz.prog.cellsOf 3) (List.drop 1 [c0,c1,c2]))=[x0,x1,x2][1]? :=hf 1 _ rfl;have k2:DataW.trod (fun _=>()) Tryz.prog W 0 (fun _=>true) false m 9 (List.take (Tryz.prog.cellsOf 9) (List.drop 2 [c0,c1,c2]))=[x0,x1,x2][2]? :=hf 2 _ rfl;simp only [z3,z9,List.drop_succ_cons,List.drop_zero,List.take_succ_cons,List.take_zero,List.getElem?_cons_zero,List.getElem?_cons_succ] at k0 k1 k2;obtain ⟨n0,e0,d0, -⟩:=DataW.trod_int hN k0;obtain ⟨n1,e1,d1, -⟩:=DataW.trod_int hN k1;obtain ⟨s2,e2,d2, -⟩:=DataW.trod_string hJ k2
  have hx':[(DataW.lit (.int .i64 8):DataW Unit),.lit (.int .i64 0),.lit (.string [])]=[x0.1,x1.1,x2.1]:=by
   have:=congrArg Prod.fst hx;exact DataW.agg.inj this
  rw [d0,d1,d2] at hx';simp only [List.cons.injEq,DataW.lit.injEq,Lit.int.injEq,Lit.string.injEq,and_true,true_and] at hx';obtain ⟨rfl,rfl,hs⟩:=hx';obtain rfl:=(List.cons.inj e0).1;obtain rfl:=(List.cons.inj e1).1;obtain rfl:=(List.cons.inj e2).1
  have hs2:s2=⟨#[]⟩:=by
   obtain ⟨⟨a⟩⟩:=s2;simp only at hs;rw [←hs]
  subst hs2;simp only [World.var?,gHole,Option.bind_some] at hv0;split at hv0
  ·rename_i cs t p hh
   obtain rfl:=al hv0;have hr:RBlk W 0 #[.int .i64 8,.int .i64 0,.string ⟨#[]⟩]:=⟨t,p,hh⟩;exact ⟨hr.lt,hr⟩
  cases hv0
end
end Go.Proofs.YtanojiedimeegaaGreatDoor