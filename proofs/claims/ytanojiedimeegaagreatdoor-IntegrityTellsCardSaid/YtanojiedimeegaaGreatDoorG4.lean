/- Merged texts: part 4. No conditions of their own. -/
import Derived.Test.YtanojiedimeegaaGreatDoorG3
namespace Go.Proofs.YtanojiedimeegaaGreatDoor
theorem LN:type_of% Tryz.underlying36:=Tryz.underlying36
theorem LM:type_of% Tryz.underlying195:=Tryz.underlying195
variable {A1 A10 A12 A13 A14 A15 A16 A2 A3 A4 A5 A6 A8 A9:Option Addr} {B1 B2 B6 B7 B9 M11 M7 M8 c1 c10 c12 c13 c14 c15 c16 c2 c3 c4 c5 c6 c8 c9 n1 n10 n12 n13 n14 n15 n16 n2 n3 n4 n5 n6 n8 n9:Nat}
open Go.RowKit Asn
set_option maxRecDepth 20000
def jP (N:Nat)(a0:Int)(a1:(List Mg))(p5:Bool):Option Bool:=
 bif p5 then (some (decide ((a1.length:Int)=0))) else (bif decide (a0=3) then ((bif decide ((a1.length:Int)=3) then ((bU a1 0).bind fun x10=>(ig N x10 0 9007199254740992).bind fun y11=>some y11) else (some false)).bind fun b9=>(bif b9 then ((bU a1 1).bind fun x13=>(fw N x13 9).bind fun y14=>some y14) else (some false)).bind fun b12=>some b12) else (bif decide (a0=4) then ((bif decide (1≤(a1.length:Int)) then (some (decide ((a1.length:Int)≤4097))) else (some false)).bind fun b16=>(bif b16 then ((bU a1 0).bind fun x18=>(fw N x18 9).bind fun y19=>some y19) else (some false)).bind fun b17=>some b17) else (bif decide (a0=6) then ((bif decide ((a1.length:Int)=2) then ((bU a1 0).bind fun x22=>(ig N x22 0 3).bind fun y23=>some y23) else (some false)).bind fun b21=>(bif b21 then ((bU a1 1).bind fun x25=>(fw N x25 9).bind fun y26=>some y26) else (some false)).bind fun b24=>some b24) else (bif decide (a0=7) then ((bif decide (4≤(a1.length:Int)) then ((bU a1 2).bind fun x29=>(ig N x29 0 1).bind fun y30=>some y30) else (some false)).bind fun b28=>(bif b28 then ((bU a1 3).bind fun x32=>(ig N x32 0 9007199254740992).bind fun y33=>some y33) else (some false)).bind fun b31=>some b31) else (bif decide (a0=8) then ((kR N a1 2).bind fun y35=>some y35) else (bif decide (a0=10) then ((bif decide (1≤(a1.length:Int)) then ((bU a1 0).bind fun x38=>some (decide (x38.Kind=7))) else (some false)).bind fun b37=>(bif b37 then (cR ((0:Int)≤1∧(1:Int).toNat≤a1.length∧a1.length≤a1.length) ((kR N ((a1.drop ((1:Int).toNat)).take (a1.length - (1:Int).toNat)) 4).bind fun y42=>some y42)) else (some false)).bind fun b39=>some b39) else (bif decide (a0=9) then ((bif decide (2≤(a1.length:Int)) then ((bU a1 0).bind fun x45=>(ig N x45 0 2).bind fun y46=>some y46) else (some false)).bind fun b44=>some b44) else (some true))))))))
def iI (N:Nat)(a0:Int)(a1:(List Mg)):Option Bool:=
 bif decide (1048576<(a1.length:Int)) then (some false) else (bif decide (a0=2) then (some (decide ((a1.length:Int)≤4096))) else (bif decide (a0=1) then (jP N a0 a1 (decide (a0=1))) else (jP N a0 a1 (decide (a0=5)))))
set_option maxHeartbeats 4000000 in
theorem vo {N:Nat}{a0:Int}{a1:(List Mg)}{r:Bool}(h:iI N a0 a1=some r):Okc Tryz.prog 228 [iV a0,I A1 n1 c1] ([dm A1 n1 c1 a1]) (fun u post=>u=.bool r∧post=[]):=by
 refine br Tryz.func228 J J ?_;simp only [aS];refine Y ?_;refine az ?_;refine Y ?_;refine gR (bG 0 J aU J hH) ?_;refine Y ?_;refine au J (fun g2=> ?_) (fun g2=> ?_)
 ·replace h:=ah g2 h;refine Y ?_;obtain rfl:=ap h;exact aO J J (cS [] 1) ⟨J,J⟩
 replace h:=ai g2 h;refine Y ?_;refine az ?_;refine Y ?_;refine au J (fun g3=> ?_) (fun g3=> ?_)
 ·replace h:=ah g3 h;refine Y ?_;refine gR (bG 0 J aU J hH) ?_;refine Y ?_;obtain rfl:=ap h;exact aO J J (cS [] 1) ⟨J,J⟩
 replace h:=ai g3 h;refine aW (fun s L=> ∃p5,jP N a0 a1 p5=some r∧s=[(1,I A1 n1 c1),(4,.bool false),(8,iV a0),(14,.bool p5)]∧L=[dm A1 n1 c1 a1]) ?_ ?_
 ·refine Y ?_;refine au J (fun g6=> ?_) (fun g6=> ?_)
  ·replace h:=ah g6 h;refine Y ?_;exact ⟨_,_,⟨decide (a0=1),h,J,J⟩,sA,cS [0] 1⟩
  replace h:=ai g6 h;refine Y ?_;exact ⟨_,_,⟨decide (a0=5),h,J,J⟩,sA,cS [0] 1⟩
 rintro _ _ ⟨p5,h,rfl,rfl⟩;refine au J (fun g7=> ?_) (fun g7=> ?_)
 ·replace h:=ah g7 h;refine Y ?_;refine gR (bG 0 J aU J hH) ?_;refine Y ?_;obtain rfl:=ap h;exact aO J J (cS [] 1) ⟨J,J⟩
 replace h:=ai g7 h;refine Y ?_;refine au J (fun g8=> ?_) (fun g8=> ?_)
 ·replace h:=ah g8 h;refine Y ?_;refine gR (bG 0 J aU J hH) ?_;refine Y ?_;obtain ⟨b9,hb9,h⟩:=aa h;refine aN 5 30 b9 ?_ ?_
  ·clear h;refine aK 25 J (fun g9=> ?_) (fun g9=> ?_)
   ·have h:=ah g9 hb9;refine Y ?_;obtain ⟨x10,hx10,h⟩:=aa h;obtain ⟨lx10,ux10,hx10⟩:=aI hx10;refine ci (bp 0 J aU J J hH bm lx10 ux10) J (bq g9 J) J ?_;refine ci (bj (us:=[iV x10.Kind,iV x10.N,.string x10.S]) 0 J aU J hx10 aD (fun _ _ _ h=>by rw [show _=_ from h];rfl)) J (bq g9 J) J ?_;obtain ⟨y11,hy11,h⟩:=aa h;refine cr (al (iH hy11) tu J (ac) f7) J (bq g9 J) J ?_;rintro _ _ ⟨_,⟨rfl,rfl⟩,rfl⟩;refine Y ?_;obtain rfl:=ap h;exact ad sA (cS [0] 1)
   have h:=ai g9 hb9;refine Y ?_;obtain rfl:=ap h;exact ad sA (cS [0] 1)
  refine Y ?_;obtain ⟨b12,hb12,h⟩:=aa h;refine aN 5 36 b12 ?_ ?_
  ·clear h;refine aK 31 J (fun g12=> ?_) (fun g12=> ?_)
   ·have h:=ah g12 hb12;refine Y ?_;obtain ⟨x13,hx13,h⟩:=aa h;obtain ⟨lx13,ux13,hx13⟩:=aI hx13;refine ci (bp 0 J aU J J hH bm lx13 ux13) J (bq g12 J) J ?_;refine ci (bj (us:=[iV x13.Kind,iV x13.N,.string x13.S]) 0 J aU J hx13 aD (fun _ _ _ h=>by rw [show _=_ from h];rfl)) J (bq g12 J) J ?_;obtain ⟨y14,hy14,h⟩:=aa h;refine cr (al (iG hy14) tv J (ac) f6) J (bq g12 J) J ?_;rintro _ _ ⟨_,⟨rfl,rfl⟩,rfl⟩;refine Y ?_;obtain rfl:=ap h;exact ad sA (cS [0] 1)
   have h:=ai g12 hb12;refine Y ?_;obtain rfl:=ap h;exact ad sA (cS [0] 1)
  refine Y ?_;obtain rfl:=ap h;exact aO J J (cS [] 1) ⟨J,J⟩
 replace h:=ai g8 h;refine Y ?_;refine au J (fun g15=> ?_) (fun g15=> ?_)
 ·replace h:=ah g15 h;refine Y ?_;refine gR (bG 0 J aU J hH) ?_;refine Y ?_;obtain ⟨b16,hb16,h⟩:=aa h;refine aN 4 46 b16 ?_ ?_
  ·clear h;refine aK 42 J (fun g16=> ?_) (fun g16=> ?_)
   ·have h:=ah g16 hb16;refine Y ?_;refine ci (bG 0 J aU J hH) J (bq g16 J) J ?_;refine Y ?_;obtain rfl:=ap h;exact ad sA (cS [0] 1)
   have h:=ai g16 hb16;refine Y ?_;obtain rfl:=ap h;exact ad sA (cS [0] 1)
  refine Y ?_;obtain ⟨b17,hb17,h⟩:=aa h;refine aN 5 52 b17 ?_ ?_
  ·clear h;refine aK 47 J (fun g17=> ?_) (fun g17=> ?_)
   ·have h:=ah g17 hb17;refine Y ?_;obtain ⟨x18,hx18,h⟩:=aa h;obtain ⟨lx18,ux18,hx18⟩:=aI hx18;refine ci (bp 0 J aU J J hH bm lx18 ux18) J (bq g17 J) J ?_;refine ci (bj (us:=[iV x18.Kind,iV x18.N,.string x18.S]) 0 J aU J hx18 aD (fun _ _ _ h=>by rw [show _=_ from h];rfl)) J (bq g17 J) J ?_;obtain ⟨y19,hy19,h⟩:=aa h;refine cr (al (iG hy19) tv J (ac) f6) J (bq g17 J) J ?_;rintro _ _ ⟨_,⟨rfl,rfl⟩,rfl⟩;refine Y ?_;obtain rfl:=ap h;exact ad sA (cS [0] 1)
   have h:=ai g17 hb17;refine Y ?_;obtain rfl:=ap h;exact ad sA (cS [0] 1)
  refine Y ?_;obtain rfl:=ap h;exact aO J J (cS [] 1) ⟨J,J⟩
 replace h:=ai g15 h;refine Y ?_;refine au J (fun g20=> ?_) (fun g20=> ?_)
 ·replace h:=ah g20 h;refine Y ?_;refine gR (bG 0 J aU J hH) ?_;refine Y ?_;obtain ⟨b21,hb21,h⟩:=aa h;refine aN 5 63 b21 ?_ ?_
  ·clear h;refine aK 58 J (fun g21=> ?_) (fun g21=> ?_)
   ·have h:=ah g21 hb21;refine Y ?_;obtain ⟨x22,hx22,h⟩:=aa h;obtain ⟨lx22,ux22,hx22⟩:=aI hx22;refine ci (bp 0 J aU J J hH bm lx22 ux22) J (bq g21 J) J ?_;refine ci (bj (us:=[iV x22.Kind,iV x22.N,.string x22.S]) 0 J aU J hx22 aD (fun _ _ _ h=>by rw [show _=_ from h];rfl)) J (bq g21 J) J ?_;obtain ⟨y23,hy23,h⟩:=aa h;refine cr (al (iH hy23) tu J (ac) f7) J (bq g21 J) J ?_;rintro _ _ ⟨_,⟨rfl,rfl⟩,rfl⟩;refine Y ?_;obtain rfl:=ap h;exact ad sA (cS [0] 1)
   have h:=ai g21 hb21;refine Y ?_;obtain rfl:=ap h;exact ad sA (cS [0] 1)
  refine Y ?_;obtain ⟨b24,hb24,h⟩:=aa h;refine aN 5 69 b24 ?_ ?_
  ·clear h;refine aK 64 J (fun g24=> ?_) (fun g24=> ?_)
   ·have h:=ah g24 hb24;refine Y ?_;obtain ⟨x25,hx25,h⟩:=aa h;obtain ⟨lx25,ux25,hx25⟩:=aI hx25;refine ci (bp 0 J aU J J hH bm lx25 ux25) J (bq g24 J) J ?_;refine ci (bj (us:=[iV x25.Kind,iV x25.N,.string x25.S]) 0 J aU J hx25 aD (fun _ _ _ h=>by rw [show _=_ from h];rfl)) J (bq g24 J) J ?_;obtain ⟨y26,hy26,h⟩:=aa h;refine cr (al (iG hy26) tv J (ac) f6) J (bq g24 J) J ?_;rintro _ _ ⟨_,⟨rfl,rfl⟩,rfl⟩;refine Y ?_;obtain rfl:=ap h;exact ad sA (cS [0] 1)
   have h:=ai g24 hb24;refine Y ?_;obtain rfl:=ap h;exact ad sA (cS [0] 1)
  refine Y ?_;obtain rfl:=ap h;exact aO J J (cS [] 1) ⟨J,J⟩
 replace h:=ai g20 h;refine Y ?_;refine au J (fun g27=> ?_) (fun g27=> ?_)
 ·replace h:=ah g27 h;refine Y ?_;refine gR (bG 0 J aU J hH) ?_;refine Y ?_;obtain ⟨b28,hb28,h⟩:=aa h;refine aN 5 80 b28 ?_ ?_
  ·clear h;refine aK 75 J (fun g28=> ?_) (fun g28=> ?_)
   ·have h:=ah g28 hb28;refine Y ?_;obtain ⟨x29,hx29,h⟩:=aa h;obtain ⟨lx29,ux29,hx29⟩:=aI hx29;refine ci (bp 0 J aU J J hH bm lx29 ux29) J (bq g28 J) J ?_;refine ci (bj (us:=[iV x29.Kind,iV x29.N,.string x29.S]) 0 J aU J hx29 aD (fun _ _ _ h=>by rw [show _=_ from h];rfl)) J (bq g28 J) J ?_;obtain ⟨y30,hy30,h⟩:=aa h;refine cr (al (iH hy30) tu J (ac) f7) J (bq g28 J) J ?_;rintro _ _ ⟨_,⟨rfl,rfl⟩,rfl⟩;refine Y ?_;obtain rfl:=ap h;exact ad sA (cS [0] 1)
   have h:=ai g28 hb28;refine Y ?_;obtain rfl:=ap h;exact ad sA (cS [0] 1)
  refine Y ?_;obtain ⟨b31,hb31,h⟩:=aa h;refine aN 5 86 b31 ?_ ?_
  ·clear h;refine aK 81 J (fun g31=> ?_) (fun g31=> ?_)
   ·have h:=ah g31 hb31;refine Y ?_;obtain ⟨x32,hx32,h⟩:=aa h;obtain ⟨lx32,ux32,hx32⟩:=aI hx32;refine ci (bp 0 J aU J J hH bm lx32 ux32) J (bq g31 J) J ?_;refine ci (bj (us:=[iV x32.Kind,iV x32.N,.string x32.S]) 0 J aU J hx32 aD (fun _ _ _ h=>by rw [show _=_ from h];rfl)) J (bq g31 J) J ?_;obtain ⟨y33,hy33,h⟩:=aa h;refine cr (al (iH hy33) tu J (ac) f7) J (bq g31 J) J ?_;rintro _ _ ⟨_,⟨rfl,rfl⟩,rfl⟩;refine Y ?_;obtain rfl:=ap h;exact ad sA (cS [0] 1)
   have h:=ai g31 hb31;refine Y ?_;obtain rfl:=ap h;exact ad sA (cS [0] 1)
  refine Y ?_;obtain rfl:=ap h;exact aO J J (cS [] 1) ⟨J,J⟩
 replace h:=ai g27 h;refine Y ?_;refine au J (fun g34=> ?_) (fun g34=> ?_)
 ·replace h:=ah g34 h;refine Y ?_;obtain ⟨y35,hy35,h⟩:=aa h;refine gD (al (nP hy35) Eh J (hD (ao (i:=0) J J) ac) mu) ?_;rintro _ _ ⟨_,⟨rfl,rfl⟩,rfl⟩;refine Y ?_;obtain rfl:=ap h;exact aO J J (cS [] 1) ⟨J,J⟩
 replace h:=ai g34 h;refine Y ?_;refine au J (fun g36=> ?_) (fun g36=> ?_)
 ·replace h:=ah g36 h;refine Y ?_;refine gR (bG 0 J aU J hH) ?_;refine Y ?_;obtain ⟨b37,hb37,h⟩:=aa h;refine aN 6 102 b37 ?_ ?_
  ·clear h;refine aK 96 J (fun g37=> ?_) (fun g37=> ?_)
   ·have h:=ah g37 hb37;refine Y ?_;obtain ⟨x38,hx38,h⟩:=aa h;obtain ⟨lx38,ux38,hx38⟩:=aI hx38;refine ci (bp 0 J aU J J hH bm lx38 ux38) J (bq g37 J) J ?_;refine ci (pj 0 J aU J (toNat_lt lx38 ux38) oQ) J (bq g37 J) J ?_;refine ci (eX (u:=iV x38.Kind) 0 J aU J hx38 dv (fun _ _ _ h=>by rw [show _=_ from h];rfl)) J (bq g37 J) J ?_;refine Y ?_;obtain rfl:=ap h;exact ad sA (cS [0] 1)
   have h:=ai g37 hb37;refine Y ?_;obtain rfl:=ap h;exact ad sA (cS [0] 1)
  refine Y ?_;obtain ⟨b39,hb39,h⟩:=aa h;refine aN 4 107 b39 ?_ ?_
  ·clear h;refine aK 103 J (fun g39=> ?_) (fun g39=> ?_)
   ·have h:=ah g39 hb39;refine Y ?_;obtain ⟨q40,h⟩:=ay h;refine Jr 0 J (l:=(1:Int).toNat) (h:=a1.length) q40.2.1 q40.2.2 ?_;rintro A41 n41 c41 e41;refine ci (xr 1 J e41 J hH bm J (by rw [Int.toNat_of_nonneg q40.1];rfl) q40.2.1) J (bq g39 J) J ?_;obtain ⟨y42,hy42,h⟩:=aa h;refine cr (al (nP hy42) Eh J (hD (ao (i:=0) J J) ac) mu) J (bq g39 J) J ?_;rintro _ _ ⟨_,⟨rfl,rfl⟩,rfl⟩;refine Y ?_;obtain rfl:=ap h;exact ad sA (cS [1] 2)
   have h:=ai g39 hb39;refine Y ?_;obtain rfl:=ap h;exact ad sA (cS [0] 1)
  refine Y ?_;obtain rfl:=ap h;exact aO J J (cS [] 1) ⟨J,J⟩
 replace h:=ai g36 h;refine Y ?_;refine au J (fun g43=> ?_) (fun g43=> ?_)
 ·replace h:=ah g43 h;refine Y ?_;refine gR (bG 0 J aU J hH) ?_;refine Y ?_;obtain ⟨b44,hb44,h⟩:=aa h;refine aN 5 118 b44 ?_ ?_
  ·clear h;refine aK 113 J (fun g44=> ?_) (fun g44=> ?_)
   ·have h:=ah g44 hb44;refine Y ?_;obtain ⟨x45,hx45,h⟩:=aa h;obtain ⟨lx45,ux45,hx45⟩:=aI hx45;refine ci (bp 0 J aU J J hH bm lx45 ux45) J (bq g44 J) J ?_;refine ci (bj (us:=[iV x45.Kind,iV x45.N,.string x45.S]) 0 J aU J hx45 aD (fun _ _ _ h=>by rw [show _=_ from h];rfl)) J (bq g44 J) J ?_;obtain ⟨y46,hy46,h⟩:=aa h;refine cr (al (iH hy46) tu J (ac) f7) J (bq g44 J) J ?_;rintro _ _ ⟨_,⟨rfl,rfl⟩,rfl⟩;refine Y ?_;obtain rfl:=ap h;exact ad sA (cS [0] 1)
   have h:=ai g44 hb44;refine Y ?_;obtain rfl:=ap h;exact ad sA (cS [0] 1)
  refine Y ?_;obtain rfl:=ap h;exact aO J J (cS [] 1) ⟨J,J⟩
 replace h:=ai g43 h;refine Y ?_;obtain rfl:=ap h;exact aO J J (cS [] 1) ⟨J,J⟩
theorem tM {r:Bool}: ∀v post,((fun (u:Value) (post:List Chunk)=>u=.bool r∧post=[])) v post→ ∀c∈post,bV c:=by
 rintro _ _ ⟨rfl,rfl⟩;exact ac
def db (N:Nat)(a0:Mb)(x14:Bool×Mg):(Unit)→Option (Option Exit×Unit)
 |()=>(ii N x14.2).bind fun y17=>bif !y17 then (some (some .ret,())) else (some (none,()))
def dO (N:Nat)(a0:Mb):Option Bool:=
 (bif decide (a0.Kind<1) then (some true) else (some (decide (11<a0.Kind)))).bind fun b5=>(bif b5 then (some true) else (some (decide (a0.Shape<0)))).bind fun b6=>(bif b6 then (some true) else (some (decide (a0.Flags<0)))).bind fun b7=>(bif b7 then (some true) else (some (decide (63<a0.Flags)))).bind fun b8=>(bif b8 then (some true) else ((bif !decide (a0.Age=0) then (some (!decide (a0.Age=1))) else (some false)).bind fun b10=>some b10)).bind fun b9=>bif b9 then (some false) else ((uu N a0).bind fun y12=>(ll N a0 (kj (fun x st=>db N a0 x st)) (none,())).bind fun y15=>wP y15.1 ((eK N a0).bind fun y19=>(bif y19 then ((iI N a0.Kind a0.More).bind fun y21=>some y21) else (some false)).bind fun b20=>some b20) (some false) (fun _=>none))
set_option maxHeartbeats 4000000 in
theorem qA {N:Nat}{a0:Mb}{r:Bool}(h:dO N a0=some r):Okc Tryz.prog 204 [.agg #[iV a0.Kind,iV a0.Shape,iV a0.Flags,iV a0.Age,I A1 n1 c1,I A2 n2 c2]] ([dm A1 n1 c1 a0.Slots,dm A2 n2 c2 a0.More]) (fun u post=>u=.bool r∧post=[]):=by
 refine br Tryz.func204 J J ?_;simp only [aS];refine Y ?_;refine gD (aL J J) ?_;rintro _ _ ⟨B3,rfl,rfl⟩;refine gD (aH I9 J) ?_;rintro _ _ ⟨B4,rfl,rfl⟩;refine Y ?_;refine az ?_;refine Y ?_;obtain ⟨b5,hb5,h⟩:=aa h;refine aN 4 12 b5 ?_ ?_
 ·clear h;refine aK 8 J (fun g5=> ?_) (fun g5=> ?_)
  ·have h:=ah g5 hb5;refine Y ?_;obtain rfl:=ap h;exact ad sA (cS [0,1,2,3] 4)
  have h:=ai g5 hb5;refine Y ?_;obtain rfl:=ap h;exact ad sA (cS [0,1,2,3] 4)
 refine Y ?_;obtain ⟨b6,hb6,h⟩:=aa h;refine aN 4 17 b6 ?_ ?_
 ·clear h;refine aK 13 J (fun g6=> ?_) (fun g6=> ?_)
  ·have h:=ah g6 hb6;refine Y ?_;obtain rfl:=ap h;exact ad sA (cS [0,1,2,3] 4)
  have h:=ai g6 hb6;refine Y ?_;obtain rfl:=ap h;exact ad sA (cS [0,1,2,3] 4)
 refine Y ?_;obtain ⟨b7,hb7,h⟩:=aa h;refine aN 4 22 b7 ?_ ?_
 ·clear h;refine aK 18 J (fun g7=> ?_) (fun g7=> ?_)
  ·have h:=ah g7 hb7;refine Y ?_;obtain rfl:=ap h;exact ad sA (cS [0,1,2,3] 4)
  have h:=ai g7 hb7;refine Y ?_;obtain rfl:=ap h;exact ad sA (cS [0,1,2,3] 4)
 refine Y ?_;obtain ⟨b8,hb8,h⟩:=aa h;refine aN 4 27 b8 ?_ ?_
 ·clear h;refine aK 23 J (fun g8=> ?_) (fun g8=> ?_)
  ·have h:=ah g8 hb8;refine Y ?_;obtain rfl:=ap h;exact ad sA (cS [0,1,2,3] 4)
  have h:=ai g8 hb8;refine Y ?_;obtain rfl:=ap h;exact ad sA (cS [0,1,2,3] 4)
 refine Y ?_;obtain ⟨b9,hb9,h⟩:=aa h;refine aN 9 37 b9 ?_ ?_
 ·clear h;refine aK 28 J (fun g9=> ?_) (fun g9=> ?_)
  ·have h:=ah g9 hb9;refine Y ?_;obtain rfl:=ap h;exact ad sA (cS [0,1,2,3] 4)
  have h:=ai g9 hb9;refine Y ?_;obtain ⟨b10,hb10,h⟩:=aa h;refine aN 4 36 b10 ?_ ?_
  ·clear h;refine aK 32 J (fun g10=> ?_) (fun g10=> ?_)
   ·have h:=ah g10 hb10;refine Y ?_;obtain rfl:=ap h;exact ad sA (cS [0,1,2,3] 4)
   have h:=ai g10 hb10;refine Y ?_;obtain rfl:=ap h;exact ad sA (cS [0,1,2,3] 4)
  refine Y ?_;obtain rfl:=ap h;exact ad sA (cS [0,1,2,3] 4)
 refine Y ?_;refine au J (fun g11=> ?_) (fun g11=> ?_)
 ·replace h:=ah g11 h;refine Y ?_;refine gO (ar (us:=[.bool false]) (cs':=[.bool false]) 0 J J J J xY J J J) ?_;rintro _ _ rfl;refine Y ?_;obtain rfl:=ap h;exact ca (rs:=[.cell 2 4]) (vs:=[.bool false]) J (.cons (th 0 J J Cb) .nil) J (cS [] 4) ⟨J,J⟩
 replace h:=ai g11 h;refine Y ?_;refine az ?_;refine Y ?_;refine gR (ab (us:=[iV a0.Kind,iV a0.Shape,iV a0.Flags,iV a0.Age,I A1 n1 c1,I A2 n2 c2]) 1 J J ce J) ?_;obtain ⟨y12,hy12,h⟩:=aa h;refine gD (al (wO hy12) El J (hD (ao (i:=2) J J) (hD (ao (i:=3) J J) ac)) t8) ?_;rintro _ _ ⟨_,⟨B13,rfl,rfl⟩,rfl⟩;refine jT ?_;refine eg ?_;refine f3 ?_ bX (o4 0 J);obtain ⟨y15,hy15,h⟩:=aa h;refine vJ (en:=(fun x=> [.bool x.1,.agg #[iV x.2.Kind,iV x.2.N,.string x.2.S]])) (fun x st=>db N a0 x st) (fun (st:Unit) (mz:Unit)=> [dm A1 n1 c1 a0.Slots,dm A2 n2 c2 a0.More,aj B3 138 [iV a0.Kind,iV a0.Shape,iV a0.Flags,iV a0.Age,I A1 n1 c1,I A2 n2 c2],aj B4 4 [.bool false]]) [aR B13 138 [iV a0.Kind,iV a0.Shape,iV a0.Flags,iV a0.Age,I A1 n1 c1,I A2 n2 c2],dm A1 n1 c1 a0.Slots,dm A2 n2 c2 a0.More] (()) (()) J J Ei J (fun _=>J) (fun l G hY=>(sS hy15 hY).mono fun _ _ hh=>hh.2) (aC [0,3,4] [] [3,4,2,1] 5 J) h ?_ ?_ ?_ ?_
 ·rintro l x14 _ je sr14 _ h;replace h:db N a0 x14 ()=some (je,sr14):=h;simp only [yU,List.zip_cons_cons,List.zip_nil_left,List.zip_nil_right,List.reverse_cons,List.reverse_nil,List.nil_append,List.cons_append];refine fH ?_;refine gD (aH d9 J) ?_;rintro _ _ ⟨B16,rfl,rfl⟩;refine gO (ar (us:=[iV x14.2.Kind,iV x14.2.N,.string x14.2.S]) (cs':=[iV x14.2.Kind,iV x14.2.N,.string x14.2.S]) 0 J J J J bm J J J) ?_;rintro _ _ rfl;refine bL ?_;refine Y ?_;refine gR (ab (us:=[iV x14.2.Kind,iV x14.2.N,.string x14.2.S]) 0 J J aD J) ?_;obtain ⟨y17,hy17,h⟩:=aa h;refine gD (al (CE hy17) Ix J (ac) zL) ?_;rintro _ _ ⟨_,⟨rfl,rfl⟩,rfl⟩;refine Y ?_;refine au J (fun g18=> ?_) (fun g18=> ?_)
  ·replace h:=ah g18 h;refine Y ?_;refine gO (ar (us:=[.bool false]) (cs':=[.bool false]) 4 J J J J xY J J J) ?_;rintro _ _ rfl;refine Y ?_;obtain ⟨rfl,rfl⟩:=Prod.mk.inj (Option.some.inj h);exact Du ((cS [1,2,3,4] 5).trans (ko () J))
  replace h:=ai g18 h;refine Y ?_;obtain ⟨rfl,rfl⟩:=Prod.mk.inj (Option.some.inj h);exact FI ((cS [1,2,3,4] 5).trans (ko () J))
 ·rintro _ h;refine rC ([dm A1 n1 c1 a0.Slots,dm A2 n2 c2 a0.More,aj B3 138 [iV a0.Kind,iV a0.Shape,iV a0.Flags,iV a0.Age,I A1 n1 c1,I A2 n2 c2],aj B4 4 [.bool false]]) J ?_;refine Y ?_;refine gR (ab (us:=[iV a0.Kind,iV a0.Shape,iV a0.Flags,iV a0.Age,I A1 n1 c1,I A2 n2 c2]) 2 J J ce J) ?_;obtain ⟨y19,hy19,h⟩:=aa h;refine gD (al (ut hy19) Iw J (hD (ao (i:=0) J J) (hD (ao (i:=1) J J) ac)) sR) ?_;rintro _ _ ⟨_,⟨rfl,rfl⟩,rfl⟩;refine Y ?_;obtain ⟨b20,hb20,h⟩:=aa h;refine aN 6 53 b20 ?_ ?_
  ·clear h;refine aK 47 J (fun g20=> ?_) (fun g20=> ?_)
   ·have h:=ah g20 hb20;refine Y ?_;obtain ⟨y21,hy21,h⟩:=aa h;refine cr (al (vo hy21) Iv J (hD (ao (i:=1) J J) ac) tM) J (bq g20 J) J ?_;rintro _ _ ⟨_,⟨rfl,rfl⟩,rfl⟩;refine Y ?_;obtain rfl:=ap h;exact ad sA (cS [0,1,2,3] 4)
   have h:=ai g20 hb20;refine Y ?_;obtain rfl:=ap h;exact ad sA (cS [0,1,2,3] 4)
  refine gO (ar (us:=[.bool b20]) (cs':=[.bool b20]) 3 J J J J xY J J J) ?_;rintro _ _ rfl;refine Y ?_;obtain rfl:=ap h;exact ca (rs:=[.cell 2 4]) (vs:=[.bool b20]) J (.cons (th 3 J J Cb) .nil) J (cS [] 4) ⟨J,J⟩
 ·rintro _ h;refine rC ([dm A1 n1 c1 a0.Slots,dm A2 n2 c2 a0.More,aj B3 138 [iV a0.Kind,iV a0.Shape,iV a0.Flags,iV a0.Age,I A1 n1 c1,I A2 n2 c2],aj B4 4 [.bool false]]) J ?_;refine Y ?_;obtain rfl:=ap h;exact ca (rs:=[.cell 2 4]) (vs:=[.bool false]) J (.cons (th 3 J J Cb) .nil) J (cS [] 4) ⟨J,J⟩
 rintro i _ h;exact bg h
theorem og {r:Bool}: ∀v post,((fun (u:Value) (post:List Chunk)=>u=.bool r∧post=[])) v post→ ∀c∈post,bV c:=by
 rintro _ _ ⟨rfl,rfl⟩;exact ac
def jU (N:Nat)(a0:(List Mg)):Option (List Mg):=
 cR (fu (([]:List Mg).length+a0.length)) (some (([]:List Mg)++a0))
theorem rD {N:Nat}{a0:(List Mg)}{r:(List Mg)}(h:jU N a0=some r):Okc Tryz.prog 229 [I A1 n1 c1] ([dm A1 n1 c1 a0]) (fun u post=> ∃A0 n0 c0,u=I A0 n0 c0∧post=[ba A0 n0 c0 r]):=by
 refine br Tryz.func229 J J ?_;simp only [aS];refine Y ?_;refine az ?_;refine Y ?_;refine gE (Cz J hH) ?_;refine Y ?_;refine au J (fun g2=> ?_) (fun g2=> ?_)
 ·replace g2:(A1).isNone=true:=by simpa using g2
  refine I7 0 J aU g2 (fun hx=> ?_);subst hx;replace h:cR (fu (([]:List Mg).length+([]:List Mg).length)) (some (([]:List Mg)++([]:List Mg)))=some r:=h
  replace h:some []=some r:=by simpa [cR] using h
  refine Y ?_;obtain rfl:=ap h;exact aO J J ((dY bS 30 _).trans (cS [0] 2)) ⟨_,_,_,J,J⟩
 refine Y ?_;refine gD (bP (R:=bS) (vss:=[]) (xs:=[]) J (GZ) J J (fun _ _ hr=>All2.nil)) ?_;rintro _ _ ⟨A4,n4,c4,rfl,rfl⟩;refine Y ?_;obtain ⟨q5,h⟩:=ay h;refine gD (da 0 1 J J aU J J hH xQ J J q5) ?_;rintro _ _ ⟨A6,n6,c6,rfl,rfl⟩;refine Y ?_;obtain rfl:=ap h;exact aO J J (cS [0] 2) ⟨_,_,_,J,J⟩
theorem pP {r:(List Mg)}: ∀v post,((fun (u:Value) (post:List Chunk)=> ∃A0 n0 c0,u=I A0 n0 c0∧post=[ba A0 n0 c0 r])) v post→ ∀c∈post,bV c:=by
 rintro _ _ ⟨_,_,_,rfl,rfl⟩;exact hD dk (ac)
def fZ (N:Nat)(a0:Mb):Option Mb:=
 (jU N a0.Slots).bind fun y5=>(jU N a0.More).bind fun y7=>some (⟨a0.Kind,a0.Shape,a0.Flags,a0.Age,y5,y7⟩:Mb)
theorem i7 {N:Nat}{a0:Mb}{r:Mb}(h:fZ N a0=some r):Okc Tryz.prog 205 [.agg #[iV a0.Kind,iV a0.Shape,iV a0.Flags,iV a0.Age,I A1 n1 c1,I A2 n2 c2]] ([dm A1 n1 c1 a0.Slots,dm A2 n2 c2 a0.More]) (fun u post=> ∃A0 n0 c0 A1 n1 c1,u=.agg #[iV r.Kind,iV r.Shape,iV r.Flags,iV r.Age,I A0 n0 c0,I A1 n1 c1]∧post=[ba A0 n0 c0 r.Slots,ba A1 n1 c1 r.More]):=by
 refine br Tryz.func205 J J ?_;simp only [aS];refine Y ?_;refine gD (aL J J) ?_;rintro _ _ ⟨B3,rfl,rfl⟩;refine gD (aH eT J) ?_;rintro _ _ ⟨B4,rfl,rfl⟩;refine Y ?_;refine az ?_;refine bF V _ (ae _) ?_;refine zE 0 J (cb J kn) ?_;refine zR 1 J (aY 1 J J ik J) ?_;refine zE 3 J (cb J nN) ?_;refine zR 4 J (aY 1 J J ik J) ?_;obtain ⟨y5,hy5,h⟩:=aa h;refine zD 2 J (al (rD hy5) Ek J (hD (ao (i:=2) J J) ac) pP) ?_;rintro _ _ ⟨_,⟨A6,n6,c6,rfl,rfl⟩,rfl⟩;refine dB (cS [1,2,3,4] 5) ?_;refine zE 6 J (cb J kn) ?_;obtain ⟨y7,hy7,h⟩:=aa h;refine zD 5 J (al (rD hy7) Ek J (hD (ao (i:=4) J J) ac) pP) ?_;rintro _ _ ⟨_,⟨A8,n8,c8,rfl,rfl⟩,rfl⟩;refine dB (cS [2,3,4,5] 6) ?_;refine ns 7 J V V (ar (us:=[I A6 n6 c6]) (cs':=[iV a0.Kind,iV a0.Shape,iV a0.Flags,iV a0.Age,I A6 n6 c6,I A2 n2 c2]) 3 J J J J nW J J J) ?_;rintro _ _ rfl;refine zE 8 J (cb J nN) ?_;refine ns 9 J V V (ar (us:=[I A8 n8 c8]) (cs':=[iV a0.Kind,iV a0.Shape,iV a0.Flags,iV a0.Age,I A6 n6 c6,I A8 n8 c8]) 3 J J J J nW J J J) ?_;rintro _ _ rfl;refine bz V ?_;refine Y ?_;refine gR (ab (us:=[iV a0.Kind,iV a0.Shape,iV a0.Flags,iV a0.Age,I A6 n6 c6,I A8 n8 c8]) 3 J J ce J) ?_
 refine gO (ar (us:=[iV a0.Kind,iV a0.Shape,iV a0.Flags,iV a0.Age,I A6 n6 c6,I A8 n8 c8]) (cs':=[iV a0.Kind,iV a0.Shape,iV a0.Flags,iV a0.Age,I A6 n6 c6,I A8 n8 c8]) 2 J J J J cO J J J) ?_;rintro _ _ rfl;refine Y ?_;obtain rfl:=ap h;exact ca (rs:=[.cell 2 138]) (vs:=[.agg #[iV a0.Kind,iV a0.Shape,iV a0.Flags,iV a0.Age,I A6 n6 c6,I A8 n8 c8]]) J (.cons (bu 2 J J ce) .nil) J (cS [1,0] 6) ⟨_,_,_,_,_,_,J,J⟩
theorem gk {r:Mb}: ∀v post,((fun (u:Value) (post:List Chunk)=> ∃A0 n0 c0 A1 n1 c1,u=.agg #[iV r.Kind,iV r.Shape,iV r.Flags,iV r.Age,I A0 n0 c0,I A1 n1 c1]∧post=[ba A0 n0 c0 r.Slots,ba A1 n1 c1 r.More])) v post→ ∀c∈post,bV c:=by
 rintro _ _ ⟨_,_,_,_,_,_,rfl,rfl⟩;exact hD dk (hD dk (ac))
def f5 (N:Nat)(a0:Ma)(a1:Mb):Option (Int×Int×Ma):=
 (cm N a0).bind fun y11=>bif y11 then (some (0,1,a0)) else ((dO N a1).bind fun y13=>bif !y13 then (some (0,51,a0)) else ((fZ N a1).bind fun y15=>cR (fu (a0.m_.Young.length+([(⟨y15.Kind,y15.Shape,y15.Flags,0,y15.Slots,y15.More⟩:Mb)]:List Mb).length)) (cR (bK (2*((a0.m_.Young++([(⟨y15.Kind,y15.Shape,y15.Flags,0,y15.Slots,y15.More⟩:Mb)]:List Mb)).length:Int))) (cR (bK ((2*((a0.m_.Young++([(⟨y15.Kind,y15.Shape,y15.Flags,0,y15.Slots,y15.More⟩:Mb)]:List Mb)).length:Int)) - 1)) (some ((2*((a0.m_.Young++([(⟨y15.Kind,y15.Shape,y15.Flags,0,y15.Slots,y15.More⟩:Mb)]:List Mb)).length:Int)) - 1,0,(⟨(⟨a0.m_.Young++([(⟨y15.Kind,y15.Shape,y15.Flags,0,y15.Slots,y15.More⟩:Mb)]:List Mb),a0.m_.Old⟩:Mq),a0.roots_,a0.pending_,a0.set_⟩:Ma)))))))
set_option maxHeartbeats 4000000 in
theorem mm {N:Nat}{a0:Ma}{a1:Mb}{r:(Int×Int×Ma)}(h:f5 N a0 a1=some r):Okc Tryz.prog 150 [pV B1 0,.agg #[iV a1.Kind,iV a1.Shape,iV a1.Flags,iV a1.Age,I A8 n8 c8,I A9 n9 c9]] ([dm A8 n8 c8 a1.Slots,dm A9 n9 c9 a1.More,aj B1 199 [I A2 n2 c2,I A3 n3 c3,I A4 n4 c4,I A5 n5 c5,pV B6 0],bx A2 n2 c2 a0.m_.Young,bx A3 n3 c3 a0.m_.Old,ba A4 n4 c4 a0.roots_,ba A5 n5 c5 a0.pending_,aj B6 247 [.map (some M7)],aJ cv cx M7 a0.set_.at_]) (fun u post=> ∃A0 n0 c0 A1 n1 c1 A2 n2 c2 A3 n3 c3 M4,u=.tuple #[iV r.1,iV r.2.1]∧post=[aj B1 199 [I A0 n0 c0,I A1 n1 c1,I A2 n2 c2,I A3 n3 c3,pV B6 0],bx A0 n0 c0 r.2.2.m_.Young,bx A1 n1 c1 r.2.2.m_.Old,ba A2 n2 c2 r.2.2.roots_,ba A3 n3 c3 r.2.2.pending_,aj B6 247 [.map (some M4)],aJ cv cx M4 r.2.2.set_.at_]):=by
 refine br Tryz.func150 J J ?_;simp only [aS];refine Y ?_;refine gD (aL J J) ?_;rintro _ _ ⟨B10,rfl,rfl⟩;refine Y ?_;refine az ?_;refine Y ?_;obtain ⟨y11,hy11,h⟩:=aa h;refine gD (al (eP hy11) tx J (hD (aB (i:=3) J) (hD (aq (i:=4) J) (hD (aq (i:=5) J) (hD (aq (i:=6) J) (hD (aq (i:=7) J) (hD (aB (i:=8) J) (hD (bc (i:=9) J) ac))))))) dX) ?_;rintro _ _ ⟨_,⟨rfl,rfl⟩,rfl⟩;refine Y ?_;refine au J (fun g12=> ?_) (fun g12=> ?_)
 ·replace h:=ah g12 h;refine Y ?_;obtain rfl:=ap h;exact cT J J J (cS [3,4,5,6,7,8,9] 10) ⟨_,_,_,_,_,_,_,_,_,_,_,_,_,J,J⟩
 replace h:=ai g12 h;refine Y ?_;refine gR (ab (us:=[iV a1.Kind,iV a1.Shape,iV a1.Flags,iV a1.Age,I A8 n8 c8,I A9 n9 c9]) 0 J J ce J) ?_;obtain ⟨y13,hy13,h⟩:=aa h;refine gD (al (qA hy13) Br J (hD (ao (i:=1) J J) (hD (ao (i:=2) J J) ac)) og) ?_;rintro _ _ ⟨_,⟨rfl,rfl⟩,rfl⟩;refine Y ?_;refine au J (fun g14=> ?_) (fun g14=> ?_)
 ·replace h:=ah g14 h;refine Y ?_;obtain rfl:=ap h;exact cT J J J (cS [3,4,5,6,7,8,9] 10) ⟨_,_,_,_,_,_,_,_,_,_,_,_,_,J,J⟩
 replace h:=ai g14 h;refine Y ?_;refine gR (ab (us:=[iV a1.Kind,iV a1.Shape,iV a1.Flags,iV a1.Age,I A8 n8 c8,I A9 n9 c9]) 0 J J ce J) ?_;obtain ⟨y15,hy15,h⟩:=aa h;refine gD (al (i7 hy15) ry J (hD (ao (i:=1) J J) (hD (ao (i:=2) J J) ac)) gk) ?_;rintro _ _ ⟨_,⟨A16,n16,c16,A17,n17,c17,rfl,rfl⟩,rfl⟩;refine gO (ar (us:=[iV y15.Kind,iV y15.Shape,iV y15.Flags,iV y15.Age,I A16 n16 c16,I A17 n17 c17]) (cs':=[iV y15.Kind,iV y15.Shape,iV y15.Flags,iV y15.Age,I A16 n16 c16,I A17 n17 c17]) 2 J J J J cO J J J) ?_;rintro _ _ rfl;refine Y ?_;refine gO (ar (us:=[iV 0]) (cs':=[iV y15.Kind,iV y15.Shape,iV y15.Flags,iV 0,I A16 n16 c16,I A17 n17 c17]) 2 J J J J gz J J J) ?_;rintro _ _ rfl;refine Y ?_;refine az ?_;refine f3 ?_ bX (dj 0 J);refine Dy ?_;refine f3 ?_ bX (dj 1 J);refine f3 (t:=[(0,pV B1 0),(3,pV B10 0),(4,iV 0),(5,iV 0)]) ?_ jd (ae _)
 refine fX V 8 [0] [0,5,7] [16,17,18,19,20,21,22,23] [[],[],[1],[2],[3],[4],[],[6]] [aV (pV B1 0),
aV (pV B1 0),
aV (pV B1 0),
aV (pV B1 0),
aV (pV B1 0),
aV (I A2 n2 c2),
aV (.agg #[iV y15.Kind,iV y15.Shape,iV y15.Flags,iV 0,I A16 n16 c16,I A17 n17 c17]),
aX3 (fun (A19:Option Addr) (n19 c19:Nat)=> I A19 n19 c19) (fun A19 n19 c19=> [bx A19 n19 c19 ([(⟨y15.Kind,y15.Shape,y15.Flags,0,y15.Slots,y15.More⟩:Mb)]:List Mb)])] [] (ae _) (d6 rfl iY) V rfl rfl ?_ ?_ ?_
 ·refine d5 J ?_ ?_
  ·exact js (aw J) J (bh J (ae _))
  exact iX
 ·refine am J ?_ ?_
  ·refine kV (bP (R:=su) (vss:=[[iV y15.Kind,iV y15.Shape,iV y15.Flags,iV 0,I A16 n16 c16,I A17 n17 c17]]) (xs:=[(⟨y15.Kind,y15.Shape,y15.Flags,0,y15.Slots,y15.More⟩:Mb)]) J (FC _ _ _ _ _ _ _ _ _ _) J J (fun _ _ hr=> .cons (⟨_,_,_,_,_,_,J,hr 0 _ J J,hr 1 _ J J⟩) All2.nil)) J ?_;rintro _ _ ⟨A18,n18,c18,rfl,rfl⟩;exact If A18 n18 c18 (ae _)
  refine am J ?_ ?_
  ·exact fa (ab (us:=[iV y15.Kind,iV y15.Shape,iV y15.Flags,iV 0,I A16 n16 c16,I A17 n17 c17]) 2 J J ce J) J (bh J (ae _))
  refine am J ?_ ?_
  ·exact fa (aY 5 J J AM J) J (bh J (ae _))
  refine am J ?_ ?_
  ·exact bW (dN J yM) J (bh J (ae _))
  refine am J ?_ ?_
  ·exact bW (dN J yL) J (bh J (ae _))
  refine am J ?_ ?_
  ·exact bW (bf J) J (bh J (ae _))
  refine am J ?_ ?_
  ·exact bW (aw J) J (bh J (ae _))
  refine am J ?_ ?_
  ·exact bW (aw J) J (bh J (ae _))
  exact dJ
 intro A19 n19 c19;refine lM (t:=[(16,pV B1 0),(21,I A2 n2 c2),(23,I A19 n19 c19),(0,pV B1 0),(3,pV B10 0),(4,iV 0),(5,iV 0)]) (L':=[bx A19 n19 c19 ([(⟨y15.Kind,y15.Shape,y15.Flags,0,y15.Slots,y15.More⟩:Mb)]:List Mb),dm A16 n16 c16 y15.Slots,dm A17 n17 c17 y15.More,aj B10 138 [iV y15.Kind,iV y15.Shape,iV y15.Flags,iV 0,I A16 n16 c16,I A17 n17 c17],dm A8 n8 c8 a1.Slots,dm A9 n9 c9 a1.More,aj B1 199 [I A2 n2 c2,I A3 n3 c3,I A4 n4 c4,I A5 n5 c5,pV B6 0],bx A2 n2 c2 a0.m_.Young,bx A3 n3 c3 a0.m_.Old,ba A4 n4 c4 a0.roots_,ba A5 n5 c5 a0.pending_,aj B6 247 [.map (some M7)],aJ cv cx M7 a0.set_.at_]) ?_ jd (ae _);obtain ⟨q20,h⟩:=ay h;refine wS 8 J V (da 7 0 J J aA J J LM Km J J q20) J J J ?_;rintro _ _ ⟨A21,n21,c21,rfl,rfl⟩;refine tN 9 J V (bf J) J J J ?_;refine tN 10 J V (dN J yL) J J J ?_;refine tN 11 J V (dN J yM) J J J ?_;refine lm 12 J V (ar (us:=[I A21 n21 c21]) (cs':=[I A21 n21 c21,I A3 n3 c3,I A4 n4 c4,I A5 n5 c5,pV B6 0]) 6 J J J J Hz J J J) J J ?_;rintro _ _ rfl;refine wJ ?_;refine jb V ?_;refine Y ?_;refine gR (bG 7 J aA J LM) ?_;obtain ⟨q22,h⟩:=ay h;refine gE (pG J J q22.1 q22.2) ?_;obtain ⟨q23,h⟩:=ay h;refine gE (dl J J q23.1 q23.2) ?_;refine Y ?_;obtain rfl:=ap h
 exact cT J J J (cS [6,7,8,9,10,11,12] 13) ⟨_,_,_,_,_,_,_,_,_,_,_,_,_,J,J⟩
def gA (N:Nat)(a0:Md)(p18:Int)(p19:Int)(p20:ByteArray)(p37:Int):Option (Mg×Md):=
 (f5 N a0.heap_ (⟨1,0,p37,0,([(⟨p18,p19,p20⟩:Mg)]:List Mg),[]⟩:Mb)).bind fun y39=>some ((⟨7,y39.1,⟨#[]⟩⟩:Mg),(⟨a0.spent_,a0.config_,(),y39.2.2,a0.shapes_,a0.symbols_,a0.epoch_,a0.serial_,a0.sleepers_,a0.events_,a0.out_⟩:Md))
def dP (N:Nat)(a1:Int)(a0:Md)(p18:Int)(p19:Int)(p20:ByteArray):Option (Mg×Md):=
 bif decide (a1=17) then (gA N a0 p18 p19 p20 1) else (gA N a0 p18 p19 p20 17)
def gB (N:Nat)(a1:Int)(a0:Md)(p29:Bool):Option (Mg×Md):=
 bif p29 then ((iF N a0.heap_ 3).bind fun y32=>dP N a1 a0 y32.Kind y32.N y32.S) else ((iF N a0.heap_ 0).bind fun y33=>dP N a1 a0 y33.Kind y33.N y33.S)
def eU (N:Nat)(a1:Int)(a0:Md)(p23:Bool):Option (Mg×Md):=
 bif p23 then ((iF N a0.heap_ 5).bind fun y27=>dP N a1 a0 y27.Kind y27.N y27.S) else (bif decide (a1=4) then (gB N a1 a0 (decide (a1=4))) else (gB N a1 a0 (decide (a1=16))))
def lK (N:Nat)(a0:Md)(a1:Int):Option (Mg×Md):=
 bif decide (a1=0) then (dP N a1 a0 1 0 (⟨#[]⟩)) else (bif decide (a1=6) then (eU N a1 a0 (decide (a1=6))) else (bif decide (a1=7) then (eU N a1 a0 (decide (a1=7))) else (eU N a1 a0 (decide (a1=8)))))
set_option maxHeartbeats 4000000 in
theorem kX {N:Nat}{a0:Md}{a1:Int}{r:(Mg×Md)}(h:lK N a0 a1=some r):Okc Tryz.prog 89 [pV B1 0,iV a1] ([bv A12 n12 c12 a0.symbols_,cE A13 n13 c13 a0.events_,bv A14 n14 c14 a0.out_,aj B1 151 (Wk a0 B2 B9 A12 n12 c12 A13 n13 c13 A14 n14 c14),aj B2 199 [I A3 n3 c3,I A4 n4 c4,I A5 n5 c5,I A6 n6 c6,pV B7 0],bx A3 n3 c3 a0.heap_.m_.Young,bx A4 n4 c4 a0.heap_.m_.Old,ba A5 n5 c5 a0.heap_.roots_,ba A6 n6 c6 a0.heap_.pending_,aj B7 247 [.map (some M8)],aJ cv cx M8 a0.heap_.set_.at_,aj B9 205 [I A10 n10 c10,.map (some M11)],cI A10 n10 c10 a0.shapes_.shapes_,aJ aG cu M11 a0.shapes_.next_]) (fun u post=> ∃A0 n0 c0 A1 n1 c1 A2 n2 c2 A3 n3 c3 M4 A5 n5 c5 M6 A7 n7 c7 A8 n8 c8 A9 n9 c9,u=.agg #[iV r.1.Kind,iV r.1.N,.string r.1.S]∧post=[aj B1 151 (Wk r.2 B2 B9 A7 n7 c7 A8 n8 c8 A9 n9 c9),aj B2 199 [I A0 n0 c0,I A1 n1 c1,I A2 n2 c2,I A3 n3 c3,pV B7 0],bx A0 n0 c0 r.2.heap_.m_.Young,bx A1 n1 c1 r.2.heap_.m_.Old,ba A2 n2 c2 r.2.heap_.roots_,ba A3 n3 c3 r.2.heap_.pending_,aj B7 247 [.map (some M4)],aJ cv cx M4 r.2.heap_.set_.at_,aj B9 205 [I A5 n5 c5,.map (some M6)],cI A5 n5 c5 r.2.shapes_.shapes_,aJ aG cu M6 r.2.shapes_.next_,bv A7 n7 c7 r.2.symbols_,cE A8 n8 c8 r.2.events_,bv A9 n9 c9 r.2.out_]):=by
 refine br Tryz.func89 J J ?_;simp only [aS];refine Y ?_;refine gD (aH d9 J) ?_;rintro _ _ ⟨B15,rfl,rfl⟩;refine Y ?_;refine gE (bd J (sV _)) ?_;refine gD (aH d9 J) ?_;rintro _ _ ⟨B16,rfl,rfl⟩;refine gO (ar (us:=[iV 1,iV 0,.string (⟨#[]⟩)]) (cs':=[iV 1,iV 0,.string (⟨#[]⟩)]) 0 J J J J bm J J J) ?_;rintro _ _ rfl;refine Y ?_;refine aW (fun s L=> ∃p18 p19 p20,dP N a1 a0 p18 p19 p20=some r∧s=[(0,pV B1 0),(1,iV a1),(4,pV B15 0),(5,pV B16 0)]∧L=[bv A12 n12 c12 a0.symbols_,cE A13 n13 c13 a0.events_,bv A14 n14 c14 a0.out_,aj B1 151 (Wk a0 B2 B9 A12 n12 c12 A13 n13 c13 A14 n14 c14),aj B15 30 [iV 0,iV 0,.string (⟨#[]⟩)],aj B16 30 [iV p18,iV p19,.string p20],bx A3 n3 c3 a0.heap_.m_.Young,bx A4 n4 c4 a0.heap_.m_.Old,ba A5 n5 c5 a0.heap_.roots_,ba A6 n6 c6 a0.heap_.pending_,aj B2 199 [I A3 n3 c3,I A4 n4 c4,I A5 n5 c5,I A6 n6 c6,pV B7 0],cI A10 n10 c10 a0.shapes_.shapes_,aJ aG cu M11 a0.shapes_.next_,aj B9 205 [I A10 n10 c10,.map (some M11)],aJ cv cx M8 a0.heap_.set_.at_,aj B7 247 [.map (some M8)]]) ?_ ?_
 ·refine Y ?_;refine au J (fun g21=> ?_) (fun g21=> ?_)
  ·replace h:=ah g21 h;refine Y ?_;exact ⟨_,_,⟨1,0,⟨#[]⟩,h,J,J⟩,sA,cS [2,3,4,5,1,0,7,8,9,10,6,14,15,13,12,11] 16⟩
  replace h:=ai g21 h;refine aW (fun s L=> ∃p23,eU N a1 a0 p23=some r∧s=[(0,pV B1 0),(1,iV a1),(4,pV B15 0),(5,pV B16 0),(10,iV a1),(18,.bool p23)]∧L=[bv A12 n12 c12 a0.symbols_,cE A13 n13 c13 a0.events_,bv A14 n14 c14 a0.out_,aj B1 151 (Wk a0 B2 B9 A12 n12 c12 A13 n13 c13 A14 n14 c14),aj B15 30 [iV 0,iV 0,.string (⟨#[]⟩)],aj B16 30 [iV 1,iV 0,.string (⟨#[]⟩)],bx A3 n3 c3 a0.heap_.m_.Young,bx A4 n4 c4 a0.heap_.m_.Old,ba A5 n5 c5 a0.heap_.roots_,ba A6 n6 c6 a0.heap_.pending_,aj B2 199 [I A3 n3 c3,I A4 n4 c4,I A5 n5 c5,I A6 n6 c6,pV B7 0],cI A10 n10 c10 a0.shapes_.shapes_,aJ aG cu M11 a0.shapes_.next_,aj B9 205 [I A10 n10 c10,.map (some M11)],aJ cv cx M8 a0.heap_.set_.at_,aj B7 247 [.map (some M8)]]) ?_ ?_
  ·refine Y ?_;refine au J (fun g24=> ?_) (fun g24=> ?_)
   ·replace h:=ah g24 h;refine Y ?_;exact ⟨_,_,⟨decide (a1=6),h,J,J⟩,sA,cS [2,3,4,5,1,0,7,8,9,10,6,14,15,13,12,11] 16⟩
   replace h:=ai g24 h;refine Y ?_;refine au J (fun g25=> ?_) (fun g25=> ?_)
   ·replace h:=ah g25 h;refine Y ?_;exact ⟨_,_,⟨decide (a1=7),h,J,J⟩,sA,cS [2,3,4,5,1,0,7,8,9,10,6,14,15,13,12,11] 16⟩
   replace h:=ai g25 h;refine Y ?_;exact ⟨_,_,⟨decide (a1=8),h,J,J⟩,sA,cS [2,3,4,5,1,0,7,8,9,10,6,14,15,13,12,11] 16⟩
  rintro _ _ ⟨p23,h,rfl,rfl⟩;refine au J (fun g26=> ?_) (fun g26=> ?_)
  ·replace h:=ah g26 h;refine Y ?_;obtain ⟨y27,hy27,h⟩:=aa h;refine gD (al (jM hy27) Bh J (hD (aB (i:=10) J) (hD (aq (i:=6) J) (hD (aq (i:=7) J) (hD (aq (i:=8) J) (hD (aq (i:=9) J) (hD (aB (i:=15) J) (hD (bc (i:=14) J) ac))))))) iw) ?_;rintro _ _ ⟨_,⟨rfl,rfl⟩,rfl⟩;refine gO (ar (us:=[iV y27.Kind,iV y27.N,.string y27.S]) (cs':=[iV y27.Kind,iV y27.N,.string y27.S]) 5 J J J J bm J J J) ?_;rintro _ _ rfl;refine Y ?_;exact ⟨_,_,⟨y27.Kind,y27.N,y27.S,h,J,J⟩,sA,cS [0,1,2,3,4,5,6,7,8,9,10,11,12,13,14,15] 16⟩
  replace h:=ai g26 h;refine aW (fun s L=> ∃p29,gB N a1 a0 p29=some r∧s=[(0,pV B1 0),(1,iV a1),(4,pV B15 0),(5,pV B16 0),(27,.bool p29)]∧L=[bv A12 n12 c12 a0.symbols_,cE A13 n13 c13 a0.events_,bv A14 n14 c14 a0.out_,aj B1 151 (Wk a0 B2 B9 A12 n12 c12 A13 n13 c13 A14 n14 c14),aj B15 30 [iV 0,iV 0,.string (⟨#[]⟩)],aj B16 30 [iV 1,iV 0,.string (⟨#[]⟩)],bx A3 n3 c3 a0.heap_.m_.Young,bx A4 n4 c4 a0.heap_.m_.Old,ba A5 n5 c5 a0.heap_.roots_,ba A6 n6 c6 a0.heap_.pending_,aj B2 199 [I A3 n3 c3,I A4 n4 c4,I A5 n5 c5,I A6 n6 c6,pV B7 0],cI A10 n10 c10 a0.shapes_.shapes_,aJ aG cu M11 a0.shapes_.next_,aj B9 205 [I A10 n10 c10,.map (some M11)],aJ cv cx M8 a0.heap_.set_.at_,aj B7 247 [.map (some M8)]]) ?_ ?_
  ·refine Y ?_;refine au J (fun g30=> ?_) (fun g30=> ?_)
   ·replace h:=ah g30 h;refine Y ?_;exact ⟨_,_,⟨decide (a1=4),h,J,J⟩,sA,cS [0,1,2,3,4,5,6,7,8,9,10,11,12,13,14,15] 16⟩
   replace h:=ai g30 h;refine Y ?_;exact ⟨_,_,⟨decide (a1=16),h,J,J⟩,sA,cS [0,1,2,3,4,5,6,7,8,9,10,11,12,13,14,15] 16⟩
  rintro _ _ ⟨p29,h,rfl,rfl⟩;refine au J (fun g31=> ?_) (fun g31=> ?_)
  ·replace h:=ah g31 h;refine Y ?_;obtain ⟨y32,hy32,h⟩:=aa h;refine gD (al (jM hy32) Bh J (hD (aB (i:=10) J) (hD (aq (i:=6) J) (hD (aq (i:=7) J) (hD (aq (i:=8) J) (hD (aq (i:=9) J) (hD (aB (i:=15) J) (hD (bc (i:=14) J) ac))))))) iw) ?_;rintro _ _ ⟨_,⟨rfl,rfl⟩,rfl⟩;refine gO (ar (us:=[iV y32.Kind,iV y32.N,.string y32.S]) (cs':=[iV y32.Kind,iV y32.N,.string y32.S]) 5 J J J J bm J J J) ?_;rintro _ _ rfl;refine bL ?_;refine Y ?_;exact ⟨_,_,⟨y32.Kind,y32.N,y32.S,h,J,J⟩,sA,cS [0,1,2,3,4,5,6,7,8,9,10,11,12,13,14,15] 16⟩
  replace h:=ai g31 h;refine Y ?_;obtain ⟨y33,hy33,h⟩:=aa h;refine gD (al (jM hy33) Bh J (hD (aB (i:=10) J) (hD (aq (i:=6) J) (hD (aq (i:=7) J) (hD (aq (i:=8) J) (hD (aq (i:=9) J) (hD (aB (i:=15) J) (hD (bc (i:=14) J) ac))))))) iw) ?_;rintro _ _ ⟨_,⟨rfl,rfl⟩,rfl⟩;refine gO (ar (us:=[iV y33.Kind,iV y33.N,.string y33.S]) (cs':=[iV y33.Kind,iV y33.N,.string y33.S]) 5 J J J J bm J J J) ?_;rintro _ _ rfl;refine Y ?_;exact ⟨_,_,⟨y33.Kind,y33.N,y33.S,h,J,J⟩,sA,cS [0,1,2,3,4,5,6,7,8,9,10,11,12,13,14,15] 16⟩
 rintro _ _ ⟨p18,p19,p20,h,rfl,rfl⟩;refine Y ?_;refine gR (ab (us:=[iV p18,iV p19,.string p20]) 5 J J aD J) ?_;refine gD (bP (R:=bS) (vss:=[[iV p18,iV p19,.string p20]]) (xs:=[(⟨p18,p19,p20⟩:Mg)]) J (ib _ _ _) J J (fun _ _ hr=> .cons J All2.nil)) ?_;rintro _ _ ⟨A34,n34,c34,rfl,rfl⟩;refine gE (bd J (zT _ _ _ _ _)) ?_;refine gD (aH eT J) ?_;rintro _ _ ⟨B35,rfl,rfl⟩;refine gO (ar (us:=[iV 1,iV 0,iV 17,iV 0,I A34 n34 c34,I none 0 0]) (cs':=[iV 1,iV 0,iV 17,iV 0,I A34 n34 c34,I none 0 0]) 0 J J J J cO J J J) ?_;rintro _ _ rfl;refine Y ?_
 refine aW (fun s L=> ∃p37,gA N a0 p18 p19 p20 p37=some r∧s=[(0,pV B1 0),(4,pV B15 0),(6,pV B35 0)]∧L=[bv A12 n12 c12 a0.symbols_,cE A13 n13 c13 a0.events_,bv A14 n14 c14 a0.out_,aj B1 151 (Wk a0 B2 B9 A12 n12 c12 A13 n13 c13 A14 n14 c14),aj B15 30 [iV 0,iV 0,.string (⟨#[]⟩)],ba A34 n34 c34 ([(⟨p18,p19,p20⟩:Mg)]:List Mg),aj B35 138 [iV 1,iV 0,iV p37,iV 0,I A34 n34 c34,I none 0 0],bx A3 n3 c3 a0.heap_.m_.Young,bx A4 n4 c4 a0.heap_.m_.Old,ba A5 n5 c5 a0.heap_.roots_,ba A6 n6 c6 a0.heap_.pending_,aj B2 199 [I A3 n3 c3,I A4 n4 c4,I A5 n5 c5,I A6 n6 c6,pV B7 0],cI A10 n10 c10 a0.shapes_.shapes_,aJ aG cu M11 a0.shapes_.next_,aj B9 205 [I A10 n10 c10,.map (some M11)],aJ cv cx M8 a0.heap_.set_.at_,aj B7 247 [.map (some M8)]]) ?_ ?_
 ·refine Y ?_;refine au J (fun g38=> ?_) (fun g38=> ?_)
  ·replace h:=ah g38 h;refine Y ?_;refine gO (ar (us:=[iV 1]) (cs':=[iV 1,iV 0,iV 1,iV 0,I A34 n34 c34,I none 0 0]) 0 J J J J gz J J J) ?_;rintro _ _ rfl;refine bL ?_;refine Y ?_;exact ⟨_,_,⟨1,h,J,J⟩,sA,cS [2,3,4,5,6,1,0,8,9,10,11,12,13,14,15,16,17] 18⟩
  replace h:=ai g38 h;refine Y ?_;exact ⟨_,_,⟨17,h,J,J⟩,sA,cS [2,3,4,5,6,1,0,8,9,10,11,12,13,14,15,16,17] 18⟩
 rintro _ _ ⟨p37,h,rfl,rfl⟩;refine az ?_;refine bF V ([bv A12 n12 c12 a0.symbols_,cE A13 n13 c13 a0.events_,bv A14 n14 c14 a0.out_,aj B1 151 (Wk a0 B2 B9 A12 n12 c12 A13 n13 c13 A14 n14 c14),aj B15 30 [iV 0,iV 0,.string (⟨#[]⟩)],aj B35 138 [iV 1,iV 0,iV p37,iV 0,I A34 n34 c34,I none 0 0],cI A10 n10 c10 a0.shapes_.shapes_,aJ aG cu M11 a0.shapes_.next_,aj B9 205 [I A10 n10 c10,.map (some M11)]]) (cS [0,1,2,3,4,6,12,13,14] 17) ?_;refine zE 0 J (aw J) ?_;refine zE 1 J (bf J) ?_;refine zE 2 J (cb J lg) ?_;refine zR 3 J (aY 3 J J lV J) ?_;refine zR 4 J (ab (us:=[iV 1,iV 0,iV p37,iV 0,I A34 n34 c34,I none 0 0]) 5 J J ce J) ?_;refine rR (dj 5 J) (cS [0,1,2,3,4,6,12,13,14] 17) ?_;refine cX ?_;obtain ⟨y39,hy39,h⟩:=aa h;refine rR (jO bS _) (cS [1,2,3,4,5,7,13,14,15] 18) ?_;refine zD 5 J (aE (mm hy39) By J (aC [6,0] [12,8,9,10,11,17,16] [0,1,2,3,4,5,6,7,13,14,15] 18 J)) ?_;rintro _ _ ⟨_,⟨A40,n40,c40,A41,n41,c41,A42,n42,c42,A43,n43,c43,M44,rfl,rfl⟩,rfl⟩;refine dB (cS [8,9,10,11,12,14,15,16,17] 18) ?_;refine cX ?_;refine zE 6 J (aw J) ?_;refine zE 7 J (bi J J) ?_;refine zE 8 J (bi J J) ?_;refine zE 9 J (be J) ?_
 refine zE 10 J (be J) ?_;refine bz V ?_;refine Y ?_;refine gE (bd J (pH _ _)) ?_;refine gO (ar (us:=[iV 7,iV y39.1,.string (⟨#[]⟩)]) (cs':=[iV 7,iV y39.1,.string (⟨#[]⟩)]) 12 J J J J bm J J J) ?_;rintro _ _ rfl;refine Y ?_;obtain rfl:=ap h;exact ca (rs:=[.cell 4 30]) (vs:=[.agg #[iV 7,iV y39.1,.string (⟨#[]⟩)]]) J (.cons (bu 12 J J aD) .nil) J (cS [11,0,1,2,3,4,5,6,17,15,16,8,9,10] 18) ⟨_,_,_,_,_,_,_,_,_,_,_,_,_,_,_,_,_,_,_,_,_,_,_,_,_,_,J,J⟩
def kC (N:Nat)(a0:Ma)(a1:Mg):Option (Int×Ma):=
 (cm N a0).bind fun y9=>bif y9 then (some (0,a0)) else (cR (fu (a0.roots_.length+([a1]:List Mg).length)) (cR (bK (((a0.roots_++([a1]:List Mg)).length:Int) - 1)) (some (((a0.roots_++([a1]:List Mg)).length:Int) - 1,(⟨a0.m_,a0.roots_++([a1]:List Mg),a0.pending_,a0.set_⟩:Ma)))))
theorem fL {N:Nat}{a0:Ma}{a1:Mg}{r:(Int×Ma)}(h:kC N a0 a1=some r):Okc Tryz.prog 88 [pV B1 0,(aZ a1)] ([aj B1 199 [I A2 n2 c2,I A3 n3 c3,I A4 n4 c4,I A5 n5 c5,pV B6 0],bx A2 n2 c2 a0.m_.Young,bx A3 n3 c3 a0.m_.Old,ba A4 n4 c4 a0.roots_,ba A5 n5 c5 a0.pending_,aj B6 247 [.map (some M7)],aJ cv cx M7 a0.set_.at_]) (fun u post=> ∃A0 n0 c0 A1 n1 c1 A2 n2 c2 A3 n3 c3 M4,u=iV r.1∧post=[aj B1 199 [I A0 n0 c0,I A1 n1 c1,I A2 n2 c2,I A3 n3 c3,pV B6 0],bx A0 n0 c0 r.2.m_.Young,bx A1 n1 c1 r.2.m_.Old,ba A2 n2 c2 r.2.roots_,ba A3 n3 c3 r.2.pending_,aj B6 247 [.map (some M4)],aJ cv cx M4 r.2.set_.at_]):=by
 refine br Tryz.func88 J J ?_;simp only [aS];refine Y ?_;refine gD (aL J J) ?_;rintro _ _ ⟨B8,rfl,rfl⟩;refine Y ?_;refine az ?_;refine Y ?_;obtain ⟨y9,hy9,h⟩:=aa h;refine gD (al (eP hy9) tx J (hD (aB (i:=1) J) (hD (aq (i:=2) J) (hD (aq (i:=3) J) (hD (aq (i:=4) J) (hD (aq (i:=5) J) (hD (aB (i:=6) J) (hD (bc (i:=7) J) ac))))))) dX) ?_;rintro _ _ ⟨_,⟨rfl,rfl⟩,rfl⟩;refine Y ?_;refine au J (fun g10=> ?_) (fun g10=> ?_)
 ·replace h:=ah g10 h;refine Y ?_;obtain rfl:=ap h;exact aO J J (cS [1,2,3,4,5,6,7] 8) ⟨_,_,_,_,_,_,_,_,_,_,_,_,_,J,J⟩
 replace h:=ai g10 h;refine Y ?_;refine az ?_;refine f3 (t:=[(0,pV B1 0),(3,pV B8 0),(4,iV 0)]) ?_ jd (ae _)
 refine fX V 7 [0] [0,4,6] [7,8,9,10,11,12,13] [[],[],[1],[2],[3],[],[5]] [aV (pV B1 0),
aV (pV B1 0),
aV (pV B1 0),
aV (pV B1 2),
aV (I A4 n4 c4),
aV ((aZ a1)),
aX3 (fun (A12:Option Addr) (n12 c12:Nat)=> I A12 n12 c12) (fun A12 n12 c12=> [ba A12 n12 c12 ([a1]:List Mg)])] [] (ae _) (d6 rfl iY) V rfl rfl ?_ ?_ ?_
 ·refine d5 J ?_ ?_
  ·exact js (aw J) J (bh J (ae _))
  exact iX
 ·refine am J ?_ ?_
  ·refine kV (bP (R:=bS) (vss:=[(av a1)]) (xs:=[a1]) J (ib _ _ _) J J (fun _ _ hr=> .cons J All2.nil)) J ?_;rintro _ _ ⟨A11,n11,c11,rfl,rfl⟩;exact If A11 n11 c11 (ae _)
  refine am J ?_ ?_
  ·exact fa (ab (us:=av a1) 0 J J aD J) J (bh J (ae _))
  refine am J ?_ ?_
  ·exact fa (aY 1 J J ik J) J (bh J (ae _))
  refine am J ?_ ?_
  ·exact bW (cb J yK) J (bh J (ae _))
  refine am J ?_ ?_
  ·exact bW (bf J) J (bh J (ae _))
  refine am J ?_ ?_
  ·exact bW (aw J) J (bh J (ae _))
  refine am J ?_ ?_
  ·exact bW (aw J) J (bh J (ae _))
  exact dJ
 intro A12 n12 c12;refine lM (t:=[(7,pV B1 0),(11,I A4 n4 c4),(13,I A12 n12 c12),(0,pV B1 0),(3,pV B8 0),(4,iV 0)]) (L':=[ba A12 n12 c12 ([a1]:List Mg),aj B8 30 (av a1),aj B1 199 [I A2 n2 c2,I A3 n3 c3,I A4 n4 c4,I A5 n5 c5,pV B6 0],bx A2 n2 c2 a0.m_.Young,bx A3 n3 c3 a0.m_.Old,ba A4 n4 c4 a0.roots_,ba A5 n5 c5 a0.pending_,aj B6 247 [.map (some M7)],aJ cv cx M7 a0.set_.at_]) ?_ jd (ae _);obtain ⟨q13,h⟩:=ay h;refine wS 7 J V (da 5 0 J J aA J J hH xQ J J q13) J J J ?_;rintro _ _ ⟨A14,n14,c14,rfl,rfl⟩;refine tN 8 J V (bf J) J J J ?_;refine tN 9 J V (cb J yK) J J J ?_;refine lm 10 J V (ar (us:=[I A14 n14 c14]) (cs':=[I A2 n2 c2,I A3 n3 c3,I A14 n14 c14,I A5 n5 c5,pV B6 0]) 2 J J J J nW J J J) J J ?_;rintro _ _ rfl;refine jb V ?_;refine Y ?_;refine gR (bG 5 J aA J hH) ?_;obtain ⟨q15,h⟩:=ay h;refine gE (dl J J q15.1 q15.2) ?_;refine Y ?_;obtain rfl:=ap h;exact aO J J (cS [2,3,4,5,6,7,8] 9) ⟨_,_,_,_,_,_,_,_,_,_,_,_,_,J,J⟩
def fk (N:Nat)(a0:Md)(a1:Mb):Option (Mg×Md):=
 (f5 N a0.heap_ a1).bind fun y19=>bif !decide (y19.2.1=0) then (some ((⟨0,0,⟨#[]⟩⟩:Mg),(⟨a0.spent_,a0.config_,(),y19.2.2,a0.shapes_,a0.symbols_,a0.epoch_,a0.serial_,a0.sleepers_,a0.events_,a0.out_⟩:Md))) else (some ((⟨9,y19.1,⟨#[]⟩⟩:Mg),(⟨a0.spent_,a0.config_,(),y19.2.2,a0.shapes_,a0.symbols_,a0.epoch_,a0.serial_,a0.sleepers_,a0.events_,a0.out_⟩:Md)))
theorem fS {N:Nat}{a0:Md}{a1:Mb}{r:(Mg×Md)}(h:fk N a0 a1=some r):Okc Tryz.prog 90 [pV B1 0,.agg #[iV a1.Kind,iV a1.Shape,iV a1.Flags,iV a1.Age,I A15 n15 c15,I A16 n16 c16]] ([bv A12 n12 c12 a0.symbols_,cE A13 n13 c13 a0.events_,bv A14 n14 c14 a0.out_,dm A15 n15 c15 a1.Slots,dm A16 n16 c16 a1.More,aj B1 151 (Wk a0 B2 B9 A12 n12 c12 A13 n13 c13 A14 n14 c14),aj B2 199 [I A3 n3 c3,I A4 n4 c4,I A5 n5 c5,I A6 n6 c6,pV B7 0],bx A3 n3 c3 a0.heap_.m_.Young,bx A4 n4 c4 a0.heap_.m_.Old,ba A5 n5 c5 a0.heap_.roots_,ba A6 n6 c6 a0.heap_.pending_,aj B7 247 [.map (some M8)],aJ cv cx M8 a0.heap_.set_.at_,aj B9 205 [I A10 n10 c10,.map (some M11)],cI A10 n10 c10 a0.shapes_.shapes_,aJ aG cu M11 a0.shapes_.next_]) (fun u post=> ∃A0 n0 c0 A1 n1 c1 A2 n2 c2 A3 n3 c3 M4 A5 n5 c5 M6 A7 n7 c7 A8 n8 c8 A9 n9 c9,u=.agg #[iV r.1.Kind,iV r.1.N,.string r.1.S]∧post=[aj B1 151 (Wk r.2 B2 B9 A7 n7 c7 A8 n8 c8 A9 n9 c9),aj B2 199 [I A0 n0 c0,I A1 n1 c1,I A2 n2 c2,I A3 n3 c3,pV B7 0],bx A0 n0 c0 r.2.heap_.m_.Young,bx A1 n1 c1 r.2.heap_.m_.Old,ba A2 n2 c2 r.2.heap_.roots_,ba A3 n3 c3 r.2.heap_.pending_,aj B7 247 [.map (some M4)],aJ cv cx M4 r.2.heap_.set_.at_,aj B9 205 [I A5 n5 c5,.map (some M6)],cI A5 n5 c5 r.2.shapes_.shapes_,aJ aG cu M6 r.2.shapes_.next_,bv A7 n7 c7 r.2.symbols_,cE A8 n8 c8 r.2.events_,bv A9 n9 c9 r.2.out_]):=by
 refine br Tryz.func90 J J ?_;simp only [aS];refine Y ?_;refine gD (aL J J) ?_;rintro _ _ ⟨B17,rfl,rfl⟩;refine gD (aH d9 J) ?_;rintro _ _ ⟨B18,rfl,rfl⟩;refine Y ?_;refine az ?_;refine Y ?_;refine gE (di J LN) ?_;refine Y ?_;refine fI J ?_;refine Y ?_;refine az ?_;refine bF V ([aj B18 30 [iV 0,iV 0,.string (⟨#[]⟩)],aj B17 138 [iV a1.Kind,iV a1.Shape,iV a1.Flags,iV a1.Age,I A15 n15 c15,I A16 n16 c16],bv A12 n12 c12 a0.symbols_,cE A13 n13 c13 a0.events_,bv A14 n14 c14 a0.out_,dm A15 n15 c15 a1.Slots,dm A16 n16 c16 a1.More,aj B1 151 (Wk a0 B2 B9 A12 n12 c12 A13 n13 c13 A14 n14 c14),aj B9 205 [I A10 n10 c10,.map (some M11)],cI A10 n10 c10 a0.shapes_.shapes_,aJ aG cu M11 a0.shapes_.next_]) (cS [0,1,2,3,4,5,6,7,15,16,17] 18) ?_;refine zE 0 J (aw J) ?_;refine zE 1 J (bf J) ?_;refine zE 2 J (cb J lg) ?_;refine zR 3 J (aY 7 J J lV J) ?_;refine zR 4 J (ab (us:=[iV a1.Kind,iV a1.Shape,iV a1.Flags,iV a1.Age,I A15 n15 c15,I A16 n16 c16]) 1 J J ce J) ?_;obtain ⟨y19,hy19,h⟩:=aa h;refine zD 5 J (aE (mm hy19) By J (aC [5,6] [8,9,10,11,12,13,14] [0,1,2,3,4,5,6,7,15,16,17] 18 J)) ?_
 rintro _ _ ⟨_,⟨A20,n20,c20,A21,n21,c21,A22,n22,c22,A23,n23,c23,M24,rfl,rfl⟩,rfl⟩;refine dB (cS [7,8,9,10,11,12,13,14,15,16,17] 18) ?_;refine cX ?_;refine zE 6 J (aw J) ?_;refine zE 7 J (bi J J) ?_;refine zE 8 J (bi J J) ?_;refine zE 9 J (be J) ?_;refine zE 10 J (be J) ?_;refine bz V ?_;refine eg ?_;refine az ?_;refine Y ?_;refine au J (fun g25=> ?_) (fun g25=> ?_)
 ·replace h:=ah g25 h;refine Y ?_;refine gE (bd J (eM)) ?_;refine gO (ar (us:=[iV 0,iV 0,.string (⟨#[]⟩)]) (cs':=[iV 0,iV 0,.string (⟨#[]⟩)]) 7 J J J J bm J J J) ?_;rintro _ _ rfl;refine Y ?_;obtain rfl:=ap h;exact ca (rs:=[.cell 4 30]) (vs:=[.agg #[iV 0,iV 0,.string (⟨#[]⟩)]]) J (.cons (bu 7 J J aD) .nil) J (cS [14,0,1,2,3,4,5,6,15,16,17,9,10,11] 18) ⟨_,_,_,_,_,_,_,_,_,_,_,_,_,_,_,_,_,_,_,_,_,_,_,_,_,_,J,J⟩
 replace h:=ai g25 h;refine Y ?_;refine gE (bd J (pH _ _)) ?_;refine gO (ar (us:=[iV 9,iV y19.1,.string (⟨#[]⟩)]) (cs':=[iV 9,iV y19.1,.string (⟨#[]⟩)]) 7 J J J J bm J J J) ?_;rintro _ _ rfl;refine Y ?_;obtain rfl:=ap h;exact ca (rs:=[.cell 4 30]) (vs:=[.agg #[iV 9,iV y19.1,.string (⟨#[]⟩)]]) J (.cons (bu 7 J J aD) .nil) J (cS [14,0,1,2,3,4,5,6,15,16,17,9,10,11] 18) ⟨_,_,_,_,_,_,_,_,_,_,_,_,_,_,_,_,_,_,_,_,_,_,_,_,_,_,J,J⟩
def so (N:Nat)(p156:Int)(p157:Int)(p158:Int)(p159:Int)(p160:Int)(p161:Int)(p162:Int)(p163:Int)(p164:Int)(p165:Int)(p166:(List ByteArray))(p167:Int)(p168:Int)(p169:Int)(p170:(List Mk))(p171:(List ByteArray))(p172:(List Mb))(p173:(List Mb))(p174:(List Mg))(p175:(List Mg))(p176:(List Mo))(p177:(List (Mm×Int)))(p178:(List (Int×Bool))):Option (Int ⊕ (Md×Int)):=
 some (.inr ((⟨(⟨p156,p157,p158⟩:Mj),(⟨p159,p160,p161,p162,p163,p164,p165⟩:Mf),(),(⟨(⟨p172,p173⟩:Mq),p174,p175,(⟨p178⟩:Mc)⟩:Ma),(⟨p176,p177⟩:Mh),p166,p167,p168,p169,p170,p171⟩:Md),0))
def sq (N:Nat)(p113:Int)(p114:Int)(p115:Int)(p116:Int)(p117:Int)(p118:Int)(p119:Int)(p120:Int)(p121:Int)(p122:Int)(p123:(List ByteArray))(p124:Int)(p125:Int)(p126:Int)(p127:(List Mk))(p128:(List ByteArray))(p129:(List Mb))(p130:(List Mb))(p131:(List Mg))(p132:(List Mg))(p133:(List Mo))(p134:(List (Mm×Int)))(p135:(List (Int×Bool))):Option (Int ⊕ (Md×Int)):=
 (fk N (⟨(⟨p113,p114,p115⟩:Mj),(⟨p116,p117,p118,p119,p120,p121,p122⟩:Mf),(),(⟨(⟨p129,p130⟩:Mq),p131,p132,(⟨p135⟩:Mc)⟩:Ma),(⟨p133,p134⟩:Mh),p123,p124,p125,p126,p127,p128⟩:Md) (⟨11,0,0,0,[],[]⟩:Mb)).bind fun y179=>(kC N y179.2.heap_ y179.1).bind fun y192=>so N y179.2.spent_.steps_ y179.2.spent_.made_ y179.2.spent_.calls_ y179.2.config_.Way y179.2.config_.Steps y179.2.config_.Calls y179.2.config_.Made y179.2.config_.Young y179.2.config_.Full y179.2.config_.Sites y179.2.symbols_ y179.2.epoch_ y179.2.serial_ y179.2.sleepers_ y179.2.events_ y179.2.out_ y192.2.m_.Young y192.2.m_.Old y192.2.roots_ y192.2.pending_ y179.2.shapes_.shapes_ y179.2.shapes_.next_ y192.2.set_.at_
def tX (N:Nat)(p18:Int)(p19:Int)(p20:Int)(p21:Int)(p22:Int)(p23:Int)(p24:Int)(p25:Int)(p26:Int)(p27:Int)(p28:(List ByteArray))(p29:Int)(p30:Int)(p31:Int)(p32:(List Mk))(p33:(List ByteArray))(p34:(List Mb))(p35:(List Mb))(p36:(List Mg))(p37:(List Mg))(p38:(List Mo))(p39:(List (Mm×Int)))(p40:(List (Int×Bool))):Option (Int ⊕ (Md×Int)):=
 (fk N (⟨(⟨p18,p19,p20⟩:Mj),(⟨p21,p22,p23,p24,p25,p26,p27⟩:Mf),(),(⟨(⟨p34,p35⟩:Mq),p36,p37,(⟨p40⟩:Mc)⟩:Ma),(⟨p38,p39⟩:Mh),p28,p29,p30,p31,p32,p33⟩:Md) (⟨11,0,0,0,[],[]⟩:Mb)).bind fun y136=>(kC N y136.2.heap_ y136.1).bind fun y149=>sq N y136.2.spent_.steps_ y136.2.spent_.made_ y136.2.spent_.calls_ y136.2.config_.Way y136.2.config_.Steps y136.2.config_.Calls y136.2.config_.Made y136.2.config_.Young y136.2.config_.Full y136.2.config_.Sites y136.2.symbols_ y136.2.epoch_ y136.2.serial_ y136.2.sleepers_ y136.2.events_ y136.2.out_ y149.2.m_.Young y149.2.m_.Old y149.2.roots_ y149.2.pending_ y136.2.shapes_.shapes_ y136.2.shapes_.next_ y149.2.set_.at_
def tW (N:Nat)(kb41:Int→Int→Int→Int→Int→Int→Int→Int→Int→Int→Int→(List ByteArray)→Int→Int→Int→(List Mk)→(List ByteArray)→(List Mb)→(List Mb)→(List Mg)→(List Mg)→(List Mo)→(List (Mm×Int))→(List (Int×Bool))→Option (Int ⊕ (Md×Int)))(p42:Int)(p71:Int)(p72:Int)(p73:Int)(p74:Int)(p75:Int)(p76:Int)(p77:Int)(p78:Int)(p79:Int)(p80:Int)(p81:(List ByteArray))(p82:Int)(p83:Int)(p84:Int)(p85:(List Mk))(p86:(List ByteArray))(p87:(List Mb))(p88:(List Mb))(p89:(List Mg))(p90:(List Mg))(p91:(List Mo))(p92:(List (Mm×Int)))(p93:(List (Int×Bool))):Option (Int ⊕ (Md×Int)):=
 cR (bK (p42+1)) (kb41 (p42+1) p71 p72 p73 p74 p75 p76 p77 p78 p79 p80 p81 p82 p83 p84 p85 p86 p87 p88 p89 p90 p91 p92 p93)
def nh (N:Nat):Nat→Int→Int→Int→Int→Int→Int→Int→Int→Int→Int→Int→(List ByteArray)→Int→Int→Int→(List Mk)→(List ByteArray)→(List Mb)→(List Mb)→(List Mg)→(List Mg)→(List Mo)→(List (Mm×Int))→(List (Int×Bool))→Option (Int ⊕ (Md×Int))
 |0,_,_,_,_,_,_,_,_,_,_,_,_,_,_,_,_,_,_,_,_,_,_,_,_=>none
 |m41+1,p42,p43,p44,p45,p46,p47,p48,p49,p50,p51,p52,p53,p54,p55,p56,p57,p58,p59,p60,p61,p62,p63,p64,p65=>bif decide (p42<18) then ((lK N (⟨(⟨p43,p44,p45⟩:Mj),(⟨p46,p47,p48,p49,p50,p51,p52⟩:Mf),(),(⟨(⟨p59,p60⟩:Mq),p61,p62,(⟨p65⟩:Mc)⟩:Ma),(⟨p63,p64⟩:Mh),p53,p54,p55,p56,p57,p58⟩:Md) p42).bind fun y94=>(kC N y94.2.heap_ y94.1).bind fun y105=>tW N (nh N m41) p42 y94.2.spent_.steps_ y94.2.spent_.made_ y94.2.spent_.calls_ y94.2.config_.Way y94.2.config_.Steps y94.2.config_.Calls y94.2.config_.Made y94.2.config_.Young y94.2.config_.Full y94.2.config_.Sites y94.2.symbols_ y94.2.epoch_ y94.2.serial_ y94.2.sleepers_ y94.2.events_ y94.2.out_ y105.2.m_.Young y105.2.m_.Old y105.2.roots_ y105.2.pending_ y94.2.shapes_.shapes_ y94.2.shapes_.next_ y105.2.set_.at_) else (tX N p43 p44 p45 p46 p47 p48 p49 p50 p51 p52 p53 p54 p55 p56 p57 p58 p59 p60 p61 p62 p63 p64 p65)
def wC (N:Nat)(a0:Mf):Option (Int ⊕ (Md×Int)):=
 (tV N a0).bind fun y2=>bif !y2 then (some (.inl 1)) else ((yF N).bind fun y4=>(wz N).bind fun y12=>nh N N 0 0 0 0 a0.Way a0.Steps a0.Calls a0.Made a0.Young a0.Full a0.Sites [] 0 0 0 [] [] y4.m_.Young y4.m_.Old y4.roots_ y4.pending_ y12.shapes_ y12.next_ y4.set_.at_)
set_option maxHeartbeats 4000000 in
theorem uH {N:Nat}{a0:Mf}{r:(Int ⊕ (Md×Int))}(h:wC N a0=some r):Okc Tryz.prog 21 [(Cn a0)] ([]) (fun u post=>Kr (fun (r:Int)=>u=.tuple #[.pointer none,iV r]∧post=[]) (fun (r:Md×Int)=> ∃B0 B1 A2 n2 c2 A3 n3 c3 A4 n4 c4 A5 n5 c5 B6 M7 B8 A9 n9 c9 M10 A11 n11 c11 A12 n12 c12 A13 n13 c13,u=.tuple #[pV B0 0,iV r.2]∧post=[aj B0 151 (Wk r.1 B1 B8 A11 n11 c11 A12 n12 c12 A13 n13 c13),aj B1 199 [I A2 n2 c2,I A3 n3 c3,I A4 n4 c4,I A5 n5 c5,pV B6 0],bx A2 n2 c2 r.1.heap_.m_.Young,bx A3 n3 c3 r.1.heap_.m_.Old,ba A4 n4 c4 r.1.heap_.roots_,ba A5 n5 c5 r.1.heap_.pending_,aj B6 247 [.map (some M7)],aJ cv cx M7 r.1.heap_.set_.at_,aj B8 205 [I A9 n9 c9,.map (some M10)],cI A9 n9 c9 r.1.shapes_.shapes_,aJ aG cu M10 r.1.shapes_.next_,bv A11 n11 c11 r.1.symbols_,cE A12 n12 c12 r.1.events_,bv A13 n13 c13 r.1.out_]) r):=by
 refine br Tryz.func21 J J ?_;simp only [aS];refine Y ?_;refine gD (aL J J) ?_;rintro _ _ ⟨B1,rfl,rfl⟩;refine Y ?_;refine az ?_;refine Y ?_;refine gR (ab (us:=Cj a0) 0 J J Jm J) ?_;obtain ⟨y2,hy2,h⟩:=aa h;refine gD (al (yf hy2) JZ J (ac) vU) ?_;rintro _ _ ⟨_,⟨rfl,rfl⟩,rfl⟩;refine Y ?_;refine au J (fun g3=> ?_) (fun g3=> ?_)
 ·replace h:=ah g3 h;refine Y ?_;obtain rfl:=ap h;exact cT J J J (cS [] 1) ⟨J,J⟩
 replace h:=ai g3 h;refine Y ?_;refine az ?_;refine bF V _ (ae _) ?_;refine zR 0 J (ab (us:=Cj a0) 0 J J Jm J) ?_;obtain ⟨y4,hy4,h⟩:=aa h;refine zD 1 J (aE (Ck hy4) JY J (aC [] [] [0] 1 J)) ?_;rintro _ _ ⟨_,⟨B5,A6,n6,c6,A7,n7,c7,A8,n8,c8,A9,n9,c9,B10,M11,rfl,rfl⟩,rfl⟩;refine dB (cS [7] 8) ?_;refine cX ?_;obtain ⟨y12,hy12,h⟩:=aa h;refine zD 2 J (aE (AD hy12) JX J (aC [] [] [0,1,2,3,4,5,6,7] 8 J)) ?_;rintro _ _ ⟨_,⟨B13,A14,n14,c14,M15,rfl,rfl⟩,rfl⟩;refine dB (cS [10] 11) ?_;refine cX ?_;refine zE 3 J (bd J (zQ _ _ _ _ _ _ _ _ _)) ?_;refine zD 4 J (aL J J) ?_;rintro _ _ ⟨B16,rfl,rfl⟩;refine dB (cS [11] 12) ?_;refine zE 5 J (be J) ?_;refine bz V ?_;refine eg ?_
 refine aW (fun s L=> ∃p18 p19 p20 p21 p22 p23 p24 p25 p26 p27 p28 p29 p30 p31 p32 p33 p34 p35 p36 p37 p38 p39 p40 A28 n28 c28 A32 n32 c32 A33 n33 c33 A34 n34 c34 A35 n35 c35 A36 n36 c36 A37 n37 c37 A38 n38 c38 M39 M40,tX N p18 p19 p20 p21 p22 p23 p24 p25 p26 p27 p28 p29 p30 p31 p32 p33 p34 p35 p36 p37 p38 p39 p40=some r∧s=[(2,.pointer none),(3,iV 0),(4,pV B16 0)]∧L=[bv A28 n28 c28 p28,cE A32 n32 c32 p32,bv A33 n33 c33 p33,aj B16 151 [iV p18,iV p19,iV p20,iV p21,iV p22,iV p23,iV p24,iV p25,iV p26,iV p27,.nilIface,pV B5 0,pV B13 0,I A28 n28 c28,iV p29,iV p30,iV p31,I A32 n32 c32,I A33 n33 c33],bx A34 n34 c34 p34,bx A35 n35 c35 p35,ba A36 n36 c36 p36,ba A37 n37 c37 p37,aj B5 199 [I A34 n34 c34,I A35 n35 c35,I A36 n36 c36,I A37 n37 c37,pV B10 0],cI A38 n38 c38 p38,aJ aG cu M39 p39,aj B13 205 [I A38 n38 c38,.map (some M39)],aJ cv cx M40 p40,aj B10 247 [.map (some M40)]]) ?_ ?_
 ·refine Y ?_;refine bN (fun m s L=> ∃p42 p43 p44 p45 p46 p47 p48 p49 p50 p51 p52 p53 p54 p55 p56 p57 p58 p59 p60 p61 p62 p63 p64 p65 A53 n53 c53 A57 n57 c57 A58 n58 c58 A59 n59 c59 A60 n60 c60 A61 n61 c61 A62 n62 c62 A63 n63 c63 M64 M65,nh N m p42 p43 p44 p45 p46 p47 p48 p49 p50 p51 p52 p53 p54 p55 p56 p57 p58 p59 p60 p61 p62 p63 p64 p65=some r∧s=[(2,.pointer none),(3,iV 0),(4,pV B16 0),(14,iV p42)]∧L=[bv A53 n53 c53 p53,cE A57 n57 c57 p57,bv A58 n58 c58 p58,aj B16 151 [iV p43,iV p44,iV p45,iV p46,iV p47,iV p48,iV p49,iV p50,iV p51,iV p52,.nilIface,pV B5 0,pV B13 0,I A53 n53 c53,iV p54,iV p55,iV p56,I A57 n57 c57,I A58 n58 c58],bx A59 n59 c59 p59,bx A60 n60 c60 p60,ba A61 n61 c61 p61,ba A62 n62 c62 p62,aj B5 199 [I A59 n59 c59,I A60 n60 c60,I A61 n61 c61,I A62 n62 c62,pV B10 0],cI A63 n63 c63 p63,aJ aG cu M64 p64,aj B13 205 [I A63 n63 c63,.map (some M64)],aJ cv cx M65 p65,aj B10 247 [.map (some M65)]]) N _ _ ⟨0,0,0,0,a0.Way,a0.Steps,a0.Calls,a0.Made,a0.Young,a0.Full,a0.Sites,[],0,0,0,[],[],y4.m_.Young,y4.m_.Old,y4.roots_,y4.pending_,y12.shapes_,y12.next_,y4.set_.at_,none,0,0,none,0,0,none,0,0,A6,n6,c6,A7,n7,c7,A8,n8,c8,A9,n9,c9,A14,n14,c14,M15,M11,h,J,J⟩ sA ((jO HE _).trans ((jO DM _).trans ((jO HE _).trans (cS [2,1,0,3,8,9,10,11,7,5,6,4,13,12] 15)))) ?_
  rintro (_|m41) _ _ ⟨p42,p43,p44,p45,p46,p47,p48,p49,p50,p51,p52,p53,p54,p55,p56,p57,p58,p59,p60,p61,p62,p63,p64,p65,A53,n53,c53,A57,n57,c57,A58,n58,c58,A59,n59,c59,A60,n60,c60,A61,n61,c61,A62,n62,c62,A63,n63,c63,M64,M65,h,rfl,rfl⟩
  ·exact bg h
  rw [nh.eq_2] at h;refine Y ?_;refine az ?_;refine au J (fun g69=> ?_) (fun g69=> ?_)
  ·replace h:=ah g69 h;refine Y ?_;refine aW (fun s L=> ∃p71 p72 p73 p74 p75 p76 p77 p78 p79 p80 p81 p82 p83 p84 p85 p86 p87 p88 p89 p90 p91 p92 p93 A81 n81 c81 A85 n85 c85 A86 n86 c86 A87 n87 c87 A88 n88 c88 A89 n89 c89 A90 n90 c90 A91 n91 c91 M92 M93,tW N (nh N m41) p42 p71 p72 p73 p74 p75 p76 p77 p78 p79 p80 p81 p82 p83 p84 p85 p86 p87 p88 p89 p90 p91 p92 p93=some r∧s=[(2,.pointer none),(3,iV 0),(4,pV B16 0),(14,iV p42)]∧L=[bv A81 n81 c81 p81,cE A85 n85 c85 p85,bv A86 n86 c86 p86,aj B16 151 [iV p71,iV p72,iV p73,iV p74,iV p75,iV p76,iV p77,iV p78,iV p79,iV p80,.nilIface,pV B5 0,pV B13 0,I A81 n81 c81,iV p82,iV p83,iV p84,I A85 n85 c85,I A86 n86 c86],bx A87 n87 c87 p87,bx A88 n88 c88 p88,ba A89 n89 c89 p89,ba A90 n90 c90 p90,aj B5 199 [I A87 n87 c87,I A88 n88 c88,I A89 n89 c89,I A90 n90 c90,pV B10 0],cI A91 n91 c91 p91,aJ aG cu M92 p92,aj B13 205 [I A91 n91 c91,.map (some M92)],aJ cv cx M93 p93,aj B10 247 [.map (some M93)]]) ?_ ?_
   ·refine Y ?_;refine bF V ([bv A53 n53 c53 p53,cE A57 n57 c57 p57,bv A58 n58 c58 p58]) (cS [0,1,2] 14) ?_;refine zE 0 J (aw J) ?_;refine zE 1 J (bf J) ?_;refine zE 2 J (cb J lg) ?_;refine zE 4 J (aw J) ?_;refine zE 5 J (aw J) ?_;refine wx 3 6 V ?_ ?_
    ·refine jc J (rF (aY 3 J J lV J)) J J J ?_;rintro _ _ ⟨rfl,rfl⟩;refine dB (cS [0,1,2] 14) ?_;obtain ⟨y94,hy94,h⟩:=aa h;refine zD 6 J (aE (kX hy94) GI J (aC [0,1,2] [3,8,4,5,6,7,13,12,11,9,10] [0,1,2] 14 J)) ?_;rintro _ _ ⟨_,⟨A95,n95,c95,A96,n96,c96,A97,n97,c97,A98,n98,c98,M99,A100,n100,c100,M101,A102,n102,c102,A103,n103,c103,A104,n104,c104,rfl,rfl⟩,rfl⟩;refine ⟨[bv A102 n102 c102 y94.2.symbols_,cE A103 n103 c103 y94.2.events_,bv A104 n104 c104 y94.2.out_,bv A53 n53 c53 p53,cE A57 n57 c57 p57,bv A58 n58 c58 p58],cS [11,12,13,14,15,16] 17,(cv_tl).trans ((cv_tl).trans (cv_tl)),?_⟩;refine cX ?_;obtain ⟨y105,hy105,h⟩:=aa h;refine zD 7 J (aE (fL hy105) wl J (aC [] [1,2,3,4,5,6,7] [0,8,9,10,11,12,13,14,15,16] 17 J)) ?_;rintro _ _ ⟨_,⟨A106,n106,c106,A107,n107,c107,A108,n108,c108,A109,n109,c109,M110,rfl,rfl⟩,rfl⟩;refine dB (cS [11,12,13,14,15,16] 17) ?_;refine cX ?_;refine bz V ?_;refine Y ?_
     exact ⟨_,_,⟨y94.2.spent_.steps_,y94.2.spent_.made_,y94.2.spent_.calls_,y94.2.config_.Way,y94.2.config_.Steps,y94.2.config_.Calls,y94.2.config_.Made,y94.2.config_.Young,y94.2.config_.Full,y94.2.config_.Sites,y94.2.symbols_,y94.2.epoch_,y94.2.serial_,y94.2.sleepers_,y94.2.events_,y94.2.out_,y105.2.m_.Young,y105.2.m_.Old,y105.2.roots_,y105.2.pending_,y94.2.shapes_.shapes_,y94.2.shapes_.next_,y105.2.set_.at_,A102,n102,c102,A103,n103,c103,A104,n104,c104,A106,n106,c106,A107,n107,c107,A108,n108,c108,A109,n109,c109,A100,n100,c100,M101,M110,h,J,J⟩,sA,cS [11,12,13,7,1,2,3,4,0,9,10,8,6,5] 17⟩
    obtain ⟨y94,hy94,h⟩:=aa h;refine jc J (aE (kX hy94) GI J (aC [0,1,2] [3,8,4,5,6,7,13,12,11,9,10] [0,1,2] 14 J)) J J J ?_;rintro _ _ ⟨_,⟨A95,n95,c95,A96,n96,c96,A97,n97,c97,A98,n98,c98,M99,A100,n100,c100,M101,A102,n102,c102,A103,n103,c103,A104,n104,c104,rfl,rfl⟩,rfl⟩;refine ⟨[bv A102 n102 c102 y94.2.symbols_,cE A103 n103 c103 y94.2.events_,bv A104 n104 c104 y94.2.out_,bv A53 n53 c53 p53,cE A57 n57 c57 p57,bv A58 n58 c58 p58],cS [11,12,13,14,15,16] 17,(cv_tl).trans ((cv_tl).trans (cv_tl)),?_⟩;refine cX ?_;refine zD 3 J (rF (aY 0 J J lV J)) ?_;rintro _ _ ⟨rfl,rfl⟩;refine dB (cS [11,12,13,14,15,16] 17) ?_;obtain ⟨y105,hy105,h⟩:=aa h;refine zD 7 J (aE (fL hy105) wl J (aC [] [1,2,3,4,5,6,7] [0,8,9,10,11,12,13,14,15,16] 17 J)) ?_;rintro _ _ ⟨_,⟨A106,n106,c106,A107,n107,c107,A108,n108,c108,A109,n109,c109,M110,rfl,rfl⟩,rfl⟩;refine dB (cS [11,12,13,14,15,16] 17) ?_;refine cX ?_;refine bz V ?_;refine Y ?_
    exact ⟨_,_,⟨y94.2.spent_.steps_,y94.2.spent_.made_,y94.2.spent_.calls_,y94.2.config_.Way,y94.2.config_.Steps,y94.2.config_.Calls,y94.2.config_.Made,y94.2.config_.Young,y94.2.config_.Full,y94.2.config_.Sites,y94.2.symbols_,y94.2.epoch_,y94.2.serial_,y94.2.sleepers_,y94.2.events_,y94.2.out_,y105.2.m_.Young,y105.2.m_.Old,y105.2.roots_,y105.2.pending_,y94.2.shapes_.shapes_,y94.2.shapes_.next_,y105.2.set_.at_,A102,n102,c102,A103,n103,c103,A104,n104,c104,A106,n106,c106,A107,n107,c107,A108,n108,c108,A109,n109,c109,A100,n100,c100,M101,M110,h,J,J⟩,sA,cS [11,12,13,7,1,2,3,4,0,9,10,8,6,5] 17⟩
   rintro _ _ ⟨p71,p72,p73,p74,p75,p76,p77,p78,p79,p80,p81,p82,p83,p84,p85,p86,p87,p88,p89,p90,p91,p92,p93,A81,n81,c81,A85,n85,c85,A86,n86,c86,A87,n87,c87,A88,n88,c88,A89,n89,c89,A90,n90,c90,A91,n91,c91,M92,M93,h,rfl,rfl⟩;refine fH ?_;obtain ⟨q111,h⟩:=ay h;refine gE (bE J J q111.1 q111.2) ?_;refine Y ?_;exact ⟨m41,_,_,Mw _,⟨p42+1,p71,p72,p73,p74,p75,p76,p77,p78,p79,p80,p81,p82,p83,p84,p85,p86,p87,p88,p89,p90,p91,p92,p93,A81,n81,c81,A85,n85,c85,A86,n86,c86,A87,n87,c87,A88,n88,c88,A89,n89,c89,A90,n90,c90,A91,n91,c91,M92,M93,h,J,J⟩,sA,cS [0,1,2,3,4,5,6,7,8,9,10,11,12,13] 14⟩
  replace h:=ai g69 h;refine Y ?_;exact ⟨_,_,⟨p43,p44,p45,p46,p47,p48,p49,p50,p51,p52,p53,p54,p55,p56,p57,p58,p59,p60,p61,p62,p63,p64,p65,A53,n53,c53,A57,n57,c57,A58,n58,c58,A59,n59,c59,A60,n60,c60,A61,n61,c61,A62,n62,c62,A63,n63,c63,M64,M65,h,J,J⟩,sA,cS [0,1,2,3,4,5,6,7,8,9,10,11,12,13] 14⟩
 rintro _ _ ⟨p18,p19,p20,p21,p22,p23,p24,p25,p26,p27,p28,p29,p30,p31,p32,p33,p34,p35,p36,p37,p38,p39,p40,A28,n28,c28,A32,n32,c32,A33,n33,c33,A34,n34,c34,A35,n35,c35,A36,n36,c36,A37,n37,c37,A38,n38,c38,M39,M40,h,rfl,rfl⟩;refine aW (fun s L=> ∃p113 p114 p115 p116 p117 p118 p119 p120 p121 p122 p123 p124 p125 p126 p127 p128 p129 p130 p131 p132 p133 p134 p135 A123 n123 c123 A127 n127 c127 A128 n128 c128 A129 n129 c129 A130 n130 c130 A131 n131 c131 A132 n132 c132 A133 n133 c133 M134 M135,sq N p113 p114 p115 p116 p117 p118 p119 p120 p121 p122 p123 p124 p125 p126 p127 p128 p129 p130 p131 p132 p133 p134 p135=some r∧s=[(2,.pointer none),(3,iV 0),(4,pV B16 0)]∧L=[bv A123 n123 c123 p123,cE A127 n127 c127 p127,bv A128 n128 c128 p128,aj B16 151 [iV p113,iV p114,iV p115,iV p116,iV p117,iV p118,iV p119,iV p120,iV p121,iV p122,.nilIface,pV B5 0,pV B13 0,I A123 n123 c123,iV p124,iV p125,iV p126,I A127 n127 c127,I A128 n128 c128],bx A129 n129 c129 p129,bx A130 n130 c130 p130,ba A131 n131 c131 p131,ba A132 n132 c132 p132,aj B5 199 [I A129 n129 c129,I A130 n130 c130,I A131 n131 c131,I A132 n132 c132,pV B10 0],cI A133 n133 c133 p133,aJ aG cu M134 p134,aj B13 205 [I A133 n133 c133,.map (some M134)],aJ cv cx M135 p135,aj B10 247 [.map (some M135)]]) ?_ ?_
 ·refine bF V ([bv A28 n28 c28 p28,cE A32 n32 c32 p32,bv A33 n33 c33 p33]) (cS [0,1,2] 14) ?_;refine zE 0 J (aw J) ?_;refine zE 1 J (bf J) ?_;refine zE 2 J (cb J lg) ?_;refine zE 4 J (aw J) ?_;refine zE 5 J (bd J (An _)) ?_;refine wx 3 6 V ?_ ?_
  ·refine jc J (rF (aY 3 J J lV J)) J J J ?_;rintro _ _ ⟨rfl,rfl⟩;refine dB (cS [0,1,2] 14) ?_;obtain ⟨y136,hy136,h⟩:=aa h;refine rR (jO bS _) (cS [1,2,3] 15) ?_;refine rR (jO bS _) (cS [2,3,4] 16) ?_;refine zD 6 J (aE (fS hy136) zh J (aC [2,3,4,1,0] [5,10,6,7,8,9,15,14,13,11,12] [0,1,2,3,4] 16 J)) ?_;rintro _ _ ⟨_,⟨A137,n137,c137,A138,n138,c138,A139,n139,c139,A140,n140,c140,M141,A142,n142,c142,M143,A144,n144,c144,A145,n145,c145,A146,n146,c146,rfl,rfl⟩,rfl⟩;refine ⟨[bv A144 n144 c144 y136.2.symbols_,cE A145 n145 c145 y136.2.events_,bv A146 n146 c146 y136.2.out_,bv A28 n28 c28 p28,cE A32 n32 c32 p32,bv A33 n33 c33 p33],cS [11,12,13,16,17,18] 19,(cv_tl).trans ((cv_tl).trans (cv_tl)),?_⟩;refine cX ?_;obtain ⟨y149,hy149,h⟩:=aa h;refine zD 7 J (aE (fL hy149) wl J (aC [] [1,2,3,4,5,6,7] [0,8,9,10,11,12,13,14,15,16,17,18] 19 J)) ?_;rintro _ _ ⟨_,⟨A150,n150,c150,A151,n151,c151,A152,n152,c152,A153,n153,c153,M154,rfl,rfl⟩,rfl⟩;refine dB (cS [11,12,13,16,17,18] 19) ?_;refine cX ?_;refine bz V ?_;refine eg ?_
   exact ⟨_,_,⟨y136.2.spent_.steps_,y136.2.spent_.made_,y136.2.spent_.calls_,y136.2.config_.Way,y136.2.config_.Steps,y136.2.config_.Calls,y136.2.config_.Made,y136.2.config_.Young,y136.2.config_.Full,y136.2.config_.Sites,y136.2.symbols_,y136.2.epoch_,y136.2.serial_,y136.2.sleepers_,y136.2.events_,y136.2.out_,y149.2.m_.Young,y149.2.m_.Old,y149.2.roots_,y149.2.pending_,y136.2.shapes_.shapes_,y136.2.shapes_.next_,y149.2.set_.at_,A144,n144,c144,A145,n145,c145,A146,n146,c146,A150,n150,c150,A151,n151,c151,A152,n152,c152,A153,n153,c153,A142,n142,c142,M143,M154,h,J,J⟩,sA,cS [11,12,13,7,1,2,3,4,0,9,10,8,6,5] 19⟩
  obtain ⟨y136,hy136,h⟩:=aa h;refine xo (jO bS _) (cS [1,2,3] 15) ?_;refine xo (jO bS _) (cS [2,3,4] 16) ?_;refine jc J (aE (fS hy136) zh J (aC [2,3,4,1,0] [5,10,6,7,8,9,15,14,13,11,12] [0,1,2,3,4] 16 J)) J J J ?_;rintro _ _ ⟨_,⟨A137,n137,c137,A138,n138,c138,A139,n139,c139,A140,n140,c140,M141,A142,n142,c142,M143,A144,n144,c144,A145,n145,c145,A146,n146,c146,rfl,rfl⟩,rfl⟩;refine ⟨[bv A144 n144 c144 y136.2.symbols_,cE A145 n145 c145 y136.2.events_,bv A146 n146 c146 y136.2.out_,bv A28 n28 c28 p28,cE A32 n32 c32 p32,bv A33 n33 c33 p33],cS [11,12,13,16,17,18] 19,(cv_tl).trans ((cv_tl).trans (cv_tl)),?_⟩;refine cX ?_;refine zD 3 J (rF (aY 0 J J lV J)) ?_;rintro _ _ ⟨rfl,rfl⟩;refine dB (cS [11,12,13,16,17,18] 19) ?_;obtain ⟨y149,hy149,h⟩:=aa h;refine zD 7 J (aE (fL hy149) wl J (aC [] [1,2,3,4,5,6,7] [0,8,9,10,11,12,13,14,15,16,17,18] 19 J)) ?_;rintro _ _ ⟨_,⟨A150,n150,c150,A151,n151,c151,A152,n152,c152,A153,n153,c153,M154,rfl,rfl⟩,rfl⟩;refine dB (cS [11,12,13,16,17,18] 19) ?_;refine cX ?_;refine bz V ?_;refine eg ?_
  exact ⟨_,_,⟨y136.2.spent_.steps_,y136.2.spent_.made_,y136.2.spent_.calls_,y136.2.config_.Way,y136.2.config_.Steps,y136.2.config_.Calls,y136.2.config_.Made,y136.2.config_.Young,y136.2.config_.Full,y136.2.config_.Sites,y136.2.symbols_,y136.2.epoch_,y136.2.serial_,y136.2.sleepers_,y136.2.events_,y136.2.out_,y149.2.m_.Young,y149.2.m_.Old,y149.2.roots_,y149.2.pending_,y136.2.shapes_.shapes_,y136.2.shapes_.next_,y149.2.set_.at_,A144,n144,c144,A145,n145,c145,A146,n146,c146,A150,n150,c150,A151,n151,c151,A152,n152,c152,A153,n153,c153,A142,n142,c142,M143,M154,h,J,J⟩,sA,cS [11,12,13,7,1,2,3,4,0,9,10,8,6,5] 19⟩
 rintro _ _ ⟨p113,p114,p115,p116,p117,p118,p119,p120,p121,p122,p123,p124,p125,p126,p127,p128,p129,p130,p131,p132,p133,p134,p135,A123,n123,c123,A127,n127,c127,A128,n128,c128,A129,n129,c129,A130,n130,c130,A131,n131,c131,A132,n132,c132,A133,n133,c133,M134,M135,h,rfl,rfl⟩;refine aW (fun s L=> ∃p156 p157 p158 p159 p160 p161 p162 p163 p164 p165 p166 p167 p168 p169 p170 p171 p172 p173 p174 p175 p176 p177 p178 A166 n166 c166 A170 n170 c170 A171 n171 c171 A172 n172 c172 A173 n173 c173 A174 n174 c174 A175 n175 c175 A176 n176 c176 M177 M178,so N p156 p157 p158 p159 p160 p161 p162 p163 p164 p165 p166 p167 p168 p169 p170 p171 p172 p173 p174 p175 p176 p177 p178=some r∧s=[(2,.pointer none),(3,iV 0),(4,pV B16 0)]∧L=[bv A166 n166 c166 p166,cE A170 n170 c170 p170,bv A171 n171 c171 p171,aj B16 151 [iV p156,iV p157,iV p158,iV p159,iV p160,iV p161,iV p162,iV p163,iV p164,iV p165,.nilIface,pV B5 0,pV B13 0,I A166 n166 c166,iV p167,iV p168,iV p169,I A170 n170 c170,I A171 n171 c171],bx A172 n172 c172 p172,bx A173 n173 c173 p173,ba A174 n174 c174 p174,ba A175 n175 c175 p175,aj B5 199 [I A172 n172 c172,I A173 n173 c173,I A174 n174 c174,I A175 n175 c175,pV B10 0],cI A176 n176 c176 p176,aJ aG cu M177 p177,aj B13 205 [I A176 n176 c176,.map (some M177)],aJ cv cx M178 p178,aj B10 247 [.map (some M178)]]) ?_ ?_
 ·refine bF V ([bv A123 n123 c123 p123,cE A127 n127 c127 p127,bv A128 n128 c128 p128]) (cS [0,1,2] 14) ?_;refine zE 0 J (aw J) ?_;refine zE 1 J (bf J) ?_;refine zE 2 J (cb J lg) ?_;refine zE 4 J (aw J) ?_;refine zE 5 J (bd J (An _)) ?_;refine wx 3 6 V ?_ ?_
  ·refine jc J (rF (aY 3 J J lV J)) J J J ?_;rintro _ _ ⟨rfl,rfl⟩;refine dB (cS [0,1,2] 14) ?_;obtain ⟨y179,hy179,h⟩:=aa h;refine rR (jO bS _) (cS [1,2,3] 15) ?_;refine rR (jO bS _) (cS [2,3,4] 16) ?_;refine zD 6 J (aE (fS hy179) zh J (aC [2,3,4,1,0] [5,10,6,7,8,9,15,14,13,11,12] [0,1,2,3,4] 16 J)) ?_;rintro _ _ ⟨_,⟨A180,n180,c180,A181,n181,c181,A182,n182,c182,A183,n183,c183,M184,A185,n185,c185,M186,A187,n187,c187,A188,n188,c188,A189,n189,c189,rfl,rfl⟩,rfl⟩;refine ⟨[bv A187 n187 c187 y179.2.symbols_,cE A188 n188 c188 y179.2.events_,bv A189 n189 c189 y179.2.out_,bv A123 n123 c123 p123,cE A127 n127 c127 p127,bv A128 n128 c128 p128],cS [11,12,13,16,17,18] 19,(cv_tl).trans ((cv_tl).trans (cv_tl)),?_⟩;refine cX ?_;obtain ⟨y192,hy192,h⟩:=aa h;refine zD 7 J (aE (fL hy192) wl J (aC [] [1,2,3,4,5,6,7] [0,8,9,10,11,12,13,14,15,16,17,18] 19 J)) ?_;rintro _ _ ⟨_,⟨A193,n193,c193,A194,n194,c194,A195,n195,c195,A196,n196,c196,M197,rfl,rfl⟩,rfl⟩;refine dB (cS [11,12,13,16,17,18] 19) ?_;refine cX ?_;refine bz V ?_;refine eg ?_
   exact ⟨_,_,⟨y179.2.spent_.steps_,y179.2.spent_.made_,y179.2.spent_.calls_,y179.2.config_.Way,y179.2.config_.Steps,y179.2.config_.Calls,y179.2.config_.Made,y179.2.config_.Young,y179.2.config_.Full,y179.2.config_.Sites,y179.2.symbols_,y179.2.epoch_,y179.2.serial_,y179.2.sleepers_,y179.2.events_,y179.2.out_,y192.2.m_.Young,y192.2.m_.Old,y192.2.roots_,y192.2.pending_,y179.2.shapes_.shapes_,y179.2.shapes_.next_,y192.2.set_.at_,A187,n187,c187,A188,n188,c188,A189,n189,c189,A193,n193,c193,A194,n194,c194,A195,n195,c195,A196,n196,c196,A185,n185,c185,M186,M197,h,J,J⟩,sA,cS [11,12,13,7,1,2,3,4,0,9,10,8,6,5] 19⟩
  obtain ⟨y179,hy179,h⟩:=aa h;refine xo (jO bS _) (cS [1,2,3] 15) ?_;refine xo (jO bS _) (cS [2,3,4] 16) ?_;refine jc J (aE (fS hy179) zh J (aC [2,3,4,1,0] [5,10,6,7,8,9,15,14,13,11,12] [0,1,2,3,4] 16 J)) J J J ?_;rintro _ _ ⟨_,⟨A180,n180,c180,A181,n181,c181,A182,n182,c182,A183,n183,c183,M184,A185,n185,c185,M186,A187,n187,c187,A188,n188,c188,A189,n189,c189,rfl,rfl⟩,rfl⟩;refine ⟨[bv A187 n187 c187 y179.2.symbols_,cE A188 n188 c188 y179.2.events_,bv A189 n189 c189 y179.2.out_,bv A123 n123 c123 p123,cE A127 n127 c127 p127,bv A128 n128 c128 p128],cS [11,12,13,16,17,18] 19,(cv_tl).trans ((cv_tl).trans (cv_tl)),?_⟩;refine cX ?_;refine zD 3 J (rF (aY 0 J J lV J)) ?_;rintro _ _ ⟨rfl,rfl⟩;refine dB (cS [11,12,13,16,17,18] 19) ?_;obtain ⟨y192,hy192,h⟩:=aa h;refine zD 7 J (aE (fL hy192) wl J (aC [] [1,2,3,4,5,6,7] [0,8,9,10,11,12,13,14,15,16,17,18] 19 J)) ?_;rintro _ _ ⟨_,⟨A193,n193,c193,A194,n194,c194,A195,n195,c195,A196,n196,c196,M197,rfl,rfl⟩,rfl⟩;refine dB (cS [11,12,13,16,17,18] 19) ?_;refine cX ?_;refine bz V ?_;refine eg ?_
  exact ⟨_,_,⟨y179.2.spent_.steps_,y179.2.spent_.made_,y179.2.spent_.calls_,y179.2.config_.Way,y179.2.config_.Steps,y179.2.config_.Calls,y179.2.config_.Made,y179.2.config_.Young,y179.2.config_.Full,y179.2.config_.Sites,y179.2.symbols_,y179.2.epoch_,y179.2.serial_,y179.2.sleepers_,y179.2.events_,y179.2.out_,y192.2.m_.Young,y192.2.m_.Old,y192.2.roots_,y192.2.pending_,y179.2.shapes_.shapes_,y179.2.shapes_.next_,y192.2.set_.at_,A187,n187,c187,A188,n188,c188,A189,n189,c189,A193,n193,c193,A194,n194,c194,A195,n195,c195,A196,n196,c196,A185,n185,c185,M186,M197,h,J,J⟩,sA,cS [11,12,13,7,1,2,3,4,0,9,10,8,6,5] 19⟩
 rintro _ _ ⟨p156,p157,p158,p159,p160,p161,p162,p163,p164,p165,p166,p167,p168,p169,p170,p171,p172,p173,p174,p175,p176,p177,p178,A166,n166,c166,A170,n170,c170,A171,n171,c171,A172,n172,c172,A173,n173,c173,A174,n174,c174,A175,n175,c175,A176,n176,c176,M177,M178,h,rfl,rfl⟩;refine Y ?_;obtain rfl:=ap h;exact cT J J J (cS [3,8,4,5,6,7,13,12,11,9,10,0,1,2] 14) ⟨_,_,_,_,_,_,_,_,_,_,_,_,_,_,_,_,_,_,_,_,_,_,_,_,_,_,_,_,_,_,J,J⟩
def o7 (N:Nat):Option (Unit ⊕ Md):=
 (wC N (⟨0,1000,10,1000,0,1,1⟩:Mf)).bind fun y1=>AA y1 (fun y1_0=>bif !decide (y1_0=0) then (some (.inl ())) else (some (.inl ()))) (fun y1_1=>bif !decide (y1_1.2=0) then (some (.inl ())) else (some (.inr y1_1.1)))
theorem pM {N:Nat}{r:(Unit ⊕ Md)}(h:o7 N=some r):Okc Tryz.prog 42 [] ([]) (fun u post=>Kr (fun (r:Unit)=>u=.pointer none∧post=[]) (fun (r:Md)=> ∃B0 B1 A2 n2 c2 A3 n3 c3 A4 n4 c4 A5 n5 c5 B6 M7 B8 A9 n9 c9 M10 A11 n11 c11 A12 n12 c12 A13 n13 c13,u=pV B0 0∧post=[aj B0 151 (Wk r B1 B8 A11 n11 c11 A12 n12 c12 A13 n13 c13),aj B1 199 [I A2 n2 c2,I A3 n3 c3,I A4 n4 c4,I A5 n5 c5,pV B6 0],bx A2 n2 c2 r.heap_.m_.Young,bx A3 n3 c3 r.heap_.m_.Old,ba A4 n4 c4 r.heap_.roots_,ba A5 n5 c5 r.heap_.pending_,aj B6 247 [.map (some M7)],aJ cv cx M7 r.heap_.set_.at_,aj B8 205 [I A9 n9 c9,.map (some M10)],cI A9 n9 c9 r.shapes_.shapes_,aJ aG cu M10 r.shapes_.next_,bv A11 n11 c11 r.symbols_,cE A12 n12 c12 r.events_,bv A13 n13 c13 r.out_]) r):=by
 refine br Tryz.func42 J J ?_;simp only [aS];refine Y ?_;refine gE (bd J (wt _ _ _ _ _)) ?_;obtain ⟨y1,hy1,h⟩:=aa h;rcases y1 with y1_0|y1_1
 ·replace h:=BQ h;refine gD (aE (uH hy1) GW J (aC [] [] [] 0 J)) ?_;rintro _ _ ⟨_,⟨rfl,rfl⟩,rfl⟩;refine Y ?_;refine az ?_;refine Y ?_;refine au J (fun g2=> ?_) (fun g2=> ?_)
  ·replace h:=ah g2 h;refine Y ?_;obtain rfl:=ap h;exact aO J J (cS [] 0) ⟨J,J⟩
  replace h:=ai g2 h;refine Y ?_;obtain rfl:=ap h;exact aO J J (cS [] 0) ⟨J,J⟩
 replace h:=BP h;refine gD (aE (uH hy1) GW J (aC [] [] [] 0 J)) ?_;rintro _ _ ⟨_,⟨B3,B4,A5,n5,c5,A6,n6,c6,A7,n7,c7,A8,n8,c8,B9,M10,B11,A12,n12,c12,M13,A14,n14,c14,A15,n15,c15,A16,n16,c16,rfl,rfl⟩,rfl⟩;refine Y ?_;refine az ?_;refine Y ?_;refine au J (fun g17=> ?_) (fun g17=> ?_)
 ·replace h:=ah g17 h;refine Y ?_;obtain rfl:=ap h;exact aO J J (cS [] 14) ⟨J,J⟩
 replace h:=ai g17 h;refine Y ?_;obtain rfl:=ap h;exact aO J J (cS [0,1,2,3,4,5,6,7,8,9,10,11,12,13] 14) ⟨_,_,_,_,_,_,_,_,_,_,_,_,_,_,_,_,_,_,_,_,_,_,_,_,_,_,_,_,_,_,J,J⟩
def kY (N:Nat)(a1:Int)(p13:Int):Option Int:=
 bif decide (a1≤p13) then (some (-1)) else (some p13)
def lS (N:Nat)(a0:Int)(a1:Int)(p7:Int):Option Int:=
 (bif decide (65≤a0) then (some (decide (a0≤70))) else (some false)).bind fun b14=>bif b14 then (cR (bK ((IntKind.i64.wrap a0) - 65)) (cR (bK (((IntKind.i64.wrap a0) - 65)+10)) (kY N a1 (((IntKind.i64.wrap a0) - 65)+10)))) else (kY N a1 p7)
def lT (N:Nat)(a0:Int)(a1:Int)(p2:Int):Option Int:=
 (bif decide (97≤a0) then (some (decide (a0≤102))) else (some false)).bind fun b8=>bif b8 then (cR (bK ((IntKind.i64.wrap a0) - 97)) (cR (bK (((IntKind.i64.wrap a0) - 97)+10)) (lS N a0 a1 (((IntKind.i64.wrap a0) - 97)+10)))) else (lS N a0 a1 p2)
def pY (N:Nat)(a0:Int)(a1:Int):Option Int:=
 (bif decide (48≤a0) then (some (decide (a0≤57))) else (some false)).bind fun b3=>bif b3 then (cR (bK ((IntKind.i64.wrap a0) - 48)) (lT N a0 a1 ((IntKind.i64.wrap a0) - 48))) else (lT N a0 a1 (-1))
set_option maxHeartbeats 4000000 in
theorem AJ {N:Nat}{a0:Int}{a1:Int}{r:Int}(h:pY N a0 a1=some r):Okc Tryz.prog 202 [.int .u8 a0,iV a1] ([]) (fun u post=>u=iV r∧post=[]):=by
 refine br Tryz.func202 J J ?_;simp only [aS];refine Y ?_;refine aW (fun s L=> ∃p2,lT N a0 a1 p2=some r∧s=[(0,.int .u8 a0),(1,iV a1),(4,iV 0),(5,iV p2)]∧L=[]) ?_ ?_
 ·refine Y ?_;obtain ⟨b3,hb3,h⟩:=aa h;refine aN 3 11 b3 ?_ ?_
  ·clear h;refine aK 8 J (fun g3=> ?_) (fun g3=> ?_)
   ·have h:=ah g3 hb3;refine Y ?_;obtain rfl:=ap h;exact ad sA (cS [] 0)
   have h:=ai g3 hb3;refine Y ?_;obtain rfl:=ap h;exact ad sA (cS [] 0)
  refine Y ?_;refine au J (fun g4=> ?_) (fun g4=> ?_)
  ·replace h:=ah g4 h;refine Y ?_;refine gE (rN J J EM) ?_;obtain ⟨q5,h⟩:=ay h;refine gE (dl J J q5.1 q5.2) ?_;refine Y ?_;exact ⟨_,_,⟨(IntKind.i64.wrap a0) - 48,h,J,J⟩,sA,cS [] 0⟩
  replace h:=ai g4 h;refine Y ?_;exact ⟨_,_,⟨(-1),h,J,J⟩,sA,cS [] 0⟩
 rintro _ _ ⟨p2,h,rfl,rfl⟩;refine aW (fun s L=> ∃p7,lS N a0 a1 p7=some r∧s=[(0,.int .u8 a0),(1,iV a1),(4,iV 0),(5,iV p7)]∧L=[]) ?_ ?_
 ·refine Y ?_;obtain ⟨b8,hb8,h⟩:=aa h;refine aN 3 20 b8 ?_ ?_
  ·clear h;refine aK 17 J (fun g8=> ?_) (fun g8=> ?_)
   ·have h:=ah g8 hb8;refine Y ?_;obtain rfl:=ap h;exact ad sA (cS [] 0)
   have h:=ai g8 hb8;refine Y ?_;obtain rfl:=ap h;exact ad sA (cS [] 0)
  refine Y ?_;refine au J (fun g9=> ?_) (fun g9=> ?_)
  ·replace h:=ah g9 h;refine Y ?_;refine gE (rN J J EM) ?_;obtain ⟨q10,h⟩:=ay h;refine gE (dl J J q10.1 q10.2) ?_;obtain ⟨q11,h⟩:=ay h;refine gE (bE J J q11.1 q11.2) ?_;refine Y ?_;exact ⟨_,_,⟨((IntKind.i64.wrap a0) - 97)+10,h,J,J⟩,sA,cS [] 0⟩
  replace h:=ai g9 h;refine Y ?_;exact ⟨_,_,⟨p2,h,J,J⟩,sA,cS [] 0⟩
 rintro _ _ ⟨p7,h,rfl,rfl⟩;refine aW (fun s L=> ∃p13,kY N a1 p13=some r∧s=[(1,iV a1),(4,iV 0),(5,iV p13)]∧L=[]) ?_ ?_
 ·refine Y ?_;obtain ⟨b14,hb14,h⟩:=aa h;refine aN 3 30 b14 ?_ ?_
  ·clear h;refine aK 27 J (fun g14=> ?_) (fun g14=> ?_)
   ·have h:=ah g14 hb14;refine Y ?_;obtain rfl:=ap h;exact ad sA (cS [] 0)
   have h:=ai g14 hb14;refine Y ?_;obtain rfl:=ap h;exact ad sA (cS [] 0)
  refine Y ?_;refine au J (fun g15=> ?_) (fun g15=> ?_)
  ·replace h:=ah g15 h;refine Y ?_;refine gE (rN J J EM) ?_;obtain ⟨q16,h⟩:=ay h;refine gE (dl J J q16.1 q16.2) ?_;obtain ⟨q17,h⟩:=ay h;refine gE (bE J J q17.1 q17.2) ?_;refine Y ?_;exact ⟨_,_,⟨((IntKind.i64.wrap a0) - 65)+10,h,J,J⟩,sA,cS [] 0⟩
  replace h:=ai g15 h;refine Y ?_;exact ⟨_,_,⟨p7,h,J,J⟩,sA,cS [] 0⟩
 rintro _ _ ⟨p13,h,rfl,rfl⟩;refine az ?_;refine Y ?_;refine au J (fun g18=> ?_) (fun g18=> ?_)
 ·replace h:=ah g18 h;refine Y ?_;obtain rfl:=ap h;exact aO J J (cS [] 0) ⟨J,J⟩
 replace h:=ai g18 h;refine Y ?_;obtain rfl:=ap h;exact aO J J (cS [] 0) ⟨J,J⟩
theorem yl {r:Int}: ∀v post,((fun (u:Value) (post:List Chunk)=>u=iV r∧post=[])) v post→ ∀c∈post,bV c:=by
 rintro _ _ ⟨rfl,rfl⟩;exact ac
def uI (N:Nat)(a0:ByteArray)(p2:Int):Option (Int×Bool):=
 some (p2,!(a0.toList==(⟨#[]⟩:ByteArray).toList))
def lU (N:Nat)(kb3:Int→Int→Option (Int×Bool))(a0:ByteArray)(a1:Int)(p5:Int)(p8:Int):Option (Int×Bool):=
 cR (bK (p5+1)) (kb3 p8 (p5+1))
def kZ (N:Nat)(kb3:Int→Int→Option (Int×Bool))(a0:ByteArray)(a1:Int)(p5:Int)(p13:Int):Option (Int×Bool):=
 bif decide (9007199254740992<p13) then (lU N kb3 a0 a1 p5 (-1)) else (lU N kb3 a0 a1 p5 p13)
def fW (N:Nat)(a0:ByteArray)(a1:Int):Nat→Int→Int→Option (Int×Bool)
 |0,_,_=>none
 |m3+1,p4,p5=>bif decide (p5<(a0.size:Int)) then ((xe a0 p5).bind fun x9=>(pY N x9 a1).bind fun y10=>bif decide (y10<0) then (some (0,false)) else (bif decide (0≤p4) then (cR (bK (p4*a1)) (cR (bK ((p4*a1)+y10)) (kZ N (fW N a0 a1 m3) a0 a1 p5 ((p4*a1)+y10)))) else (kZ N (fW N a0 a1 m3) a0 a1 p5 p4))) else (uI N a0 p4)
def wH (N:Nat)(a0:ByteArray)(a1:Int):Option (Int×Bool):=
 fW N a0 a1 N 0 0
set_option maxHeartbeats 4000000 in
theorem AK {N:Nat}{a0:ByteArray}{a1:Int}{r:(Int×Bool)}(h:wH N a0 a1=some r):Okc Tryz.prog 144 [.string a0,iV a1] ([]) (fun u post=>u=.tuple #[iV r.1,.bool r.2]∧post=[]):=by
 refine br Tryz.func144 J J ?_;simp only [aS];refine Y ?_;refine aW (fun s L=> ∃p2,uI N a0 p2=some r∧s=[(0,.string a0),(4,iV 0),(5,.bool false),(6,iV p2)]∧L=[]) ?_ ?_
 ·refine Y ?_;refine bN (fun m s L=> ∃p4 p5,fW N a0 a1 m p4 p5=some r∧s=[(0,.string a0),(1,iV a1),(4,iV 0),(5,.bool false),(6,iV p4),(7,iV p5)]∧L=[]) N _ _ ⟨0,0,h,J,J⟩ sA (cS [] 0) ?_;rintro (_|m3) _ _ ⟨p4,p5,h,rfl,rfl⟩
  ·exact bg h
  rw [fW.eq_2] at h;refine az ?_;refine Y ?_;refine gE (ls J Ex) ?_;refine Y ?_;refine au J (fun g6=> ?_) (fun g6=> ?_)
  ·replace h:=ah g6 h;refine Y ?_;refine aW (fun s L=> ∃p8,lU N (fW N a0 a1 m3) a0 a1 p5 p8=some r∧s=[(0,.string a0),(1,iV a1),(4,iV 0),(5,.bool false),(6,iV p8),(7,iV p5)]∧L=[]) ?_ ?_
   ·refine Y ?_;obtain ⟨x9,hx9,h⟩:=aa h;refine gE (o3 J J Ex hx9) ?_;refine Y ?_;obtain ⟨y10,hy10,h⟩:=aa h;refine gD (al (AJ hy10) IC J (ac) yl) ?_;rintro _ _ ⟨_,⟨rfl,rfl⟩,rfl⟩;refine Y ?_;refine az ?_;refine Y ?_;refine au J (fun g11=> ?_) (fun g11=> ?_)
    ·replace h:=ah g11 h;refine Y ?_;obtain rfl:=ap h;exact cT J J J (cS [] 0) ⟨J,J⟩
    replace h:=ai g11 h;refine Y ?_;refine aW (fun s L=> ∃p13,kZ N (fW N a0 a1 m3) a0 a1 p5 p13=some r∧s=[(0,.string a0),(1,iV a1),(4,iV 0),(5,.bool false),(6,iV p13),(7,iV p5)]∧L=[]) ?_ ?_
    ·refine Y ?_;refine au J (fun g14=> ?_) (fun g14=> ?_)
     ·replace h:=ah g14 h;refine Y ?_;obtain ⟨q15,h⟩:=ay h;refine gE (pG J J q15.1 q15.2) ?_;refine Y ?_;obtain ⟨q16,h⟩:=ay h;refine gE (bE J J q16.1 q16.2) ?_;refine Y ?_;exact ⟨_,_,⟨(p4*a1)+y10,h,J,J⟩,sA,cS [] 0⟩
     replace h:=ai g14 h;refine Y ?_;exact ⟨_,_,⟨p4,h,J,J⟩,sA,cS [] 0⟩
    rintro _ _ ⟨p13,h,rfl,rfl⟩;refine Y ?_;refine au J (fun g17=> ?_) (fun g17=> ?_)
    ·replace h:=ah g17 h;refine Y ?_;exact ⟨_,_,⟨(-1),h,J,J⟩,sA,cS [] 0⟩
    replace h:=ai g17 h;refine Y ?_;exact ⟨_,_,⟨p13,h,J,J⟩,sA,cS [] 0⟩
   rintro _ _ ⟨p8,h,rfl,rfl⟩;refine Y ?_;obtain ⟨q18,h⟩:=ay h;refine gE (bE J J q18.1 q18.2) ?_;refine Y ?_;exact ⟨m3,_,_,Mw _,⟨p8,p5+1,h,J,J⟩,sA,cS [] 0⟩
  replace h:=ai g6 h;refine Y ?_;exact ⟨_,_,⟨p4,h,J,J⟩,sA,cS [] 0⟩
 rintro _ _ ⟨p2,h,rfl,rfl⟩;refine Y ?_;refine gE (yO J J) ?_;refine Y ?_;obtain rfl:=ap h;exact cT J J J (cS [] 0) ⟨J,J⟩
theorem ym {r:(Int×Bool)}: ∀v post,((fun (u:Value) (post:List Chunk)=>u=.tuple #[iV r.1,.bool r.2]∧post=[])) v post→ ∀c∈post,bV c:=by
 rintro _ _ ⟨rfl,rfl⟩;exact ac
def pX (N:Nat)(a0:ByteArray):Option (Int×Bool):=
 (bif a0.toList==(⟨#[]⟩:ByteArray).toList then (some true) else (some (decide (10<(a0.size:Int))))).bind fun b1=>(bif b1 then (some true) else ((xe a0 0).bind fun x3=>(bif decide (x3=48) then (some (decide (1<(a0.size:Int)))) else (some false)).bind fun b4=>some b4)).bind fun b2=>bif b2 then (some (0,false)) else ((wH N a0 10).bind fun y6=>(bif !y6.2 then (some true) else (some (decide (4294967294<y6.1)))).bind fun b7=>bif b7 then (some (0,false)) else (some (y6.1,true)))
set_option maxHeartbeats 4000000 in
theorem AI {N:Nat}{a0:ByteArray}{r:(Int×Bool)}(h:pX N a0=some r):Okc Tryz.prog 78 [.string a0] ([]) (fun u post=>u=.tuple #[iV r.1,.bool r.2]∧post=[]):=by
 refine br Tryz.func78 J J ?_;simp only [aS];refine Y ?_;refine az ?_;refine Y ?_;refine gE (qW J J) ?_;refine Y ?_;obtain ⟨b1,hb1,h⟩:=aa h;refine aN 4 12 b1 ?_ ?_
 ·clear h;refine aK 8 J (fun g1=> ?_) (fun g1=> ?_)
  ·have h:=ah g1 hb1;refine Y ?_;obtain rfl:=ap h;exact ad sA (cS [] 0)
  have h:=ai g1 hb1;refine Y ?_;refine d3 (ls J Ex) J (cU g1 J) J ?_;refine Y ?_;obtain rfl:=ap h;exact ad sA (cS [] 0)
 refine Y ?_;obtain ⟨b2,hb2,h⟩:=aa h;refine aN 9 22 b2 ?_ ?_
 ·clear h;refine aK 13 J (fun g2=> ?_) (fun g2=> ?_)
  ·have h:=ah g2 hb2;refine Y ?_;obtain rfl:=ap h;exact ad sA (cS [] 0)
  have h:=ai g2 hb2;refine Y ?_;obtain ⟨x3,hx3,h⟩:=aa h;refine d3 (o3 J J Ex hx3) J (cU g2 J) J ?_;refine Y ?_;obtain ⟨b4,hb4,h⟩:=aa h;refine aN 4 21 b4 ?_ ?_
  ·clear h;refine aK 17 J (fun g4=> ?_) (fun g4=> ?_)
   ·have h:=ah g4 hb4;refine Y ?_;refine d3 (ls J Ex) J (bq g4 J) J ?_;refine Y ?_;obtain rfl:=ap h;exact ad sA (cS [] 0)
   have h:=ai g4 hb4;refine Y ?_;obtain rfl:=ap h;exact ad sA (cS [] 0)
  refine Y ?_;obtain rfl:=ap h;exact ad sA (cS [] 0)
 refine Y ?_;refine au J (fun g5=> ?_) (fun g5=> ?_)
 ·replace h:=ah g5 h;refine Y ?_;obtain rfl:=ap h;exact cT J J J (cS [] 0) ⟨J,J⟩
 replace h:=ai g5 h;refine Y ?_;obtain ⟨y6,hy6,h⟩:=aa h;refine gD (al (AK hy6) IP J (ac) ym) ?_;rintro _ _ ⟨_,⟨rfl,rfl⟩,rfl⟩;refine Y ?_;refine az ?_;refine Y ?_;obtain ⟨b7,hb7,h⟩:=aa h;refine aN 3 33 b7 ?_ ?_
 ·clear h;refine aK 30 J (fun g7=> ?_) (fun g7=> ?_)
  ·have h:=ah g7 hb7;refine Y ?_;obtain rfl:=ap h;exact ad sA (cS [] 0)
  have h:=ai g7 hb7;refine Y ?_;obtain rfl:=ap h;exact ad sA (cS [] 0)
 refine Y ?_;refine au J (fun g8=> ?_) (fun g8=> ?_)
 ·replace h:=ah g8 h;refine Y ?_;obtain rfl:=ap h;exact cT J J J (cS [] 0) ⟨J,J⟩
 replace h:=ai g8 h;refine Y ?_;obtain rfl:=ap h;exact cT J J J (cS [] 0) ⟨J,J⟩
theorem yj {r:(Int×Bool)}: ∀v post,((fun (u:Value) (post:List Chunk)=>u=.tuple #[iV r.1,.bool r.2]∧post=[])) v post→ ∀c∈post,bV c:=by
 rintro _ _ ⟨rfl,rfl⟩;exact ac
def pW (N:Nat)(a0:Mn):Option Bool:=
 bif decide (a0.Kind=0) then ((bif decide (0≤a0.N) then (some (decide (a0.N≤4294967294))) else (some false)).bind fun b3=>(bif b3 then (some (a0.S.toList==(⟨#[]⟩:ByteArray).toList)) else (some false)).bind fun b4=>some b4) else (bif decide (a0.Kind=1) then ((pX N a0.S).bind fun y6=>(bif decide (a0.N=0) then (some (!y6.2)) else (some false)).bind fun b7=>(bif b7 then (some (decide ((a0.S.size:Int)≤65536))) else (some false)).bind fun b8=>some b8) else (bif decide (a0.Kind=2) then ((bif decide (1≤a0.N) then (some (a0.S.toList==(⟨#[]⟩:ByteArray).toList)) else (some false)).bind fun b10=>some b10) else (some false)))
set_option maxHeartbeats 4000000 in
theorem AH {N:Nat}{a0:Mn}{r:Bool}(h:pW N a0=some r):Okc Tryz.prog 16 [(eZ a0)] ([]) (fun u post=>u=.bool r∧post=[]):=by
 refine br Tryz.func16 J J ?_;simp only [aS];refine Y ?_;refine gD (aL J J) ?_;rintro _ _ ⟨B1,rfl,rfl⟩;refine Y ?_;refine az ?_;refine Y ?_;refine au J (fun g2=> ?_) (fun g2=> ?_)
 ·replace h:=ah g2 h;refine Y ?_;obtain ⟨b3,hb3,h⟩:=aa h;refine aN 4 16 b3 ?_ ?_
  ·clear h;refine aK 12 J (fun g3=> ?_) (fun g3=> ?_)
   ·have h:=ah g3 hb3;refine Y ?_;obtain rfl:=ap h;exact ad sA (cS [0] 1)
   have h:=ai g3 hb3;refine Y ?_;obtain rfl:=ap h;exact ad sA (cS [0] 1)
  refine Y ?_;obtain ⟨b4,hb4,h⟩:=aa h;refine aN 4 21 b4 ?_ ?_
  ·clear h;refine aK 17 J (fun g4=> ?_) (fun g4=> ?_)
   ·have h:=ah g4 hb4;refine Y ?_;refine d3 (qW J J) J (bq g4 J) J ?_;refine Y ?_;obtain rfl:=ap h;exact ad sA (cS [0] 1)
   have h:=ai g4 hb4;refine Y ?_;obtain rfl:=ap h;exact ad sA (cS [0] 1)
  refine Y ?_;obtain rfl:=ap h;exact aO J J (cS [] 1) ⟨J,J⟩
 replace h:=ai g2 h;refine Y ?_;refine au J (fun g5=> ?_) (fun g5=> ?_)
 ·replace h:=ah g5 h;refine Y ?_;obtain ⟨y6,hy6,h⟩:=aa h;refine gD (al (AI hy6) J2 J (ac) yj) ?_;rintro _ _ ⟨_,⟨rfl,rfl⟩,rfl⟩;refine Y ?_;obtain ⟨b7,hb7,h⟩:=aa h;refine aN 3 36 b7 ?_ ?_
  ·clear h;refine aK 33 J (fun g7=> ?_) (fun g7=> ?_)
   ·have h:=ah g7 hb7;refine Y ?_;obtain rfl:=ap h;exact ad sA (cS [0] 1)
   have h:=ai g7 hb7;refine Y ?_;obtain rfl:=ap h;exact ad sA (cS [0] 1)
  refine Y ?_;obtain ⟨b8,hb8,h⟩:=aa h;refine aN 5 42 b8 ?_ ?_
  ·clear h;refine aK 37 J (fun g8=> ?_) (fun g8=> ?_)
   ·have h:=ah g8 hb8;refine Y ?_;refine d3 (ls J Ex) J (bq g8 J) J ?_;refine Y ?_;obtain rfl:=ap h;exact ad sA (cS [0] 1)
   have h:=ai g8 hb8;refine Y ?_;obtain rfl:=ap h;exact ad sA (cS [0] 1)
  refine Y ?_;obtain rfl:=ap h;exact aO J J (cS [] 1) ⟨J,J⟩
 replace h:=ai g5 h;refine Y ?_;refine au J (fun g9=> ?_) (fun g9=> ?_)
 ·replace h:=ah g9 h;refine Y ?_;obtain ⟨b10,hb10,h⟩:=aa h;refine aN 4 52 b10 ?_ ?_
  ·clear h;refine aK 48 J (fun g10=> ?_) (fun g10=> ?_)
   ·have h:=ah g10 hb10;refine Y ?_;refine d3 (qW J J) J (bq g10 J) J ?_;refine Y ?_;obtain rfl:=ap h;exact ad sA (cS [0] 1)
   have h:=ai g10 hb10;refine Y ?_;obtain rfl:=ap h;exact ad sA (cS [0] 1)
  refine Y ?_;obtain rfl:=ap h;exact aO J J (cS [] 1) ⟨J,J⟩
 replace h:=ai g9 h;refine Y ?_;obtain rfl:=ap h;exact aO J J (cS [] 1) ⟨J,J⟩
theorem yi {r:Bool}: ∀v post,((fun (u:Value) (post:List Chunk)=>u=.bool r∧post=[])) v post→ ∀c∈post,bV c:=by
 rintro _ _ ⟨rfl,rfl⟩;exact ac
def oZ (N:Nat)(a0:Int)(a1:Int):Option Bool:=
 cR ((a1:Int)≠0∧bK (a0.tdiv a1)) (some (decide ((a0.tdiv a1).tmod 2=1)))
theorem uj {N:Nat}{a0:Int}{a1:Int}{r:Bool}(h:oZ N a0 a1=some r):Okc Tryz.prog 114 [iV a0,iV a1] ([]) (fun u post=>u=.bool r∧post=[]):=by
 refine br Tryz.func114 J J ?_;simp only [aS];refine Y ?_;obtain ⟨q1,h⟩:=ay h;refine gE (yP J J q1.1 q1.2.1 q1.2.2) ?_;refine gE (pF J J (by decide)) ?_;refine Y ?_;obtain rfl:=ap h;exact aO J J (cS [] 0) ⟨J,J⟩
theorem rm {r:Bool}: ∀v post,((fun (u:Value) (post:List Chunk)=>u=.bool r∧post=[])) v post→ ∀c∈post,bV c:=by
 rintro _ _ ⟨rfl,rfl⟩;exact ac
def pn (N:Nat)(a0:Mg)(a1:Bool):Option Bool:=
 bif !a1 then (some (decide (a0=(⟨0,0,⟨#[]⟩⟩:Mg)))) else ((bif decide (a0.Kind=0) then (some true) else (some (decide (a0.Kind=7)))).bind fun b3=>some b3)
theorem wF {N:Nat}{a0:Mg}{a1:Bool}{r:Bool}(h:pn N a0 a1=some r):Okc Tryz.prog 116 [(aZ a0),.bool a1] ([]) (fun u post=>u=.bool r∧post=[]):=by
 refine br Tryz.func116 J J ?_;simp only [aS];refine Y ?_;refine gD (aL J J) ?_;rintro _ _ ⟨B1,rfl,rfl⟩;refine Y ?_;refine az ?_;refine Y ?_;refine au J (fun g2=> ?_) (fun g2=> ?_)
 ·replace h:=ah g2 h;refine Y ?_;refine gR (ab (us:=av a0) 0 J J aD J) ?_;refine gE (bd J (eM)) ?_;refine gE (mq (x:=a0) (y:=(⟨0,0,⟨#[]⟩⟩:Mg)) J J) ?_;refine Y ?_;obtain rfl:=ap h;exact aO J J (cS [] 1) ⟨J,J⟩
 replace h:=ai g2 h;refine Y ?_;obtain ⟨b3,hb3,h⟩:=aa h;refine aN 4 17 b3 ?_ ?_
 ·clear h;refine aK 13 J (fun g3=> ?_) (fun g3=> ?_)
  ·have h:=ah g3 hb3;refine Y ?_;obtain rfl:=ap h;exact ad sA (cS [0] 1)
  have h:=ai g3 hb3;refine Y ?_;obtain rfl:=ap h;exact ad sA (cS [0] 1)
 refine Y ?_;obtain rfl:=ap h;exact aO J J (cS [] 1) ⟨J,J⟩
theorem tY {r:Bool}: ∀v post,((fun (u:Value) (post:List Chunk)=>u=.bool r∧post=[])) v post→ ∀c∈post,bV c:=by
 rintro _ _ ⟨rfl,rfl⟩;exact ac
def lp (N:Nat)(a0:Me):Option Bool:=
 (bif decide (a0.Attrs<0) then (some true) else (some (decide (15<a0.Attrs)))).bind fun b2=>bif b2 then (some false) else ((oZ N a0.Attrs 8).bind fun y4=>bif y4 then ((oZ N a0.Attrs 1).bind fun y6=>(bif !y6 then (some (decide (a0.Value=(⟨0,0,⟨#[]⟩⟩:Mg)))) else (some false)).bind fun b7=>(bif b7 then ((pn N a0.Get true).bind fun y9=>some y9) else (some false)).bind fun b8=>(bif b8 then ((pn N a0.Set true).bind fun y11=>some y11) else (some false)).bind fun b10=>some b10) else ((bif decide (a0.Get=(⟨0,0,⟨#[]⟩⟩:Mg)) then (some (decide (a0.Set=(⟨0,0,⟨#[]⟩⟩:Mg)))) else (some false)).bind fun b12=>(bif b12 then (some (decide (0≤a0.Value.Kind))) else (some false)).bind fun b13=>(bif b13 then (some (decide (a0.Value.Kind≤7))) else (some false)).bind fun b14=>some b14))
set_option maxHeartbeats 4000000 in
theorem vW {N:Nat}{a0:Me}{r:Bool}(h:lp N a0=some r):Okc Tryz.prog 132 [(bA a0)] ([]) (fun u post=>u=.bool r∧post=[]):=by
 refine br Tryz.func132 J J ?_;simp only [aS];refine Y ?_;refine gD (aL J J) ?_;rintro _ _ ⟨B1,rfl,rfl⟩;refine Y ?_;refine az ?_;refine Y ?_;obtain ⟨b2,hb2,h⟩:=aa h;refine aN 4 10 b2 ?_ ?_
 ·clear h;refine aK 6 J (fun g2=> ?_) (fun g2=> ?_)
  ·have h:=ah g2 hb2;refine Y ?_;obtain rfl:=ap h;exact ad sA (cS [0] 1)
  have h:=ai g2 hb2;refine Y ?_;obtain rfl:=ap h;exact ad sA (cS [0] 1)
 refine Y ?_;refine au J (fun g3=> ?_) (fun g3=> ?_)
 ·replace h:=ah g3 h;refine Y ?_;obtain rfl:=ap h;exact aO J J (cS [] 1) ⟨J,J⟩
 replace h:=ai g3 h;refine Y ?_;refine az ?_;refine Y ?_;obtain ⟨y4,hy4,h⟩:=aa h;refine gD (al (uj hy4) Bz J (ac) rm) ?_;rintro _ _ ⟨_,⟨rfl,rfl⟩,rfl⟩;refine Y ?_;refine au J (fun g5=> ?_) (fun g5=> ?_)
 ·replace h:=ah g5 h;refine Y ?_;obtain ⟨y6,hy6,h⟩:=aa h;refine gD (al (uj hy6) Bz J (ac) rm) ?_;rintro _ _ ⟨_,⟨rfl,rfl⟩,rfl⟩;refine Y ?_;obtain ⟨b7,hb7,h⟩:=aa h;refine aN 5 23 b7 ?_ ?_
  ·clear h;refine aK 18 J (fun g7=> ?_) (fun g7=> ?_)
   ·have h:=ah g7 hb7;refine Y ?_;refine ci (ab (us:=av a0.Value) 0 J J aD J) J (bq g7 J) J ?_;refine d3 (bd J (eM)) J (bq g7 J) J ?_;refine d3 (mq (x:=a0.Value) (y:=(⟨0,0,⟨#[]⟩⟩:Mg)) J J) J (bq g7 J) J ?_;refine Y ?_;obtain rfl:=ap h;exact ad sA (cS [0] 1)
   have h:=ai g7 hb7;refine Y ?_;obtain rfl:=ap h;exact ad sA (cS [0] 1)
  refine Y ?_;obtain ⟨b8,hb8,h⟩:=aa h;refine aN 4 28 b8 ?_ ?_
  ·clear h;refine aK 24 J (fun g8=> ?_) (fun g8=> ?_)
   ·have h:=ah g8 hb8;refine Y ?_;refine ci (ab (us:=av a0.Get) 0 J J aD J) J (bq g8 J) J ?_;obtain ⟨y9,hy9,h⟩:=aa h;refine cr (al (wF hy9) EI J (ac) tY) J (bq g8 J) J ?_;rintro _ _ ⟨_,⟨rfl,rfl⟩,rfl⟩;refine Y ?_;obtain rfl:=ap h;exact ad sA (cS [0] 1)
   have h:=ai g8 hb8;refine Y ?_;obtain rfl:=ap h;exact ad sA (cS [0] 1)
  refine Y ?_;obtain ⟨b10,hb10,h⟩:=aa h;refine aN 4 33 b10 ?_ ?_
  ·clear h;refine aK 29 J (fun g10=> ?_) (fun g10=> ?_)
   ·have h:=ah g10 hb10;refine Y ?_;refine ci (ab (us:=av a0.Set) 0 J J aD J) J (bq g10 J) J ?_;obtain ⟨y11,hy11,h⟩:=aa h;refine cr (al (wF hy11) EI J (ac) tY) J (bq g10 J) J ?_;rintro _ _ ⟨_,⟨rfl,rfl⟩,rfl⟩;refine Y ?_;obtain rfl:=ap h;exact ad sA (cS [0] 1)
   have h:=ai g10 hb10;refine Y ?_;obtain rfl:=ap h;exact ad sA (cS [0] 1)
  refine Y ?_;obtain rfl:=ap h;exact aO J J (cS [] 1) ⟨J,J⟩
 replace h:=ai g5 h;refine Y ?_;refine gR (ab (us:=av a0.Get) 0 J J aD J) ?_;refine gE (bd J (eM)) ?_;refine gE (mq (x:=a0.Get) (y:=(⟨0,0,⟨#[]⟩⟩:Mg)) J J) ?_;refine Y ?_;obtain ⟨b12,hb12,h⟩:=aa h;refine aN 5 43 b12 ?_ ?_
 ·clear h;refine aK 38 J (fun g12=> ?_) (fun g12=> ?_)
  ·have h:=ah g12 hb12;refine Y ?_;refine ci (ab (us:=av a0.Set) 0 J J aD J) J (bq g12 J) J ?_;refine d3 (bd J (eM)) J (bq g12 J) J ?_;refine d3 (mq (x:=a0.Set) (y:=(⟨0,0,⟨#[]⟩⟩:Mg)) J J) J (bq g12 J) J ?_;refine Y ?_;obtain rfl:=ap h;exact ad sA (cS [0] 1)
  have h:=ai g12 hb12;refine Y ?_;obtain rfl:=ap h;exact ad sA (cS [0] 1)
 refine Y ?_;obtain ⟨b13,hb13,h⟩:=aa h;refine aN 5 49 b13 ?_ ?_
 ·clear h;refine aK 44 J (fun g13=> ?_) (fun g13=> ?_)
  ·have h:=ah g13 hb13;refine Y ?_;obtain rfl:=ap h;exact ad sA (cS [0] 1)
  have h:=ai g13 hb13;refine Y ?_;obtain rfl:=ap h;exact ad sA (cS [0] 1)
 refine Y ?_;obtain ⟨b14,hb14,h⟩:=aa h;refine aN 5 55 b14 ?_ ?_
 ·clear h;refine aK 50 J (fun g14=> ?_) (fun g14=> ?_)
  ·have h:=ah g14 hb14;refine Y ?_;obtain rfl:=ap h;exact ad sA (cS [0] 1)
  have h:=ai g14 hb14;refine Y ?_;obtain rfl:=ap h;exact ad sA (cS [0] 1)
 refine Y ?_;obtain rfl:=ap h;exact aO J J (cS [] 1) ⟨J,J⟩
theorem uk {r:Bool}: ∀v post,((fun (u:Value) (post:List Chunk)=>u=.bool r∧post=[])) v post→ ∀c∈post,bV c:=by
 rintro _ _ ⟨rfl,rfl⟩;exact ac
end Go.Proofs.YtanojiedimeegaaGreatDoor