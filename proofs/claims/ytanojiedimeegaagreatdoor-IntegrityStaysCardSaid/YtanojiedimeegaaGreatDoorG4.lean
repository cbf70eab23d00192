/- Merged texts: part 4. No conditions of their own. -/
import Derived.Test.YtanojiedimeegaaGreatDoorG3
namespace Go.Proofs.YtanojiedimeegaaGreatDoor
theorem Ex:type_of% Tryz.underlying36:=Tryz.underlying36
theorem hU:type_of% Tryz.underlying195:=Tryz.underlying195
variable {A1 A10 A12 A13 A14 A15 A16 A2 A3 A4 A5 A6 A8 A9:Option Addr} {B1 B2 B6 B7 B9 M11 M7 M8 c1 c10 c12 c13 c14 c15 c16 c2 c3 c4 c5 c6 c8 c9 n1 n10 n12 n13 n14 n15 n16 n2 n3 n4 n5 n6 n8 n9:Nat}
open Go.RowKit Asn
set_option maxRecDepth 20000
def ke (N:Nat)(a0:Int)(a1:(List MQ))(p5:Bool):Option Bool:=
 bif p5 then (some (decide ((a1.length:Int)=0))) else (bif decide (a0=3) then ((bif decide ((a1.length:Int)=3) then ((bR a1 0).bind fun x10=>(iI N x10 0 9007199254740992).bind fun y11=>some y11) else (some false)).bind fun b9=>(bif b9 then ((bR a1 1).bind fun x13=>(fX N x13 9).bind fun y14=>some y14) else (some false)).bind fun b12=>some b12) else (bif decide (a0=4) then ((bif decide (1≤(a1.length:Int)) then (some (decide ((a1.length:Int)≤4097))) else (some false)).bind fun b16=>(bif b16 then ((bR a1 0).bind fun x18=>(fX N x18 9).bind fun y19=>some y19) else (some false)).bind fun b17=>some b17) else (bif decide (a0=6) then ((bif decide ((a1.length:Int)=2) then ((bR a1 0).bind fun x22=>(iI N x22 0 3).bind fun y23=>some y23) else (some false)).bind fun b21=>(bif b21 then ((bR a1 1).bind fun x25=>(fX N x25 9).bind fun y26=>some y26) else (some false)).bind fun b24=>some b24) else (bif decide (a0=7) then ((bif decide (4≤(a1.length:Int)) then ((bR a1 2).bind fun x29=>(iI N x29 0 1).bind fun y30=>some y30) else (some false)).bind fun b28=>(bif b28 then ((bR a1 3).bind fun x32=>(iI N x32 0 9007199254740992).bind fun y33=>some y33) else (some false)).bind fun b31=>some b31) else (bif decide (a0=8) then ((la N a1 2).bind fun y35=>some y35) else (bif decide (a0=10) then ((bif decide (1≤(a1.length:Int)) then ((bR a1 0).bind fun x38=>some (decide (x38.Kind=7))) else (some false)).bind fun b37=>(bif b37 then (dq ((0:Int)≤1∧(1:Int).toNat≤a1.length∧a1.length≤a1.length) ((la N ((a1.drop ((1:Int).toNat)).take (a1.length - (1:Int).toNat)) 4).bind fun y42=>some y42)) else (some false)).bind fun b39=>some b39) else (bif decide (a0=9) then ((bif decide (2≤(a1.length:Int)) then ((bR a1 0).bind fun x45=>(iI N x45 0 2).bind fun y46=>some y46) else (some false)).bind fun b44=>some b44) else (some true))))))))
def jd (N:Nat)(a0:Int)(a1:(List MQ)):Option Bool:=
 bif decide (1048576<(a1.length:Int)) then (some false) else (bif decide (a0=2) then (some (decide ((a1.length:Int)≤4096))) else (bif decide (a0=1) then (ke N a0 a1 (decide (a0=1))) else (ke N a0 a1 (decide (a0=5)))))
set_option maxHeartbeats 4000000 in
theorem ua {N:Nat}{a0:Int}{a1:(List MQ)}{r:Bool}(h:jd N a0 a1=some r):Okc Tryz.prog 228 [iV a0,I A1 n1 c1] ([dV A1 n1 c1 a1]) (fun u post=>u=.bool r∧post=[]):=by
 refine bD Tryz.func228 J J ?_;simp only [aW];refine U ?_;refine aB ?_;refine U ?_;refine gR (bL 0 J aS J hE) ?_;refine U ?_;refine gH J h (fun h=> ?_) (fun h=> ?_)
 ·refine U ?_;obtain rfl:=am h;exact aL J J (cS [] 1) ⟨J,J⟩
 refine U ?_;refine aB ?_;refine U ?_;refine gH J h (fun h=> ?_) (fun h=> ?_)
 ·refine U ?_;refine gR (bL 0 J aS J hE) ?_;refine U ?_;obtain rfl:=am h;exact aL J J (cS [] 1) ⟨J,J⟩
 refine ba (fun s L=> ∃p5,ke N a0 a1 p5=some r∧s=[(1,I A1 n1 c1),(4,.bool false),(8,iV a0),(14,.bool p5)]∧L=[dV A1 n1 c1 a1]) ?_ ?_
 ·refine U ?_;refine gH J h (fun h=> ?_) (fun h=> ?_)
  ·refine U ?_;exact ⟨_,_,⟨decide (a0=1),h,J,J⟩,sA,cS [0] 1⟩
  refine U ?_;exact ⟨_,_,⟨decide (a0=5),h,J,J⟩,sA,cS [0] 1⟩
 rintro _ _ ⟨p5,h,rfl,rfl⟩;refine gH J h (fun h=> ?_) (fun h=> ?_)
 ·refine U ?_;refine gR (bL 0 J aS J hE) ?_;refine U ?_;obtain rfl:=am h;exact aL J J (cS [] 1) ⟨J,J⟩
 refine U ?_;refine gH J h (fun h=> ?_) (fun h=> ?_)
 ·refine U ?_;refine gR (bL 0 J aS J hE) ?_;refine U ?_;obtain ⟨b9,hb9,h⟩:=aa h;refine aK 5 30 b9 ?_ ?_
  ·clear h;refine aI 25 J (fun g9=> ?_) (fun g9=> ?_)
   ·have h:=aE g9 hb9;refine U ?_;obtain ⟨x10,hx10,h⟩:=aa h;obtain ⟨lx10,ux10,hx10⟩:=aJ hx10;refine cp (bx 0 J aS J J hE bv lx10 ux10) J (bp g9 J) J ?_;refine cp (bA (us:=[iV x10.Kind,iV x10.N,.string x10.S]) 0 J aS J hx10 aH (fun _ _ _ h=>by rw [show _=_ from h];rfl)) J (bp g9 J) J ?_;obtain ⟨y11,k,h⟩:=aa h;refine gU (ap (jc k) sc J (aj) gL) (bp g9 J) ?_;refine U ?_;obtain rfl:=am h;exact ad sA (cS [0] 1)
   have h:=aF g9 hb9;refine U ?_;obtain rfl:=am h;exact ad sA (cS [0] 1)
  refine U ?_;obtain ⟨b12,hb12,h⟩:=aa h;refine aK 5 36 b12 ?_ ?_
  ·clear h;refine aI 31 J (fun g12=> ?_) (fun g12=> ?_)
   ·have h:=aE g12 hb12;refine U ?_;obtain ⟨x13,hx13,h⟩:=aa h;obtain ⟨lx13,ux13,hx13⟩:=aJ hx13;refine cp (bx 0 J aS J J hE bv lx13 ux13) J (bp g12 J) J ?_;refine cp (bA (us:=[iV x13.Kind,iV x13.N,.string x13.S]) 0 J aS J hx13 aH (fun _ _ _ h=>by rw [show _=_ from h];rfl)) J (bp g12 J) J ?_;obtain ⟨y14,k,h⟩:=aa h;refine gU (ap (jb k) sd J (aj) gK) (bp g12 J) ?_;refine U ?_;obtain rfl:=am h;exact ad sA (cS [0] 1)
   have h:=aF g12 hb12;refine U ?_;obtain rfl:=am h;exact ad sA (cS [0] 1)
  refine U ?_;obtain rfl:=am h;exact aL J J (cS [] 1) ⟨J,J⟩
 refine U ?_;refine gH J h (fun h=> ?_) (fun h=> ?_)
 ·refine U ?_;refine gR (bL 0 J aS J hE) ?_;refine U ?_;obtain ⟨b16,hb16,h⟩:=aa h;refine aK 4 46 b16 ?_ ?_
  ·clear h;refine aI 42 J (fun g16=> ?_) (fun g16=> ?_)
   ·have h:=aE g16 hb16;refine U ?_;refine cp (bL 0 J aS J hE) J (bp g16 J) J ?_;refine U ?_;obtain rfl:=am h;exact ad sA (cS [0] 1)
   have h:=aF g16 hb16;refine U ?_;obtain rfl:=am h;exact ad sA (cS [0] 1)
  refine U ?_;obtain ⟨b17,hb17,h⟩:=aa h;refine aK 5 52 b17 ?_ ?_
  ·clear h;refine aI 47 J (fun g17=> ?_) (fun g17=> ?_)
   ·have h:=aE g17 hb17;refine U ?_;obtain ⟨x18,hx18,h⟩:=aa h;obtain ⟨lx18,ux18,hx18⟩:=aJ hx18;refine cp (bx 0 J aS J J hE bv lx18 ux18) J (bp g17 J) J ?_;refine cp (bA (us:=[iV x18.Kind,iV x18.N,.string x18.S]) 0 J aS J hx18 aH (fun _ _ _ h=>by rw [show _=_ from h];rfl)) J (bp g17 J) J ?_;obtain ⟨y19,k,h⟩:=aa h;refine gU (ap (jb k) sd J (aj) gK) (bp g17 J) ?_;refine U ?_;obtain rfl:=am h;exact ad sA (cS [0] 1)
   have h:=aF g17 hb17;refine U ?_;obtain rfl:=am h;exact ad sA (cS [0] 1)
  refine U ?_;obtain rfl:=am h;exact aL J J (cS [] 1) ⟨J,J⟩
 refine U ?_;refine gH J h (fun h=> ?_) (fun h=> ?_)
 ·refine U ?_;refine gR (bL 0 J aS J hE) ?_;refine U ?_;obtain ⟨b21,hb21,h⟩:=aa h;refine aK 5 63 b21 ?_ ?_
  ·clear h;refine aI 58 J (fun g21=> ?_) (fun g21=> ?_)
   ·have h:=aE g21 hb21;refine U ?_;obtain ⟨x22,hx22,h⟩:=aa h;obtain ⟨lx22,ux22,hx22⟩:=aJ hx22;refine cp (bx 0 J aS J J hE bv lx22 ux22) J (bp g21 J) J ?_;refine cp (bA (us:=[iV x22.Kind,iV x22.N,.string x22.S]) 0 J aS J hx22 aH (fun _ _ _ h=>by rw [show _=_ from h];rfl)) J (bp g21 J) J ?_;obtain ⟨y23,k,h⟩:=aa h;refine gU (ap (jc k) sc J (aj) gL) (bp g21 J) ?_;refine U ?_;obtain rfl:=am h;exact ad sA (cS [0] 1)
   have h:=aF g21 hb21;refine U ?_;obtain rfl:=am h;exact ad sA (cS [0] 1)
  refine U ?_;obtain ⟨b24,hb24,h⟩:=aa h;refine aK 5 69 b24 ?_ ?_
  ·clear h;refine aI 64 J (fun g24=> ?_) (fun g24=> ?_)
   ·have h:=aE g24 hb24;refine U ?_;obtain ⟨x25,hx25,h⟩:=aa h;obtain ⟨lx25,ux25,hx25⟩:=aJ hx25;refine cp (bx 0 J aS J J hE bv lx25 ux25) J (bp g24 J) J ?_;refine cp (bA (us:=[iV x25.Kind,iV x25.N,.string x25.S]) 0 J aS J hx25 aH (fun _ _ _ h=>by rw [show _=_ from h];rfl)) J (bp g24 J) J ?_;obtain ⟨y26,k,h⟩:=aa h;refine gU (ap (jb k) sd J (aj) gK) (bp g24 J) ?_;refine U ?_;obtain rfl:=am h;exact ad sA (cS [0] 1)
   have h:=aF g24 hb24;refine U ?_;obtain rfl:=am h;exact ad sA (cS [0] 1)
  refine U ?_;obtain rfl:=am h;exact aL J J (cS [] 1) ⟨J,J⟩
 refine U ?_;refine gH J h (fun h=> ?_) (fun h=> ?_)
 ·refine U ?_;refine gR (bL 0 J aS J hE) ?_;refine U ?_;obtain ⟨b28,hb28,h⟩:=aa h;refine aK 5 80 b28 ?_ ?_
  ·clear h;refine aI 75 J (fun g28=> ?_) (fun g28=> ?_)
   ·have h:=aE g28 hb28;refine U ?_;obtain ⟨x29,hx29,h⟩:=aa h;obtain ⟨lx29,ux29,hx29⟩:=aJ hx29;refine cp (bx 0 J aS J J hE bv lx29 ux29) J (bp g28 J) J ?_;refine cp (bA (us:=[iV x29.Kind,iV x29.N,.string x29.S]) 0 J aS J hx29 aH (fun _ _ _ h=>by rw [show _=_ from h];rfl)) J (bp g28 J) J ?_;obtain ⟨y30,k,h⟩:=aa h;refine gU (ap (jc k) sc J (aj) gL) (bp g28 J) ?_;refine U ?_;obtain rfl:=am h;exact ad sA (cS [0] 1)
   have h:=aF g28 hb28;refine U ?_;obtain rfl:=am h;exact ad sA (cS [0] 1)
  refine U ?_;obtain ⟨b31,hb31,h⟩:=aa h;refine aK 5 86 b31 ?_ ?_
  ·clear h;refine aI 81 J (fun g31=> ?_) (fun g31=> ?_)
   ·have h:=aE g31 hb31;refine U ?_;obtain ⟨x32,hx32,h⟩:=aa h;obtain ⟨lx32,ux32,hx32⟩:=aJ hx32;refine cp (bx 0 J aS J J hE bv lx32 ux32) J (bp g31 J) J ?_;refine cp (bA (us:=[iV x32.Kind,iV x32.N,.string x32.S]) 0 J aS J hx32 aH (fun _ _ _ h=>by rw [show _=_ from h];rfl)) J (bp g31 J) J ?_;obtain ⟨y33,k,h⟩:=aa h;refine gU (ap (jc k) sc J (aj) gL) (bp g31 J) ?_;refine U ?_;obtain rfl:=am h;exact ad sA (cS [0] 1)
   have h:=aF g31 hb31;refine U ?_;obtain rfl:=am h;exact ad sA (cS [0] 1)
  refine U ?_;obtain rfl:=am h;exact aL J J (cS [] 1) ⟨J,J⟩
 refine U ?_;refine gH J h (fun h=> ?_) (fun h=> ?_)
 ·refine U ?_;obtain ⟨y35,k,h⟩:=aa h;refine gV (ap (nm k) DG J (hD (al (i:=0) J J) aj) mj) ?_;refine U ?_;obtain rfl:=am h;exact aL J J (cS [] 1) ⟨J,J⟩
 refine U ?_;refine gH J h (fun h=> ?_) (fun h=> ?_)
 ·refine U ?_;refine gR (bL 0 J aS J hE) ?_;refine U ?_;obtain ⟨b37,hb37,h⟩:=aa h;refine aK 6 102 b37 ?_ ?_
  ·clear h;refine aI 96 J (fun g37=> ?_) (fun g37=> ?_)
   ·have h:=aE g37 hb37;refine U ?_;obtain ⟨x38,hx38,h⟩:=aa h;obtain ⟨lx38,ux38,hx38⟩:=aJ hx38;refine cp (bx 0 J aS J J hE bv lx38 ux38) J (bp g37 J) J ?_;refine cp (pn 0 J aS J (toNat_lt lx38 ux38) nW) J (bp g37 J) J ?_;refine cp (fB (u:=iV x38.Kind) 0 J aS J hx38 dH (fun _ _ _ h=>by rw [show _=_ from h];rfl)) J (bp g37 J) J ?_;refine U ?_;obtain rfl:=am h;exact ad sA (cS [0] 1)
   have h:=aF g37 hb37;refine U ?_;obtain rfl:=am h;exact ad sA (cS [0] 1)
  refine U ?_;obtain ⟨b39,hb39,h⟩:=aa h;refine aK 4 107 b39 ?_ ?_
  ·clear h;refine aI 103 J (fun g39=> ?_) (fun g39=> ?_)
   ·have h:=aE g39 hb39;refine U ?_;obtain ⟨q40,h⟩:=ay h;refine Jy 0 J (l:=(1:Int).toNat) (h:=a1.length) q40.2.1 q40.2.2 ?_;rintro A41 n41 c41 e41;refine cp (wa 1 J e41 J hE bv J (by rw [Int.toNat_of_nonneg q40.1];rfl) q40.2.1) J (bp g39 J) J ?_;obtain ⟨y42,k,h⟩:=aa h;refine gU (ap (nm k) DG J (hD (al (i:=0) J J) aj) mj) (bp g39 J) ?_;refine U ?_;obtain rfl:=am h;exact ad sA (cS [1] 2)
   have h:=aF g39 hb39;refine U ?_;obtain rfl:=am h;exact ad sA (cS [0] 1)
  refine U ?_;obtain rfl:=am h;exact aL J J (cS [] 1) ⟨J,J⟩
 refine U ?_;refine gH J h (fun h=> ?_) (fun h=> ?_)
 ·refine U ?_;refine gR (bL 0 J aS J hE) ?_;refine U ?_;obtain ⟨b44,hb44,h⟩:=aa h;refine aK 5 118 b44 ?_ ?_
  ·clear h;refine aI 113 J (fun g44=> ?_) (fun g44=> ?_)
   ·have h:=aE g44 hb44;refine U ?_;obtain ⟨x45,hx45,h⟩:=aa h;obtain ⟨lx45,ux45,hx45⟩:=aJ hx45;refine cp (bx 0 J aS J J hE bv lx45 ux45) J (bp g44 J) J ?_;refine cp (bA (us:=[iV x45.Kind,iV x45.N,.string x45.S]) 0 J aS J hx45 aH (fun _ _ _ h=>by rw [show _=_ from h];rfl)) J (bp g44 J) J ?_;obtain ⟨y46,k,h⟩:=aa h;refine gU (ap (jc k) sc J (aj) gL) (bp g44 J) ?_;refine U ?_;obtain rfl:=am h;exact ad sA (cS [0] 1)
   have h:=aF g44 hb44;refine U ?_;obtain rfl:=am h;exact ad sA (cS [0] 1)
  refine U ?_;obtain rfl:=am h;exact aL J J (cS [] 1) ⟨J,J⟩
 refine U ?_;obtain rfl:=am h;exact aL J J (cS [] 1) ⟨J,J⟩
theorem su {r:Bool}:∀(u:Value)(p:List Chunk),u=.bool r∧p=[]→∀c∈p,cM c:=by
 rintro _ _ ⟨rfl,rfl⟩;exact aj
def cY (N:Nat)(a0:MY)(x14:Bool×MQ):(Unit)→Option (Option Exit×Unit)
 |()=>(iJ N x14.2).bind fun y17=>bif !y17 then (some (some .ret,())) else (some (none,()))
def dD (N:Nat)(a0:MY):Option Bool:=
 (bif decide (a0.Kind<1) then (some true) else (some (decide (11<a0.Kind)))).bind fun b5=>(bif b5 then (some true) else (some (decide (a0.Shape<0)))).bind fun b6=>(bif b6 then (some true) else (some (decide (a0.Flags<0)))).bind fun b7=>(bif b7 then (some true) else (some (decide (63<a0.Flags)))).bind fun b8=>(bif b8 then (some true) else ((bif !decide (a0.Age=0) then (some (!decide (a0.Age=1))) else (some false)).bind fun b10=>some b10)).bind fun b9=>bif b9 then (some false) else ((tg N a0).bind fun y12=>(iK N a0 (jW (fun x st=>cY N a0 x st)) (none,())).bind fun y15=>xT y15.1 ((fq N a0).bind fun y19=>(bif y19 then ((jd N a0.Kind a0.More).bind fun y21=>some y21) else (some false)).bind fun b20=>some b20) (some false) (fun _=>none))
set_option maxHeartbeats 4000000 in
theorem pz {N:Nat}{a0:MY}{r:Bool}(h:dD N a0=some r):Okc Tryz.prog 204 [.agg #[iV a0.Kind,iV a0.Shape,iV a0.Flags,iV a0.Age,I A1 n1 c1,I A2 n2 c2]] ([dV A1 n1 c1 a0.Slots,dV A2 n2 c2 a0.More]) (fun u post=>u=.bool r∧post=[]):=by
 refine bD Tryz.func204 J J ?_;simp only [aW];refine U ?_
 refine gB (aO J J) fun B3=> ?_
 refine gB (aM Jc J) fun B4=> ?_
 refine U ?_;refine aB ?_;refine U ?_;obtain ⟨b5,hb5,h⟩:=aa h;refine aK 4 12 b5 ?_ ?_
 ·clear h;refine aI 8 J (fun g5=> ?_) (fun g5=> ?_)
  ·have h:=aE g5 hb5;refine U ?_;obtain rfl:=am h;exact ad sA (cS [0,1,2,3] 4)
  have h:=aF g5 hb5;refine U ?_;obtain rfl:=am h;exact ad sA (cS [0,1,2,3] 4)
 refine U ?_;obtain ⟨b6,hb6,h⟩:=aa h;refine aK 4 17 b6 ?_ ?_
 ·clear h;refine aI 13 J (fun g6=> ?_) (fun g6=> ?_)
  ·have h:=aE g6 hb6;refine U ?_;obtain rfl:=am h;exact ad sA (cS [0,1,2,3] 4)
  have h:=aF g6 hb6;refine U ?_;obtain rfl:=am h;exact ad sA (cS [0,1,2,3] 4)
 refine U ?_;obtain ⟨b7,hb7,h⟩:=aa h;refine aK 4 22 b7 ?_ ?_
 ·clear h;refine aI 18 J (fun g7=> ?_) (fun g7=> ?_)
  ·have h:=aE g7 hb7;refine U ?_;obtain rfl:=am h;exact ad sA (cS [0,1,2,3] 4)
  have h:=aF g7 hb7;refine U ?_;obtain rfl:=am h;exact ad sA (cS [0,1,2,3] 4)
 refine U ?_;obtain ⟨b8,hb8,h⟩:=aa h;refine aK 4 27 b8 ?_ ?_
 ·clear h;refine aI 23 J (fun g8=> ?_) (fun g8=> ?_)
  ·have h:=aE g8 hb8;refine U ?_;obtain rfl:=am h;exact ad sA (cS [0,1,2,3] 4)
  have h:=aF g8 hb8;refine U ?_;obtain rfl:=am h;exact ad sA (cS [0,1,2,3] 4)
 refine U ?_;obtain ⟨b9,hb9,h⟩:=aa h;refine aK 9 37 b9 ?_ ?_
 ·clear h;refine aI 28 J (fun g9=> ?_) (fun g9=> ?_)
  ·have h:=aE g9 hb9;refine U ?_;obtain rfl:=am h;exact ad sA (cS [0,1,2,3] 4)
  have h:=aF g9 hb9;refine U ?_;obtain ⟨b10,hb10,h⟩:=aa h;refine aK 4 36 b10 ?_ ?_
  ·clear h;refine aI 32 J (fun g10=> ?_) (fun g10=> ?_)
   ·have h:=aE g10 hb10;refine U ?_;obtain rfl:=am h;exact ad sA (cS [0,1,2,3] 4)
   have h:=aF g10 hb10;refine U ?_;obtain rfl:=am h;exact ad sA (cS [0,1,2,3] 4)
  refine U ?_;obtain rfl:=am h;exact ad sA (cS [0,1,2,3] 4)
 refine U ?_;refine gH J h (fun h=> ?_) (fun h=> ?_)
 ·refine U ?_;refine gW (ar (us:=[.bool false]) (cs':=[.bool false]) 0 J J J J wH J J J) ?_;refine U ?_;obtain rfl:=am h;exact cD (rs:=[.cell 2 4]) (vs:=[.bool false]) J (.cons (rU 0 J J Bq) .nil) J (cS [] 4) ⟨J,J⟩
 refine U ?_;refine aB ?_;refine U ?_;refine gR (ah (us:=[iV a0.Kind,iV a0.Shape,iV a0.Flags,iV a0.Age,I A1 n1 c1,I A2 n2 c2]) 1 J J cq J) ?_;obtain ⟨y12,k,h⟩:=aa h;refine gD (ap (vD k) DK J (hD (al (i:=2) J J) (hD (al (i:=3) J J) aj)) sM) ?_;rintro _ _ ⟨_,⟨B13,rfl,rfl⟩,rfl⟩;refine kU ?_;refine fa ?_;refine iQ ?_ bU (pP 0 J);obtain ⟨y15,k,h⟩:=aa h;refine yg (en:=(fun x=> [.bool x.1,.agg #[iV x.2.Kind,iV x.2.N,.string x.2.S]])) (fun x st=>cY N a0 x st) (fun (st:Unit) (mz:Unit)=> [dV A1 n1 c1 a0.Slots,dV A2 n2 c2 a0.More,ac B3 138 [iV a0.Kind,iV a0.Shape,iV a0.Flags,iV a0.Age,I A1 n1 c1,I A2 n2 c2],ac B4 4 [.bool false]]) [aT B13 138 [iV a0.Kind,iV a0.Shape,iV a0.Flags,iV a0.Age,I A1 n1 c1,I A2 n2 c2],dV A1 n1 c1 a0.Slots,dV A2 n2 c2 a0.More] (()) (()) J J DH J (fun _=>J) (fun l G hY=>(rE k hY).mono fun _ _ hh=>hh.2) (az [0,3,4] [] [3,4,2,1] 5 J) h ?_ ?_ ?_ ?_
 ·rintro l x14 _ je sr14 _ h;replace h:cY N a0 x14 ()=some (je,sr14):=h;simp only [yv,List.zip_cons_cons,List.zip_nil_left,List.zip_nil_right,List.reverse_cons,List.reverse_nil,List.nil_append,List.cons_append];refine gj ?_
  refine gB (aM gw J) fun B16=> ?_
  refine gW (ar (us:=[iV x14.2.Kind,iV x14.2.N,.string x14.2.S]) (cs':=[iV x14.2.Kind,iV x14.2.N,.string x14.2.S]) 0 J J J J bv J J J) ?_;refine bM ?_;refine U ?_;refine gR (ah (us:=[iV x14.2.Kind,iV x14.2.N,.string x14.2.S]) 0 J J aH J) ?_;obtain ⟨y17,k,h⟩:=aa h;refine gV (ap (BT k) Iq J (aj) yy) ?_;refine U ?_;refine gH J h (fun h=> ?_) (fun h=> ?_)
  ·refine U ?_;refine gW (ar (us:=[.bool false]) (cs':=[.bool false]) 4 J J J J wH J J J) ?_;refine U ?_;obtain ⟨rfl,rfl⟩:=Prod.mk.inj (Option.some.inj h);exact C1 ((cS [1,2,3,4] 5).trans (lm () J))
  refine U ?_;obtain ⟨rfl,rfl⟩:=Prod.mk.inj (Option.some.inj h);exact G3 ((cS [1,2,3,4] 5).trans (lm () J))
 ·rintro _ h;refine sj ([dV A1 n1 c1 a0.Slots,dV A2 n2 c2 a0.More,ac B3 138 [iV a0.Kind,iV a0.Shape,iV a0.Flags,iV a0.Age,I A1 n1 c1,I A2 n2 c2],ac B4 4 [.bool false]]) J ?_;refine U ?_;refine gR (ah (us:=[iV a0.Kind,iV a0.Shape,iV a0.Flags,iV a0.Age,I A1 n1 c1,I A2 n2 c2]) 2 J J cq J) ?_;obtain ⟨y19,k,h⟩:=aa h;refine gV (ap (tf k) Ip J (hD (al (i:=0) J J) (hD (al (i:=1) J J) aj)) rD) ?_;refine U ?_;obtain ⟨b20,hb20,h⟩:=aa h;refine aK 6 53 b20 ?_ ?_
  ·clear h;refine aI 47 J (fun g20=> ?_) (fun g20=> ?_)
   ·have h:=aE g20 hb20;refine U ?_;obtain ⟨y21,k,h⟩:=aa h;refine gU (ap (ua k) Io J (hD (al (i:=1) J J) aj) su) (bp g20 J) ?_;refine U ?_;obtain rfl:=am h;exact ad sA (cS [0,1,2,3] 4)
   have h:=aF g20 hb20;refine U ?_;obtain rfl:=am h;exact ad sA (cS [0,1,2,3] 4)
  refine gW (ar (us:=[.bool b20]) (cs':=[.bool b20]) 3 J J J J wH J J J) ?_;refine U ?_;obtain rfl:=am h;exact cD (rs:=[.cell 2 4]) (vs:=[.bool b20]) J (.cons (rU 3 J J Bq) .nil) J (cS [] 4) ⟨J,J⟩
 ·rintro _ h;refine sj ([dV A1 n1 c1 a0.Slots,dV A2 n2 c2 a0.More,ac B3 138 [iV a0.Kind,iV a0.Shape,iV a0.Flags,iV a0.Age,I A1 n1 c1,I A2 n2 c2],ac B4 4 [.bool false]]) J ?_;refine U ?_;obtain rfl:=am h;exact cD (rs:=[.cell 2 4]) (vs:=[.bool false]) J (.cons (rU 3 J J Bq) .nil) J (cS [] 4) ⟨J,J⟩
 rintro i _ h;exact bu h
theorem nA {r:Bool}:∀(u:Value)(p:List Chunk),u=.bool r∧p=[]→∀c∈p,cM c:=by
 rintro _ _ ⟨rfl,rfl⟩;exact aj
def kj (N:Nat)(a0:(List MQ)):Option (List MQ):=
 dq (gQ (([]:List MQ).length+a0.length)) (some (([]:List MQ)++a0))
theorem qw {N:Nat}{a0:(List MQ)}{r:(List MQ)}(h:kj N a0=some r):Okc Tryz.prog 229 [I A1 n1 c1] ([dV A1 n1 c1 a0]) (fun u post=> ∃A0 n0 c0,u=I A0 n0 c0∧post=[aX A0 n0 c0 r]):=by
 refine bD Tryz.func229 J J ?_;simp only [aW];refine U ?_;refine aB ?_;refine U ?_;refine gE (BQ J hE) ?_;refine U ?_;refine C2 J (fun g2=> ?_) (fun g2=> ?_)
 ·replace g2:(A1).isNone=true:=by simpa using g2
  refine I9 0 J aS g2 (fun hx=> ?_);subst hx;replace h:dq (gQ (([]:List MQ).length+([]:List MQ).length)) (some (([]:List MQ)++([]:List MQ)))=some r:=h
  replace h:some []=some r:=by simpa [dq] using h
  refine U ?_;obtain rfl:=am h;exact aL J J ((gA cc 30 _).trans (cS [0] 2)) ⟨_,_,_,J,J⟩
 refine U ?_;refine gD (cx (R:=cc) (vss:=[]) (xs:=[]) J (GL) J J (fun _ _ hr=>All2.nil)) ?_;rintro _ _ ⟨A4,n4,c4,rfl,rfl⟩;refine U ?_;obtain ⟨q5,h⟩:=ay h;refine gD (ed 0 1 J J aS J J hE yi J J q5) ?_;rintro _ _ ⟨A6,n6,c6,rfl,rfl⟩;refine U ?_;obtain rfl:=am h;exact aL J J (cS [0] 2) ⟨_,_,_,J,J⟩
theorem oS {r:(List MQ)}:∀(u:Value)(p:List Chunk),(∃A0 n0 c0,u=I A0 n0 c0∧p=[aX A0 n0 c0 r])→∀c∈p,cM c:=by
 rintro _ _ ⟨_,_,_,rfl,rfl⟩;exact hD gb (aj)
def gI (N:Nat)(a0:MY):Option MY:=
 (kj N a0.Slots).bind fun y5=>(kj N a0.More).bind fun y7=>some (⟨a0.Kind,a0.Shape,a0.Flags,a0.Age,y5,y7⟩:MY)
theorem jx {N:Nat}{a0:MY}{r:MY}(h:gI N a0=some r):Okc Tryz.prog 205 [.agg #[iV a0.Kind,iV a0.Shape,iV a0.Flags,iV a0.Age,I A1 n1 c1,I A2 n2 c2]] ([dV A1 n1 c1 a0.Slots,dV A2 n2 c2 a0.More]) (fun u post=> ∃A0 n0 c0 A1 n1 c1,u=.agg #[iV r.Kind,iV r.Shape,iV r.Flags,iV r.Age,I A0 n0 c0,I A1 n1 c1]∧post=[aX A0 n0 c0 r.Slots,aX A1 n1 c1 r.More]):=by
 refine bD Tryz.func205 J J ?_;simp only [aW];refine U ?_
 refine gB (aO J J) fun B3=> ?_
 refine gB (aM gx J) fun B4=> ?_
 refine U ?_;refine aB ?_;refine bK V _ (ae _) ?_;refine zE 0 J (ci J kx) ?_;refine zR 1 J (aY 1 J J iO J) ?_;refine zE 3 J (ci J oH) ?_;refine zR 4 J (aY 1 J J iO J) ?_;obtain ⟨y5,k,h⟩:=aa h;refine zD 2 J (ap (qw k) DJ J (hD (al (i:=2) J J) aj) oS) ?_;rintro _ _ ⟨_,⟨A6,n6,c6,rfl,rfl⟩,rfl⟩;refine eg (cS [1,2,3,4] 5) ?_;refine zE 6 J (ci J kx) ?_;obtain ⟨y7,k,h⟩:=aa h;refine zD 5 J (ap (qw k) DJ J (hD (al (i:=4) J J) aj) oS) ?_;rintro _ _ ⟨_,⟨A8,n8,c8,rfl,rfl⟩,rfl⟩;refine eg (cS [2,3,4,5] 6) ?_;refine pi 7 J V V (ar (us:=[I A6 n6 c6]) (cs':=[iV a0.Kind,iV a0.Shape,iV a0.Flags,iV a0.Age,I A6 n6 c6,I A2 n2 c2]) 3 J J J J nv J J J) ?_;rintro _ _ rfl;refine zE 8 J (ci J oH) ?_;refine pi 9 J V V (ar (us:=[I A8 n8 c8]) (cs':=[iV a0.Kind,iV a0.Shape,iV a0.Flags,iV a0.Age,I A6 n6 c6,I A8 n8 c8]) 3 J J J J nv J J J) ?_;rintro _ _ rfl;refine bC V ?_;refine U ?_;refine gR (ah (us:=[iV a0.Kind,iV a0.Shape,iV a0.Flags,iV a0.Age,I A6 n6 c6,I A8 n8 c8]) 3 J J cq J) ?_;refine gW (ar (us:=[iV a0.Kind,iV a0.Shape,iV a0.Flags,iV a0.Age,I A6 n6 c6,I A8 n8 c8]) (cs':=[iV a0.Kind,iV a0.Shape,iV a0.Flags,iV a0.Age,I A6 n6 c6,I A8 n8 c8]) 2 J J J J du J J J) ?_;refine U ?_;obtain rfl:=am h
 exact cD (rs:=[.cell 2 138]) (vs:=[.agg #[iV a0.Kind,iV a0.Shape,iV a0.Flags,iV a0.Age,I A6 n6 c6,I A8 n8 c8]]) J (.cons (bG 2 J J cq) .nil) J (cS [1,0] 6) ⟨_,_,_,_,_,_,J,J⟩
theorem gS {r:MY}:∀(u:Value)(p:List Chunk),(∃A0 n0 c0 A1 n1 c1,u=.agg #[iV r.Kind,iV r.Shape,iV r.Flags,iV r.Age,I A0 n0 c0,I A1 n1 c1]∧p=[aX A0 n0 c0 r.Slots,aX A1 n1 c1 r.More])→∀c∈p,cM c:=by
 rintro _ _ ⟨_,_,_,_,_,_,rfl,rfl⟩;exact hD gb (hD gb (aj))
def gJ (N:Nat)(a0:Nb)(a1:MY):Option (Int×Int×Nb):=
 (ce N a0).bind fun y11=>bif y11 then (some (0,1,a0)) else ((dD N a1).bind fun y13=>bif !y13 then (some (0,51,a0)) else ((gI N a1).bind fun y15=>dq (gQ (a0.m_.Young.length+([(⟨y15.Kind,y15.Shape,y15.Flags,0,y15.Slots,y15.More⟩:MY)]:List MY).length)) (dq (bQ (2*((a0.m_.Young++([(⟨y15.Kind,y15.Shape,y15.Flags,0,y15.Slots,y15.More⟩:MY)]:List MY)).length:Int))) (dq (bQ ((2*((a0.m_.Young++([(⟨y15.Kind,y15.Shape,y15.Flags,0,y15.Slots,y15.More⟩:MY)]:List MY)).length:Int)) - 1)) (some ((2*((a0.m_.Young++([(⟨y15.Kind,y15.Shape,y15.Flags,0,y15.Slots,y15.More⟩:MY)]:List MY)).length:Int)) - 1,0,(⟨(⟨a0.m_.Young++([(⟨y15.Kind,y15.Shape,y15.Flags,0,y15.Slots,y15.More⟩:MY)]:List MY),a0.m_.Old⟩:MK),a0.roots_,a0.pending_,a0.set_⟩:Nb)))))))
set_option maxHeartbeats 4000000 in
theorem me {N:Nat}{a0:Nb}{a1:MY}{r:(Int×Int×Nb)}(h:gJ N a0 a1=some r):Okc Tryz.prog 150 [pV B1 0,.agg #[iV a1.Kind,iV a1.Shape,iV a1.Flags,iV a1.Age,I A8 n8 c8,I A9 n9 c9]] ([dV A8 n8 c8 a1.Slots,dV A9 n9 c9 a1.More,ac B1 199 [I A2 n2 c2,I A3 n3 c3,I A4 n4 c4,I A5 n5 c5,pV B6 0],bw A2 n2 c2 a0.m_.Young,bw A3 n3 c3 a0.m_.Old,aX A4 n4 c4 a0.roots_,aX A5 n5 c5 a0.pending_,ac B6 247 [.map (some M7)],aG cz cC M7 a0.set_.at_]) (fun u post=> ∃A0 n0 c0 A1 n1 c1 A2 n2 c2 A3 n3 c3 M4,u=.tuple #[iV r.1,iV r.2.1]∧post=[ac B1 199 [I A0 n0 c0,I A1 n1 c1,I A2 n2 c2,I A3 n3 c3,pV B6 0],bw A0 n0 c0 r.2.2.m_.Young,bw A1 n1 c1 r.2.2.m_.Old,aX A2 n2 c2 r.2.2.roots_,aX A3 n3 c3 r.2.2.pending_,ac B6 247 [.map (some M4)],aG cz cC M4 r.2.2.set_.at_]):=by
 refine bD Tryz.func150 J J ?_;simp only [aW];refine U ?_
 refine gB (aO J J) fun B10=> ?_
 refine U ?_;refine aB ?_;refine U ?_;obtain ⟨y11,k,h⟩:=aa h;refine gV (ap (fv k) sf J (hD (ax (i:=3) J) (hD (ao (i:=4) J) (hD (ao (i:=5) J) (hD (ao (i:=6) J) (hD (ao (i:=7) J) (hD (ax (i:=8) J) (hD (aU (i:=9) J) aj))))))) eE) ?_;refine U ?_;refine gH J h (fun h=> ?_) (fun h=> ?_)
 ·refine U ?_;obtain rfl:=am h;exact dc J J J (cS [3,4,5,6,7,8,9] 10) ⟨_,_,_,_,_,_,_,_,_,_,_,_,_,J,J⟩
 refine U ?_;refine gR (ah (us:=[iV a1.Kind,iV a1.Shape,iV a1.Flags,iV a1.Age,I A8 n8 c8,I A9 n9 c9]) 0 J J cq J) ?_;obtain ⟨y13,k,h⟩:=aa h;refine gV (ap (pz k) AF J (hD (al (i:=1) J J) (hD (al (i:=2) J J) aj)) nA) ?_;refine U ?_;refine gH J h (fun h=> ?_) (fun h=> ?_)
 ·refine U ?_;obtain rfl:=am h;exact dc J J J (cS [3,4,5,6,7,8,9] 10) ⟨_,_,_,_,_,_,_,_,_,_,_,_,_,J,J⟩
 refine U ?_;refine gR (ah (us:=[iV a1.Kind,iV a1.Shape,iV a1.Flags,iV a1.Age,I A8 n8 c8,I A9 n9 c9]) 0 J J cq J) ?_;obtain ⟨y15,k,h⟩:=aa h;refine gD (ap (jx k) qp J (hD (al (i:=1) J J) (hD (al (i:=2) J J) aj)) gS) ?_;rintro _ _ ⟨_,⟨A16,n16,c16,A17,n17,c17,rfl,rfl⟩,rfl⟩;refine gW (ar (us:=[iV y15.Kind,iV y15.Shape,iV y15.Flags,iV y15.Age,I A16 n16 c16,I A17 n17 c17]) (cs':=[iV y15.Kind,iV y15.Shape,iV y15.Flags,iV y15.Age,I A16 n16 c16,I A17 n17 c17]) 2 J J J J du J J J) ?_;refine U ?_;refine gW (ar (us:=[iV 0]) (cs':=[iV y15.Kind,iV y15.Shape,iV y15.Flags,iV 0,I A16 n16 c16,I A17 n17 c17]) 2 J J J J iM J J J) ?_;refine U ?_;refine aB ?_;refine iQ ?_ bU (dC 0 J);refine Fj ?_;refine iQ ?_ bU (dC 1 J);refine iQ (t:=[(0,pV B1 0),(3,pV B10 0),(4,iV 0),(5,iV 0)]) ?_ ki (ae _)
 refine ik V 8 [0] [0,5,7] [16,17,18,19,20,21,22,23] [[],[],[1],[2],[3],[4],[],[6]] [aV (pV B1 0),
aV (pV B1 0),
aV (pV B1 0),
aV (pV B1 0),
aV (pV B1 0),
aV (I A2 n2 c2),
aV (.agg #[iV y15.Kind,iV y15.Shape,iV y15.Flags,iV 0,I A16 n16 c16,I A17 n17 c17]),
aX3 (fun (A19:Option Addr) (n19 c19:Nat)=> I A19 n19 c19) (fun A19 n19 c19=> [bw A19 n19 c19 ([(⟨y15.Kind,y15.Shape,y15.Flags,0,y15.Slots,y15.More⟩:MY)]:List MY)])] [] (ae _) (eX rfl jP) V rfl rfl ?_ ?_ ?_
 ·refine eW J ?_ ?_
  ·exact kh (aq J) J (bg J (ae _))
  exact jO
 ·refine ak J ?_ ?_
  ·refine lH (cx (R:=ri) (vss:=[[iV y15.Kind,iV y15.Shape,iV y15.Flags,iV 0,I A16 n16 c16,I A17 n17 c17]]) (xs:=[(⟨y15.Kind,y15.Shape,y15.Flags,0,y15.Slots,y15.More⟩:MY)]) J (E1 _ _ _ _ _ _ _ _ _ _) J J (fun _ _ hr=> .cons (⟨_,_,_,_,_,_,J,hr 0 _ J J,hr 1 _ J J⟩) All2.nil)) J ?_;rintro _ _ ⟨A18,n18,c18,rfl,rfl⟩;exact H7 A18 n18 c18 (ae _)
  refine ak J ?_ ?_
  ·exact gi (ah (us:=[iV y15.Kind,iV y15.Shape,iV y15.Flags,iV 0,I A16 n16 c16,I A17 n17 c17]) 2 J J cq J) J (bg J (ae _))
  refine ak J ?_ ?_
  ·exact gi (aY 5 J J zN J) J (bg J (ae _))
  refine ak J ?_ ?_
  ·exact cb (ef J xz) J (bg J (ae _))
  refine ak J ?_ ?_
  ·exact cb (ef J xy) J (bg J (ae _))
  refine ak J ?_ ?_
  ·exact cb (bc J) J (bg J (ae _))
  refine ak J ?_ ?_
  ·exact cb (aq J) J (bg J (ae _))
  refine ak J ?_ ?_
  ·exact cb (aq J) J (bg J (ae _))
  exact eC
 intro A19 n19 c19;refine mq (t:=[(16,pV B1 0),(21,I A2 n2 c2),(23,I A19 n19 c19),(0,pV B1 0),(3,pV B10 0),(4,iV 0),(5,iV 0)]) (L':=[bw A19 n19 c19 ([(⟨y15.Kind,y15.Shape,y15.Flags,0,y15.Slots,y15.More⟩:MY)]:List MY),dV A16 n16 c16 y15.Slots,dV A17 n17 c17 y15.More,ac B10 138 [iV y15.Kind,iV y15.Shape,iV y15.Flags,iV 0,I A16 n16 c16,I A17 n17 c17],dV A8 n8 c8 a1.Slots,dV A9 n9 c9 a1.More,ac B1 199 [I A2 n2 c2,I A3 n3 c3,I A4 n4 c4,I A5 n5 c5,pV B6 0],bw A2 n2 c2 a0.m_.Young,bw A3 n3 c3 a0.m_.Old,aX A4 n4 c4 a0.roots_,aX A5 n5 c5 a0.pending_,ac B6 247 [.map (some M7)],aG cz cC M7 a0.set_.at_]) ?_ ki (ae _);obtain ⟨q20,h⟩:=ay h;refine vG 8 J V (ed 7 0 J J aC J J hU KX J J q20) J J J ?_;rintro _ _ ⟨A21,n21,c21,rfl,rfl⟩;refine tk 9 J V (bc J) J J J ?_;refine tk 10 J V (ef J xy) J J J ?_;refine tk 11 J V (ef J xz) J J J ?_;refine lO 12 J V (ar (us:=[I A21 n21 c21]) (cs':=[I A21 n21 c21,I A3 n3 c3,I A4 n4 c4,I A5 n5 c5,pV B6 0]) 6 J J J J Ho J J J) J J ?_;rintro _ _ rfl;refine vv ?_;refine jT V ?_;refine U ?_;refine gR (bL 7 J aC J hU) ?_;obtain ⟨q22,h⟩:=ay h;refine gE (oJ J J q22.1 q22.2) ?_;obtain ⟨q23,h⟩:=ay h;refine gE (dI J J q23.1 q23.2) ?_;refine U ?_;obtain rfl:=am h
 exact dc J J J (cS [6,7,8,9,10,11,12] 13) ⟨_,_,_,_,_,_,_,_,_,_,_,_,_,J,J⟩
def il (N:Nat)(a0:MT)(p18:Int)(p19:Int)(p20:ByteArray)(p37:Int):Option (MQ×MT):=
 (gJ N a0.heap_ (⟨1,0,p37,0,([(⟨p18,p19,p20⟩:MQ)]:List MQ),[]⟩:MY)).bind fun y39=>some ((⟨7,y39.1,⟨#[]⟩⟩:MQ),(⟨a0.spent_,a0.config_,(),y39.2.2,a0.shapes_,a0.symbols_,a0.epoch_,a0.serial_,a0.sleepers_,a0.events_,a0.out_⟩:MT))
def eh (N:Nat)(a1:Int)(a0:MT)(p18:Int)(p19:Int)(p20:ByteArray):Option (MQ×MT):=
 bif decide (a1=17) then (il N a0 p18 p19 p20 1) else (il N a0 p18 p19 p20 17)
def im (N:Nat)(a1:Int)(a0:MT)(p29:Bool):Option (MQ×MT):=
 bif p29 then ((ja N a0.heap_ 3).bind fun y32=>eh N a1 a0 y32.Kind y32.N y32.S) else ((ja N a0.heap_ 0).bind fun y33=>eh N a1 a0 y33.Kind y33.N y33.S)
def fx (N:Nat)(a1:Int)(a0:MT)(p23:Bool):Option (MQ×MT):=
 bif p23 then ((ja N a0.heap_ 5).bind fun y27=>eh N a1 a0 y27.Kind y27.N y27.S) else (bif decide (a1=4) then (im N a1 a0 (decide (a1=4))) else (im N a1 a0 (decide (a1=16))))
def lL (N:Nat)(a0:MT)(a1:Int):Option (MQ×MT):=
 bif decide (a1=0) then (eh N a1 a0 1 0 (⟨#[]⟩)) else (bif decide (a1=6) then (fx N a1 a0 (decide (a1=6))) else (bif decide (a1=7) then (fx N a1 a0 (decide (a1=7))) else (fx N a1 a0 (decide (a1=8)))))
set_option maxHeartbeats 4000000 in
theorem lg {N:Nat}{a0:MT}{a1:Int}{r:(MQ×MT)}(h:lL N a0 a1=some r):Okc Tryz.prog 89 [pV B1 0,iV a1] ([bm A12 n12 c12 a0.symbols_,cH A13 n13 c13 a0.events_,bm A14 n14 c14 a0.out_,ac B1 151 (dm a0 B2 B9 A12 n12 c12 A13 n13 c13 A14 n14 c14),ac B2 199 [I A3 n3 c3,I A4 n4 c4,I A5 n5 c5,I A6 n6 c6,pV B7 0],bw A3 n3 c3 a0.heap_.m_.Young,bw A4 n4 c4 a0.heap_.m_.Old,aX A5 n5 c5 a0.heap_.roots_,aX A6 n6 c6 a0.heap_.pending_,ac B7 247 [.map (some M8)],aG cz cC M8 a0.heap_.set_.at_,ac B9 205 [I A10 n10 c10,.map (some M11)],cL A10 n10 c10 a0.shapes_.shapes_,aG aD cy M11 a0.shapes_.next_]) (fun u post=> ∃A0 n0 c0 A1 n1 c1 A2 n2 c2 A3 n3 c3 M4 A5 n5 c5 M6 A7 n7 c7 A8 n8 c8 A9 n9 c9,u=.agg #[iV r.1.Kind,iV r.1.N,.string r.1.S]∧post=[ac B1 151 (dm r.2 B2 B9 A7 n7 c7 A8 n8 c8 A9 n9 c9),ac B2 199 [I A0 n0 c0,I A1 n1 c1,I A2 n2 c2,I A3 n3 c3,pV B7 0],bw A0 n0 c0 r.2.heap_.m_.Young,bw A1 n1 c1 r.2.heap_.m_.Old,aX A2 n2 c2 r.2.heap_.roots_,aX A3 n3 c3 r.2.heap_.pending_,ac B7 247 [.map (some M4)],aG cz cC M4 r.2.heap_.set_.at_,ac B9 205 [I A5 n5 c5,.map (some M6)],cL A5 n5 c5 r.2.shapes_.shapes_,aG aD cy M6 r.2.shapes_.next_,bm A7 n7 c7 r.2.symbols_,cH A8 n8 c8 r.2.events_,bm A9 n9 c9 r.2.out_]):=by
 refine bD Tryz.func89 J J ?_;simp only [aW];refine U ?_
 refine gB (aM gw J) fun B15=> ?_
 refine U ?_;refine gE (bd J (ug _)) ?_
 refine gB (aM gw J) fun B16=> ?_
 refine gW (ar (us:=[iV 1,iV 0,.string (⟨#[]⟩)]) (cs':=[iV 1,iV 0,.string (⟨#[]⟩)]) 0 J J J J bv J J J) ?_;refine U ?_;refine ba (fun s L=> ∃p18 p19 p20,eh N a1 a0 p18 p19 p20=some r∧s=[(0,pV B1 0),(1,iV a1),(4,pV B15 0),(5,pV B16 0)]∧L=[bm A12 n12 c12 a0.symbols_,cH A13 n13 c13 a0.events_,bm A14 n14 c14 a0.out_,ac B1 151 (dm a0 B2 B9 A12 n12 c12 A13 n13 c13 A14 n14 c14),ac B15 30 [iV 0,iV 0,.string (⟨#[]⟩)],ac B16 30 [iV p18,iV p19,.string p20],bw A3 n3 c3 a0.heap_.m_.Young,bw A4 n4 c4 a0.heap_.m_.Old,aX A5 n5 c5 a0.heap_.roots_,aX A6 n6 c6 a0.heap_.pending_,ac B2 199 [I A3 n3 c3,I A4 n4 c4,I A5 n5 c5,I A6 n6 c6,pV B7 0],cL A10 n10 c10 a0.shapes_.shapes_,aG aD cy M11 a0.shapes_.next_,ac B9 205 [I A10 n10 c10,.map (some M11)],aG cz cC M8 a0.heap_.set_.at_,ac B7 247 [.map (some M8)]]) ?_ ?_
 ·refine U ?_;refine gH J h (fun h=> ?_) (fun h=> ?_)
  ·refine U ?_;exact ⟨_,_,⟨1,0,⟨#[]⟩,h,J,J⟩,sA,cS [2,3,4,5,1,0,7,8,9,10,6,14,15,13,12,11] 16⟩
  refine ba (fun s L=> ∃p23,fx N a1 a0 p23=some r∧s=[(0,pV B1 0),(1,iV a1),(4,pV B15 0),(5,pV B16 0),(10,iV a1),(18,.bool p23)]∧L=[bm A12 n12 c12 a0.symbols_,cH A13 n13 c13 a0.events_,bm A14 n14 c14 a0.out_,ac B1 151 (dm a0 B2 B9 A12 n12 c12 A13 n13 c13 A14 n14 c14),ac B15 30 [iV 0,iV 0,.string (⟨#[]⟩)],ac B16 30 [iV 1,iV 0,.string (⟨#[]⟩)],bw A3 n3 c3 a0.heap_.m_.Young,bw A4 n4 c4 a0.heap_.m_.Old,aX A5 n5 c5 a0.heap_.roots_,aX A6 n6 c6 a0.heap_.pending_,ac B2 199 [I A3 n3 c3,I A4 n4 c4,I A5 n5 c5,I A6 n6 c6,pV B7 0],cL A10 n10 c10 a0.shapes_.shapes_,aG aD cy M11 a0.shapes_.next_,ac B9 205 [I A10 n10 c10,.map (some M11)],aG cz cC M8 a0.heap_.set_.at_,ac B7 247 [.map (some M8)]]) ?_ ?_
  ·refine U ?_;refine gH J h (fun h=> ?_) (fun h=> ?_)
   ·refine U ?_;exact ⟨_,_,⟨decide (a1=6),h,J,J⟩,sA,cS [2,3,4,5,1,0,7,8,9,10,6,14,15,13,12,11] 16⟩
   refine U ?_;refine gH J h (fun h=> ?_) (fun h=> ?_)
   ·refine U ?_;exact ⟨_,_,⟨decide (a1=7),h,J,J⟩,sA,cS [2,3,4,5,1,0,7,8,9,10,6,14,15,13,12,11] 16⟩
   refine U ?_;exact ⟨_,_,⟨decide (a1=8),h,J,J⟩,sA,cS [2,3,4,5,1,0,7,8,9,10,6,14,15,13,12,11] 16⟩
  rintro _ _ ⟨p23,h,rfl,rfl⟩;refine gH J h (fun h=> ?_) (fun h=> ?_)
  ·refine U ?_;obtain ⟨y27,k,h⟩:=aa h;refine gV (ap (kc k) Aw J (hD (ax (i:=10) J) (hD (ao (i:=6) J) (hD (ao (i:=7) J) (hD (ao (i:=8) J) (hD (ao (i:=9) J) (hD (ax (i:=15) J) (hD (aU (i:=14) J) aj))))))) i1) ?_;refine gW (ar (us:=[iV y27.Kind,iV y27.N,.string y27.S]) (cs':=[iV y27.Kind,iV y27.N,.string y27.S]) 5 J J J J bv J J J) ?_;refine U ?_;exact ⟨_,_,⟨y27.Kind,y27.N,y27.S,h,J,J⟩,sA,cS [0,1,2,3,4,5,6,7,8,9,10,11,12,13,14,15] 16⟩
  refine ba (fun s L=> ∃p29,im N a1 a0 p29=some r∧s=[(0,pV B1 0),(1,iV a1),(4,pV B15 0),(5,pV B16 0),(27,.bool p29)]∧L=[bm A12 n12 c12 a0.symbols_,cH A13 n13 c13 a0.events_,bm A14 n14 c14 a0.out_,ac B1 151 (dm a0 B2 B9 A12 n12 c12 A13 n13 c13 A14 n14 c14),ac B15 30 [iV 0,iV 0,.string (⟨#[]⟩)],ac B16 30 [iV 1,iV 0,.string (⟨#[]⟩)],bw A3 n3 c3 a0.heap_.m_.Young,bw A4 n4 c4 a0.heap_.m_.Old,aX A5 n5 c5 a0.heap_.roots_,aX A6 n6 c6 a0.heap_.pending_,ac B2 199 [I A3 n3 c3,I A4 n4 c4,I A5 n5 c5,I A6 n6 c6,pV B7 0],cL A10 n10 c10 a0.shapes_.shapes_,aG aD cy M11 a0.shapes_.next_,ac B9 205 [I A10 n10 c10,.map (some M11)],aG cz cC M8 a0.heap_.set_.at_,ac B7 247 [.map (some M8)]]) ?_ ?_
  ·refine U ?_;refine gH J h (fun h=> ?_) (fun h=> ?_)
   ·refine U ?_;exact ⟨_,_,⟨decide (a1=4),h,J,J⟩,sA,cS [0,1,2,3,4,5,6,7,8,9,10,11,12,13,14,15] 16⟩
   refine U ?_;exact ⟨_,_,⟨decide (a1=16),h,J,J⟩,sA,cS [0,1,2,3,4,5,6,7,8,9,10,11,12,13,14,15] 16⟩
  rintro _ _ ⟨p29,h,rfl,rfl⟩;refine gH J h (fun h=> ?_) (fun h=> ?_)
  ·refine U ?_;obtain ⟨y32,k,h⟩:=aa h;refine gV (ap (kc k) Aw J (hD (ax (i:=10) J) (hD (ao (i:=6) J) (hD (ao (i:=7) J) (hD (ao (i:=8) J) (hD (ao (i:=9) J) (hD (ax (i:=15) J) (hD (aU (i:=14) J) aj))))))) i1) ?_;refine gW (ar (us:=[iV y32.Kind,iV y32.N,.string y32.S]) (cs':=[iV y32.Kind,iV y32.N,.string y32.S]) 5 J J J J bv J J J) ?_;refine bM ?_;refine U ?_;exact ⟨_,_,⟨y32.Kind,y32.N,y32.S,h,J,J⟩,sA,cS [0,1,2,3,4,5,6,7,8,9,10,11,12,13,14,15] 16⟩
  refine U ?_;obtain ⟨y33,k,h⟩:=aa h;refine gV (ap (kc k) Aw J (hD (ax (i:=10) J) (hD (ao (i:=6) J) (hD (ao (i:=7) J) (hD (ao (i:=8) J) (hD (ao (i:=9) J) (hD (ax (i:=15) J) (hD (aU (i:=14) J) aj))))))) i1) ?_;refine gW (ar (us:=[iV y33.Kind,iV y33.N,.string y33.S]) (cs':=[iV y33.Kind,iV y33.N,.string y33.S]) 5 J J J J bv J J J) ?_;refine U ?_;exact ⟨_,_,⟨y33.Kind,y33.N,y33.S,h,J,J⟩,sA,cS [0,1,2,3,4,5,6,7,8,9,10,11,12,13,14,15] 16⟩
 rintro _ _ ⟨p18,p19,p20,h,rfl,rfl⟩;refine U ?_;refine gR (ah (us:=[iV p18,iV p19,.string p20]) 5 J J aH J) ?_;refine gD (cx (R:=cc) (vss:=[[iV p18,iV p19,.string p20]]) (xs:=[(⟨p18,p19,p20⟩:MQ)]) J (jF _ _ _) J J (fun _ _ hr=> .cons J All2.nil)) ?_;rintro _ _ ⟨A34,n34,c34,rfl,rfl⟩;refine gE (bd J (yE _ _ _ _ _)) ?_
 refine gB (aM gx J) fun B35=> ?_
 refine gW (ar (us:=[iV 1,iV 0,iV 17,iV 0,I A34 n34 c34,I none 0 0]) (cs':=[iV 1,iV 0,iV 17,iV 0,I A34 n34 c34,I none 0 0]) 0 J J J J du J J J) ?_;refine U ?_;refine ba (fun s L=> ∃p37,il N a0 p18 p19 p20 p37=some r∧s=[(0,pV B1 0),(4,pV B15 0),(6,pV B35 0)]∧L=[bm A12 n12 c12 a0.symbols_,cH A13 n13 c13 a0.events_,bm A14 n14 c14 a0.out_,ac B1 151 (dm a0 B2 B9 A12 n12 c12 A13 n13 c13 A14 n14 c14),ac B15 30 [iV 0,iV 0,.string (⟨#[]⟩)],aX A34 n34 c34 ([(⟨p18,p19,p20⟩:MQ)]:List MQ),ac B35 138 [iV 1,iV 0,iV p37,iV 0,I A34 n34 c34,I none 0 0],bw A3 n3 c3 a0.heap_.m_.Young,bw A4 n4 c4 a0.heap_.m_.Old,aX A5 n5 c5 a0.heap_.roots_,aX A6 n6 c6 a0.heap_.pending_,ac B2 199 [I A3 n3 c3,I A4 n4 c4,I A5 n5 c5,I A6 n6 c6,pV B7 0],cL A10 n10 c10 a0.shapes_.shapes_,aG aD cy M11 a0.shapes_.next_,ac B9 205 [I A10 n10 c10,.map (some M11)],aG cz cC M8 a0.heap_.set_.at_,ac B7 247 [.map (some M8)]]) ?_ ?_
 ·refine U ?_;refine gH J h (fun h=> ?_) (fun h=> ?_)
  ·refine U ?_;refine gW (ar (us:=[iV 1]) (cs':=[iV 1,iV 0,iV 1,iV 0,I A34 n34 c34,I none 0 0]) 0 J J J J iM J J J) ?_;refine bM ?_;refine U ?_;exact ⟨_,_,⟨1,h,J,J⟩,sA,cS [2,3,4,5,6,1,0,8,9,10,11,12,13,14,15,16,17] 18⟩
  refine U ?_;exact ⟨_,_,⟨17,h,J,J⟩,sA,cS [2,3,4,5,6,1,0,8,9,10,11,12,13,14,15,16,17] 18⟩
 rintro _ _ ⟨p37,h,rfl,rfl⟩;refine aB ?_;refine bK V ([bm A12 n12 c12 a0.symbols_,cH A13 n13 c13 a0.events_,bm A14 n14 c14 a0.out_,ac B1 151 (dm a0 B2 B9 A12 n12 c12 A13 n13 c13 A14 n14 c14),ac B15 30 [iV 0,iV 0,.string (⟨#[]⟩)],ac B35 138 [iV 1,iV 0,iV p37,iV 0,I A34 n34 c34,I none 0 0],cL A10 n10 c10 a0.shapes_.shapes_,aG aD cy M11 a0.shapes_.next_,ac B9 205 [I A10 n10 c10,.map (some M11)]]) (cS [0,1,2,3,4,6,12,13,14] 17) ?_;refine zE 0 J (aq J) ?_;refine zE 1 J (bc J) ?_;refine zE 2 J (ci J lj) ?_;refine zR 3 J (aY 3 J J lV J) ?_;refine zR 4 J (ah (us:=[iV 1,iV 0,iV p37,iV 0,I A34 n34 c34,I none 0 0]) 5 J J cq J) ?_;refine qI (dC 5 J) (cS [0,1,2,3,4,6,12,13,14] 17) ?_;refine dt ?_;obtain ⟨y39,k,h⟩:=aa h;refine qI (kd cc _) (cS [1,2,3,4,5,7,13,14,15] 18) ?_;refine zD 5 J (aA (me k) AM J (az [6,0] [12,8,9,10,11,17,16] [0,1,2,3,4,5,6,7,13,14,15] 18 J)) ?_;rintro _ _ ⟨_,⟨A40,n40,c40,A41,n41,c41,A42,n42,c42,A43,n43,c43,M44,rfl,rfl⟩,rfl⟩;refine eg (cS [8,9,10,11,12,14,15,16,17] 18) ?_;refine dt ?_;refine zE 6 J (aq J) ?_;refine zE 7 J (bq J J) ?_;refine zE 8 J (bq J J) ?_;refine zE 9 J (bj J) ?_;refine zE 10 J (bj J) ?_;refine bC V ?_;refine U ?_;refine gE (bd J (oL _ _)) ?_;refine gW (ar (us:=[iV 7,iV y39.1,.string (⟨#[]⟩)]) (cs':=[iV 7,iV y39.1,.string (⟨#[]⟩)]) 12 J J J J bv J J J) ?_;refine U ?_;obtain rfl:=am h
 exact cD (rs:=[.cell 4 30]) (vs:=[.agg #[iV 7,iV y39.1,.string (⟨#[]⟩)]]) J (.cons (bG 12 J J aH) .nil) J (cS [11,0,1,2,3,4,5,6,17,15,16,8,9,10] 18) ⟨_,_,_,_,_,_,_,_,_,_,_,_,_,_,_,_,_,_,_,_,_,_,_,_,_,_,J,J⟩
def kO (N:Nat)(a0:Nb)(a1:MQ):Option (Int×Nb):=
 (ce N a0).bind fun y9=>bif y9 then (some (0,a0)) else (dq (gQ (a0.roots_.length+([a1]:List MQ).length)) (dq (bQ (((a0.roots_++([a1]:List MQ)).length:Int) - 1)) (some (((a0.roots_++([a1]:List MQ)).length:Int) - 1,(⟨a0.m_,a0.roots_++([a1]:List MQ),a0.pending_,a0.set_⟩:Nb)))))
theorem gm {N:Nat}{a0:Nb}{a1:MQ}{r:(Int×Nb)}(h:kO N a0 a1=some r):Okc Tryz.prog 88 [pV B1 0,(bz a1)] ([ac B1 199 [I A2 n2 c2,I A3 n3 c3,I A4 n4 c4,I A5 n5 c5,pV B6 0],bw A2 n2 c2 a0.m_.Young,bw A3 n3 c3 a0.m_.Old,aX A4 n4 c4 a0.roots_,aX A5 n5 c5 a0.pending_,ac B6 247 [.map (some M7)],aG cz cC M7 a0.set_.at_]) (fun u post=> ∃A0 n0 c0 A1 n1 c1 A2 n2 c2 A3 n3 c3 M4,u=iV r.1∧post=[ac B1 199 [I A0 n0 c0,I A1 n1 c1,I A2 n2 c2,I A3 n3 c3,pV B6 0],bw A0 n0 c0 r.2.m_.Young,bw A1 n1 c1 r.2.m_.Old,aX A2 n2 c2 r.2.roots_,aX A3 n3 c3 r.2.pending_,ac B6 247 [.map (some M4)],aG cz cC M4 r.2.set_.at_]):=by
 refine bD Tryz.func88 J J ?_;simp only [aW];refine U ?_
 refine gB (aO J J) fun B8=> ?_
 refine U ?_;refine aB ?_;refine U ?_;obtain ⟨y9,k,h⟩:=aa h;refine gV (ap (fv k) sf J (hD (ax (i:=1) J) (hD (ao (i:=2) J) (hD (ao (i:=3) J) (hD (ao (i:=4) J) (hD (ao (i:=5) J) (hD (ax (i:=6) J) (hD (aU (i:=7) J) aj))))))) eE) ?_;refine U ?_;refine gH J h (fun h=> ?_) (fun h=> ?_)
 ·refine U ?_;obtain rfl:=am h;exact aL J J (cS [1,2,3,4,5,6,7] 8) ⟨_,_,_,_,_,_,_,_,_,_,_,_,_,J,J⟩
 refine U ?_;refine aB ?_;refine iQ (t:=[(0,pV B1 0),(3,pV B8 0),(4,iV 0)]) ?_ ki (ae _)
 refine ik V 7 [0] [0,4,6] [7,8,9,10,11,12,13] [[],[],[1],[2],[3],[],[5]] [aV (pV B1 0),
aV (pV B1 0),
aV (pV B1 0),
aV (pV B1 2),
aV (I A4 n4 c4),
aV ((bz a1)),
aX3 (fun (A12:Option Addr) (n12 c12:Nat)=> I A12 n12 c12) (fun A12 n12 c12=> [aX A12 n12 c12 ([a1]:List MQ)])] [] (ae _) (eX rfl jP) V rfl rfl ?_ ?_ ?_
 ·refine eW J ?_ ?_
  ·exact kh (aq J) J (bg J (ae _))
  exact jO
 ·refine ak J ?_ ?_
  ·refine lH (cx (R:=cc) (vss:=[(au a1)]) (xs:=[a1]) J (jF _ _ _) J J (fun _ _ hr=> .cons J All2.nil)) J ?_;rintro _ _ ⟨A11,n11,c11,rfl,rfl⟩;exact H7 A11 n11 c11 (ae _)
  refine ak J ?_ ?_
  ·exact gi (ah (us:=au a1) 0 J J aH J) J (bg J (ae _))
  refine ak J ?_ ?_
  ·exact gi (aY 1 J J iO J) J (bg J (ae _))
  refine ak J ?_ ?_
  ·exact cb (ci J xx) J (bg J (ae _))
  refine ak J ?_ ?_
  ·exact cb (bc J) J (bg J (ae _))
  refine ak J ?_ ?_
  ·exact cb (aq J) J (bg J (ae _))
  refine ak J ?_ ?_
  ·exact cb (aq J) J (bg J (ae _))
  exact eC
 intro A12 n12 c12;refine mq (t:=[(7,pV B1 0),(11,I A4 n4 c4),(13,I A12 n12 c12),(0,pV B1 0),(3,pV B8 0),(4,iV 0)]) (L':=[aX A12 n12 c12 ([a1]:List MQ),ac B8 30 (au a1),ac B1 199 [I A2 n2 c2,I A3 n3 c3,I A4 n4 c4,I A5 n5 c5,pV B6 0],bw A2 n2 c2 a0.m_.Young,bw A3 n3 c3 a0.m_.Old,aX A4 n4 c4 a0.roots_,aX A5 n5 c5 a0.pending_,ac B6 247 [.map (some M7)],aG cz cC M7 a0.set_.at_]) ?_ ki (ae _);obtain ⟨q13,h⟩:=ay h;refine vG 7 J V (ed 5 0 J J aC J J hE yi J J q13) J J J ?_;rintro _ _ ⟨A14,n14,c14,rfl,rfl⟩;refine tk 8 J V (bc J) J J J ?_;refine tk 9 J V (ci J xx) J J J ?_;refine lO 10 J V (ar (us:=[I A14 n14 c14]) (cs':=[I A2 n2 c2,I A3 n3 c3,I A14 n14 c14,I A5 n5 c5,pV B6 0]) 2 J J J J nv J J J) J J ?_;rintro _ _ rfl;refine jT V ?_;refine U ?_;refine gR (bL 5 J aC J hE) ?_;obtain ⟨q15,h⟩:=ay h;refine gE (dI J J q15.1 q15.2) ?_;refine U ?_;obtain rfl:=am h;exact aL J J (cS [2,3,4,5,6,7,8] 9) ⟨_,_,_,_,_,_,_,_,_,_,_,_,_,J,J⟩
def fL (N:Nat)(a0:MT)(a1:MY):Option (MQ×MT):=
 (gJ N a0.heap_ a1).bind fun y19=>bif !decide (y19.2.1=0) then (some ((⟨0,0,⟨#[]⟩⟩:MQ),(⟨a0.spent_,a0.config_,(),y19.2.2,a0.shapes_,a0.symbols_,a0.epoch_,a0.serial_,a0.sleepers_,a0.events_,a0.out_⟩:MT))) else (some ((⟨9,y19.1,⟨#[]⟩⟩:MQ),(⟨a0.spent_,a0.config_,(),y19.2.2,a0.shapes_,a0.symbols_,a0.epoch_,a0.serial_,a0.sleepers_,a0.events_,a0.out_⟩:MT)))
theorem gt {N:Nat}{a0:MT}{a1:MY}{r:(MQ×MT)}(h:fL N a0 a1=some r):Okc Tryz.prog 90 [pV B1 0,.agg #[iV a1.Kind,iV a1.Shape,iV a1.Flags,iV a1.Age,I A15 n15 c15,I A16 n16 c16]] ([bm A12 n12 c12 a0.symbols_,cH A13 n13 c13 a0.events_,bm A14 n14 c14 a0.out_,dV A15 n15 c15 a1.Slots,dV A16 n16 c16 a1.More,ac B1 151 (dm a0 B2 B9 A12 n12 c12 A13 n13 c13 A14 n14 c14),ac B2 199 [I A3 n3 c3,I A4 n4 c4,I A5 n5 c5,I A6 n6 c6,pV B7 0],bw A3 n3 c3 a0.heap_.m_.Young,bw A4 n4 c4 a0.heap_.m_.Old,aX A5 n5 c5 a0.heap_.roots_,aX A6 n6 c6 a0.heap_.pending_,ac B7 247 [.map (some M8)],aG cz cC M8 a0.heap_.set_.at_,ac B9 205 [I A10 n10 c10,.map (some M11)],cL A10 n10 c10 a0.shapes_.shapes_,aG aD cy M11 a0.shapes_.next_]) (fun u post=> ∃A0 n0 c0 A1 n1 c1 A2 n2 c2 A3 n3 c3 M4 A5 n5 c5 M6 A7 n7 c7 A8 n8 c8 A9 n9 c9,u=.agg #[iV r.1.Kind,iV r.1.N,.string r.1.S]∧post=[ac B1 151 (dm r.2 B2 B9 A7 n7 c7 A8 n8 c8 A9 n9 c9),ac B2 199 [I A0 n0 c0,I A1 n1 c1,I A2 n2 c2,I A3 n3 c3,pV B7 0],bw A0 n0 c0 r.2.heap_.m_.Young,bw A1 n1 c1 r.2.heap_.m_.Old,aX A2 n2 c2 r.2.heap_.roots_,aX A3 n3 c3 r.2.heap_.pending_,ac B7 247 [.map (some M4)],aG cz cC M4 r.2.heap_.set_.at_,ac B9 205 [I A5 n5 c5,.map (some M6)],cL A5 n5 c5 r.2.shapes_.shapes_,aG aD cy M6 r.2.shapes_.next_,bm A7 n7 c7 r.2.symbols_,cH A8 n8 c8 r.2.events_,bm A9 n9 c9 r.2.out_]):=by
 refine bD Tryz.func90 J J ?_;simp only [aW];refine U ?_
 refine gB (aO J J) fun B17=> ?_
 refine gB (aM gw J) fun B18=> ?_
 refine U ?_;refine aB ?_;refine U ?_;refine gE (fQ J Ex) ?_;refine U ?_;refine ia J ?_;refine U ?_;refine aB ?_;refine bK V ([ac B18 30 [iV 0,iV 0,.string (⟨#[]⟩)],ac B17 138 [iV a1.Kind,iV a1.Shape,iV a1.Flags,iV a1.Age,I A15 n15 c15,I A16 n16 c16],bm A12 n12 c12 a0.symbols_,cH A13 n13 c13 a0.events_,bm A14 n14 c14 a0.out_,dV A15 n15 c15 a1.Slots,dV A16 n16 c16 a1.More,ac B1 151 (dm a0 B2 B9 A12 n12 c12 A13 n13 c13 A14 n14 c14),ac B9 205 [I A10 n10 c10,.map (some M11)],cL A10 n10 c10 a0.shapes_.shapes_,aG aD cy M11 a0.shapes_.next_]) (cS [0,1,2,3,4,5,6,7,15,16,17] 18) ?_;refine zE 0 J (aq J) ?_;refine zE 1 J (bc J) ?_;refine zE 2 J (ci J lj) ?_;refine zR 3 J (aY 7 J J lV J) ?_;refine zR 4 J (ah (us:=[iV a1.Kind,iV a1.Shape,iV a1.Flags,iV a1.Age,I A15 n15 c15,I A16 n16 c16]) 1 J J cq J) ?_;obtain ⟨y19,k,h⟩:=aa h;refine zD 5 J (aA (me k) AM J (az [5,6] [8,9,10,11,12,13,14] [0,1,2,3,4,5,6,7,15,16,17] 18 J)) ?_;rintro _ _ ⟨_,⟨A20,n20,c20,A21,n21,c21,A22,n22,c22,A23,n23,c23,M24,rfl,rfl⟩,rfl⟩;refine eg (cS [7,8,9,10,11,12,13,14,15,16,17] 18) ?_;refine dt ?_;refine zE 6 J (aq J) ?_;refine zE 7 J (bq J J) ?_;refine zE 8 J (bq J J) ?_;refine zE 9 J (bj J) ?_;refine zE 10 J (bj J) ?_;refine bC V ?_;refine fa ?_;refine aB ?_;refine U ?_;refine gH J h (fun h=> ?_) (fun h=> ?_)
 ·refine U ?_;refine gE (bd J (gC)) ?_;refine gW (ar (us:=[iV 0,iV 0,.string (⟨#[]⟩)]) (cs':=[iV 0,iV 0,.string (⟨#[]⟩)]) 7 J J J J bv J J J) ?_;refine U ?_;obtain rfl:=am h;exact cD (rs:=[.cell 4 30]) (vs:=[.agg #[iV 0,iV 0,.string (⟨#[]⟩)]]) J (.cons (bG 7 J J aH) .nil) J (cS [14,0,1,2,3,4,5,6,15,16,17,9,10,11] 18) ⟨_,_,_,_,_,_,_,_,_,_,_,_,_,_,_,_,_,_,_,_,_,_,_,_,_,_,J,J⟩
 refine U ?_;refine gE (bd J (oL _ _)) ?_;refine gW (ar (us:=[iV 9,iV y19.1,.string (⟨#[]⟩)]) (cs':=[iV 9,iV y19.1,.string (⟨#[]⟩)]) 7 J J J J bv J J J) ?_;refine U ?_;obtain rfl:=am h;exact cD (rs:=[.cell 4 30]) (vs:=[.agg #[iV 9,iV y19.1,.string (⟨#[]⟩)]]) J (.cons (bG 7 J J aH) .nil) J (cS [14,0,1,2,3,4,5,6,15,16,17,9,10,11] 18) ⟨_,_,_,_,_,_,_,_,_,_,_,_,_,_,_,_,_,_,_,_,_,_,_,_,_,_,J,J⟩
def re (N:Nat)(p156:Int)(p157:Int)(p158:Int)(p159:Int)(p160:Int)(p161:Int)(p162:Int)(p163:Int)(p164:Int)(p165:Int)(p166:(List ByteArray))(p167:Int)(p168:Int)(p169:Int)(p170:(List MV))(p171:(List ByteArray))(p172:(List MY))(p173:(List MY))(p174:(List MQ))(p175:(List MQ))(p176:(List MZ))(p177:(List (MN×Int)))(p178:(List (Int×Bool))):Option (Int ⊕ (MT×Int)):=
 some (.inr ((⟨(⟨p156,p157,p158⟩:MR),(⟨p159,p160,p161,p162,p163,p164,p165⟩:MO),(),(⟨(⟨p172,p173⟩:MK),p174,p175,(⟨p178⟩:MW)⟩:Nb),(⟨p176,p177⟩:MU),p166,p167,p168,p169,p170,p171⟩:MT),0))
def rf (N:Nat)(p113:Int)(p114:Int)(p115:Int)(p116:Int)(p117:Int)(p118:Int)(p119:Int)(p120:Int)(p121:Int)(p122:Int)(p123:(List ByteArray))(p124:Int)(p125:Int)(p126:Int)(p127:(List MV))(p128:(List ByteArray))(p129:(List MY))(p130:(List MY))(p131:(List MQ))(p132:(List MQ))(p133:(List MZ))(p134:(List (MN×Int)))(p135:(List (Int×Bool))):Option (Int ⊕ (MT×Int)):=
 (fL N (⟨(⟨p113,p114,p115⟩:MR),(⟨p116,p117,p118,p119,p120,p121,p122⟩:MO),(),(⟨(⟨p129,p130⟩:MK),p131,p132,(⟨p135⟩:MW)⟩:Nb),(⟨p133,p134⟩:MU),p123,p124,p125,p126,p127,p128⟩:MT) (⟨11,0,0,0,[],[]⟩:MY)).bind fun y179=>(kO N y179.2.heap_ y179.1).bind fun y192=>re N y179.2.spent_.steps_ y179.2.spent_.made_ y179.2.spent_.calls_ y179.2.config_.Way y179.2.config_.Steps y179.2.config_.Calls y179.2.config_.Made y179.2.config_.Young y179.2.config_.Full y179.2.config_.Sites y179.2.symbols_ y179.2.epoch_ y179.2.serial_ y179.2.sleepers_ y179.2.events_ y179.2.out_ y192.2.m_.Young y192.2.m_.Old y192.2.roots_ y192.2.pending_ y179.2.shapes_.shapes_ y179.2.shapes_.next_ y192.2.set_.at_
def sD (N:Nat)(p18:Int)(p19:Int)(p20:Int)(p21:Int)(p22:Int)(p23:Int)(p24:Int)(p25:Int)(p26:Int)(p27:Int)(p28:(List ByteArray))(p29:Int)(p30:Int)(p31:Int)(p32:(List MV))(p33:(List ByteArray))(p34:(List MY))(p35:(List MY))(p36:(List MQ))(p37:(List MQ))(p38:(List MZ))(p39:(List (MN×Int)))(p40:(List (Int×Bool))):Option (Int ⊕ (MT×Int)):=
 (fL N (⟨(⟨p18,p19,p20⟩:MR),(⟨p21,p22,p23,p24,p25,p26,p27⟩:MO),(),(⟨(⟨p34,p35⟩:MK),p36,p37,(⟨p40⟩:MW)⟩:Nb),(⟨p38,p39⟩:MU),p28,p29,p30,p31,p32,p33⟩:MT) (⟨11,0,0,0,[],[]⟩:MY)).bind fun y136=>(kO N y136.2.heap_ y136.1).bind fun y149=>rf N y136.2.spent_.steps_ y136.2.spent_.made_ y136.2.spent_.calls_ y136.2.config_.Way y136.2.config_.Steps y136.2.config_.Calls y136.2.config_.Made y136.2.config_.Young y136.2.config_.Full y136.2.config_.Sites y136.2.symbols_ y136.2.epoch_ y136.2.serial_ y136.2.sleepers_ y136.2.events_ y136.2.out_ y149.2.m_.Young y149.2.m_.Old y149.2.roots_ y149.2.pending_ y136.2.shapes_.shapes_ y136.2.shapes_.next_ y149.2.set_.at_
def sC (N:Nat)(kb41:Int→Int→Int→Int→Int→Int→Int→Int→Int→Int→Int→(List ByteArray)→Int→Int→Int→(List MV)→(List ByteArray)→(List MY)→(List MY)→(List MQ)→(List MQ)→(List MZ)→(List (MN×Int))→(List (Int×Bool))→Option (Int ⊕ (MT×Int)))(p42:Int)(p71:Int)(p72:Int)(p73:Int)(p74:Int)(p75:Int)(p76:Int)(p77:Int)(p78:Int)(p79:Int)(p80:Int)(p81:(List ByteArray))(p82:Int)(p83:Int)(p84:Int)(p85:(List MV))(p86:(List ByteArray))(p87:(List MY))(p88:(List MY))(p89:(List MQ))(p90:(List MQ))(p91:(List MZ))(p92:(List (MN×Int)))(p93:(List (Int×Bool))):Option (Int ⊕ (MT×Int)):=
 dq (bQ (p42+1)) (kb41 (p42+1) p71 p72 p73 p74 p75 p76 p77 p78 p79 p80 p81 p82 p83 p84 p85 p86 p87 p88 p89 p90 p91 p92 p93)
def mM (N:Nat):Nat→Int→Int→Int→Int→Int→Int→Int→Int→Int→Int→Int→(List ByteArray)→Int→Int→Int→(List MV)→(List ByteArray)→(List MY)→(List MY)→(List MQ)→(List MQ)→(List MZ)→(List (MN×Int))→(List (Int×Bool))→Option (Int ⊕ (MT×Int))
 |0,_,_,_,_,_,_,_,_,_,_,_,_,_,_,_,_,_,_,_,_,_,_,_,_=>none
 |m41+1,p42,p43,p44,p45,p46,p47,p48,p49,p50,p51,p52,p53,p54,p55,p56,p57,p58,p59,p60,p61,p62,p63,p64,p65=>bif decide (p42<18) then ((lL N (⟨(⟨p43,p44,p45⟩:MR),(⟨p46,p47,p48,p49,p50,p51,p52⟩:MO),(),(⟨(⟨p59,p60⟩:MK),p61,p62,(⟨p65⟩:MW)⟩:Nb),(⟨p63,p64⟩:MU),p53,p54,p55,p56,p57,p58⟩:MT) p42).bind fun y94=>(kO N y94.2.heap_ y94.1).bind fun y105=>sC N (mM N m41) p42 y94.2.spent_.steps_ y94.2.spent_.made_ y94.2.spent_.calls_ y94.2.config_.Way y94.2.config_.Steps y94.2.config_.Calls y94.2.config_.Made y94.2.config_.Young y94.2.config_.Full y94.2.config_.Sites y94.2.symbols_ y94.2.epoch_ y94.2.serial_ y94.2.sleepers_ y94.2.events_ y94.2.out_ y105.2.m_.Young y105.2.m_.Old y105.2.roots_ y105.2.pending_ y94.2.shapes_.shapes_ y94.2.shapes_.next_ y105.2.set_.at_) else (sD N p43 p44 p45 p46 p47 p48 p49 p50 p51 p52 p53 p54 p55 p56 p57 p58 p59 p60 p61 p62 p63 p64 p65)
def vl (N:Nat)(a0:MO):Option (Int ⊕ (MT×Int)):=
 (sB N a0).bind fun y2=>bif !y2 then (some (.inl 1)) else ((xu N).bind fun y4=>(ve N).bind fun y12=>mM N N 0 0 0 0 a0.Way a0.Steps a0.Calls a0.Made a0.Young a0.Full a0.Sites [] 0 0 0 [] [] y4.m_.Young y4.m_.Old y4.roots_ y4.pending_ y12.shapes_ y12.next_ y4.set_.at_)
set_option maxHeartbeats 4000000 in
theorem tA {N:Nat}{a0:MO}{r:(Int ⊕ (MT×Int))}(h:vl N a0=some r):Okc Tryz.prog 21 [(BH a0)] ([]) (fun u post=>K1 (fun (r:Int)=>u=.tuple #[.pointer none,iV r]∧post=[]) (fun (r:MT×Int)=> ∃B0 B1 A2 n2 c2 A3 n3 c3 A4 n4 c4 A5 n5 c5 B6 M7 B8 A9 n9 c9 M10 A11 n11 c11 A12 n12 c12 A13 n13 c13,u=.tuple #[pV B0 0,iV r.2]∧post=[ac B0 151 (dm r.1 B1 B8 A11 n11 c11 A12 n12 c12 A13 n13 c13),ac B1 199 [I A2 n2 c2,I A3 n3 c3,I A4 n4 c4,I A5 n5 c5,pV B6 0],bw A2 n2 c2 r.1.heap_.m_.Young,bw A3 n3 c3 r.1.heap_.m_.Old,aX A4 n4 c4 r.1.heap_.roots_,aX A5 n5 c5 r.1.heap_.pending_,ac B6 247 [.map (some M7)],aG cz cC M7 r.1.heap_.set_.at_,ac B8 205 [I A9 n9 c9,.map (some M10)],cL A9 n9 c9 r.1.shapes_.shapes_,aG aD cy M10 r.1.shapes_.next_,bm A11 n11 c11 r.1.symbols_,cH A12 n12 c12 r.1.events_,bm A13 n13 c13 r.1.out_]) r):=by
 refine bD Tryz.func21 J J ?_;simp only [aW];refine U ?_
 refine gB (aO J J) fun B1=> ?_
 refine U ?_;refine aB ?_;refine U ?_;refine gR (ah (us:=BD a0) 0 J J Jr J) ?_;obtain ⟨y2,k,h⟩:=aa h;refine gV (ap (wO k) Kg J (aj) uC) ?_;refine U ?_;refine gH J h (fun h=> ?_) (fun h=> ?_)
 ·refine U ?_;obtain rfl:=am h;exact dc J J J (cS [] 1) ⟨J,J⟩
 refine U ?_;refine aB ?_;refine bK V _ (ae _) ?_;refine zR 0 J (ah (us:=BD a0) 0 J J Jr J) ?_;obtain ⟨y4,k,h⟩:=aa h;refine zD 1 J (aA (BE k) Kf J (az [] [] [0] 1 J)) ?_;rintro _ _ ⟨_,⟨B5,A6,n6,c6,A7,n7,c7,A8,n8,c8,A9,n9,c9,B10,M11,rfl,rfl⟩,rfl⟩;refine eg (cS [7] 8) ?_;refine dt ?_;obtain ⟨y12,k,h⟩:=aa h;refine zD 2 J (aA (zB k) Ke J (az [] [] [0,1,2,3,4,5,6,7] 8 J)) ?_;rintro _ _ ⟨_,⟨B13,A14,n14,c14,M15,rfl,rfl⟩,rfl⟩;refine eg (cS [10] 11) ?_;refine dt ?_;refine zE 3 J (bd J (yC _ _ _ _ _ _ _ _ _)) ?_;refine zD 4 J (aO J J) ?_;rintro _ _ ⟨B16,rfl,rfl⟩;refine eg (cS [11] 12) ?_;refine zE 5 J (bj J) ?_;refine bC V ?_;refine fa ?_
 refine ba (fun s L=> ∃p18 p19 p20 p21 p22 p23 p24 p25 p26 p27 p28 p29 p30 p31 p32 p33 p34 p35 p36 p37 p38 p39 p40 A28 n28 c28 A32 n32 c32 A33 n33 c33 A34 n34 c34 A35 n35 c35 A36 n36 c36 A37 n37 c37 A38 n38 c38 M39 M40,sD N p18 p19 p20 p21 p22 p23 p24 p25 p26 p27 p28 p29 p30 p31 p32 p33 p34 p35 p36 p37 p38 p39 p40=some r∧s=[(2,.pointer none),(3,iV 0),(4,pV B16 0)]∧L=[bm A28 n28 c28 p28,cH A32 n32 c32 p32,bm A33 n33 c33 p33,ac B16 151 [iV p18,iV p19,iV p20,iV p21,iV p22,iV p23,iV p24,iV p25,iV p26,iV p27,.nilIface,pV B5 0,pV B13 0,I A28 n28 c28,iV p29,iV p30,iV p31,I A32 n32 c32,I A33 n33 c33],bw A34 n34 c34 p34,bw A35 n35 c35 p35,aX A36 n36 c36 p36,aX A37 n37 c37 p37,ac B5 199 [I A34 n34 c34,I A35 n35 c35,I A36 n36 c36,I A37 n37 c37,pV B10 0],cL A38 n38 c38 p38,aG aD cy M39 p39,ac B13 205 [I A38 n38 c38,.map (some M39)],aG cz cC M40 p40,ac B10 247 [.map (some M40)]]) ?_ ?_
 ·refine U ?_;refine cn (fun m s L=> ∃p42 p43 p44 p45 p46 p47 p48 p49 p50 p51 p52 p53 p54 p55 p56 p57 p58 p59 p60 p61 p62 p63 p64 p65 A53 n53 c53 A57 n57 c57 A58 n58 c58 A59 n59 c59 A60 n60 c60 A61 n61 c61 A62 n62 c62 A63 n63 c63 M64 M65,mM N m p42 p43 p44 p45 p46 p47 p48 p49 p50 p51 p52 p53 p54 p55 p56 p57 p58 p59 p60 p61 p62 p63 p64 p65=some r∧s=[(2,.pointer none),(3,iV 0),(4,pV B16 0),(14,iV p42)]∧L=[bm A53 n53 c53 p53,cH A57 n57 c57 p57,bm A58 n58 c58 p58,ac B16 151 [iV p43,iV p44,iV p45,iV p46,iV p47,iV p48,iV p49,iV p50,iV p51,iV p52,.nilIface,pV B5 0,pV B13 0,I A53 n53 c53,iV p54,iV p55,iV p56,I A57 n57 c57,I A58 n58 c58],bw A59 n59 c59 p59,bw A60 n60 c60 p60,aX A61 n61 c61 p61,aX A62 n62 c62 p62,ac B5 199 [I A59 n59 c59,I A60 n60 c60,I A61 n61 c61,I A62 n62 c62,pV B10 0],cL A63 n63 c63 p63,aG aD cy M64 p64,ac B13 205 [I A63 n63 c63,.map (some M64)],aG cz cC M65 p65,ac B10 247 [.map (some M65)]]) N _ _ ⟨0,0,0,0,a0.Way,a0.Steps,a0.Calls,a0.Made,a0.Young,a0.Full,a0.Sites,[],0,0,0,[],[],y4.m_.Young,y4.m_.Old,y4.roots_,y4.pending_,y12.shapes_,y12.next_,y4.set_.at_,none,0,0,none,0,0,none,0,0,A6,n6,c6,A7,n7,c7,A8,n8,c8,A9,n9,c9,A14,n14,c14,M15,M11,h,J,J⟩ sA ((kd Hu _).trans ((kd Dc _).trans ((kd Hu _).trans (cS [2,1,0,3,8,9,10,11,7,5,6,4,13,12] 15)))) ?_
  rintro (_|m41) _ _ ⟨p42,p43,p44,p45,p46,p47,p48,p49,p50,p51,p52,p53,p54,p55,p56,p57,p58,p59,p60,p61,p62,p63,p64,p65,A53,n53,c53,A57,n57,c57,A58,n58,c58,A59,n59,c59,A60,n60,c60,A61,n61,c61,A62,n62,c62,A63,n63,c63,M64,M65,h,rfl,rfl⟩
  ·exact bu h
  rw [mM.eq_2] at h;refine U ?_;refine aB ?_;refine gH J h (fun h=> ?_) (fun h=> ?_)
  ·refine U ?_;refine ba (fun s L=> ∃p71 p72 p73 p74 p75 p76 p77 p78 p79 p80 p81 p82 p83 p84 p85 p86 p87 p88 p89 p90 p91 p92 p93 A81 n81 c81 A85 n85 c85 A86 n86 c86 A87 n87 c87 A88 n88 c88 A89 n89 c89 A90 n90 c90 A91 n91 c91 M92 M93,sC N (mM N m41) p42 p71 p72 p73 p74 p75 p76 p77 p78 p79 p80 p81 p82 p83 p84 p85 p86 p87 p88 p89 p90 p91 p92 p93=some r∧s=[(2,.pointer none),(3,iV 0),(4,pV B16 0),(14,iV p42)]∧L=[bm A81 n81 c81 p81,cH A85 n85 c85 p85,bm A86 n86 c86 p86,ac B16 151 [iV p71,iV p72,iV p73,iV p74,iV p75,iV p76,iV p77,iV p78,iV p79,iV p80,.nilIface,pV B5 0,pV B13 0,I A81 n81 c81,iV p82,iV p83,iV p84,I A85 n85 c85,I A86 n86 c86],bw A87 n87 c87 p87,bw A88 n88 c88 p88,aX A89 n89 c89 p89,aX A90 n90 c90 p90,ac B5 199 [I A87 n87 c87,I A88 n88 c88,I A89 n89 c89,I A90 n90 c90,pV B10 0],cL A91 n91 c91 p91,aG aD cy M92 p92,ac B13 205 [I A91 n91 c91,.map (some M92)],aG cz cC M93 p93,ac B10 247 [.map (some M93)]]) ?_ ?_
   ·refine U ?_;refine bK V ([bm A53 n53 c53 p53,cH A57 n57 c57 p57,bm A58 n58 c58 p58]) (cS [0,1,2] 14) ?_;refine zE 0 J (aq J) ?_;refine zE 1 J (bc J) ?_;refine zE 2 J (ci J lj) ?_;refine zE 4 J (aq J) ?_;refine zE 5 J (aq J) ?_;refine vc 3 6 V ?_ ?_
    ·refine jA J (qy (aY 3 J J lV J)) J J J ?_;rintro _ _ ⟨rfl,rfl⟩;refine eg (cS [0,1,2] 14) ?_;obtain ⟨y94,hy94,h⟩:=aa h;refine zD 6 J (aA (lg hy94) Gz J (az [0,1,2] [3,8,4,5,6,7,13,12,11,9,10] [0,1,2] 14 J)) ?_;rintro _ _ ⟨_,⟨A95,n95,c95,A96,n96,c96,A97,n97,c97,A98,n98,c98,M99,A100,n100,c100,M101,A102,n102,c102,A103,n103,c103,A104,n104,c104,rfl,rfl⟩,rfl⟩;refine ⟨[bm A102 n102 c102 y94.2.symbols_,cH A103 n103 c103 y94.2.events_,bm A104 n104 c104 y94.2.out_,bm A53 n53 c53 p53,cH A57 n57 c57 p57,bm A58 n58 c58 p58],cS [11,12,13,14,15,16] 17,(cv_tl).trans ((cv_tl).trans (cv_tl)),?_⟩;refine dt ?_;obtain ⟨y105,hy105,h⟩:=aa h;refine zD 7 J (aA (gm hy105) uW J (az [] [1,2,3,4,5,6,7] [0,8,9,10,11,12,13,14,15,16] 17 J)) ?_;rintro _ _ ⟨_,⟨A106,n106,c106,A107,n107,c107,A108,n108,c108,A109,n109,c109,M110,rfl,rfl⟩,rfl⟩;refine eg (cS [11,12,13,14,15,16] 17) ?_;refine dt ?_;refine bC V ?_;refine U ?_
     exact ⟨_,_,⟨y94.2.spent_.steps_,y94.2.spent_.made_,y94.2.spent_.calls_,y94.2.config_.Way,y94.2.config_.Steps,y94.2.config_.Calls,y94.2.config_.Made,y94.2.config_.Young,y94.2.config_.Full,y94.2.config_.Sites,y94.2.symbols_,y94.2.epoch_,y94.2.serial_,y94.2.sleepers_,y94.2.events_,y94.2.out_,y105.2.m_.Young,y105.2.m_.Old,y105.2.roots_,y105.2.pending_,y94.2.shapes_.shapes_,y94.2.shapes_.next_,y105.2.set_.at_,A102,n102,c102,A103,n103,c103,A104,n104,c104,A106,n106,c106,A107,n107,c107,A108,n108,c108,A109,n109,c109,A100,n100,c100,M101,M110,h,J,J⟩,sA,cS [11,12,13,7,1,2,3,4,0,9,10,8,6,5] 17⟩
    obtain ⟨y94,hy94,h⟩:=aa h;refine jA J (aA (lg hy94) Gz J (az [0,1,2] [3,8,4,5,6,7,13,12,11,9,10] [0,1,2] 14 J)) J J J ?_;rintro _ _ ⟨_,⟨A95,n95,c95,A96,n96,c96,A97,n97,c97,A98,n98,c98,M99,A100,n100,c100,M101,A102,n102,c102,A103,n103,c103,A104,n104,c104,rfl,rfl⟩,rfl⟩;refine ⟨[bm A102 n102 c102 y94.2.symbols_,cH A103 n103 c103 y94.2.events_,bm A104 n104 c104 y94.2.out_,bm A53 n53 c53 p53,cH A57 n57 c57 p57,bm A58 n58 c58 p58],cS [11,12,13,14,15,16] 17,(cv_tl).trans ((cv_tl).trans (cv_tl)),?_⟩;refine dt ?_;refine zD 3 J (qy (aY 0 J J lV J)) ?_;rintro _ _ ⟨rfl,rfl⟩;refine eg (cS [11,12,13,14,15,16] 17) ?_;obtain ⟨y105,hy105,h⟩:=aa h;refine zD 7 J (aA (gm hy105) uW J (az [] [1,2,3,4,5,6,7] [0,8,9,10,11,12,13,14,15,16] 17 J)) ?_;rintro _ _ ⟨_,⟨A106,n106,c106,A107,n107,c107,A108,n108,c108,A109,n109,c109,M110,rfl,rfl⟩,rfl⟩;refine eg (cS [11,12,13,14,15,16] 17) ?_;refine dt ?_;refine bC V ?_;refine U ?_
    exact ⟨_,_,⟨y94.2.spent_.steps_,y94.2.spent_.made_,y94.2.spent_.calls_,y94.2.config_.Way,y94.2.config_.Steps,y94.2.config_.Calls,y94.2.config_.Made,y94.2.config_.Young,y94.2.config_.Full,y94.2.config_.Sites,y94.2.symbols_,y94.2.epoch_,y94.2.serial_,y94.2.sleepers_,y94.2.events_,y94.2.out_,y105.2.m_.Young,y105.2.m_.Old,y105.2.roots_,y105.2.pending_,y94.2.shapes_.shapes_,y94.2.shapes_.next_,y105.2.set_.at_,A102,n102,c102,A103,n103,c103,A104,n104,c104,A106,n106,c106,A107,n107,c107,A108,n108,c108,A109,n109,c109,A100,n100,c100,M101,M110,h,J,J⟩,sA,cS [11,12,13,7,1,2,3,4,0,9,10,8,6,5] 17⟩
   rintro _ _ ⟨p71,p72,p73,p74,p75,p76,p77,p78,p79,p80,p81,p82,p83,p84,p85,p86,p87,p88,p89,p90,p91,p92,p93,A81,n81,c81,A85,n85,c85,A86,n86,c86,A87,n87,c87,A88,n88,c88,A89,n89,c89,A90,n90,c90,A91,n91,c91,M92,M93,h,rfl,rfl⟩;refine gj ?_;obtain ⟨q111,h⟩:=ay h;refine gE (bI J J q111.1 q111.2) ?_;refine U ?_;exact ⟨m41,_,_,Nh _,⟨p42+1,p71,p72,p73,p74,p75,p76,p77,p78,p79,p80,p81,p82,p83,p84,p85,p86,p87,p88,p89,p90,p91,p92,p93,A81,n81,c81,A85,n85,c85,A86,n86,c86,A87,n87,c87,A88,n88,c88,A89,n89,c89,A90,n90,c90,A91,n91,c91,M92,M93,h,J,J⟩,sA,cS [0,1,2,3,4,5,6,7,8,9,10,11,12,13] 14⟩
  refine U ?_;exact ⟨_,_,⟨p43,p44,p45,p46,p47,p48,p49,p50,p51,p52,p53,p54,p55,p56,p57,p58,p59,p60,p61,p62,p63,p64,p65,A53,n53,c53,A57,n57,c57,A58,n58,c58,A59,n59,c59,A60,n60,c60,A61,n61,c61,A62,n62,c62,A63,n63,c63,M64,M65,h,J,J⟩,sA,cS [0,1,2,3,4,5,6,7,8,9,10,11,12,13] 14⟩
 rintro _ _ ⟨p18,p19,p20,p21,p22,p23,p24,p25,p26,p27,p28,p29,p30,p31,p32,p33,p34,p35,p36,p37,p38,p39,p40,A28,n28,c28,A32,n32,c32,A33,n33,c33,A34,n34,c34,A35,n35,c35,A36,n36,c36,A37,n37,c37,A38,n38,c38,M39,M40,h,rfl,rfl⟩;refine ba (fun s L=> ∃p113 p114 p115 p116 p117 p118 p119 p120 p121 p122 p123 p124 p125 p126 p127 p128 p129 p130 p131 p132 p133 p134 p135 A123 n123 c123 A127 n127 c127 A128 n128 c128 A129 n129 c129 A130 n130 c130 A131 n131 c131 A132 n132 c132 A133 n133 c133 M134 M135,rf N p113 p114 p115 p116 p117 p118 p119 p120 p121 p122 p123 p124 p125 p126 p127 p128 p129 p130 p131 p132 p133 p134 p135=some r∧s=[(2,.pointer none),(3,iV 0),(4,pV B16 0)]∧L=[bm A123 n123 c123 p123,cH A127 n127 c127 p127,bm A128 n128 c128 p128,ac B16 151 [iV p113,iV p114,iV p115,iV p116,iV p117,iV p118,iV p119,iV p120,iV p121,iV p122,.nilIface,pV B5 0,pV B13 0,I A123 n123 c123,iV p124,iV p125,iV p126,I A127 n127 c127,I A128 n128 c128],bw A129 n129 c129 p129,bw A130 n130 c130 p130,aX A131 n131 c131 p131,aX A132 n132 c132 p132,ac B5 199 [I A129 n129 c129,I A130 n130 c130,I A131 n131 c131,I A132 n132 c132,pV B10 0],cL A133 n133 c133 p133,aG aD cy M134 p134,ac B13 205 [I A133 n133 c133,.map (some M134)],aG cz cC M135 p135,ac B10 247 [.map (some M135)]]) ?_ ?_
 ·refine bK V ([bm A28 n28 c28 p28,cH A32 n32 c32 p32,bm A33 n33 c33 p33]) (cS [0,1,2] 14) ?_;refine zE 0 J (aq J) ?_;refine zE 1 J (bc J) ?_;refine zE 2 J (ci J lj) ?_;refine zE 4 J (aq J) ?_;refine zE 5 J (bd J (zq _)) ?_;refine vc 3 6 V ?_ ?_
  ·refine jA J (qy (aY 3 J J lV J)) J J J ?_;rintro _ _ ⟨rfl,rfl⟩;refine eg (cS [0,1,2] 14) ?_;obtain ⟨y136,hy136,h⟩:=aa h;refine qI (kd cc _) (cS [1,2,3] 15) ?_;refine qI (kd cc _) (cS [2,3,4] 16) ?_;refine zD 6 J (aA (gt hy136) xV J (az [2,3,4,1,0] [5,10,6,7,8,9,15,14,13,11,12] [0,1,2,3,4] 16 J)) ?_;rintro _ _ ⟨_,⟨A137,n137,c137,A138,n138,c138,A139,n139,c139,A140,n140,c140,M141,A142,n142,c142,M143,A144,n144,c144,A145,n145,c145,A146,n146,c146,rfl,rfl⟩,rfl⟩;refine ⟨[bm A144 n144 c144 y136.2.symbols_,cH A145 n145 c145 y136.2.events_,bm A146 n146 c146 y136.2.out_,bm A28 n28 c28 p28,cH A32 n32 c32 p32,bm A33 n33 c33 p33],cS [11,12,13,16,17,18] 19,(cv_tl).trans ((cv_tl).trans (cv_tl)),?_⟩;refine dt ?_;obtain ⟨y149,hy149,h⟩:=aa h;refine zD 7 J (aA (gm hy149) uW J (az [] [1,2,3,4,5,6,7] [0,8,9,10,11,12,13,14,15,16,17,18] 19 J)) ?_;rintro _ _ ⟨_,⟨A150,n150,c150,A151,n151,c151,A152,n152,c152,A153,n153,c153,M154,rfl,rfl⟩,rfl⟩;refine eg (cS [11,12,13,16,17,18] 19) ?_;refine dt ?_;refine bC V ?_;refine fa ?_
   exact ⟨_,_,⟨y136.2.spent_.steps_,y136.2.spent_.made_,y136.2.spent_.calls_,y136.2.config_.Way,y136.2.config_.Steps,y136.2.config_.Calls,y136.2.config_.Made,y136.2.config_.Young,y136.2.config_.Full,y136.2.config_.Sites,y136.2.symbols_,y136.2.epoch_,y136.2.serial_,y136.2.sleepers_,y136.2.events_,y136.2.out_,y149.2.m_.Young,y149.2.m_.Old,y149.2.roots_,y149.2.pending_,y136.2.shapes_.shapes_,y136.2.shapes_.next_,y149.2.set_.at_,A144,n144,c144,A145,n145,c145,A146,n146,c146,A150,n150,c150,A151,n151,c151,A152,n152,c152,A153,n153,c153,A142,n142,c142,M143,M154,h,J,J⟩,sA,cS [11,12,13,7,1,2,3,4,0,9,10,8,6,5] 19⟩
  obtain ⟨y136,hy136,h⟩:=aa h;refine vY (kd cc _) (cS [1,2,3] 15) ?_;refine vY (kd cc _) (cS [2,3,4] 16) ?_;refine jA J (aA (gt hy136) xV J (az [2,3,4,1,0] [5,10,6,7,8,9,15,14,13,11,12] [0,1,2,3,4] 16 J)) J J J ?_;rintro _ _ ⟨_,⟨A137,n137,c137,A138,n138,c138,A139,n139,c139,A140,n140,c140,M141,A142,n142,c142,M143,A144,n144,c144,A145,n145,c145,A146,n146,c146,rfl,rfl⟩,rfl⟩;refine ⟨[bm A144 n144 c144 y136.2.symbols_,cH A145 n145 c145 y136.2.events_,bm A146 n146 c146 y136.2.out_,bm A28 n28 c28 p28,cH A32 n32 c32 p32,bm A33 n33 c33 p33],cS [11,12,13,16,17,18] 19,(cv_tl).trans ((cv_tl).trans (cv_tl)),?_⟩;refine dt ?_;refine zD 3 J (qy (aY 0 J J lV J)) ?_;rintro _ _ ⟨rfl,rfl⟩;refine eg (cS [11,12,13,16,17,18] 19) ?_;obtain ⟨y149,hy149,h⟩:=aa h;refine zD 7 J (aA (gm hy149) uW J (az [] [1,2,3,4,5,6,7] [0,8,9,10,11,12,13,14,15,16,17,18] 19 J)) ?_;rintro _ _ ⟨_,⟨A150,n150,c150,A151,n151,c151,A152,n152,c152,A153,n153,c153,M154,rfl,rfl⟩,rfl⟩;refine eg (cS [11,12,13,16,17,18] 19) ?_;refine dt ?_;refine bC V ?_;refine fa ?_
  exact ⟨_,_,⟨y136.2.spent_.steps_,y136.2.spent_.made_,y136.2.spent_.calls_,y136.2.config_.Way,y136.2.config_.Steps,y136.2.config_.Calls,y136.2.config_.Made,y136.2.config_.Young,y136.2.config_.Full,y136.2.config_.Sites,y136.2.symbols_,y136.2.epoch_,y136.2.serial_,y136.2.sleepers_,y136.2.events_,y136.2.out_,y149.2.m_.Young,y149.2.m_.Old,y149.2.roots_,y149.2.pending_,y136.2.shapes_.shapes_,y136.2.shapes_.next_,y149.2.set_.at_,A144,n144,c144,A145,n145,c145,A146,n146,c146,A150,n150,c150,A151,n151,c151,A152,n152,c152,A153,n153,c153,A142,n142,c142,M143,M154,h,J,J⟩,sA,cS [11,12,13,7,1,2,3,4,0,9,10,8,6,5] 19⟩
 rintro _ _ ⟨p113,p114,p115,p116,p117,p118,p119,p120,p121,p122,p123,p124,p125,p126,p127,p128,p129,p130,p131,p132,p133,p134,p135,A123,n123,c123,A127,n127,c127,A128,n128,c128,A129,n129,c129,A130,n130,c130,A131,n131,c131,A132,n132,c132,A133,n133,c133,M134,M135,h,rfl,rfl⟩;refine ba (fun s L=> ∃p156 p157 p158 p159 p160 p161 p162 p163 p164 p165 p166 p167 p168 p169 p170 p171 p172 p173 p174 p175 p176 p177 p178 A166 n166 c166 A170 n170 c170 A171 n171 c171 A172 n172 c172 A173 n173 c173 A174 n174 c174 A175 n175 c175 A176 n176 c176 M177 M178,re N p156 p157 p158 p159 p160 p161 p162 p163 p164 p165 p166 p167 p168 p169 p170 p171 p172 p173 p174 p175 p176 p177 p178=some r∧s=[(2,.pointer none),(3,iV 0),(4,pV B16 0)]∧L=[bm A166 n166 c166 p166,cH A170 n170 c170 p170,bm A171 n171 c171 p171,ac B16 151 [iV p156,iV p157,iV p158,iV p159,iV p160,iV p161,iV p162,iV p163,iV p164,iV p165,.nilIface,pV B5 0,pV B13 0,I A166 n166 c166,iV p167,iV p168,iV p169,I A170 n170 c170,I A171 n171 c171],bw A172 n172 c172 p172,bw A173 n173 c173 p173,aX A174 n174 c174 p174,aX A175 n175 c175 p175,ac B5 199 [I A172 n172 c172,I A173 n173 c173,I A174 n174 c174,I A175 n175 c175,pV B10 0],cL A176 n176 c176 p176,aG aD cy M177 p177,ac B13 205 [I A176 n176 c176,.map (some M177)],aG cz cC M178 p178,ac B10 247 [.map (some M178)]]) ?_ ?_
 ·refine bK V ([bm A123 n123 c123 p123,cH A127 n127 c127 p127,bm A128 n128 c128 p128]) (cS [0,1,2] 14) ?_;refine zE 0 J (aq J) ?_;refine zE 1 J (bc J) ?_;refine zE 2 J (ci J lj) ?_;refine zE 4 J (aq J) ?_;refine zE 5 J (bd J (zq _)) ?_;refine vc 3 6 V ?_ ?_
  ·refine jA J (qy (aY 3 J J lV J)) J J J ?_;rintro _ _ ⟨rfl,rfl⟩;refine eg (cS [0,1,2] 14) ?_;obtain ⟨y179,hy179,h⟩:=aa h;refine qI (kd cc _) (cS [1,2,3] 15) ?_;refine qI (kd cc _) (cS [2,3,4] 16) ?_;refine zD 6 J (aA (gt hy179) xV J (az [2,3,4,1,0] [5,10,6,7,8,9,15,14,13,11,12] [0,1,2,3,4] 16 J)) ?_;rintro _ _ ⟨_,⟨A180,n180,c180,A181,n181,c181,A182,n182,c182,A183,n183,c183,M184,A185,n185,c185,M186,A187,n187,c187,A188,n188,c188,A189,n189,c189,rfl,rfl⟩,rfl⟩;refine ⟨[bm A187 n187 c187 y179.2.symbols_,cH A188 n188 c188 y179.2.events_,bm A189 n189 c189 y179.2.out_,bm A123 n123 c123 p123,cH A127 n127 c127 p127,bm A128 n128 c128 p128],cS [11,12,13,16,17,18] 19,(cv_tl).trans ((cv_tl).trans (cv_tl)),?_⟩;refine dt ?_;obtain ⟨y192,hy192,h⟩:=aa h;refine zD 7 J (aA (gm hy192) uW J (az [] [1,2,3,4,5,6,7] [0,8,9,10,11,12,13,14,15,16,17,18] 19 J)) ?_;rintro _ _ ⟨_,⟨A193,n193,c193,A194,n194,c194,A195,n195,c195,A196,n196,c196,M197,rfl,rfl⟩,rfl⟩;refine eg (cS [11,12,13,16,17,18] 19) ?_;refine dt ?_;refine bC V ?_;refine fa ?_
   exact ⟨_,_,⟨y179.2.spent_.steps_,y179.2.spent_.made_,y179.2.spent_.calls_,y179.2.config_.Way,y179.2.config_.Steps,y179.2.config_.Calls,y179.2.config_.Made,y179.2.config_.Young,y179.2.config_.Full,y179.2.config_.Sites,y179.2.symbols_,y179.2.epoch_,y179.2.serial_,y179.2.sleepers_,y179.2.events_,y179.2.out_,y192.2.m_.Young,y192.2.m_.Old,y192.2.roots_,y192.2.pending_,y179.2.shapes_.shapes_,y179.2.shapes_.next_,y192.2.set_.at_,A187,n187,c187,A188,n188,c188,A189,n189,c189,A193,n193,c193,A194,n194,c194,A195,n195,c195,A196,n196,c196,A185,n185,c185,M186,M197,h,J,J⟩,sA,cS [11,12,13,7,1,2,3,4,0,9,10,8,6,5] 19⟩
  obtain ⟨y179,hy179,h⟩:=aa h;refine vY (kd cc _) (cS [1,2,3] 15) ?_;refine vY (kd cc _) (cS [2,3,4] 16) ?_;refine jA J (aA (gt hy179) xV J (az [2,3,4,1,0] [5,10,6,7,8,9,15,14,13,11,12] [0,1,2,3,4] 16 J)) J J J ?_;rintro _ _ ⟨_,⟨A180,n180,c180,A181,n181,c181,A182,n182,c182,A183,n183,c183,M184,A185,n185,c185,M186,A187,n187,c187,A188,n188,c188,A189,n189,c189,rfl,rfl⟩,rfl⟩;refine ⟨[bm A187 n187 c187 y179.2.symbols_,cH A188 n188 c188 y179.2.events_,bm A189 n189 c189 y179.2.out_,bm A123 n123 c123 p123,cH A127 n127 c127 p127,bm A128 n128 c128 p128],cS [11,12,13,16,17,18] 19,(cv_tl).trans ((cv_tl).trans (cv_tl)),?_⟩;refine dt ?_;refine zD 3 J (qy (aY 0 J J lV J)) ?_;rintro _ _ ⟨rfl,rfl⟩;refine eg (cS [11,12,13,16,17,18] 19) ?_;obtain ⟨y192,hy192,h⟩:=aa h;refine zD 7 J (aA (gm hy192) uW J (az [] [1,2,3,4,5,6,7] [0,8,9,10,11,12,13,14,15,16,17,18] 19 J)) ?_;rintro _ _ ⟨_,⟨A193,n193,c193,A194,n194,c194,A195,n195,c195,A196,n196,c196,M197,rfl,rfl⟩,rfl⟩;refine eg (cS [11,12,13,16,17,18] 19) ?_;refine dt ?_;refine bC V ?_;refine fa ?_
  exact ⟨_,_,⟨y179.2.spent_.steps_,y179.2.spent_.made_,y179.2.spent_.calls_,y179.2.config_.Way,y179.2.config_.Steps,y179.2.config_.Calls,y179.2.config_.Made,y179.2.config_.Young,y179.2.config_.Full,y179.2.config_.Sites,y179.2.symbols_,y179.2.epoch_,y179.2.serial_,y179.2.sleepers_,y179.2.events_,y179.2.out_,y192.2.m_.Young,y192.2.m_.Old,y192.2.roots_,y192.2.pending_,y179.2.shapes_.shapes_,y179.2.shapes_.next_,y192.2.set_.at_,A187,n187,c187,A188,n188,c188,A189,n189,c189,A193,n193,c193,A194,n194,c194,A195,n195,c195,A196,n196,c196,A185,n185,c185,M186,M197,h,J,J⟩,sA,cS [11,12,13,7,1,2,3,4,0,9,10,8,6,5] 19⟩
 rintro _ _ ⟨p156,p157,p158,p159,p160,p161,p162,p163,p164,p165,p166,p167,p168,p169,p170,p171,p172,p173,p174,p175,p176,p177,p178,A166,n166,c166,A170,n170,c170,A171,n171,c171,A172,n172,c172,A173,n173,c173,A174,n174,c174,A175,n175,c175,A176,n176,c176,M177,M178,h,rfl,rfl⟩;refine U ?_;obtain rfl:=am h;exact dc J J J (cS [3,8,4,5,6,7,13,12,11,9,10,0,1,2] 14) ⟨_,_,_,_,_,_,_,_,_,_,_,_,_,_,_,_,_,_,_,_,_,_,_,_,_,_,_,_,_,_,J,J⟩
def pU (N:Nat):Option (Unit ⊕ MT):=
 (vl N (⟨0,1000,10,1000,0,1,1⟩:MO)).bind fun y1=>AV y1 (fun y1_0=>bif !decide (y1_0=0) then (some (.inl ())) else (some (.inl ()))) (fun y1_1=>bif !decide (y1_1.2=0) then (some (.inl ())) else (some (.inr y1_1.1)))
theorem AY {N:Nat}{r:(Unit ⊕ MT)}(h:pU N=some r):Okc Tryz.prog 42 [] ([]) (fun u post=>K1 (fun (r:Unit)=>u=.pointer none∧post=[]) (fun (r:MT)=> ∃B0 B1 A2 n2 c2 A3 n3 c3 A4 n4 c4 A5 n5 c5 B6 M7 B8 A9 n9 c9 M10 A11 n11 c11 A12 n12 c12 A13 n13 c13,u=pV B0 0∧post=[ac B0 151 (dm r B1 B8 A11 n11 c11 A12 n12 c12 A13 n13 c13),ac B1 199 [I A2 n2 c2,I A3 n3 c3,I A4 n4 c4,I A5 n5 c5,pV B6 0],bw A2 n2 c2 r.heap_.m_.Young,bw A3 n3 c3 r.heap_.m_.Old,aX A4 n4 c4 r.heap_.roots_,aX A5 n5 c5 r.heap_.pending_,ac B6 247 [.map (some M7)],aG cz cC M7 r.heap_.set_.at_,ac B8 205 [I A9 n9 c9,.map (some M10)],cL A9 n9 c9 r.shapes_.shapes_,aG aD cy M10 r.shapes_.next_,bm A11 n11 c11 r.symbols_,cH A12 n12 c12 r.events_,bm A13 n13 c13 r.out_]) r):=by
 refine bD Tryz.func42 J J ?_;simp only [aW];refine U ?_;refine gE (bd J (uY _ _ _ _ _)) ?_;obtain ⟨y1,hy1,h⟩:=aa h;rcases y1 with y1_0|y1_1
 ·replace h:=Cn h;refine gV (aA (tA hy1) GI J (az [] [] [] 0 J)) ?_;refine U ?_;refine aB ?_;refine U ?_;refine gH J h (fun h=> ?_) (fun h=> ?_)
  ·refine U ?_;obtain rfl:=am h;exact aL J J (cS [] 0) ⟨J,J⟩
  refine U ?_;obtain rfl:=am h;exact aL J J (cS [] 0) ⟨J,J⟩
 replace h:=Cm h;refine gD (aA (tA hy1) GI J (az [] [] [] 0 J)) ?_;rintro _ _ ⟨_,⟨B3,B4,A5,n5,c5,A6,n6,c6,A7,n7,c7,A8,n8,c8,B9,M10,B11,A12,n12,c12,M13,A14,n14,c14,A15,n15,c15,A16,n16,c16,rfl,rfl⟩,rfl⟩;refine U ?_;refine aB ?_;refine U ?_;refine gH J h (fun h=> ?_) (fun h=> ?_)
 ·refine U ?_;obtain rfl:=am h;exact aL J J (cS [] 14) ⟨J,J⟩
 refine U ?_;obtain rfl:=am h;exact aL J J (cS [0,1,2,3,4,5,6,7,8,9,10,11,12,13] 14) ⟨_,_,_,_,_,_,_,_,_,_,_,_,_,_,_,_,_,_,_,_,_,_,_,_,_,_,_,_,_,_,J,J⟩
def jJ (N:Nat):Option MT:=
 (pU N).bind fun s=>AV s (fun _=>none) some
theorem qR {N:Nat}{r:MT}(h:jJ N=some r):Okc Tryz.prog 42 [] ([]) (fun u post=> ∃B0 B1 A2 n2 c2 A3 n3 c3 A4 n4 c4 A5 n5 c5 B6 M7 B8 A9 n9 c9 M10 A11 n11 c11 A12 n12 c12 A13 n13 c13,u=pV B0 0∧post=[ac B0 151 (dm r B1 B8 A11 n11 c11 A12 n12 c12 A13 n13 c13),ac B1 199 [I A2 n2 c2,I A3 n3 c3,I A4 n4 c4,I A5 n5 c5,pV B6 0],bw A2 n2 c2 r.heap_.m_.Young,bw A3 n3 c3 r.heap_.m_.Old,aX A4 n4 c4 r.heap_.roots_,aX A5 n5 c5 r.heap_.pending_,ac B6 247 [.map (some M7)],aG cz cC M7 r.heap_.set_.at_,ac B8 205 [I A9 n9 c9,.map (some M10)],cL A9 n9 c9 r.shapes_.shapes_,aG aD cy M10 r.shapes_.next_,bm A11 n11 c11 r.symbols_,cH A12 n12 c12 r.events_,bm A13 n13 c13 r.out_]):=by
 have e:pU N=some (.inr r):=by
  unfold jJ at h
  cases q:pU N with
  |none=>rw [q] at h;cases h
  |some s=>
   rw [q] at h
   cases s with
   |inl _=>cases h
   |inr w=>cases h;rfl
 exact AY e
def lh (N:Nat)(a1:Int)(p13:Int):Option Int:=
 bif decide (a1≤p13) then (some (-1)) else (some p13)
def lS (N:Nat)(a0:Int)(a1:Int)(p7:Int):Option Int:=
 (bif decide (65≤a0) then (some (decide (a0≤70))) else (some false)).bind fun b14=>bif b14 then (dq (bQ ((IntKind.i64.wrap a0) - 65)) (dq (bQ (((IntKind.i64.wrap a0) - 65)+10)) (lh N a1 (((IntKind.i64.wrap a0) - 65)+10)))) else (lh N a1 p7)
def lT (N:Nat)(a0:Int)(a1:Int)(p2:Int):Option Int:=
 (bif decide (97≤a0) then (some (decide (a0≤102))) else (some false)).bind fun b8=>bif b8 then (dq (bQ ((IntKind.i64.wrap a0) - 97)) (dq (bQ (((IntKind.i64.wrap a0) - 97)+10)) (lS N a0 a1 (((IntKind.i64.wrap a0) - 97)+10)))) else (lS N a0 a1 p2)
def oX (N:Nat)(a0:Int)(a1:Int):Option Int:=
 (bif decide (48≤a0) then (some (decide (a0≤57))) else (some false)).bind fun b3=>bif b3 then (dq (bQ ((IntKind.i64.wrap a0) - 48)) (lT N a0 a1 ((IntKind.i64.wrap a0) - 48))) else (lT N a0 a1 (-1))
set_option maxHeartbeats 4000000 in
theorem zI {N:Nat}{a0:Int}{a1:Int}{r:Int}(h:oX N a0 a1=some r):Okc Tryz.prog 202 [.int .u8 a0,iV a1] ([]) (fun u post=>u=iV r∧post=[]):=by
 refine bD Tryz.func202 J J ?_;simp only [aW];refine U ?_;refine ba (fun s L=> ∃p2,lT N a0 a1 p2=some r∧s=[(0,.int .u8 a0),(1,iV a1),(4,iV 0),(5,iV p2)]∧L=[]) ?_ ?_
 ·refine U ?_;obtain ⟨b3,hb3,h⟩:=aa h;refine aK 3 11 b3 ?_ ?_
  ·clear h;refine aI 8 J (fun g3=> ?_) (fun g3=> ?_)
   ·have h:=aE g3 hb3;refine U ?_;obtain rfl:=am h;exact ad sA (cS [] 0)
   have h:=aF g3 hb3;refine U ?_;obtain rfl:=am h;exact ad sA (cS [] 0)
  refine U ?_;refine gH J h (fun h=> ?_) (fun h=> ?_)
  ·refine U ?_;refine gE (qD J J hJ) ?_;obtain ⟨q5,h⟩:=ay h;refine gE (dI J J q5.1 q5.2) ?_;refine U ?_;exact ⟨_,_,⟨(IntKind.i64.wrap a0) - 48,h,J,J⟩,sA,cS [] 0⟩
  refine U ?_;exact ⟨_,_,⟨(-1),h,J,J⟩,sA,cS [] 0⟩
 rintro _ _ ⟨p2,h,rfl,rfl⟩;refine ba (fun s L=> ∃p7,lS N a0 a1 p7=some r∧s=[(0,.int .u8 a0),(1,iV a1),(4,iV 0),(5,iV p7)]∧L=[]) ?_ ?_
 ·refine U ?_;obtain ⟨b8,hb8,h⟩:=aa h;refine aK 3 20 b8 ?_ ?_
  ·clear h;refine aI 17 J (fun g8=> ?_) (fun g8=> ?_)
   ·have h:=aE g8 hb8;refine U ?_;obtain rfl:=am h;exact ad sA (cS [] 0)
   have h:=aF g8 hb8;refine U ?_;obtain rfl:=am h;exact ad sA (cS [] 0)
  refine U ?_;refine gH J h (fun h=> ?_) (fun h=> ?_)
  ·refine U ?_;refine gE (qD J J hJ) ?_;obtain ⟨q10,h⟩:=ay h;refine gE (dI J J q10.1 q10.2) ?_;obtain ⟨q11,h⟩:=ay h;refine gE (bI J J q11.1 q11.2) ?_;refine U ?_;exact ⟨_,_,⟨((IntKind.i64.wrap a0) - 97)+10,h,J,J⟩,sA,cS [] 0⟩
  refine U ?_;exact ⟨_,_,⟨p2,h,J,J⟩,sA,cS [] 0⟩
 rintro _ _ ⟨p7,h,rfl,rfl⟩;refine ba (fun s L=> ∃p13,lh N a1 p13=some r∧s=[(1,iV a1),(4,iV 0),(5,iV p13)]∧L=[]) ?_ ?_
 ·refine U ?_;obtain ⟨b14,hb14,h⟩:=aa h;refine aK 3 30 b14 ?_ ?_
  ·clear h;refine aI 27 J (fun g14=> ?_) (fun g14=> ?_)
   ·have h:=aE g14 hb14;refine U ?_;obtain rfl:=am h;exact ad sA (cS [] 0)
   have h:=aF g14 hb14;refine U ?_;obtain rfl:=am h;exact ad sA (cS [] 0)
  refine U ?_;refine gH J h (fun h=> ?_) (fun h=> ?_)
  ·refine U ?_;refine gE (qD J J hJ) ?_;obtain ⟨q16,h⟩:=ay h;refine gE (dI J J q16.1 q16.2) ?_;obtain ⟨q17,h⟩:=ay h;refine gE (bI J J q17.1 q17.2) ?_;refine U ?_;exact ⟨_,_,⟨((IntKind.i64.wrap a0) - 65)+10,h,J,J⟩,sA,cS [] 0⟩
  refine U ?_;exact ⟨_,_,⟨p7,h,J,J⟩,sA,cS [] 0⟩
 rintro _ _ ⟨p13,h,rfl,rfl⟩;refine aB ?_;refine U ?_;refine gH J h (fun h=> ?_) (fun h=> ?_)
 ·refine U ?_;obtain rfl:=am h;exact aL J J (cS [] 0) ⟨J,J⟩
 refine U ?_;obtain rfl:=am h;exact aL J J (cS [] 0) ⟨J,J⟩
theorem wT {r:Int}:∀(u:Value)(p:List Chunk),u=iV r∧p=[]→∀c∈p,cM c:=by
 rintro _ _ ⟨rfl,rfl⟩;exact aj
def tG (N:Nat)(a0:ByteArray)(p2:Int):Option (Int×Bool):=
 some (p2,!(a0.toList==(⟨#[]⟩:ByteArray).toList))
def lU (N:Nat)(kb3:Int→Int→Option (Int×Bool))(a0:ByteArray)(a1:Int)(p5:Int)(p8:Int):Option (Int×Bool):=
 dq (bQ (p5+1)) (kb3 p8 (p5+1))
def li (N:Nat)(kb3:Int→Int→Option (Int×Bool))(a0:ByteArray)(a1:Int)(p5:Int)(p13:Int):Option (Int×Bool):=
 bif decide (9007199254740992<p13) then (lU N kb3 a0 a1 p5 (-1)) else (lU N kb3 a0 a1 p5 p13)
def gy (N:Nat)(a0:ByteArray)(a1:Int):Nat→Int→Int→Option (Int×Bool)
 |0,_,_=>none
 |m3+1,p4,p5=>bif decide (p5<(a0.size:Int)) then ((uQ a0 p5).bind fun x9=>(oX N x9 a1).bind fun y10=>bif decide (y10<0) then (some (0,false)) else (bif decide (0≤p4) then (dq (bQ (p4*a1)) (dq (bQ ((p4*a1)+y10)) (li N (gy N a0 a1 m3) a0 a1 p5 ((p4*a1)+y10)))) else (li N (gy N a0 a1 m3) a0 a1 p5 p4))) else (tG N a0 p4)
def vq (N:Nat)(a0:ByteArray)(a1:Int):Option (Int×Bool):=
 gy N a0 a1 N 0 0
set_option maxHeartbeats 4000000 in
theorem zJ {N:Nat}{a0:ByteArray}{a1:Int}{r:(Int×Bool)}(h:vq N a0 a1=some r):Okc Tryz.prog 144 [.string a0,iV a1] ([]) (fun u post=>u=.tuple #[iV r.1,.bool r.2]∧post=[]):=by
 refine bD Tryz.func144 J J ?_;simp only [aW];refine U ?_;refine ba (fun s L=> ∃p2,tG N a0 p2=some r∧s=[(0,.string a0),(4,iV 0),(5,.bool false),(6,iV p2)]∧L=[]) ?_ ?_
 ·refine U ?_;refine cn (fun m s L=> ∃p4 p5,gy N a0 a1 m p4 p5=some r∧s=[(0,.string a0),(1,iV a1),(4,iV 0),(5,.bool false),(6,iV p4),(7,iV p5)]∧L=[]) N _ _ ⟨0,0,h,J,J⟩ sA (cS [] 0) ?_;rintro (_|m3) _ _ ⟨p4,p5,h,rfl,rfl⟩
  ·exact bu h
  rw [gy.eq_2] at h;refine aB ?_;refine U ?_;refine gE (lx J hH) ?_;refine U ?_;refine gH J h (fun h=> ?_) (fun h=> ?_)
  ·refine U ?_;refine ba (fun s L=> ∃p8,lU N (gy N a0 a1 m3) a0 a1 p5 p8=some r∧s=[(0,.string a0),(1,iV a1),(4,iV 0),(5,.bool false),(6,iV p8),(7,iV p5)]∧L=[]) ?_ ?_
   ·refine U ?_;obtain ⟨x9,hx9,h⟩:=aa h;refine gE (oc J J hH hx9) ?_;refine U ?_;obtain ⟨y10,k,h⟩:=aa h;refine gV (ap (zI k) Iv J (aj) wT) ?_;refine U ?_;refine aB ?_;refine U ?_;refine gH J h (fun h=> ?_) (fun h=> ?_)
    ·refine U ?_;obtain rfl:=am h;exact dc J J J (cS [] 0) ⟨J,J⟩
    refine U ?_;refine ba (fun s L=> ∃p13,li N (gy N a0 a1 m3) a0 a1 p5 p13=some r∧s=[(0,.string a0),(1,iV a1),(4,iV 0),(5,.bool false),(6,iV p13),(7,iV p5)]∧L=[]) ?_ ?_
    ·refine U ?_;refine gH J h (fun h=> ?_) (fun h=> ?_)
     ·refine U ?_;obtain ⟨q15,h⟩:=ay h;refine gE (oJ J J q15.1 q15.2) ?_;refine U ?_;obtain ⟨q16,h⟩:=ay h;refine gE (bI J J q16.1 q16.2) ?_;refine U ?_;exact ⟨_,_,⟨(p4*a1)+y10,h,J,J⟩,sA,cS [] 0⟩
     refine U ?_;exact ⟨_,_,⟨p4,h,J,J⟩,sA,cS [] 0⟩
    rintro _ _ ⟨p13,h,rfl,rfl⟩;refine U ?_;refine gH J h (fun h=> ?_) (fun h=> ?_)
    ·refine U ?_;exact ⟨_,_,⟨(-1),h,J,J⟩,sA,cS [] 0⟩
    refine U ?_;exact ⟨_,_,⟨p13,h,J,J⟩,sA,cS [] 0⟩
   rintro _ _ ⟨p8,h,rfl,rfl⟩;refine U ?_;obtain ⟨q18,h⟩:=ay h;refine gE (bI J J q18.1 q18.2) ?_;refine U ?_;exact ⟨m3,_,_,Nh _,⟨p8,p5+1,h,J,J⟩,sA,cS [] 0⟩
  refine U ?_;exact ⟨_,_,⟨p4,h,J,J⟩,sA,cS [] 0⟩
 rintro _ _ ⟨p2,h,rfl,rfl⟩;refine U ?_;refine gE (xA J J) ?_;refine U ?_;obtain rfl:=am h;exact dc J J J (cS [] 0) ⟨J,J⟩
theorem wU {r:(Int×Bool)}:∀(u:Value)(p:List Chunk),u=.tuple #[iV r.1,.bool r.2]∧p=[]→∀c∈p,cM c:=by
 rintro _ _ ⟨rfl,rfl⟩;exact aj
def oW (N:Nat)(a0:ByteArray):Option (Int×Bool):=
 (bif a0.toList==(⟨#[]⟩:ByteArray).toList then (some true) else (some (decide (10<(a0.size:Int))))).bind fun b1=>(bif b1 then (some true) else ((uQ a0 0).bind fun x3=>(bif decide (x3=48) then (some (decide (1<(a0.size:Int)))) else (some false)).bind fun b4=>some b4)).bind fun b2=>bif b2 then (some (0,false)) else ((vq N a0 10).bind fun y6=>(bif !y6.2 then (some true) else (some (decide (4294967294<y6.1)))).bind fun b7=>bif b7 then (some (0,false)) else (some (y6.1,true)))
set_option maxHeartbeats 4000000 in
theorem zH {N:Nat}{a0:ByteArray}{r:(Int×Bool)}(h:oW N a0=some r):Okc Tryz.prog 78 [.string a0] ([]) (fun u post=>u=.tuple #[iV r.1,.bool r.2]∧post=[]):=by
 refine bD Tryz.func78 J J ?_;simp only [aW];refine U ?_;refine aB ?_;refine U ?_;refine gE (pM J J) ?_;refine U ?_;obtain ⟨b1,hb1,h⟩:=aa h;refine aK 4 12 b1 ?_ ?_
 ·clear h;refine aI 8 J (fun g1=> ?_) (fun g1=> ?_)
  ·have h:=aE g1 hb1;refine U ?_;obtain rfl:=am h;exact ad sA (cS [] 0)
  have h:=aF g1 hb1;refine U ?_;refine fb (lx J hH) J (cX g1 J) J ?_;refine U ?_;obtain rfl:=am h;exact ad sA (cS [] 0)
 refine U ?_;obtain ⟨b2,hb2,h⟩:=aa h;refine aK 9 22 b2 ?_ ?_
 ·clear h;refine aI 13 J (fun g2=> ?_) (fun g2=> ?_)
  ·have h:=aE g2 hb2;refine U ?_;obtain rfl:=am h;exact ad sA (cS [] 0)
  have h:=aF g2 hb2;refine U ?_;obtain ⟨x3,hx3,h⟩:=aa h;refine fb (oc J J hH hx3) J (cX g2 J) J ?_;refine U ?_;obtain ⟨b4,hb4,h⟩:=aa h;refine aK 4 21 b4 ?_ ?_
  ·clear h;refine aI 17 J (fun g4=> ?_) (fun g4=> ?_)
   ·have h:=aE g4 hb4;refine U ?_;refine fb (lx J hH) J (bp g4 J) J ?_;refine U ?_;obtain rfl:=am h;exact ad sA (cS [] 0)
   have h:=aF g4 hb4;refine U ?_;obtain rfl:=am h;exact ad sA (cS [] 0)
  refine U ?_;obtain rfl:=am h;exact ad sA (cS [] 0)
 refine U ?_;refine gH J h (fun h=> ?_) (fun h=> ?_)
 ·refine U ?_;obtain rfl:=am h;exact dc J J J (cS [] 0) ⟨J,J⟩
 refine U ?_;obtain ⟨y6,k,h⟩:=aa h;refine gV (ap (zJ k) IH J (aj) wU) ?_;refine U ?_;refine aB ?_;refine U ?_;obtain ⟨b7,hb7,h⟩:=aa h;refine aK 3 33 b7 ?_ ?_
 ·clear h;refine aI 30 J (fun g7=> ?_) (fun g7=> ?_)
  ·have h:=aE g7 hb7;refine U ?_;obtain rfl:=am h;exact ad sA (cS [] 0)
  have h:=aF g7 hb7;refine U ?_;obtain rfl:=am h;exact ad sA (cS [] 0)
 refine U ?_;refine gH J h (fun h=> ?_) (fun h=> ?_)
 ·refine U ?_;obtain rfl:=am h;exact dc J J J (cS [] 0) ⟨J,J⟩
 refine U ?_;obtain rfl:=am h;exact dc J J J (cS [] 0) ⟨J,J⟩
theorem wS {r:(Int×Bool)}:∀(u:Value)(p:List Chunk),u=.tuple #[iV r.1,.bool r.2]∧p=[]→∀c∈p,cM c:=by
 rintro _ _ ⟨rfl,rfl⟩;exact aj
def nh (N:Nat)(a0:MM):Option Bool:=
 bif decide (a0.Kind=0) then ((bif decide (0≤a0.N) then (some (decide (a0.N≤4294967294))) else (some false)).bind fun b3=>(bif b3 then (some (a0.S.toList==(⟨#[]⟩:ByteArray).toList)) else (some false)).bind fun b4=>some b4) else (bif decide (a0.Kind=1) then ((oW N a0.S).bind fun y6=>(bif decide (a0.N=0) then (some (!y6.2)) else (some false)).bind fun b7=>(bif b7 then (some (decide ((a0.S.size:Int)≤65536))) else (some false)).bind fun b8=>some b8) else (bif decide (a0.Kind=2) then ((bif decide (1≤a0.N) then (some (a0.S.toList==(⟨#[]⟩:ByteArray).toList)) else (some false)).bind fun b10=>some b10) else (some false)))
set_option maxHeartbeats 4000000 in
theorem tD {N:Nat}{a0:MM}{r:Bool}(h:nh N a0=some r):Okc Tryz.prog 16 [(fT a0)] ([]) (fun u post=>u=.bool r∧post=[]):=by
 refine bD Tryz.func16 J J ?_;simp only [aW];refine U ?_
 refine gB (aO J J) fun B1=> ?_
 refine U ?_;refine aB ?_;refine U ?_;refine gH J h (fun h=> ?_) (fun h=> ?_)
 ·refine U ?_;obtain ⟨b3,hb3,h⟩:=aa h;refine aK 4 16 b3 ?_ ?_
  ·clear h;refine aI 12 J (fun g3=> ?_) (fun g3=> ?_)
   ·have h:=aE g3 hb3;refine U ?_;obtain rfl:=am h;exact ad sA (cS [0] 1)
   have h:=aF g3 hb3;refine U ?_;obtain rfl:=am h;exact ad sA (cS [0] 1)
  refine U ?_;obtain ⟨b4,hb4,h⟩:=aa h;refine aK 4 21 b4 ?_ ?_
  ·clear h;refine aI 17 J (fun g4=> ?_) (fun g4=> ?_)
   ·have h:=aE g4 hb4;refine U ?_;refine fb (pM J J) J (bp g4 J) J ?_;refine U ?_;obtain rfl:=am h;exact ad sA (cS [0] 1)
   have h:=aF g4 hb4;refine U ?_;obtain rfl:=am h;exact ad sA (cS [0] 1)
  refine U ?_;obtain rfl:=am h;exact aL J J (cS [] 1) ⟨J,J⟩
 refine U ?_;refine gH J h (fun h=> ?_) (fun h=> ?_)
 ·refine U ?_;obtain ⟨y6,k,h⟩:=aa h;refine gV (ap (zH k) Kj J (aj) wS) ?_;refine U ?_;obtain ⟨b7,hb7,h⟩:=aa h;refine aK 3 36 b7 ?_ ?_
  ·clear h;refine aI 33 J (fun g7=> ?_) (fun g7=> ?_)
   ·have h:=aE g7 hb7;refine U ?_;obtain rfl:=am h;exact ad sA (cS [0] 1)
   have h:=aF g7 hb7;refine U ?_;obtain rfl:=am h;exact ad sA (cS [0] 1)
  refine U ?_;obtain ⟨b8,hb8,h⟩:=aa h;refine aK 5 42 b8 ?_ ?_
  ·clear h;refine aI 37 J (fun g8=> ?_) (fun g8=> ?_)
   ·have h:=aE g8 hb8;refine U ?_;refine fb (lx J hH) J (bp g8 J) J ?_;refine U ?_;obtain rfl:=am h;exact ad sA (cS [0] 1)
   have h:=aF g8 hb8;refine U ?_;obtain rfl:=am h;exact ad sA (cS [0] 1)
  refine U ?_;obtain rfl:=am h;exact aL J J (cS [] 1) ⟨J,J⟩
 refine U ?_;refine gH J h (fun h=> ?_) (fun h=> ?_)
 ·refine U ?_;obtain ⟨b10,hb10,h⟩:=aa h;refine aK 4 52 b10 ?_ ?_
  ·clear h;refine aI 48 J (fun g10=> ?_) (fun g10=> ?_)
   ·have h:=aE g10 hb10;refine U ?_;refine fb (pM J J) J (bp g10 J) J ?_;refine U ?_;obtain rfl:=am h;exact ad sA (cS [0] 1)
   have h:=aF g10 hb10;refine U ?_;obtain rfl:=am h;exact ad sA (cS [0] 1)
  refine U ?_;obtain rfl:=am h;exact aL J J (cS [] 1) ⟨J,J⟩
 refine U ?_;obtain rfl:=am h;exact aL J J (cS [] 1) ⟨J,J⟩
theorem rj {r:Bool}:∀(u:Value)(p:List Chunk),u=.bool r∧p=[]→∀c∈p,cM c:=by
 rintro _ _ ⟨rfl,rfl⟩;exact aj
def lM (N:Nat)(a0:Int)(a1:Int):Option Bool:=
 dq ((a1:Int)≠0∧bQ (a0.tdiv a1)) (some (decide ((a0.tdiv a1).tmod 2=1)))
theorem sV {N:Nat}{a0:Int}{a1:Int}{r:Bool}(h:lM N a0 a1=some r):Okc Tryz.prog 114 [iV a0,iV a1] ([]) (fun u post=>u=.bool r∧post=[]):=by
 refine bD Tryz.func114 J J ?_;simp only [aW];refine U ?_;obtain ⟨q1,h⟩:=ay h;refine gE (xB J J q1.1 q1.2.1 q1.2.2) ?_;refine gE (oI J J (by decide)) ?_;refine U ?_;obtain rfl:=am h;exact aL J J (cS [] 0) ⟨J,J⟩
theorem pZ {r:Bool}:∀(u:Value)(p:List Chunk),u=.bool r∧p=[]→∀c∈p,cM c:=by
 rintro _ _ ⟨rfl,rfl⟩;exact aj
def oy (N:Nat)(a0:MQ)(a1:Bool):Option Bool:=
 bif !a1 then (some (decide (a0=(⟨0,0,⟨#[]⟩⟩:MQ)))) else ((bif decide (a0.Kind=0) then (some true) else (some (decide (a0.Kind=7)))).bind fun b3=>some b3)
theorem vo {N:Nat}{a0:MQ}{a1:Bool}{r:Bool}(h:oy N a0 a1=some r):Okc Tryz.prog 116 [(bz a0),.bool a1] ([]) (fun u post=>u=.bool r∧post=[]):=by
 refine bD Tryz.func116 J J ?_;simp only [aW];refine U ?_
 refine gB (aO J J) fun B1=> ?_
 refine U ?_;refine aB ?_;refine U ?_;refine gH J h (fun h=> ?_) (fun h=> ?_)
 ·refine U ?_;refine gR (ah (us:=au a0) 0 J J aH J) ?_;refine gE (bd J (gC)) ?_;refine gE (mi (x:=a0) (y:=(⟨0,0,⟨#[]⟩⟩:MQ)) J J) ?_;refine U ?_;obtain rfl:=am h;exact aL J J (cS [] 1) ⟨J,J⟩
 refine U ?_;obtain ⟨b3,hb3,h⟩:=aa h;refine aK 4 17 b3 ?_ ?_
 ·clear h;refine aI 13 J (fun g3=> ?_) (fun g3=> ?_)
  ·have h:=aE g3 hb3;refine U ?_;obtain rfl:=am h;exact ad sA (cS [0] 1)
  have h:=aF g3 hb3;refine U ?_;obtain rfl:=am h;exact ad sA (cS [0] 1)
 refine U ?_;obtain rfl:=am h;exact aL J J (cS [] 1) ⟨J,J⟩
theorem sE {r:Bool}:∀(u:Value)(p:List Chunk),u=.bool r∧p=[]→∀c∈p,cM c:=by
 rintro _ _ ⟨rfl,rfl⟩;exact aj
def ls (N:Nat)(a0:MX):Option Bool:=
 (bif decide (a0.Attrs<0) then (some true) else (some (decide (15<a0.Attrs)))).bind fun b2=>bif b2 then (some false) else ((lM N a0.Attrs 8).bind fun y4=>bif y4 then ((lM N a0.Attrs 1).bind fun y6=>(bif !y6 then (some (decide (a0.Value=(⟨0,0,⟨#[]⟩⟩:MQ)))) else (some false)).bind fun b7=>(bif b7 then ((oy N a0.Get true).bind fun y9=>some y9) else (some false)).bind fun b8=>(bif b8 then ((oy N a0.Set true).bind fun y11=>some y11) else (some false)).bind fun b10=>some b10) else ((bif decide (a0.Get=(⟨0,0,⟨#[]⟩⟩:MQ)) then (some (decide (a0.Set=(⟨0,0,⟨#[]⟩⟩:MQ)))) else (some false)).bind fun b12=>(bif b12 then (some (decide (0≤a0.Value.Kind))) else (some false)).bind fun b13=>(bif b13 then (some (decide (a0.Value.Kind≤7))) else (some false)).bind fun b14=>some b14))
set_option maxHeartbeats 4000000 in
theorem uE {N:Nat}{a0:MX}{r:Bool}(h:ls N a0=some r):Okc Tryz.prog 132 [(bJ a0)] ([]) (fun u post=>u=.bool r∧post=[]):=by
 refine bD Tryz.func132 J J ?_;simp only [aW];refine U ?_
 refine gB (aO J J) fun B1=> ?_
 refine U ?_;refine aB ?_;refine U ?_;obtain ⟨b2,hb2,h⟩:=aa h;refine aK 4 10 b2 ?_ ?_
 ·clear h;refine aI 6 J (fun g2=> ?_) (fun g2=> ?_)
  ·have h:=aE g2 hb2;refine U ?_;obtain rfl:=am h;exact ad sA (cS [0] 1)
  have h:=aF g2 hb2;refine U ?_;obtain rfl:=am h;exact ad sA (cS [0] 1)
 refine U ?_;refine gH J h (fun h=> ?_) (fun h=> ?_)
 ·refine U ?_;obtain rfl:=am h;exact aL J J (cS [] 1) ⟨J,J⟩
 refine U ?_;refine aB ?_;refine U ?_;obtain ⟨y4,k,h⟩:=aa h;refine gV (ap (sV k) AN J (aj) pZ) ?_;refine U ?_;refine gH J h (fun h=> ?_) (fun h=> ?_)
 ·refine U ?_;obtain ⟨y6,k,h⟩:=aa h;refine gV (ap (sV k) AN J (aj) pZ) ?_;refine U ?_;obtain ⟨b7,hb7,h⟩:=aa h;refine aK 5 23 b7 ?_ ?_
  ·clear h;refine aI 18 J (fun g7=> ?_) (fun g7=> ?_)
   ·have h:=aE g7 hb7;refine U ?_;refine cp (ah (us:=au a0.Value) 0 J J aH J) J (bp g7 J) J ?_;refine fb (bd J (gC)) J (bp g7 J) J ?_;refine fb (mi (x:=a0.Value) (y:=(⟨0,0,⟨#[]⟩⟩:MQ)) J J) J (bp g7 J) J ?_;refine U ?_;obtain rfl:=am h;exact ad sA (cS [0] 1)
   have h:=aF g7 hb7;refine U ?_;obtain rfl:=am h;exact ad sA (cS [0] 1)
  refine U ?_;obtain ⟨b8,hb8,h⟩:=aa h;refine aK 4 28 b8 ?_ ?_
  ·clear h;refine aI 24 J (fun g8=> ?_) (fun g8=> ?_)
   ·have h:=aE g8 hb8;refine U ?_;refine cp (ah (us:=au a0.Get) 0 J J aH J) J (bp g8 J) J ?_;obtain ⟨y9,k,h⟩:=aa h;refine gU (ap (vo k) D0 J (aj) sE) (bp g8 J) ?_;refine U ?_;obtain rfl:=am h;exact ad sA (cS [0] 1)
   have h:=aF g8 hb8;refine U ?_;obtain rfl:=am h;exact ad sA (cS [0] 1)
  refine U ?_;obtain ⟨b10,hb10,h⟩:=aa h;refine aK 4 33 b10 ?_ ?_
  ·clear h;refine aI 29 J (fun g10=> ?_) (fun g10=> ?_)
   ·have h:=aE g10 hb10;refine U ?_;refine cp (ah (us:=au a0.Set) 0 J J aH J) J (bp g10 J) J ?_;obtain ⟨y11,k,h⟩:=aa h;refine gU (ap (vo k) D0 J (aj) sE) (bp g10 J) ?_;refine U ?_;obtain rfl:=am h;exact ad sA (cS [0] 1)
   have h:=aF g10 hb10;refine U ?_;obtain rfl:=am h;exact ad sA (cS [0] 1)
  refine U ?_;obtain rfl:=am h;exact aL J J (cS [] 1) ⟨J,J⟩
 refine U ?_;refine gR (ah (us:=au a0.Get) 0 J J aH J) ?_;refine gE (bd J (gC)) ?_;refine gE (mi (x:=a0.Get) (y:=(⟨0,0,⟨#[]⟩⟩:MQ)) J J) ?_;refine U ?_;obtain ⟨b12,hb12,h⟩:=aa h;refine aK 5 43 b12 ?_ ?_
 ·clear h;refine aI 38 J (fun g12=> ?_) (fun g12=> ?_)
  ·have h:=aE g12 hb12;refine U ?_;refine cp (ah (us:=au a0.Set) 0 J J aH J) J (bp g12 J) J ?_;refine fb (bd J (gC)) J (bp g12 J) J ?_;refine fb (mi (x:=a0.Set) (y:=(⟨0,0,⟨#[]⟩⟩:MQ)) J J) J (bp g12 J) J ?_;refine U ?_;obtain rfl:=am h;exact ad sA (cS [0] 1)
  have h:=aF g12 hb12;refine U ?_;obtain rfl:=am h;exact ad sA (cS [0] 1)
 refine U ?_;obtain ⟨b13,hb13,h⟩:=aa h;refine aK 5 49 b13 ?_ ?_
 ·clear h;refine aI 44 J (fun g13=> ?_) (fun g13=> ?_)
  ·have h:=aE g13 hb13;refine U ?_;obtain rfl:=am h;exact ad sA (cS [0] 1)
  have h:=aF g13 hb13;refine U ?_;obtain rfl:=am h;exact ad sA (cS [0] 1)
 refine U ?_;obtain ⟨b14,hb14,h⟩:=aa h;refine aK 5 55 b14 ?_ ?_
 ·clear h;refine aI 50 J (fun g14=> ?_) (fun g14=> ?_)
  ·have h:=aE g14 hb14;refine U ?_;obtain rfl:=am h;exact ad sA (cS [0] 1)
  have h:=aF g14 hb14;refine U ?_;obtain rfl:=am h;exact ad sA (cS [0] 1)
 refine U ?_;obtain rfl:=am h;exact aL J J (cS [] 1) ⟨J,J⟩
theorem sW {r:Bool}:∀(u:Value)(p:List Chunk),u=.bool r∧p=[]→∀c∈p,cM c:=by
 rintro _ _ ⟨rfl,rfl⟩;exact aj
end Go.Proofs.YtanojiedimeegaaGreatDoor