/- Merged texts: part 4. No conditions of their own. -/
import Derived.Test.YtanojiedimeegaaGreatDoorG3
namespace Go.Proofs.YtanojiedimeegaaGreatDoor
theorem hU:type_of% Tryz.underlying36:=Tryz.underlying36
theorem hP:type_of% Tryz.underlying195:=Tryz.underlying195
variable {A1 A10 A12 A13 A14 A15 A16 A2 A3 A4 A5 A6 A8 A9:Option Addr} {B1 B2 B6 B7 B9 M11 M7 M8 c1 c10 c12 c13 c14 c15 c16 c2 c3 c4 c5 c6 c8 c9 n1 n10 n12 n13 n14 n15 n16 n2 n3 n4 n5 n6 n8 n9:Nat}
open Go.RowKit Asn
set_option maxRecDepth 20000
def jm (N:Nat)(a0:Int)(a1:(List JS))(p5:Bool):Option Bool:=
 bif p5 then (some (decide ((a1.length:Int)=0))) else (bif decide (a0=3) then ((bif decide ((a1.length:Int)=3) then ((bT a1 0).bind fun x10=>(gG N x10 0 9007199254740992).bind fun y11=>some y11) else (some false)).bind fun b9=>(bif b9 then ((bT a1 1).bind fun x13=>(fb N x13 9).bind fun y14=>some y14) else (some false)).bind fun b12=>some b12) else (bif decide (a0=4) then ((bif decide (1≤(a1.length:Int)) then (some (decide ((a1.length:Int)≤4097))) else (some false)).bind fun b16=>(bif b16 then ((bT a1 0).bind fun x18=>(fb N x18 9).bind fun y19=>some y19) else (some false)).bind fun b17=>some b17) else (bif decide (a0=6) then ((bif decide ((a1.length:Int)=2) then ((bT a1 0).bind fun x22=>(gG N x22 0 3).bind fun y23=>some y23) else (some false)).bind fun b21=>(bif b21 then ((bT a1 1).bind fun x25=>(fb N x25 9).bind fun y26=>some y26) else (some false)).bind fun b24=>some b24) else (bif decide (a0=7) then ((bif decide (4≤(a1.length:Int)) then ((bT a1 2).bind fun x29=>(gG N x29 0 1).bind fun y30=>some y30) else (some false)).bind fun b28=>(bif b28 then ((bT a1 3).bind fun x32=>(gG N x32 0 9007199254740992).bind fun y33=>some y33) else (some false)).bind fun b31=>some b31) else (bif decide (a0=8) then ((kd N a1 2).bind fun y35=>some y35) else (bif decide (a0=10) then ((bif decide (1≤(a1.length:Int)) then ((bT a1 0).bind fun x38=>some (decide (x38.Kind=7))) else (some false)).bind fun b37=>(bif b37 then (cN ((0:Int)≤1∧(1:Int).toNat≤a1.length∧a1.length≤a1.length) ((kd N ((a1.drop ((1:Int).toNat)).take (a1.length - (1:Int).toNat)) 4).bind fun y42=>some y42)) else (some false)).bind fun b39=>some b39) else (bif decide (a0=9) then ((bif decide (2≤(a1.length:Int)) then ((bT a1 0).bind fun x45=>(gG N x45 0 2).bind fun y46=>some y46) else (some false)).bind fun b44=>some b44) else (some true))))))))
def ig (N:Nat)(a0:Int)(a1:(List JS)):Option Bool:=
 bif decide (1048576<(a1.length:Int)) then (some false) else (bif decide (a0=2) then (some (decide ((a1.length:Int)≤4096))) else (bif decide (a0=1) then (jm N a0 a1 (decide (a0=1))) else (jm N a0 a1 (decide (a0=5)))))
set_option maxHeartbeats 4000000 in
theorem sG {N:Nat}{a0:Int}{a1:(List JS)}{r:Bool}(h:ig N a0 a1=some r):Okc Tryz.prog 228 [iV a0,I A1 n1 c1] ([dB A1 n1 c1 a1]) (fun u post=>u=.bool r∧post=[]):=by
 refine bx Tryz.func228 J J ?_;simp only [aX];refine Y ?_;refine aC ?_;refine Y ?_;refine gR (bK 0 J aR J hE) ?_;refine Y ?_;refine ar J (fun g2=> ?_) (fun g2=> ?_)
 ·replace h:=ae g2 h;refine Y ?_;obtain rfl:=ao h;exact aN J J (cS [] 1) ⟨J,J⟩
 replace h:=ah g2 h;refine Y ?_;refine aC ?_;refine Y ?_;refine ar J (fun g3=> ?_) (fun g3=> ?_)
 ·replace h:=ae g3 h;refine Y ?_;refine gR (bK 0 J aR J hE) ?_;refine Y ?_;obtain rfl:=ao h;exact aN J J (cS [] 1) ⟨J,J⟩
 replace h:=ah g3 h;refine ba (fun s L=> ∃p5,jm N a0 a1 p5=some r∧s=[(1,I A1 n1 c1),(4,.bool false),(8,iV a0),(14,.bool p5)]∧L=[dB A1 n1 c1 a1]) ?_ ?_
 ·refine Y ?_;refine ar J (fun g6=> ?_) (fun g6=> ?_)
  ·replace h:=ae g6 h;refine Y ?_;exact ⟨_,_,⟨decide (a0=1),h,J,J⟩,sA,cS [0] 1⟩
  replace h:=ah g6 h;refine Y ?_;exact ⟨_,_,⟨decide (a0=5),h,J,J⟩,sA,cS [0] 1⟩
 rintro _ _ ⟨p5,h,rfl,rfl⟩;refine ar J (fun g7=> ?_) (fun g7=> ?_)
 ·replace h:=ae g7 h;refine Y ?_;refine gR (bK 0 J aR J hE) ?_;refine Y ?_;obtain rfl:=ao h;exact aN J J (cS [] 1) ⟨J,J⟩
 replace h:=ah g7 h;refine Y ?_;refine ar J (fun g8=> ?_) (fun g8=> ?_)
 ·replace h:=ae g8 h;refine Y ?_;refine gR (bK 0 J aR J hE) ?_;refine Y ?_;obtain ⟨b9,hb9,h⟩:=aa h;refine aK 5 30 b9 ?_ ?_
  ·clear h;refine aI 25 J (fun g9=> ?_) (fun g9=> ?_)
   ·have h:=ae g9 hb9;refine Y ?_;obtain ⟨x10,hx10,h⟩:=aa h;obtain ⟨lx10,ux10,hx10⟩:=aH hx10;refine ck (bm 0 J aR J J hE bi lx10 ux10) J (bp g9 J) J ?_;refine ck (bn (us:=[iV x10.Kind,iV x10.N,.string x10.S]) 0 J aR J hx10 aJ (fun _ _ _ h=>by rw [show _=_ from h];rfl)) J (bp g9 J) J ?_;obtain ⟨y11,hy11,h⟩:=aa h;refine cL (aq (ie hy11) qW J (ak) fT) J (bp g9 J) J ?_;rintro _ _ ⟨_,⟨rfl,rfl⟩,rfl⟩;refine Y ?_;obtain rfl:=ao h;exact ac sA (cS [0] 1)
   have h:=ah g9 hb9;refine Y ?_;obtain rfl:=ao h;exact ac sA (cS [0] 1)
  refine Y ?_;obtain ⟨b12,hb12,h⟩:=aa h;refine aK 5 36 b12 ?_ ?_
  ·clear h;refine aI 31 J (fun g12=> ?_) (fun g12=> ?_)
   ·have h:=ae g12 hb12;refine Y ?_;obtain ⟨x13,hx13,h⟩:=aa h;obtain ⟨lx13,ux13,hx13⟩:=aH hx13;refine ck (bm 0 J aR J J hE bi lx13 ux13) J (bp g12 J) J ?_;refine ck (bn (us:=[iV x13.Kind,iV x13.N,.string x13.S]) 0 J aR J hx13 aJ (fun _ _ _ h=>by rw [show _=_ from h];rfl)) J (bp g12 J) J ?_;obtain ⟨y14,hy14,h⟩:=aa h;refine cL (aq (ic hy14) qX J (ak) fS) J (bp g12 J) J ?_;rintro _ _ ⟨_,⟨rfl,rfl⟩,rfl⟩;refine Y ?_;obtain rfl:=ao h;exact ac sA (cS [0] 1)
   have h:=ah g12 hb12;refine Y ?_;obtain rfl:=ao h;exact ac sA (cS [0] 1)
  refine Y ?_;obtain rfl:=ao h;exact aN J J (cS [] 1) ⟨J,J⟩
 replace h:=ah g8 h;refine Y ?_;refine ar J (fun g15=> ?_) (fun g15=> ?_)
 ·replace h:=ae g15 h;refine Y ?_;refine gR (bK 0 J aR J hE) ?_;refine Y ?_;obtain ⟨b16,hb16,h⟩:=aa h;refine aK 4 46 b16 ?_ ?_
  ·clear h;refine aI 42 J (fun g16=> ?_) (fun g16=> ?_)
   ·have h:=ae g16 hb16;refine Y ?_;refine ck (bK 0 J aR J hE) J (bp g16 J) J ?_;refine Y ?_;obtain rfl:=ao h;exact ac sA (cS [0] 1)
   have h:=ah g16 hb16;refine Y ?_;obtain rfl:=ao h;exact ac sA (cS [0] 1)
  refine Y ?_;obtain ⟨b17,hb17,h⟩:=aa h;refine aK 5 52 b17 ?_ ?_
  ·clear h;refine aI 47 J (fun g17=> ?_) (fun g17=> ?_)
   ·have h:=ae g17 hb17;refine Y ?_;obtain ⟨x18,hx18,h⟩:=aa h;obtain ⟨lx18,ux18,hx18⟩:=aH hx18;refine ck (bm 0 J aR J J hE bi lx18 ux18) J (bp g17 J) J ?_;refine ck (bn (us:=[iV x18.Kind,iV x18.N,.string x18.S]) 0 J aR J hx18 aJ (fun _ _ _ h=>by rw [show _=_ from h];rfl)) J (bp g17 J) J ?_;obtain ⟨y19,hy19,h⟩:=aa h;refine cL (aq (ic hy19) qX J (ak) fS) J (bp g17 J) J ?_;rintro _ _ ⟨_,⟨rfl,rfl⟩,rfl⟩;refine Y ?_;obtain rfl:=ao h;exact ac sA (cS [0] 1)
   have h:=ah g17 hb17;refine Y ?_;obtain rfl:=ao h;exact ac sA (cS [0] 1)
  refine Y ?_;obtain rfl:=ao h;exact aN J J (cS [] 1) ⟨J,J⟩
 replace h:=ah g15 h;refine Y ?_;refine ar J (fun g20=> ?_) (fun g20=> ?_)
 ·replace h:=ae g20 h;refine Y ?_;refine gR (bK 0 J aR J hE) ?_;refine Y ?_;obtain ⟨b21,hb21,h⟩:=aa h;refine aK 5 63 b21 ?_ ?_
  ·clear h;refine aI 58 J (fun g21=> ?_) (fun g21=> ?_)
   ·have h:=ae g21 hb21;refine Y ?_;obtain ⟨x22,hx22,h⟩:=aa h;obtain ⟨lx22,ux22,hx22⟩:=aH hx22;refine ck (bm 0 J aR J J hE bi lx22 ux22) J (bp g21 J) J ?_;refine ck (bn (us:=[iV x22.Kind,iV x22.N,.string x22.S]) 0 J aR J hx22 aJ (fun _ _ _ h=>by rw [show _=_ from h];rfl)) J (bp g21 J) J ?_;obtain ⟨y23,hy23,h⟩:=aa h;refine cL (aq (ie hy23) qW J (ak) fT) J (bp g21 J) J ?_;rintro _ _ ⟨_,⟨rfl,rfl⟩,rfl⟩;refine Y ?_;obtain rfl:=ao h;exact ac sA (cS [0] 1)
   have h:=ah g21 hb21;refine Y ?_;obtain rfl:=ao h;exact ac sA (cS [0] 1)
  refine Y ?_;obtain ⟨b24,hb24,h⟩:=aa h;refine aK 5 69 b24 ?_ ?_
  ·clear h;refine aI 64 J (fun g24=> ?_) (fun g24=> ?_)
   ·have h:=ae g24 hb24;refine Y ?_;obtain ⟨x25,hx25,h⟩:=aa h;obtain ⟨lx25,ux25,hx25⟩:=aH hx25;refine ck (bm 0 J aR J J hE bi lx25 ux25) J (bp g24 J) J ?_;refine ck (bn (us:=[iV x25.Kind,iV x25.N,.string x25.S]) 0 J aR J hx25 aJ (fun _ _ _ h=>by rw [show _=_ from h];rfl)) J (bp g24 J) J ?_;obtain ⟨y26,hy26,h⟩:=aa h;refine cL (aq (ic hy26) qX J (ak) fS) J (bp g24 J) J ?_;rintro _ _ ⟨_,⟨rfl,rfl⟩,rfl⟩;refine Y ?_;obtain rfl:=ao h;exact ac sA (cS [0] 1)
   have h:=ah g24 hb24;refine Y ?_;obtain rfl:=ao h;exact ac sA (cS [0] 1)
  refine Y ?_;obtain rfl:=ao h;exact aN J J (cS [] 1) ⟨J,J⟩
 replace h:=ah g20 h;refine Y ?_;refine ar J (fun g27=> ?_) (fun g27=> ?_)
 ·replace h:=ae g27 h;refine Y ?_;refine gR (bK 0 J aR J hE) ?_;refine Y ?_;obtain ⟨b28,hb28,h⟩:=aa h;refine aK 5 80 b28 ?_ ?_
  ·clear h;refine aI 75 J (fun g28=> ?_) (fun g28=> ?_)
   ·have h:=ae g28 hb28;refine Y ?_;obtain ⟨x29,hx29,h⟩:=aa h;obtain ⟨lx29,ux29,hx29⟩:=aH hx29;refine ck (bm 0 J aR J J hE bi lx29 ux29) J (bp g28 J) J ?_;refine ck (bn (us:=[iV x29.Kind,iV x29.N,.string x29.S]) 0 J aR J hx29 aJ (fun _ _ _ h=>by rw [show _=_ from h];rfl)) J (bp g28 J) J ?_;obtain ⟨y30,hy30,h⟩:=aa h;refine cL (aq (ie hy30) qW J (ak) fT) J (bp g28 J) J ?_;rintro _ _ ⟨_,⟨rfl,rfl⟩,rfl⟩;refine Y ?_;obtain rfl:=ao h;exact ac sA (cS [0] 1)
   have h:=ah g28 hb28;refine Y ?_;obtain rfl:=ao h;exact ac sA (cS [0] 1)
  refine Y ?_;obtain ⟨b31,hb31,h⟩:=aa h;refine aK 5 86 b31 ?_ ?_
  ·clear h;refine aI 81 J (fun g31=> ?_) (fun g31=> ?_)
   ·have h:=ae g31 hb31;refine Y ?_;obtain ⟨x32,hx32,h⟩:=aa h;obtain ⟨lx32,ux32,hx32⟩:=aH hx32;refine ck (bm 0 J aR J J hE bi lx32 ux32) J (bp g31 J) J ?_;refine ck (bn (us:=[iV x32.Kind,iV x32.N,.string x32.S]) 0 J aR J hx32 aJ (fun _ _ _ h=>by rw [show _=_ from h];rfl)) J (bp g31 J) J ?_;obtain ⟨y33,hy33,h⟩:=aa h;refine cL (aq (ie hy33) qW J (ak) fT) J (bp g31 J) J ?_;rintro _ _ ⟨_,⟨rfl,rfl⟩,rfl⟩;refine Y ?_;obtain rfl:=ao h;exact ac sA (cS [0] 1)
   have h:=ah g31 hb31;refine Y ?_;obtain rfl:=ao h;exact ac sA (cS [0] 1)
  refine Y ?_;obtain rfl:=ao h;exact aN J J (cS [] 1) ⟨J,J⟩
 replace h:=ah g27 h;refine Y ?_;refine ar J (fun g34=> ?_) (fun g34=> ?_)
 ·replace h:=ae g34 h;refine Y ?_;obtain ⟨y35,hy35,h⟩:=aa h;refine gD (aq (mr hy35) BD J (hD (am (i:=0) J J) ak) lu) ?_;rintro _ _ ⟨_,⟨rfl,rfl⟩,rfl⟩;refine Y ?_;obtain rfl:=ao h;exact aN J J (cS [] 1) ⟨J,J⟩
 replace h:=ah g34 h;refine Y ?_;refine ar J (fun g36=> ?_) (fun g36=> ?_)
 ·replace h:=ae g36 h;refine Y ?_;refine gR (bK 0 J aR J hE) ?_;refine Y ?_;obtain ⟨b37,hb37,h⟩:=aa h;refine aK 6 102 b37 ?_ ?_
  ·clear h;refine aI 96 J (fun g37=> ?_) (fun g37=> ?_)
   ·have h:=ae g37 hb37;refine Y ?_;obtain ⟨x38,hx38,h⟩:=aa h;obtain ⟨lx38,ux38,hx38⟩:=aH hx38;refine ck (bm 0 J aR J J hE bi lx38 ux38) J (bp g37 J) J ?_;refine ck (oC 0 J aR J (toNat_lt lx38 ux38) mY) J (bp g37 J) J ?_;refine ck (eK (u:=iV x38.Kind) 0 J aR J hx38 dy (fun _ _ _ h=>by rw [show _=_ from h];rfl)) J (bp g37 J) J ?_;refine Y ?_;obtain rfl:=ao h;exact ac sA (cS [0] 1)
   have h:=ah g37 hb37;refine Y ?_;obtain rfl:=ao h;exact ac sA (cS [0] 1)
  refine Y ?_;obtain ⟨b39,hb39,h⟩:=aa h;refine aK 4 107 b39 ?_ ?_
  ·clear h;refine aI 103 J (fun g39=> ?_) (fun g39=> ?_)
   ·have h:=ae g39 hb39;refine Y ?_;obtain ⟨q40,h⟩:=ay h;refine GT 0 J (l:=(1:Int).toNat) (h:=a1.length) q40.2.1 q40.2.2 ?_;rintro A41 n41 c41 e41;refine ck (up 1 J e41 J hE bi J (by rw [Int.toNat_of_nonneg q40.1];rfl) q40.2.1) J (bp g39 J) J ?_;obtain ⟨y42,hy42,h⟩:=aa h;refine cL (aq (mr hy42) BD J (hD (am (i:=0) J J) ak) lu) J (bp g39 J) J ?_;rintro _ _ ⟨_,⟨rfl,rfl⟩,rfl⟩;refine Y ?_;obtain rfl:=ao h;exact ac sA (cS [1] 2)
   have h:=ah g39 hb39;refine Y ?_;obtain rfl:=ao h;exact ac sA (cS [0] 1)
  refine Y ?_;obtain rfl:=ao h;exact aN J J (cS [] 1) ⟨J,J⟩
 replace h:=ah g36 h;refine Y ?_;refine ar J (fun g43=> ?_) (fun g43=> ?_)
 ·replace h:=ae g43 h;refine Y ?_;refine gR (bK 0 J aR J hE) ?_;refine Y ?_;obtain ⟨b44,hb44,h⟩:=aa h;refine aK 5 118 b44 ?_ ?_
  ·clear h;refine aI 113 J (fun g44=> ?_) (fun g44=> ?_)
   ·have h:=ae g44 hb44;refine Y ?_;obtain ⟨x45,hx45,h⟩:=aa h;obtain ⟨lx45,ux45,hx45⟩:=aH hx45;refine ck (bm 0 J aR J J hE bi lx45 ux45) J (bp g44 J) J ?_;refine ck (bn (us:=[iV x45.Kind,iV x45.N,.string x45.S]) 0 J aR J hx45 aJ (fun _ _ _ h=>by rw [show _=_ from h];rfl)) J (bp g44 J) J ?_;obtain ⟨y46,hy46,h⟩:=aa h;refine cL (aq (ie hy46) qW J (ak) fT) J (bp g44 J) J ?_;rintro _ _ ⟨_,⟨rfl,rfl⟩,rfl⟩;refine Y ?_;obtain rfl:=ao h;exact ac sA (cS [0] 1)
   have h:=ah g44 hb44;refine Y ?_;obtain rfl:=ao h;exact ac sA (cS [0] 1)
  refine Y ?_;obtain rfl:=ao h;exact aN J J (cS [] 1) ⟨J,J⟩
 replace h:=ah g43 h;refine Y ?_;obtain rfl:=ao h;exact aN J J (cS [] 1) ⟨J,J⟩
theorem rk {r:Bool}: ∀v post,((fun (u:Value) (post:List Chunk)=>u=.bool r∧post=[])) v post→ ∀c∈post,cB c:=by
 rintro _ _ ⟨rfl,rfl⟩;exact ak
def cT (N:Nat)(a0:JU)(x14:Bool×JS):(Unit)→Option (Option Exit×Unit)
 |()=>(gH N x14.2).bind fun y17=>bif !y17 then (some (some .ret,())) else (some (none,()))
def dM (N:Nat)(a0:JU):Option Bool:=
 (bif decide (a0.Kind<1) then (some true) else (some (decide (11<a0.Kind)))).bind fun b5=>(bif b5 then (some true) else (some (decide (a0.Shape<0)))).bind fun b6=>(bif b6 then (some true) else (some (decide (a0.Flags<0)))).bind fun b7=>(bif b7 then (some true) else (some (decide (63<a0.Flags)))).bind fun b8=>(bif b8 then (some true) else ((bif !decide (a0.Age=0) then (some (!decide (a0.Age=1))) else (some false)).bind fun b10=>some b10)).bind fun b9=>bif b9 then (some false) else ((rT N a0).bind fun y12=>(kr N a0 (iM (fun x st=>cT N a0 x st)) (none,())).bind fun y15=>wc y15.1 ((eB N a0).bind fun y19=>(bif y19 then ((ig N a0.Kind a0.More).bind fun y21=>some y21) else (some false)).bind fun b20=>some b20) (some false) (fun _=>none))
set_option maxHeartbeats 4000000 in
theorem oI {N:Nat}{a0:JU}{r:Bool}(h:dM N a0=some r):Okc Tryz.prog 204 [.agg #[iV a0.Kind,iV a0.Shape,iV a0.Flags,iV a0.Age,I A1 n1 c1,I A2 n2 c2]] ([dB A1 n1 c1 a0.Slots,dB A2 n2 c2 a0.More]) (fun u post=>u=.bool r∧post=[]):=by
 refine bx Tryz.func204 J J ?_;simp only [aX];refine Y ?_;refine gD (aQ J J) ?_;rintro _ _ ⟨B3,rfl,rfl⟩;refine gD (aO Gz J) ?_;rintro _ _ ⟨B4,rfl,rfl⟩;refine Y ?_;refine aC ?_;refine Y ?_;obtain ⟨b5,hb5,h⟩:=aa h;refine aK 4 12 b5 ?_ ?_
 ·clear h;refine aI 8 J (fun g5=> ?_) (fun g5=> ?_)
  ·have h:=ae g5 hb5;refine Y ?_;obtain rfl:=ao h;exact ac sA (cS [0,1,2,3] 4)
  have h:=ah g5 hb5;refine Y ?_;obtain rfl:=ao h;exact ac sA (cS [0,1,2,3] 4)
 refine Y ?_;obtain ⟨b6,hb6,h⟩:=aa h;refine aK 4 17 b6 ?_ ?_
 ·clear h;refine aI 13 J (fun g6=> ?_) (fun g6=> ?_)
  ·have h:=ae g6 hb6;refine Y ?_;obtain rfl:=ao h;exact ac sA (cS [0,1,2,3] 4)
  have h:=ah g6 hb6;refine Y ?_;obtain rfl:=ao h;exact ac sA (cS [0,1,2,3] 4)
 refine Y ?_;obtain ⟨b7,hb7,h⟩:=aa h;refine aK 4 22 b7 ?_ ?_
 ·clear h;refine aI 18 J (fun g7=> ?_) (fun g7=> ?_)
  ·have h:=ae g7 hb7;refine Y ?_;obtain rfl:=ao h;exact ac sA (cS [0,1,2,3] 4)
  have h:=ah g7 hb7;refine Y ?_;obtain rfl:=ao h;exact ac sA (cS [0,1,2,3] 4)
 refine Y ?_;obtain ⟨b8,hb8,h⟩:=aa h;refine aK 4 27 b8 ?_ ?_
 ·clear h;refine aI 23 J (fun g8=> ?_) (fun g8=> ?_)
  ·have h:=ae g8 hb8;refine Y ?_;obtain rfl:=ao h;exact ac sA (cS [0,1,2,3] 4)
  have h:=ah g8 hb8;refine Y ?_;obtain rfl:=ao h;exact ac sA (cS [0,1,2,3] 4)
 refine Y ?_;obtain ⟨b9,hb9,h⟩:=aa h;refine aK 9 37 b9 ?_ ?_
 ·clear h;refine aI 28 J (fun g9=> ?_) (fun g9=> ?_)
  ·have h:=ae g9 hb9;refine Y ?_;obtain rfl:=ao h;exact ac sA (cS [0,1,2,3] 4)
  have h:=ah g9 hb9;refine Y ?_;obtain ⟨b10,hb10,h⟩:=aa h;refine aK 4 36 b10 ?_ ?_
  ·clear h;refine aI 32 J (fun g10=> ?_) (fun g10=> ?_)
   ·have h:=ae g10 hb10;refine Y ?_;obtain rfl:=ao h;exact ac sA (cS [0,1,2,3] 4)
   have h:=ah g10 hb10;refine Y ?_;obtain rfl:=ao h;exact ac sA (cS [0,1,2,3] 4)
  refine Y ?_;obtain rfl:=ao h;exact ac sA (cS [0,1,2,3] 4)
 refine Y ?_;refine ar J (fun g11=> ?_) (fun g11=> ?_)
 ·replace h:=ae g11 h;refine Y ?_;refine gO (av (us:=[.bool false]) (cs':=[.bool false]) 0 J J J J uP J J J) ?_;rintro _ _ rfl;refine Y ?_;obtain rfl:=ao h;exact cq (rs:=[.cell 2 4]) (vs:=[.bool false]) J (.cons (qM 0 J J zi) .nil) J (cS [] 4) ⟨J,J⟩
 replace h:=ah g11 h;refine Y ?_;refine aC ?_;refine Y ?_;refine gR (aj (us:=[iV a0.Kind,iV a0.Shape,iV a0.Flags,iV a0.Age,I A1 n1 c1,I A2 n2 c2]) 1 J J cj J) ?_;obtain ⟨y12,hy12,h⟩:=aa h;refine gD (aq (tY hy12) BH J (hD (am (i:=2) J J) (hD (am (i:=3) J J) ak)) rC) ?_;rintro _ _ ⟨_,⟨B13,rfl,rfl⟩,rfl⟩;refine jX ?_;refine eh ?_;refine gK ?_ cb (o3 0 J);obtain ⟨y15,hy15,h⟩:=aa h;refine wr (en:=(fun x=> [.bool x.1,.agg #[iV x.2.Kind,iV x.2.N,.string x.2.S]])) (fun x st=>cT N a0 x st) (fun (st:Unit) (mz:Unit)=> [dB A1 n1 c1 a0.Slots,dB A2 n2 c2 a0.More,ad B3 138 [iV a0.Kind,iV a0.Shape,iV a0.Flags,iV a0.Age,I A1 n1 c1,I A2 n2 c2],ad B4 4 [.bool false]]) [aU B13 138 [iV a0.Kind,iV a0.Shape,iV a0.Flags,iV a0.Age,I A1 n1 c1,I A2 n2 c2],dB A1 n1 c1 a0.Slots,dB A2 n2 c2 a0.More] (()) (()) J J BE J (fun _=>J) (fun l G hY=>(qy hy15 hY).mono fun _ _ hh=>hh.2) (aB [0,3,4] [] [3,4,2,1] 5 J) h ?_ ?_ ?_ ?_
 ·rintro l x14 _ je sr14 _ h;replace h:cT N a0 x14 ()=some (je,sr14):=h;simp only [wD,List.zip_cons_cons,List.zip_nil_left,List.zip_nil_right,List.reverse_cons,List.reverse_nil,List.nil_append,List.cons_append];refine ft ?_;refine gD (aO fH J) ?_;rintro _ _ ⟨B16,rfl,rfl⟩;refine gO (av (us:=[iV x14.2.Kind,iV x14.2.N,.string x14.2.S]) (cs':=[iV x14.2.Kind,iV x14.2.N,.string x14.2.S]) 0 J J J J bi J J J) ?_;rintro _ _ rfl;refine bP ?_;refine Y ?_;refine gR (aj (us:=[iV x14.2.Kind,iV x14.2.N,.string x14.2.S]) 0 J J aJ J) ?_;obtain ⟨y17,hy17,h⟩:=aa h;refine gD (aq (zH hy17) FO J (ak) wG) ?_;rintro _ _ ⟨_,⟨rfl,rfl⟩,rfl⟩;refine Y ?_;refine ar J (fun g18=> ?_) (fun g18=> ?_)
  ·replace h:=ae g18 h;refine Y ?_;refine gO (av (us:=[.bool false]) (cs':=[.bool false]) 4 J J J J uP J J J) ?_;rintro _ _ rfl;refine Y ?_;obtain ⟨rfl,rfl⟩:=Prod.mk.inj (Option.some.inj h);exact AF ((cS [1,2,3,4] 5).trans (kp () J))
  replace h:=ah g18 h;refine Y ?_;obtain ⟨rfl,rfl⟩:=Prod.mk.inj (Option.some.inj h);exact Em ((cS [1,2,3,4] 5).trans (kp () J))
 ·rintro _ h;refine rd ([dB A1 n1 c1 a0.Slots,dB A2 n2 c2 a0.More,ad B3 138 [iV a0.Kind,iV a0.Shape,iV a0.Flags,iV a0.Age,I A1 n1 c1,I A2 n2 c2],ad B4 4 [.bool false]]) J ?_;refine Y ?_;refine gR (aj (us:=[iV a0.Kind,iV a0.Shape,iV a0.Flags,iV a0.Age,I A1 n1 c1,I A2 n2 c2]) 2 J J cj J) ?_;obtain ⟨y19,hy19,h⟩:=aa h;refine gD (aq (rS hy19) FN J (hD (am (i:=0) J J) (hD (am (i:=1) J J) ak)) qx) ?_;rintro _ _ ⟨_,⟨rfl,rfl⟩,rfl⟩;refine Y ?_;obtain ⟨b20,hb20,h⟩:=aa h;refine aK 6 53 b20 ?_ ?_
  ·clear h;refine aI 47 J (fun g20=> ?_) (fun g20=> ?_)
   ·have h:=ae g20 hb20;refine Y ?_;obtain ⟨y21,hy21,h⟩:=aa h;refine cL (aq (sG hy21) FM J (hD (am (i:=1) J J) ak) rk) J (bp g20 J) J ?_;rintro _ _ ⟨_,⟨rfl,rfl⟩,rfl⟩;refine Y ?_;obtain rfl:=ao h;exact ac sA (cS [0,1,2,3] 4)
   have h:=ah g20 hb20;refine Y ?_;obtain rfl:=ao h;exact ac sA (cS [0,1,2,3] 4)
  refine gO (av (us:=[.bool b20]) (cs':=[.bool b20]) 3 J J J J uP J J J) ?_;rintro _ _ rfl;refine Y ?_;obtain rfl:=ao h;exact cq (rs:=[.cell 2 4]) (vs:=[.bool b20]) J (.cons (qM 3 J J zi) .nil) J (cS [] 4) ⟨J,J⟩
 ·rintro _ h;refine rd ([dB A1 n1 c1 a0.Slots,dB A2 n2 c2 a0.More,ad B3 138 [iV a0.Kind,iV a0.Shape,iV a0.Flags,iV a0.Age,I A1 n1 c1,I A2 n2 c2],ad B4 4 [.bool false]]) J ?_;refine Y ?_;obtain rfl:=ao h;exact cq (rs:=[.cell 2 4]) (vs:=[.bool false]) J (.cons (qM 3 J J zi) .nil) J (cS [] 4) ⟨J,J⟩
 rintro i _ h;exact bh h
theorem mC {r:Bool}: ∀v post,((fun (u:Value) (post:List Chunk)=>u=.bool r∧post=[])) v post→ ∀c∈post,cB c:=by
 rintro _ _ ⟨rfl,rfl⟩;exact ak
def jt (N:Nat)(a0:(List JS)):Option (List JS):=
 cN (fA (([]:List JS).length+a0.length)) (some (([]:List JS)++a0))
theorem px {N:Nat}{a0:(List JS)}{r:(List JS)}(h:jt N a0=some r):Okc Tryz.prog 229 [I A1 n1 c1] ([dB A1 n1 c1 a0]) (fun u post=> ∃A0 n0 c0,u=I A0 n0 c0∧post=[aY A0 n0 c0 r]):=by
 refine bx Tryz.func229 J J ?_;simp only [aX];refine Y ?_;refine aC ?_;refine Y ?_;refine gE (zC J hE) ?_;refine Y ?_;refine ar J (fun g2=> ?_) (fun g2=> ?_)
 ·replace g2:(A1).isNone=true:=by simpa using g2
  refine Gx 0 J aR g2 (fun hx=> ?_);subst hx;replace h:cN (fA (([]:List JS).length+([]:List JS).length)) (some (([]:List JS)++([]:List JS)))=some r:=h
  replace h:some []=some r:=by simpa [cN] using h
  refine Y ?_;obtain rfl:=ao h;exact aN J J ((fL bW 30 _).trans (cS [0] 2)) ⟨_,_,_,J,J⟩
 refine Y ?_;refine gD (co (R:=bW) (vss:=[]) (xs:=[]) J (D7) J J (fun _ _ hr=>All2.nil)) ?_;rintro _ _ ⟨A4,n4,c4,rfl,rfl⟩;refine Y ?_;obtain ⟨q5,h⟩:=ay h;refine gD (dK 0 1 J J aR J J hE wt J J q5) ?_;rintro _ _ ⟨A6,n6,c6,rfl,rfl⟩;refine Y ?_;obtain rfl:=ao h;exact aN J J (cS [0] 2) ⟨_,_,_,J,J⟩
theorem nV {r:(List JS)}: ∀v post,((fun (u:Value) (post:List Chunk)=> ∃A0 n0 c0,u=I A0 n0 c0∧post=[aY A0 n0 c0 r])) v post→ ∀c∈post,cB c:=by
 rintro _ _ ⟨_,_,_,rfl,rfl⟩;exact hD fj (ak)
def fO (N:Nat)(a0:JU):Option JU:=
 (jt N a0.Slots).bind fun y5=>(jt N a0.More).bind fun y7=>some (⟨a0.Kind,a0.Shape,a0.Flags,a0.Age,y5,y7⟩:JU)
theorem iE {N:Nat}{a0:JU}{r:JU}(h:fO N a0=some r):Okc Tryz.prog 205 [.agg #[iV a0.Kind,iV a0.Shape,iV a0.Flags,iV a0.Age,I A1 n1 c1,I A2 n2 c2]] ([dB A1 n1 c1 a0.Slots,dB A2 n2 c2 a0.More]) (fun u post=> ∃A0 n0 c0 A1 n1 c1,u=.agg #[iV r.Kind,iV r.Shape,iV r.Flags,iV r.Age,I A0 n0 c0,I A1 n1 c1]∧post=[aY A0 n0 c0 r.Slots,aY A1 n1 c1 r.More]):=by
 refine bx Tryz.func205 J J ?_;simp only [aX];refine Y ?_;refine gD (aQ J J) ?_;rintro _ _ ⟨B3,rfl,rfl⟩;refine gD (aO f6 J) ?_;rintro _ _ ⟨B4,rfl,rfl⟩;refine Y ?_;refine aC ?_;refine bF V _ (ai _) ?_;refine zE 0 J (bZ J jD) ?_;refine zR 1 J (aZ 1 J J gX J) ?_;refine zE 3 J (bZ J nM) ?_;refine zR 4 J (aZ 1 J J gX J) ?_;obtain ⟨y5,hy5,h⟩:=aa h;refine zD 2 J (aq (px hy5) BG J (hD (am (i:=2) J J) ak) nV) ?_;rintro _ _ ⟨_,⟨A6,n6,c6,rfl,rfl⟩,rfl⟩;refine dN (cS [1,2,3,4] 5) ?_;refine zE 6 J (bZ J jD) ?_;obtain ⟨y7,hy7,h⟩:=aa h;refine zD 5 J (aq (px hy7) BG J (hD (am (i:=4) J J) ak) nV) ?_;rintro _ _ ⟨_,⟨A8,n8,c8,rfl,rfl⟩,rfl⟩;refine dN (cS [2,3,4,5] 6) ?_;refine oy 7 J V V (av (us:=[I A6 n6 c6]) (cs':=[iV a0.Kind,iV a0.Shape,iV a0.Flags,iV a0.Age,I A6 n6 c6,I A2 n2 c2]) 3 J J J J mw J J J) ?_;rintro _ _ rfl;refine zE 8 J (bZ J nM) ?_;refine oy 9 J V V (av (us:=[I A8 n8 c8]) (cs':=[iV a0.Kind,iV a0.Shape,iV a0.Flags,iV a0.Age,I A6 n6 c6,I A8 n8 c8]) 3 J J J J mw J J J) ?_;rintro _ _ rfl;refine bw V ?_;refine Y ?_;refine gR (aj (us:=[iV a0.Kind,iV a0.Shape,iV a0.Flags,iV a0.Age,I A6 n6 c6,I A8 n8 c8]) 3 J J cj J) ?_
 refine gO (av (us:=[iV a0.Kind,iV a0.Shape,iV a0.Flags,iV a0.Age,I A6 n6 c6,I A8 n8 c8]) (cs':=[iV a0.Kind,iV a0.Shape,iV a0.Flags,iV a0.Age,I A6 n6 c6,I A8 n8 c8]) 2 J J J J dc J J J) ?_;rintro _ _ rfl;refine Y ?_;obtain rfl:=ao h;exact cq (rs:=[.cell 2 138]) (vs:=[.agg #[iV a0.Kind,iV a0.Shape,iV a0.Flags,iV a0.Age,I A6 n6 c6,I A8 n8 c8]]) J (.cons (bB 2 J J cj) .nil) J (cS [1,0] 6) ⟨_,_,_,_,_,_,J,J⟩
theorem fY {r:JU}: ∀v post,((fun (u:Value) (post:List Chunk)=> ∃A0 n0 c0 A1 n1 c1,u=.agg #[iV r.Kind,iV r.Shape,iV r.Flags,iV r.Age,I A0 n0 c0,I A1 n1 c1]∧post=[aY A0 n0 c0 r.Slots,aY A1 n1 c1 r.More])) v post→ ∀c∈post,cB c:=by
 rintro _ _ ⟨_,_,_,_,_,_,rfl,rfl⟩;exact hD fj (hD fj (ak))
def fR (N:Nat)(a0:JJ)(a1:JU):Option (Int×Int×JJ):=
 (cg N a0).bind fun y11=>bif y11 then (some (0,1,a0)) else ((dM N a1).bind fun y13=>bif !y13 then (some (0,51,a0)) else ((fO N a1).bind fun y15=>cN (fA (a0.m_.Young.length+([(⟨y15.Kind,y15.Shape,y15.Flags,0,y15.Slots,y15.More⟩:JU)]:List JU).length)) (cN (bM (2*((a0.m_.Young++([(⟨y15.Kind,y15.Shape,y15.Flags,0,y15.Slots,y15.More⟩:JU)]:List JU)).length:Int))) (cN (bM ((2*((a0.m_.Young++([(⟨y15.Kind,y15.Shape,y15.Flags,0,y15.Slots,y15.More⟩:JU)]:List JU)).length:Int)) - 1)) (some ((2*((a0.m_.Young++([(⟨y15.Kind,y15.Shape,y15.Flags,0,y15.Slots,y15.More⟩:JU)]:List JU)).length:Int)) - 1,0,(⟨(⟨a0.m_.Young++([(⟨y15.Kind,y15.Shape,y15.Flags,0,y15.Slots,y15.More⟩:JU)]:List JU),a0.m_.Old⟩:JN),a0.roots_,a0.pending_,a0.set_⟩:JJ)))))))
set_option maxHeartbeats 4000000 in
theorem lj {N:Nat}{a0:JJ}{a1:JU}{r:(Int×Int×JJ)}(h:fR N a0 a1=some r):Okc Tryz.prog 150 [pV B1 0,.agg #[iV a1.Kind,iV a1.Shape,iV a1.Flags,iV a1.Age,I A8 n8 c8,I A9 n9 c9]] ([dB A8 n8 c8 a1.Slots,dB A9 n9 c9 a1.More,ad B1 199 [I A2 n2 c2,I A3 n3 c3,I A4 n4 c4,I A5 n5 c5,pV B6 0],br A2 n2 c2 a0.m_.Young,br A3 n3 c3 a0.m_.Old,aY A4 n4 c4 a0.roots_,aY A5 n5 c5 a0.pending_,ad B6 247 [.map (some M7)],aG cx cz M7 a0.set_.at_]) (fun u post=> ∃A0 n0 c0 A1 n1 c1 A2 n2 c2 A3 n3 c3 M4,u=.tuple #[iV r.1,iV r.2.1]∧post=[ad B1 199 [I A0 n0 c0,I A1 n1 c1,I A2 n2 c2,I A3 n3 c3,pV B6 0],br A0 n0 c0 r.2.2.m_.Young,br A1 n1 c1 r.2.2.m_.Old,aY A2 n2 c2 r.2.2.roots_,aY A3 n3 c3 r.2.2.pending_,ad B6 247 [.map (some M4)],aG cx cz M4 r.2.2.set_.at_]):=by
 refine bx Tryz.func150 J J ?_;simp only [aX];refine Y ?_;refine gD (aQ J J) ?_;rintro _ _ ⟨B10,rfl,rfl⟩;refine Y ?_;refine aC ?_;refine Y ?_;obtain ⟨y11,hy11,h⟩:=aa h;refine gD (aq (eD hy11) qZ J (hD (az (i:=3) J) (hD (ap (i:=4) J) (hD (ap (i:=5) J) (hD (ap (i:=6) J) (hD (ap (i:=7) J) (hD (az (i:=8) J) (hD (aW (i:=9) J) ak))))))) dX) ?_;rintro _ _ ⟨_,⟨rfl,rfl⟩,rfl⟩;refine Y ?_;refine ar J (fun g12=> ?_) (fun g12=> ?_)
 ·replace h:=ae g12 h;refine Y ?_;obtain rfl:=ao h;exact cO J J J (cS [3,4,5,6,7,8,9] 10) ⟨_,_,_,_,_,_,_,_,_,_,_,_,_,J,J⟩
 replace h:=ah g12 h;refine Y ?_;refine gR (aj (us:=[iV a1.Kind,iV a1.Shape,iV a1.Flags,iV a1.Age,I A8 n8 c8,I A9 n9 c9]) 0 J J cj J) ?_;obtain ⟨y13,hy13,h⟩:=aa h;refine gD (aq (oI hy13) yA J (hD (am (i:=1) J J) (hD (am (i:=2) J J) ak)) mC) ?_;rintro _ _ ⟨_,⟨rfl,rfl⟩,rfl⟩;refine Y ?_;refine ar J (fun g14=> ?_) (fun g14=> ?_)
 ·replace h:=ae g14 h;refine Y ?_;obtain rfl:=ao h;exact cO J J J (cS [3,4,5,6,7,8,9] 10) ⟨_,_,_,_,_,_,_,_,_,_,_,_,_,J,J⟩
 replace h:=ah g14 h;refine Y ?_;refine gR (aj (us:=[iV a1.Kind,iV a1.Shape,iV a1.Flags,iV a1.Age,I A8 n8 c8,I A9 n9 c9]) 0 J J cj J) ?_;obtain ⟨y15,hy15,h⟩:=aa h;refine gD (aq (iE hy15) pq J (hD (am (i:=1) J J) (hD (am (i:=2) J J) ak)) fY) ?_;rintro _ _ ⟨_,⟨A16,n16,c16,A17,n17,c17,rfl,rfl⟩,rfl⟩;refine gO (av (us:=[iV y15.Kind,iV y15.Shape,iV y15.Flags,iV y15.Age,I A16 n16 c16,I A17 n17 c17]) (cs':=[iV y15.Kind,iV y15.Shape,iV y15.Flags,iV y15.Age,I A16 n16 c16,I A17 n17 c17]) 2 J J J J dc J J J) ?_;rintro _ _ rfl;refine Y ?_;refine gO (av (us:=[iV 0]) (cs':=[iV y15.Kind,iV y15.Shape,iV y15.Flags,iV 0,I A16 n16 c16,I A17 n17 c17]) 2 J J J J gJ J J J) ?_;rintro _ _ rfl;refine Y ?_;refine aC ?_;refine gK ?_ cb (dk 0 J);refine C2 ?_;refine gK ?_ cb (dk 1 J);refine gK (t:=[(0,pV B1 0),(3,pV B10 0),(4,iV 0),(5,iV 0)]) ?_ jr (ai _)
 refine ge V 8 [0] [0,5,7] [16,17,18,19,20,21,22,23] [[],[],[1],[2],[3],[4],[],[6]] [aV (pV B1 0),
aV (pV B1 0),
aV (pV B1 0),
aV (pV B1 0),
aV (pV B1 0),
aV (I A2 n2 c2),
aV (.agg #[iV y15.Kind,iV y15.Shape,iV y15.Flags,iV 0,I A16 n16 c16,I A17 n17 c17]),
aX3 (fun (A19:Option Addr) (n19 c19:Nat)=> I A19 n19 c19) (fun A19 n19 c19=> [br A19 n19 c19 ([(⟨y15.Kind,y15.Shape,y15.Flags,0,y15.Slots,y15.More⟩:JU)]:List JU)])] [] (ai _) (eg rfl i5) V rfl rfl ?_ ?_ ?_
 ·refine ef J ?_ ?_
  ·exact jq (au J) J (bd J (ai _))
  exact i4
 ·refine al J ?_ ?_
  ·refine kJ (co (R:=qh) (vss:=[[iV y15.Kind,iV y15.Shape,iV y15.Flags,iV 0,I A16 n16 c16,I A17 n17 c17]]) (xs:=[(⟨y15.Kind,y15.Shape,y15.Flags,0,y15.Slots,y15.More⟩:JU)]) J (CR _ _ _ _ _ _ _ _ _ _) J J (fun _ _ hr=> .cons (⟨_,_,_,_,_,_,J,hr 0 _ J J,hr 1 _ J J⟩) All2.nil)) J ?_;rintro _ _ ⟨A18,n18,c18,rfl,rfl⟩;exact Fw A18 n18 c18 (ai _)
  refine al J ?_ ?_
  ·exact fq (aj (us:=[iV y15.Kind,iV y15.Shape,iV y15.Flags,iV 0,I A16 n16 c16,I A17 n17 c17]) 2 J J cj J) J (bd J (ai _))
  refine al J ?_ ?_
  ·exact fq (aZ 5 J J xK J) J (bd J (ai _))
  refine al J ?_ ?_
  ·exact bV (dL J vL) J (bd J (ai _))
  refine al J ?_ ?_
  ·exact bV (dL J vK) J (bd J (ai _))
  refine al J ?_ ?_
  ·exact bV (bc J) J (bd J (ai _))
  refine al J ?_ ?_
  ·exact bV (au J) J (bd J (ai _))
  refine al J ?_ ?_
  ·exact bV (au J) J (bd J (ai _))
  exact dV
 intro A19 n19 c19;refine lz (t:=[(16,pV B1 0),(21,I A2 n2 c2),(23,I A19 n19 c19),(0,pV B1 0),(3,pV B10 0),(4,iV 0),(5,iV 0)]) (L':=[br A19 n19 c19 ([(⟨y15.Kind,y15.Shape,y15.Flags,0,y15.Slots,y15.More⟩:JU)]:List JU),dB A16 n16 c16 y15.Slots,dB A17 n17 c17 y15.More,ad B10 138 [iV y15.Kind,iV y15.Shape,iV y15.Flags,iV 0,I A16 n16 c16,I A17 n17 c17],dB A8 n8 c8 a1.Slots,dB A9 n9 c9 a1.More,ad B1 199 [I A2 n2 c2,I A3 n3 c3,I A4 n4 c4,I A5 n5 c5,pV B6 0],br A2 n2 c2 a0.m_.Young,br A3 n3 c3 a0.m_.Old,aY A4 n4 c4 a0.roots_,aY A5 n5 c5 a0.pending_,ad B6 247 [.map (some M7)],aG cx cz M7 a0.set_.at_]) ?_ jr (ai _);obtain ⟨q20,h⟩:=ay h;refine t4 8 J V (dK 7 0 J J aE J J hP H2 J J q20) J J J ?_;rintro _ _ ⟨A21,n21,c21,rfl,rfl⟩;refine rV 9 J V (bc J) J J J ?_;refine rV 10 J V (dL J vK) J J J ?_;refine rV 11 J V (dL J vL) J J J ?_;refine kO 12 J V (av (us:=[I A21 n21 c21]) (cs':=[I A21 n21 c21,I A3 n3 c3,I A4 n4 c4,I A5 n5 c5,pV B6 0]) 6 J J J J EK J J J) J J ?_;rintro _ _ rfl;refine tT ?_;refine jd V ?_;refine Y ?_;refine gR (bK 7 J aE J hP) ?_;obtain ⟨q22,h⟩:=ay h;refine gE (nO J J q22.1 q22.2) ?_;obtain ⟨q23,h⟩:=ay h;refine gE (dj J J q23.1 q23.2) ?_;refine Y ?_;obtain rfl:=ao h
 exact cO J J J (cS [6,7,8,9,10,11,12] 13) ⟨_,_,_,_,_,_,_,_,_,_,_,_,_,J,J⟩
def gg (N:Nat)(a0:JL)(p18:Int)(p19:Int)(p20:ByteArray)(p37:Int):Option (JS×JL):=
 (fR N a0.heap_ (⟨1,0,p37,0,([(⟨p18,p19,p20⟩:JS)]:List JS),[]⟩:JU)).bind fun y39=>some ((⟨7,y39.1,⟨#[]⟩⟩:JS),(⟨a0.spent_,a0.config_,(),y39.2.2,a0.shapes_,a0.symbols_,a0.epoch_,a0.serial_,a0.sleepers_,a0.events_,a0.out_⟩:JL))
def dO (N:Nat)(a1:Int)(a0:JL)(p18:Int)(p19:Int)(p20:ByteArray):Option (JS×JL):=
 bif decide (a1=17) then (gg N a0 p18 p19 p20 1) else (gg N a0 p18 p19 p20 17)
def gh (N:Nat)(a1:Int)(a0:JL)(p29:Bool):Option (JS×JL):=
 bif p29 then ((ib N a0.heap_ 3).bind fun y32=>dO N a1 a0 y32.Kind y32.N y32.S) else ((ib N a0.heap_ 0).bind fun y33=>dO N a1 a0 y33.Kind y33.N y33.S)
def eI (N:Nat)(a1:Int)(a0:JL)(p23:Bool):Option (JS×JL):=
 bif p23 then ((ib N a0.heap_ 5).bind fun y27=>dO N a1 a0 y27.Kind y27.N y27.S) else (bif decide (a1=4) then (gh N a1 a0 (decide (a1=4))) else (gh N a1 a0 (decide (a1=16))))
def kN (N:Nat)(a0:JL)(a1:Int):Option (JS×JL):=
 bif decide (a1=0) then (dO N a1 a0 1 0 (⟨#[]⟩)) else (bif decide (a1=6) then (eI N a1 a0 (decide (a1=6))) else (bif decide (a1=7) then (eI N a1 a0 (decide (a1=7))) else (eI N a1 a0 (decide (a1=8)))))
set_option maxHeartbeats 4000000 in
theorem kh {N:Nat}{a0:JL}{a1:Int}{r:(JS×JL)}(h:kN N a0 a1=some r):Okc Tryz.prog 89 [pV B1 0,iV a1] ([bj A12 n12 c12 a0.symbols_,cC A13 n13 c13 a0.events_,bj A14 n14 c14 a0.out_,ad B1 151 [iV a0.spent_.steps_,iV a0.spent_.made_,iV a0.spent_.calls_,iV a0.config_.Way,iV a0.config_.Steps,iV a0.config_.Calls,iV a0.config_.Made,iV a0.config_.Young,iV a0.config_.Full,iV a0.config_.Sites,.nilIface,pV B2 0,pV B9 0,I A12 n12 c12,iV a0.epoch_,iV a0.serial_,iV a0.sleepers_,I A13 n13 c13,I A14 n14 c14],ad B2 199 [I A3 n3 c3,I A4 n4 c4,I A5 n5 c5,I A6 n6 c6,pV B7 0],br A3 n3 c3 a0.heap_.m_.Young,br A4 n4 c4 a0.heap_.m_.Old,aY A5 n5 c5 a0.heap_.roots_,aY A6 n6 c6 a0.heap_.pending_,ad B7 247 [.map (some M8)],aG cx cz M8 a0.heap_.set_.at_,ad B9 205 [I A10 n10 c10,.map (some M11)],cE A10 n10 c10 a0.shapes_.shapes_,aG aF cv M11 a0.shapes_.next_]) (fun u post=> ∃A0 n0 c0 A1 n1 c1 A2 n2 c2 A3 n3 c3 M4 A5 n5 c5 M6 A7 n7 c7 A8 n8 c8 A9 n9 c9,u=.agg #[iV r.1.Kind,iV r.1.N,.string r.1.S]∧post=[ad B1 151 [iV r.2.spent_.steps_,iV r.2.spent_.made_,iV r.2.spent_.calls_,iV r.2.config_.Way,iV r.2.config_.Steps,iV r.2.config_.Calls,iV r.2.config_.Made,iV r.2.config_.Young,iV r.2.config_.Full,iV r.2.config_.Sites,.nilIface,pV B2 0,pV B9 0,I A7 n7 c7,iV r.2.epoch_,iV r.2.serial_,iV r.2.sleepers_,I A8 n8 c8,I A9 n9 c9],ad B2 199 [I A0 n0 c0,I A1 n1 c1,I A2 n2 c2,I A3 n3 c3,pV B7 0],br A0 n0 c0 r.2.heap_.m_.Young,br A1 n1 c1 r.2.heap_.m_.Old,aY A2 n2 c2 r.2.heap_.roots_,aY A3 n3 c3 r.2.heap_.pending_,ad B7 247 [.map (some M4)],aG cx cz M4 r.2.heap_.set_.at_,ad B9 205 [I A5 n5 c5,.map (some M6)],cE A5 n5 c5 r.2.shapes_.shapes_,aG aF cv M6 r.2.shapes_.next_,bj A7 n7 c7 r.2.symbols_,cC A8 n8 c8 r.2.events_,bj A9 n9 c9 r.2.out_]):=by
 refine bx Tryz.func89 J J ?_;simp only [aX];refine Y ?_;refine gD (aO fH J) ?_;rintro _ _ ⟨B15,rfl,rfl⟩;refine Y ?_;refine gE (be J (sO _)) ?_;refine gD (aO fH J) ?_;rintro _ _ ⟨B16,rfl,rfl⟩;refine gO (av (us:=[iV 1,iV 0,.string (⟨#[]⟩)]) (cs':=[iV 1,iV 0,.string (⟨#[]⟩)]) 0 J J J J bi J J J) ?_;rintro _ _ rfl;refine Y ?_;refine ba (fun s L=> ∃p18 p19 p20,dO N a1 a0 p18 p19 p20=some r∧s=[(0,pV B1 0),(1,iV a1),(4,pV B15 0),(5,pV B16 0)]∧L=[bj A12 n12 c12 a0.symbols_,cC A13 n13 c13 a0.events_,bj A14 n14 c14 a0.out_,ad B1 151 [iV a0.spent_.steps_,iV a0.spent_.made_,iV a0.spent_.calls_,iV a0.config_.Way,iV a0.config_.Steps,iV a0.config_.Calls,iV a0.config_.Made,iV a0.config_.Young,iV a0.config_.Full,iV a0.config_.Sites,.nilIface,pV B2 0,pV B9 0,I A12 n12 c12,iV a0.epoch_,iV a0.serial_,iV a0.sleepers_,I A13 n13 c13,I A14 n14 c14],ad B15 30 [iV 0,iV 0,.string (⟨#[]⟩)],ad B16 30 [iV p18,iV p19,.string p20],br A3 n3 c3 a0.heap_.m_.Young,br A4 n4 c4 a0.heap_.m_.Old,aY A5 n5 c5 a0.heap_.roots_,aY A6 n6 c6 a0.heap_.pending_,ad B2 199 [I A3 n3 c3,I A4 n4 c4,I A5 n5 c5,I A6 n6 c6,pV B7 0],cE A10 n10 c10 a0.shapes_.shapes_,aG aF cv M11 a0.shapes_.next_,ad B9 205 [I A10 n10 c10,.map (some M11)],aG cx cz M8 a0.heap_.set_.at_,ad B7 247 [.map (some M8)]]) ?_ ?_
 ·refine Y ?_;refine ar J (fun g21=> ?_) (fun g21=> ?_)
  ·replace h:=ae g21 h;refine Y ?_;exact ⟨_,_,⟨1,0,⟨#[]⟩,h,J,J⟩,sA,cS [2,3,4,5,1,0,7,8,9,10,6,14,15,13,12,11] 16⟩
  replace h:=ah g21 h;refine ba (fun s L=> ∃p23,eI N a1 a0 p23=some r∧s=[(0,pV B1 0),(1,iV a1),(4,pV B15 0),(5,pV B16 0),(10,iV a1),(18,.bool p23)]∧L=[bj A12 n12 c12 a0.symbols_,cC A13 n13 c13 a0.events_,bj A14 n14 c14 a0.out_,ad B1 151 [iV a0.spent_.steps_,iV a0.spent_.made_,iV a0.spent_.calls_,iV a0.config_.Way,iV a0.config_.Steps,iV a0.config_.Calls,iV a0.config_.Made,iV a0.config_.Young,iV a0.config_.Full,iV a0.config_.Sites,.nilIface,pV B2 0,pV B9 0,I A12 n12 c12,iV a0.epoch_,iV a0.serial_,iV a0.sleepers_,I A13 n13 c13,I A14 n14 c14],ad B15 30 [iV 0,iV 0,.string (⟨#[]⟩)],ad B16 30 [iV 1,iV 0,.string (⟨#[]⟩)],br A3 n3 c3 a0.heap_.m_.Young,br A4 n4 c4 a0.heap_.m_.Old,aY A5 n5 c5 a0.heap_.roots_,aY A6 n6 c6 a0.heap_.pending_,ad B2 199 [I A3 n3 c3,I A4 n4 c4,I A5 n5 c5,I A6 n6 c6,pV B7 0],cE A10 n10 c10 a0.shapes_.shapes_,aG aF cv M11 a0.shapes_.next_,ad B9 205 [I A10 n10 c10,.map (some M11)],aG cx cz M8 a0.heap_.set_.at_,ad B7 247 [.map (some M8)]]) ?_ ?_
  ·refine Y ?_;refine ar J (fun g24=> ?_) (fun g24=> ?_)
   ·replace h:=ae g24 h;refine Y ?_;exact ⟨_,_,⟨decide (a1=6),h,J,J⟩,sA,cS [2,3,4,5,1,0,7,8,9,10,6,14,15,13,12,11] 16⟩
   replace h:=ah g24 h;refine Y ?_;refine ar J (fun g25=> ?_) (fun g25=> ?_)
   ·replace h:=ae g25 h;refine Y ?_;exact ⟨_,_,⟨decide (a1=7),h,J,J⟩,sA,cS [2,3,4,5,1,0,7,8,9,10,6,14,15,13,12,11] 16⟩
   replace h:=ah g25 h;refine Y ?_;exact ⟨_,_,⟨decide (a1=8),h,J,J⟩,sA,cS [2,3,4,5,1,0,7,8,9,10,6,14,15,13,12,11] 16⟩
  rintro _ _ ⟨p23,h,rfl,rfl⟩;refine ar J (fun g26=> ?_) (fun g26=> ?_)
  ·replace h:=ae g26 h;refine Y ?_;obtain ⟨y27,hy27,h⟩:=aa h;refine gD (aq (jj hy27) ym J (hD (az (i:=10) J) (hD (ap (i:=6) J) (hD (ap (i:=7) J) (hD (ap (i:=8) J) (hD (ap (i:=9) J) (hD (az (i:=15) J) (hD (aW (i:=14) J) ak))))))) gU) ?_;rintro _ _ ⟨_,⟨rfl,rfl⟩,rfl⟩;refine gO (av (us:=[iV y27.Kind,iV y27.N,.string y27.S]) (cs':=[iV y27.Kind,iV y27.N,.string y27.S]) 5 J J J J bi J J J) ?_;rintro _ _ rfl;refine Y ?_;exact ⟨_,_,⟨y27.Kind,y27.N,y27.S,h,J,J⟩,sA,cS [0,1,2,3,4,5,6,7,8,9,10,11,12,13,14,15] 16⟩
  replace h:=ah g26 h;refine ba (fun s L=> ∃p29,gh N a1 a0 p29=some r∧s=[(0,pV B1 0),(1,iV a1),(4,pV B15 0),(5,pV B16 0),(27,.bool p29)]∧L=[bj A12 n12 c12 a0.symbols_,cC A13 n13 c13 a0.events_,bj A14 n14 c14 a0.out_,ad B1 151 [iV a0.spent_.steps_,iV a0.spent_.made_,iV a0.spent_.calls_,iV a0.config_.Way,iV a0.config_.Steps,iV a0.config_.Calls,iV a0.config_.Made,iV a0.config_.Young,iV a0.config_.Full,iV a0.config_.Sites,.nilIface,pV B2 0,pV B9 0,I A12 n12 c12,iV a0.epoch_,iV a0.serial_,iV a0.sleepers_,I A13 n13 c13,I A14 n14 c14],ad B15 30 [iV 0,iV 0,.string (⟨#[]⟩)],ad B16 30 [iV 1,iV 0,.string (⟨#[]⟩)],br A3 n3 c3 a0.heap_.m_.Young,br A4 n4 c4 a0.heap_.m_.Old,aY A5 n5 c5 a0.heap_.roots_,aY A6 n6 c6 a0.heap_.pending_,ad B2 199 [I A3 n3 c3,I A4 n4 c4,I A5 n5 c5,I A6 n6 c6,pV B7 0],cE A10 n10 c10 a0.shapes_.shapes_,aG aF cv M11 a0.shapes_.next_,ad B9 205 [I A10 n10 c10,.map (some M11)],aG cx cz M8 a0.heap_.set_.at_,ad B7 247 [.map (some M8)]]) ?_ ?_
  ·refine Y ?_;refine ar J (fun g30=> ?_) (fun g30=> ?_)
   ·replace h:=ae g30 h;refine Y ?_;exact ⟨_,_,⟨decide (a1=4),h,J,J⟩,sA,cS [0,1,2,3,4,5,6,7,8,9,10,11,12,13,14,15] 16⟩
   replace h:=ah g30 h;refine Y ?_;exact ⟨_,_,⟨decide (a1=16),h,J,J⟩,sA,cS [0,1,2,3,4,5,6,7,8,9,10,11,12,13,14,15] 16⟩
  rintro _ _ ⟨p29,h,rfl,rfl⟩;refine ar J (fun g31=> ?_) (fun g31=> ?_)
  ·replace h:=ae g31 h;refine Y ?_;obtain ⟨y32,hy32,h⟩:=aa h;refine gD (aq (jj hy32) ym J (hD (az (i:=10) J) (hD (ap (i:=6) J) (hD (ap (i:=7) J) (hD (ap (i:=8) J) (hD (ap (i:=9) J) (hD (az (i:=15) J) (hD (aW (i:=14) J) ak))))))) gU) ?_;rintro _ _ ⟨_,⟨rfl,rfl⟩,rfl⟩;refine gO (av (us:=[iV y32.Kind,iV y32.N,.string y32.S]) (cs':=[iV y32.Kind,iV y32.N,.string y32.S]) 5 J J J J bi J J J) ?_;rintro _ _ rfl;refine bP ?_;refine Y ?_;exact ⟨_,_,⟨y32.Kind,y32.N,y32.S,h,J,J⟩,sA,cS [0,1,2,3,4,5,6,7,8,9,10,11,12,13,14,15] 16⟩
  replace h:=ah g31 h;refine Y ?_;obtain ⟨y33,hy33,h⟩:=aa h;refine gD (aq (jj hy33) ym J (hD (az (i:=10) J) (hD (ap (i:=6) J) (hD (ap (i:=7) J) (hD (ap (i:=8) J) (hD (ap (i:=9) J) (hD (az (i:=15) J) (hD (aW (i:=14) J) ak))))))) gU) ?_;rintro _ _ ⟨_,⟨rfl,rfl⟩,rfl⟩;refine gO (av (us:=[iV y33.Kind,iV y33.N,.string y33.S]) (cs':=[iV y33.Kind,iV y33.N,.string y33.S]) 5 J J J J bi J J J) ?_;rintro _ _ rfl;refine Y ?_;exact ⟨_,_,⟨y33.Kind,y33.N,y33.S,h,J,J⟩,sA,cS [0,1,2,3,4,5,6,7,8,9,10,11,12,13,14,15] 16⟩
 rintro _ _ ⟨p18,p19,p20,h,rfl,rfl⟩;refine Y ?_;refine gR (aj (us:=[iV p18,iV p19,.string p20]) 5 J J aJ J) ?_;refine gD (co (R:=bW) (vss:=[[iV p18,iV p19,.string p20]]) (xs:=[(⟨p18,p19,p20⟩:JS)]) J (iU _ _ _) J J (fun _ _ hr=> .cons J All2.nil)) ?_;rintro _ _ ⟨A34,n34,c34,rfl,rfl⟩;refine gE (be J (wM _ _ _ _ _)) ?_;refine gD (aO f6 J) ?_;rintro _ _ ⟨B35,rfl,rfl⟩;refine gO (av (us:=[iV 1,iV 0,iV 17,iV 0,I A34 n34 c34,I none 0 0]) (cs':=[iV 1,iV 0,iV 17,iV 0,I A34 n34 c34,I none 0 0]) 0 J J J J dc J J J) ?_;rintro _ _ rfl;refine Y ?_
 refine ba (fun s L=> ∃p37,gg N a0 p18 p19 p20 p37=some r∧s=[(0,pV B1 0),(4,pV B15 0),(6,pV B35 0)]∧L=[bj A12 n12 c12 a0.symbols_,cC A13 n13 c13 a0.events_,bj A14 n14 c14 a0.out_,ad B1 151 [iV a0.spent_.steps_,iV a0.spent_.made_,iV a0.spent_.calls_,iV a0.config_.Way,iV a0.config_.Steps,iV a0.config_.Calls,iV a0.config_.Made,iV a0.config_.Young,iV a0.config_.Full,iV a0.config_.Sites,.nilIface,pV B2 0,pV B9 0,I A12 n12 c12,iV a0.epoch_,iV a0.serial_,iV a0.sleepers_,I A13 n13 c13,I A14 n14 c14],ad B15 30 [iV 0,iV 0,.string (⟨#[]⟩)],aY A34 n34 c34 ([(⟨p18,p19,p20⟩:JS)]:List JS),ad B35 138 [iV 1,iV 0,iV p37,iV 0,I A34 n34 c34,I none 0 0],br A3 n3 c3 a0.heap_.m_.Young,br A4 n4 c4 a0.heap_.m_.Old,aY A5 n5 c5 a0.heap_.roots_,aY A6 n6 c6 a0.heap_.pending_,ad B2 199 [I A3 n3 c3,I A4 n4 c4,I A5 n5 c5,I A6 n6 c6,pV B7 0],cE A10 n10 c10 a0.shapes_.shapes_,aG aF cv M11 a0.shapes_.next_,ad B9 205 [I A10 n10 c10,.map (some M11)],aG cx cz M8 a0.heap_.set_.at_,ad B7 247 [.map (some M8)]]) ?_ ?_
 ·refine Y ?_;refine ar J (fun g38=> ?_) (fun g38=> ?_)
  ·replace h:=ae g38 h;refine Y ?_;refine gO (av (us:=[iV 1]) (cs':=[iV 1,iV 0,iV 1,iV 0,I A34 n34 c34,I none 0 0]) 0 J J J J gJ J J J) ?_;rintro _ _ rfl;refine bP ?_;refine Y ?_;exact ⟨_,_,⟨1,h,J,J⟩,sA,cS [2,3,4,5,6,1,0,8,9,10,11,12,13,14,15,16,17] 18⟩
  replace h:=ah g38 h;refine Y ?_;exact ⟨_,_,⟨17,h,J,J⟩,sA,cS [2,3,4,5,6,1,0,8,9,10,11,12,13,14,15,16,17] 18⟩
 rintro _ _ ⟨p37,h,rfl,rfl⟩;refine aC ?_;refine bF V ([bj A12 n12 c12 a0.symbols_,cC A13 n13 c13 a0.events_,bj A14 n14 c14 a0.out_,ad B1 151 [iV a0.spent_.steps_,iV a0.spent_.made_,iV a0.spent_.calls_,iV a0.config_.Way,iV a0.config_.Steps,iV a0.config_.Calls,iV a0.config_.Made,iV a0.config_.Young,iV a0.config_.Full,iV a0.config_.Sites,.nilIface,pV B2 0,pV B9 0,I A12 n12 c12,iV a0.epoch_,iV a0.serial_,iV a0.sleepers_,I A13 n13 c13,I A14 n14 c14],ad B15 30 [iV 0,iV 0,.string (⟨#[]⟩)],ad B35 138 [iV 1,iV 0,iV p37,iV 0,I A34 n34 c34,I none 0 0],cE A10 n10 c10 a0.shapes_.shapes_,aG aF cv M11 a0.shapes_.next_,ad B9 205 [I A10 n10 c10,.map (some M11)]]) (cS [0,1,2,3,4,6,12,13,14] 17) ?_;refine zE 0 J (au J) ?_;refine zE 1 J (bc J) ?_;refine zE 2 J (bZ J km) ?_;refine zR 3 J (aZ 3 J J kY J) ?_;refine zR 4 J (aj (us:=[iV 1,iV 0,iV p37,iV 0,I A34 n34 c34,I none 0 0]) 5 J J cj J) ?_;refine pL (dk 5 J) (cS [0,1,2,3,4,6,12,13,14] 17) ?_;refine cV ?_;obtain ⟨y39,hy39,h⟩:=aa h;refine pL (jl bW _) (cS [1,2,3,4,5,7,13,14,15] 18) ?_;refine zD 5 J (aD (lj hy39) yH J (aB [6,0] [12,8,9,10,11,17,16] [0,1,2,3,4,5,6,7,13,14,15] 18 J)) ?_;rintro _ _ ⟨_,⟨A40,n40,c40,A41,n41,c41,A42,n42,c42,A43,n43,c43,M44,rfl,rfl⟩,rfl⟩;refine dN (cS [8,9,10,11,12,14,15,16,17] 18) ?_;refine cV ?_;refine zE 6 J (au J) ?_;refine zE 7 J (bq J J) ?_;refine zE 8 J (bq J J) ?_;refine zE 9 J (bg J) ?_
 refine zE 10 J (bg J) ?_;refine bw V ?_;refine Y ?_;refine gE (be J (nP _ _)) ?_;refine gO (av (us:=[iV 7,iV y39.1,.string (⟨#[]⟩)]) (cs':=[iV 7,iV y39.1,.string (⟨#[]⟩)]) 12 J J J J bi J J J) ?_;rintro _ _ rfl;refine Y ?_;obtain rfl:=ao h;exact cq (rs:=[.cell 4 30]) (vs:=[.agg #[iV 7,iV y39.1,.string (⟨#[]⟩)]]) J (.cons (bB 12 J J aJ) .nil) J (cS [11,0,1,2,3,4,5,6,17,15,16,8,9,10] 18) ⟨_,_,_,_,_,_,_,_,_,_,_,_,_,_,_,_,_,_,_,_,_,_,_,_,_,_,J,J⟩
def jO (N:Nat)(a0:JJ)(a1:JS):Option (Int×JJ):=
 (cg N a0).bind fun y9=>bif y9 then (some (0,a0)) else (cN (fA (a0.roots_.length+([a1]:List JS).length)) (cN (bM (((a0.roots_++([a1]:List JS)).length:Int) - 1)) (some (((a0.roots_++([a1]:List JS)).length:Int) - 1,(⟨a0.m_,a0.roots_++([a1]:List JS),a0.pending_,a0.set_⟩:JJ)))))
theorem fz {N:Nat}{a0:JJ}{a1:JS}{r:(Int×JJ)}(h:jO N a0 a1=some r):Okc Tryz.prog 88 [pV B1 0,(bv a1)] ([ad B1 199 [I A2 n2 c2,I A3 n3 c3,I A4 n4 c4,I A5 n5 c5,pV B6 0],br A2 n2 c2 a0.m_.Young,br A3 n3 c3 a0.m_.Old,aY A4 n4 c4 a0.roots_,aY A5 n5 c5 a0.pending_,ad B6 247 [.map (some M7)],aG cx cz M7 a0.set_.at_]) (fun u post=> ∃A0 n0 c0 A1 n1 c1 A2 n2 c2 A3 n3 c3 M4,u=iV r.1∧post=[ad B1 199 [I A0 n0 c0,I A1 n1 c1,I A2 n2 c2,I A3 n3 c3,pV B6 0],br A0 n0 c0 r.2.m_.Young,br A1 n1 c1 r.2.m_.Old,aY A2 n2 c2 r.2.roots_,aY A3 n3 c3 r.2.pending_,ad B6 247 [.map (some M4)],aG cx cz M4 r.2.set_.at_]):=by
 refine bx Tryz.func88 J J ?_;simp only [aX];refine Y ?_;refine gD (aQ J J) ?_;rintro _ _ ⟨B8,rfl,rfl⟩;refine Y ?_;refine aC ?_;refine Y ?_;obtain ⟨y9,hy9,h⟩:=aa h;refine gD (aq (eD hy9) qZ J (hD (az (i:=1) J) (hD (ap (i:=2) J) (hD (ap (i:=3) J) (hD (ap (i:=4) J) (hD (ap (i:=5) J) (hD (az (i:=6) J) (hD (aW (i:=7) J) ak))))))) dX) ?_;rintro _ _ ⟨_,⟨rfl,rfl⟩,rfl⟩;refine Y ?_;refine ar J (fun g10=> ?_) (fun g10=> ?_)
 ·replace h:=ae g10 h;refine Y ?_;obtain rfl:=ao h;exact aN J J (cS [1,2,3,4,5,6,7] 8) ⟨_,_,_,_,_,_,_,_,_,_,_,_,_,J,J⟩
 replace h:=ah g10 h;refine Y ?_;refine aC ?_;refine gK (t:=[(0,pV B1 0),(3,pV B8 0),(4,iV 0)]) ?_ jr (ai _)
 refine ge V 7 [0] [0,4,6] [7,8,9,10,11,12,13] [[],[],[1],[2],[3],[],[5]] [aV (pV B1 0),
aV (pV B1 0),
aV (pV B1 0),
aV (pV B1 2),
aV (I A4 n4 c4),
aV ((bv a1)),
aX3 (fun (A12:Option Addr) (n12 c12:Nat)=> I A12 n12 c12) (fun A12 n12 c12=> [aY A12 n12 c12 ([a1]:List JS)])] [] (ai _) (eg rfl i5) V rfl rfl ?_ ?_ ?_
 ·refine ef J ?_ ?_
  ·exact jq (au J) J (bd J (ai _))
  exact i4
 ·refine al J ?_ ?_
  ·refine kJ (co (R:=bW) (vss:=[(ax a1)]) (xs:=[a1]) J (iU _ _ _) J J (fun _ _ hr=> .cons J All2.nil)) J ?_;rintro _ _ ⟨A11,n11,c11,rfl,rfl⟩;exact Fw A11 n11 c11 (ai _)
  refine al J ?_ ?_
  ·exact fq (aj (us:=ax a1) 0 J J aJ J) J (bd J (ai _))
  refine al J ?_ ?_
  ·exact fq (aZ 1 J J gX J) J (bd J (ai _))
  refine al J ?_ ?_
  ·exact bV (bZ J vJ) J (bd J (ai _))
  refine al J ?_ ?_
  ·exact bV (bc J) J (bd J (ai _))
  refine al J ?_ ?_
  ·exact bV (au J) J (bd J (ai _))
  refine al J ?_ ?_
  ·exact bV (au J) J (bd J (ai _))
  exact dV
 intro A12 n12 c12;refine lz (t:=[(7,pV B1 0),(11,I A4 n4 c4),(13,I A12 n12 c12),(0,pV B1 0),(3,pV B8 0),(4,iV 0)]) (L':=[aY A12 n12 c12 ([a1]:List JS),ad B8 30 (ax a1),ad B1 199 [I A2 n2 c2,I A3 n3 c3,I A4 n4 c4,I A5 n5 c5,pV B6 0],br A2 n2 c2 a0.m_.Young,br A3 n3 c3 a0.m_.Old,aY A4 n4 c4 a0.roots_,aY A5 n5 c5 a0.pending_,ad B6 247 [.map (some M7)],aG cx cz M7 a0.set_.at_]) ?_ jr (ai _);obtain ⟨q13,h⟩:=ay h;refine t4 7 J V (dK 5 0 J J aE J J hE wt J J q13) J J J ?_;rintro _ _ ⟨A14,n14,c14,rfl,rfl⟩;refine rV 8 J V (bc J) J J J ?_;refine rV 9 J V (bZ J vJ) J J J ?_;refine kO 10 J V (av (us:=[I A14 n14 c14]) (cs':=[I A2 n2 c2,I A3 n3 c3,I A14 n14 c14,I A5 n5 c5,pV B6 0]) 2 J J J J mw J J J) J J ?_;rintro _ _ rfl;refine jd V ?_;refine Y ?_;refine gR (bK 5 J aE J hE) ?_;obtain ⟨q15,h⟩:=ay h;refine gE (dj J J q15.1 q15.2) ?_;refine Y ?_;obtain rfl:=ao h;exact aN J J (cS [2,3,4,5,6,7,8] 9) ⟨_,_,_,_,_,_,_,_,_,_,_,_,_,J,J⟩
def eT (N:Nat)(a0:JL)(a1:JU):Option (JS×JL):=
 (fR N a0.heap_ a1).bind fun y19=>bif !decide (y19.2.1=0) then (some ((⟨0,0,⟨#[]⟩⟩:JS),(⟨a0.spent_,a0.config_,(),y19.2.2,a0.shapes_,a0.symbols_,a0.epoch_,a0.serial_,a0.sleepers_,a0.events_,a0.out_⟩:JL))) else (some ((⟨9,y19.1,⟨#[]⟩⟩:JS),(⟨a0.spent_,a0.config_,(),y19.2.2,a0.shapes_,a0.symbols_,a0.epoch_,a0.serial_,a0.sleepers_,a0.events_,a0.out_⟩:JL)))
theorem fE {N:Nat}{a0:JL}{a1:JU}{r:(JS×JL)}(h:eT N a0 a1=some r):Okc Tryz.prog 90 [pV B1 0,.agg #[iV a1.Kind,iV a1.Shape,iV a1.Flags,iV a1.Age,I A15 n15 c15,I A16 n16 c16]] ([bj A12 n12 c12 a0.symbols_,cC A13 n13 c13 a0.events_,bj A14 n14 c14 a0.out_,dB A15 n15 c15 a1.Slots,dB A16 n16 c16 a1.More,ad B1 151 [iV a0.spent_.steps_,iV a0.spent_.made_,iV a0.spent_.calls_,iV a0.config_.Way,iV a0.config_.Steps,iV a0.config_.Calls,iV a0.config_.Made,iV a0.config_.Young,iV a0.config_.Full,iV a0.config_.Sites,.nilIface,pV B2 0,pV B9 0,I A12 n12 c12,iV a0.epoch_,iV a0.serial_,iV a0.sleepers_,I A13 n13 c13,I A14 n14 c14],ad B2 199 [I A3 n3 c3,I A4 n4 c4,I A5 n5 c5,I A6 n6 c6,pV B7 0],br A3 n3 c3 a0.heap_.m_.Young,br A4 n4 c4 a0.heap_.m_.Old,aY A5 n5 c5 a0.heap_.roots_,aY A6 n6 c6 a0.heap_.pending_,ad B7 247 [.map (some M8)],aG cx cz M8 a0.heap_.set_.at_,ad B9 205 [I A10 n10 c10,.map (some M11)],cE A10 n10 c10 a0.shapes_.shapes_,aG aF cv M11 a0.shapes_.next_]) (fun u post=> ∃A0 n0 c0 A1 n1 c1 A2 n2 c2 A3 n3 c3 M4 A5 n5 c5 M6 A7 n7 c7 A8 n8 c8 A9 n9 c9,u=.agg #[iV r.1.Kind,iV r.1.N,.string r.1.S]∧post=[ad B1 151 [iV r.2.spent_.steps_,iV r.2.spent_.made_,iV r.2.spent_.calls_,iV r.2.config_.Way,iV r.2.config_.Steps,iV r.2.config_.Calls,iV r.2.config_.Made,iV r.2.config_.Young,iV r.2.config_.Full,iV r.2.config_.Sites,.nilIface,pV B2 0,pV B9 0,I A7 n7 c7,iV r.2.epoch_,iV r.2.serial_,iV r.2.sleepers_,I A8 n8 c8,I A9 n9 c9],ad B2 199 [I A0 n0 c0,I A1 n1 c1,I A2 n2 c2,I A3 n3 c3,pV B7 0],br A0 n0 c0 r.2.heap_.m_.Young,br A1 n1 c1 r.2.heap_.m_.Old,aY A2 n2 c2 r.2.heap_.roots_,aY A3 n3 c3 r.2.heap_.pending_,ad B7 247 [.map (some M4)],aG cx cz M4 r.2.heap_.set_.at_,ad B9 205 [I A5 n5 c5,.map (some M6)],cE A5 n5 c5 r.2.shapes_.shapes_,aG aF cv M6 r.2.shapes_.next_,bj A7 n7 c7 r.2.symbols_,cC A8 n8 c8 r.2.events_,bj A9 n9 c9 r.2.out_]):=by
 refine bx Tryz.func90 J J ?_;simp only [aX];refine Y ?_;refine gD (aQ J J) ?_;rintro _ _ ⟨B17,rfl,rfl⟩;refine gD (aO fH J) ?_;rintro _ _ ⟨B18,rfl,rfl⟩;refine Y ?_;refine aC ?_;refine Y ?_;refine gE (ee J hU) ?_;refine Y ?_;refine f5 J ?_;refine Y ?_;refine aC ?_;refine bF V ([ad B18 30 [iV 0,iV 0,.string (⟨#[]⟩)],ad B17 138 [iV a1.Kind,iV a1.Shape,iV a1.Flags,iV a1.Age,I A15 n15 c15,I A16 n16 c16],bj A12 n12 c12 a0.symbols_,cC A13 n13 c13 a0.events_,bj A14 n14 c14 a0.out_,dB A15 n15 c15 a1.Slots,dB A16 n16 c16 a1.More,ad B1 151 [iV a0.spent_.steps_,iV a0.spent_.made_,iV a0.spent_.calls_,iV a0.config_.Way,iV a0.config_.Steps,iV a0.config_.Calls,iV a0.config_.Made,iV a0.config_.Young,iV a0.config_.Full,iV a0.config_.Sites,.nilIface,pV B2 0,pV B9 0,I A12 n12 c12,iV a0.epoch_,iV a0.serial_,iV a0.sleepers_,I A13 n13 c13,I A14 n14 c14],ad B9 205 [I A10 n10 c10,.map (some M11)],cE A10 n10 c10 a0.shapes_.shapes_,aG aF cv M11 a0.shapes_.next_]) (cS [0,1,2,3,4,5,6,7,15,16,17] 18) ?_;refine zE 0 J (au J) ?_;refine zE 1 J (bc J) ?_;refine zE 2 J (bZ J km) ?_;refine zR 3 J (aZ 7 J J kY J) ?_;refine zR 4 J (aj (us:=[iV a1.Kind,iV a1.Shape,iV a1.Flags,iV a1.Age,I A15 n15 c15,I A16 n16 c16]) 1 J J cj J) ?_;obtain ⟨y19,hy19,h⟩:=aa h;refine zD 5 J (aD (lj hy19) yH J (aB [5,6] [8,9,10,11,12,13,14] [0,1,2,3,4,5,6,7,15,16,17] 18 J)) ?_
 rintro _ _ ⟨_,⟨A20,n20,c20,A21,n21,c21,A22,n22,c22,A23,n23,c23,M24,rfl,rfl⟩,rfl⟩;refine dN (cS [7,8,9,10,11,12,13,14,15,16,17] 18) ?_;refine cV ?_;refine zE 6 J (au J) ?_;refine zE 7 J (bq J J) ?_;refine zE 8 J (bq J J) ?_;refine zE 9 J (bg J) ?_;refine zE 10 J (bg J) ?_;refine bw V ?_;refine eh ?_;refine aC ?_;refine Y ?_;refine ar J (fun g25=> ?_) (fun g25=> ?_)
 ·replace h:=ae g25 h;refine Y ?_;refine gE (be J (fM)) ?_;refine gO (av (us:=[iV 0,iV 0,.string (⟨#[]⟩)]) (cs':=[iV 0,iV 0,.string (⟨#[]⟩)]) 7 J J J J bi J J J) ?_;rintro _ _ rfl;refine Y ?_;obtain rfl:=ao h;exact cq (rs:=[.cell 4 30]) (vs:=[.agg #[iV 0,iV 0,.string (⟨#[]⟩)]]) J (.cons (bB 7 J J aJ) .nil) J (cS [14,0,1,2,3,4,5,6,15,16,17,9,10,11] 18) ⟨_,_,_,_,_,_,_,_,_,_,_,_,_,_,_,_,_,_,_,_,_,_,_,_,_,_,J,J⟩
 replace h:=ah g25 h;refine Y ?_;refine gE (be J (nP _ _)) ?_;refine gO (av (us:=[iV 9,iV y19.1,.string (⟨#[]⟩)]) (cs':=[iV 9,iV y19.1,.string (⟨#[]⟩)]) 7 J J J J bi J J J) ?_;rintro _ _ rfl;refine Y ?_;obtain rfl:=ao h;exact cq (rs:=[.cell 4 30]) (vs:=[.agg #[iV 9,iV y19.1,.string (⟨#[]⟩)]]) J (.cons (bB 7 J J aJ) .nil) J (cS [14,0,1,2,3,4,5,6,15,16,17,9,10,11] 18) ⟨_,_,_,_,_,_,_,_,_,_,_,_,_,_,_,_,_,_,_,_,_,_,_,_,_,_,J,J⟩
def qd (N:Nat)(p156:Int)(p157:Int)(p158:Int)(p159:Int)(p160:Int)(p161:Int)(p162:Int)(p163:Int)(p164:Int)(p165:Int)(p166:(List ByteArray))(p167:Int)(p168:Int)(p169:Int)(p170:(List JR))(p171:(List ByteArray))(p172:(List JU))(p173:(List JU))(p174:(List JS))(p175:(List JS))(p176:(List JG))(p177:(List (JK×Int)))(p178:(List (Int×Bool))):Option (Int ⊕ (JL×Int)):=
 some (.inr ((⟨(⟨p156,p157,p158⟩:JH),(⟨p159,p160,p161,p162,p163,p164,p165⟩:JO),(),(⟨(⟨p172,p173⟩:JN),p174,p175,(⟨p178⟩:JI)⟩:JJ),(⟨p176,p177⟩:JP),p166,p167,p168,p169,p170,p171⟩:JL),0))
def qe (N:Nat)(p113:Int)(p114:Int)(p115:Int)(p116:Int)(p117:Int)(p118:Int)(p119:Int)(p120:Int)(p121:Int)(p122:Int)(p123:(List ByteArray))(p124:Int)(p125:Int)(p126:Int)(p127:(List JR))(p128:(List ByteArray))(p129:(List JU))(p130:(List JU))(p131:(List JS))(p132:(List JS))(p133:(List JG))(p134:(List (JK×Int)))(p135:(List (Int×Bool))):Option (Int ⊕ (JL×Int)):=
 (eT N (⟨(⟨p113,p114,p115⟩:JH),(⟨p116,p117,p118,p119,p120,p121,p122⟩:JO),(),(⟨(⟨p129,p130⟩:JN),p131,p132,(⟨p135⟩:JI)⟩:JJ),(⟨p133,p134⟩:JP),p123,p124,p125,p126,p127,p128⟩:JL) (⟨11,0,0,0,[],[]⟩:JU)).bind fun y179=>(jO N y179.2.heap_ y179.1).bind fun y192=>qd N y179.2.spent_.steps_ y179.2.spent_.made_ y179.2.spent_.calls_ y179.2.config_.Way y179.2.config_.Steps y179.2.config_.Calls y179.2.config_.Made y179.2.config_.Young y179.2.config_.Full y179.2.config_.Sites y179.2.symbols_ y179.2.epoch_ y179.2.serial_ y179.2.sleepers_ y179.2.events_ y179.2.out_ y192.2.m_.Young y192.2.m_.Old y192.2.roots_ y192.2.pending_ y179.2.shapes_.shapes_ y179.2.shapes_.next_ y192.2.set_.at_
def rt (N:Nat)(p18:Int)(p19:Int)(p20:Int)(p21:Int)(p22:Int)(p23:Int)(p24:Int)(p25:Int)(p26:Int)(p27:Int)(p28:(List ByteArray))(p29:Int)(p30:Int)(p31:Int)(p32:(List JR))(p33:(List ByteArray))(p34:(List JU))(p35:(List JU))(p36:(List JS))(p37:(List JS))(p38:(List JG))(p39:(List (JK×Int)))(p40:(List (Int×Bool))):Option (Int ⊕ (JL×Int)):=
 (eT N (⟨(⟨p18,p19,p20⟩:JH),(⟨p21,p22,p23,p24,p25,p26,p27⟩:JO),(),(⟨(⟨p34,p35⟩:JN),p36,p37,(⟨p40⟩:JI)⟩:JJ),(⟨p38,p39⟩:JP),p28,p29,p30,p31,p32,p33⟩:JL) (⟨11,0,0,0,[],[]⟩:JU)).bind fun y136=>(jO N y136.2.heap_ y136.1).bind fun y149=>qe N y136.2.spent_.steps_ y136.2.spent_.made_ y136.2.spent_.calls_ y136.2.config_.Way y136.2.config_.Steps y136.2.config_.Calls y136.2.config_.Made y136.2.config_.Young y136.2.config_.Full y136.2.config_.Sites y136.2.symbols_ y136.2.epoch_ y136.2.serial_ y136.2.sleepers_ y136.2.events_ y136.2.out_ y149.2.m_.Young y149.2.m_.Old y149.2.roots_ y149.2.pending_ y136.2.shapes_.shapes_ y136.2.shapes_.next_ y149.2.set_.at_
def rq (N:Nat)(kb41:Int→Int→Int→Int→Int→Int→Int→Int→Int→Int→Int→(List ByteArray)→Int→Int→Int→(List JR)→(List ByteArray)→(List JU)→(List JU)→(List JS)→(List JS)→(List JG)→(List (JK×Int))→(List (Int×Bool))→Option (Int ⊕ (JL×Int)))(p42:Int)(p71:Int)(p72:Int)(p73:Int)(p74:Int)(p75:Int)(p76:Int)(p77:Int)(p78:Int)(p79:Int)(p80:Int)(p81:(List ByteArray))(p82:Int)(p83:Int)(p84:Int)(p85:(List JR))(p86:(List ByteArray))(p87:(List JU))(p88:(List JU))(p89:(List JS))(p90:(List JS))(p91:(List JG))(p92:(List (JK×Int)))(p93:(List (Int×Bool))):Option (Int ⊕ (JL×Int)):=
 cN (bM (p42+1)) (kb41 (p42+1) p71 p72 p73 p74 p75 p76 p77 p78 p79 p80 p81 p82 p83 p84 p85 p86 p87 p88 p89 p90 p91 p92 p93)
def lU (N:Nat):Nat→Int→Int→Int→Int→Int→Int→Int→Int→Int→Int→Int→(List ByteArray)→Int→Int→Int→(List JR)→(List ByteArray)→(List JU)→(List JU)→(List JS)→(List JS)→(List JG)→(List (JK×Int))→(List (Int×Bool))→Option (Int ⊕ (JL×Int))
 |0,_,_,_,_,_,_,_,_,_,_,_,_,_,_,_,_,_,_,_,_,_,_,_,_=>none
 |m41+1,p42,p43,p44,p45,p46,p47,p48,p49,p50,p51,p52,p53,p54,p55,p56,p57,p58,p59,p60,p61,p62,p63,p64,p65=>bif decide (p42<18) then ((kN N (⟨(⟨p43,p44,p45⟩:JH),(⟨p46,p47,p48,p49,p50,p51,p52⟩:JO),(),(⟨(⟨p59,p60⟩:JN),p61,p62,(⟨p65⟩:JI)⟩:JJ),(⟨p63,p64⟩:JP),p53,p54,p55,p56,p57,p58⟩:JL) p42).bind fun y94=>(jO N y94.2.heap_ y94.1).bind fun y105=>rq N (lU N m41) p42 y94.2.spent_.steps_ y94.2.spent_.made_ y94.2.spent_.calls_ y94.2.config_.Way y94.2.config_.Steps y94.2.config_.Calls y94.2.config_.Made y94.2.config_.Young y94.2.config_.Full y94.2.config_.Sites y94.2.symbols_ y94.2.epoch_ y94.2.serial_ y94.2.sleepers_ y94.2.events_ y94.2.out_ y105.2.m_.Young y105.2.m_.Old y105.2.roots_ y105.2.pending_ y94.2.shapes_.shapes_ y94.2.shapes_.next_ y105.2.set_.at_) else (rt N p43 p44 p45 p46 p47 p48 p49 p50 p51 p52 p53 p54 p55 p56 p57 p58 p59 p60 p61 p62 p63 p64 p65)
def tM (N:Nat)(a0:JO):Option (Int ⊕ (JL×Int)):=
 (rp N a0).bind fun y2=>bif !y2 then (some (.inl 1)) else ((vF N).bind fun y4=>(tJ N).bind fun y12=>lU N N 0 0 0 0 a0.Way a0.Steps a0.Calls a0.Made a0.Young a0.Full a0.Sites [] 0 0 0 [] [] y4.m_.Young y4.m_.Old y4.roots_ y4.pending_ y12.shapes_ y12.next_ y4.set_.at_)
set_option maxHeartbeats 4000000 in
theorem sa {N:Nat}{a0:JO}{r:(Int ⊕ (JL×Int))}(h:tM N a0=some r):Okc Tryz.prog 21 [(zu a0)] ([]) (fun u post=>H7 (fun (r:Int)=>u=.tuple #[.pointer none,iV r]∧post=[]) (fun (r:JL×Int)=> ∃B0 B1 A2 n2 c2 A3 n3 c3 A4 n4 c4 A5 n5 c5 B6 M7 B8 A9 n9 c9 M10 A11 n11 c11 A12 n12 c12 A13 n13 c13,u=.tuple #[pV B0 0,iV r.2]∧post=[ad B0 151 [iV r.1.spent_.steps_,iV r.1.spent_.made_,iV r.1.spent_.calls_,iV r.1.config_.Way,iV r.1.config_.Steps,iV r.1.config_.Calls,iV r.1.config_.Made,iV r.1.config_.Young,iV r.1.config_.Full,iV r.1.config_.Sites,.nilIface,pV B1 0,pV B8 0,I A11 n11 c11,iV r.1.epoch_,iV r.1.serial_,iV r.1.sleepers_,I A12 n12 c12,I A13 n13 c13],ad B1 199 [I A2 n2 c2,I A3 n3 c3,I A4 n4 c4,I A5 n5 c5,pV B6 0],br A2 n2 c2 r.1.heap_.m_.Young,br A3 n3 c3 r.1.heap_.m_.Old,aY A4 n4 c4 r.1.heap_.roots_,aY A5 n5 c5 r.1.heap_.pending_,ad B6 247 [.map (some M7)],aG cx cz M7 r.1.heap_.set_.at_,ad B8 205 [I A9 n9 c9,.map (some M10)],cE A9 n9 c9 r.1.shapes_.shapes_,aG aF cv M10 r.1.shapes_.next_,bj A11 n11 c11 r.1.symbols_,cC A12 n12 c12 r.1.events_,bj A13 n13 c13 r.1.out_]) r):=by
 refine bx Tryz.func21 J J ?_;simp only [aX];refine Y ?_;refine gD (aQ J J) ?_;rintro _ _ ⟨B1,rfl,rfl⟩;refine Y ?_;refine aC ?_;refine Y ?_;refine gR (aj (us:=zs a0) 0 J J GO J) ?_;obtain ⟨y2,hy2,h⟩:=aa h;refine gD (aq (uW hy2) Hv J (ak) td) ?_;rintro _ _ ⟨_,⟨rfl,rfl⟩,rfl⟩;refine Y ?_;refine ar J (fun g3=> ?_) (fun g3=> ?_)
 ·replace h:=ae g3 h;refine Y ?_;obtain rfl:=ao h;exact cO J J J (cS [] 1) ⟨J,J⟩
 replace h:=ah g3 h;refine Y ?_;refine aC ?_;refine bF V _ (ai _) ?_;refine zR 0 J (aj (us:=zs a0) 0 J J GO J) ?_;obtain ⟨y4,hy4,h⟩:=aa h;refine zD 1 J (aD (zt hy4) Hu J (aB [] [] [0] 1 J)) ?_;rintro _ _ ⟨_,⟨B5,A6,n6,c6,A7,n7,c7,A8,n8,c8,A9,n9,c9,B10,M11,rfl,rfl⟩,rfl⟩;refine dN (cS [7] 8) ?_;refine cV ?_;obtain ⟨y12,hy12,h⟩:=aa h;refine zD 2 J (aD (xB hy12) Ht J (aB [] [] [0,1,2,3,4,5,6,7] 8 J)) ?_;rintro _ _ ⟨_,⟨B13,A14,n14,c14,M15,rfl,rfl⟩,rfl⟩;refine dN (cS [10] 11) ?_;refine cV ?_;refine zE 3 J (be J (wK _ _ _ _ _ _ _ _ _)) ?_;refine zD 4 J (aQ J J) ?_;rintro _ _ ⟨B16,rfl,rfl⟩;refine dN (cS [11] 12) ?_;refine zE 5 J (bg J) ?_;refine bw V ?_;refine eh ?_
 refine ba (fun s L=> ∃p18 p19 p20 p21 p22 p23 p24 p25 p26 p27 p28 p29 p30 p31 p32 p33 p34 p35 p36 p37 p38 p39 p40 A28 n28 c28 A32 n32 c32 A33 n33 c33 A34 n34 c34 A35 n35 c35 A36 n36 c36 A37 n37 c37 A38 n38 c38 M39 M40,rt N p18 p19 p20 p21 p22 p23 p24 p25 p26 p27 p28 p29 p30 p31 p32 p33 p34 p35 p36 p37 p38 p39 p40=some r∧s=[(2,.pointer none),(3,iV 0),(4,pV B16 0)]∧L=[bj A28 n28 c28 p28,cC A32 n32 c32 p32,bj A33 n33 c33 p33,ad B16 151 [iV p18,iV p19,iV p20,iV p21,iV p22,iV p23,iV p24,iV p25,iV p26,iV p27,.nilIface,pV B5 0,pV B13 0,I A28 n28 c28,iV p29,iV p30,iV p31,I A32 n32 c32,I A33 n33 c33],br A34 n34 c34 p34,br A35 n35 c35 p35,aY A36 n36 c36 p36,aY A37 n37 c37 p37,ad B5 199 [I A34 n34 c34,I A35 n35 c35,I A36 n36 c36,I A37 n37 c37,pV B10 0],cE A38 n38 c38 p38,aG aF cv M39 p39,ad B13 205 [I A38 n38 c38,.map (some M39)],aG cx cz M40 p40,ad B10 247 [.map (some M40)]]) ?_ ?_
 ·refine Y ?_;refine ca (fun m s L=> ∃p42 p43 p44 p45 p46 p47 p48 p49 p50 p51 p52 p53 p54 p55 p56 p57 p58 p59 p60 p61 p62 p63 p64 p65 A53 n53 c53 A57 n57 c57 A58 n58 c58 A59 n59 c59 A60 n60 c60 A61 n61 c61 A62 n62 c62 A63 n63 c63 M64 M65,lU N m p42 p43 p44 p45 p46 p47 p48 p49 p50 p51 p52 p53 p54 p55 p56 p57 p58 p59 p60 p61 p62 p63 p64 p65=some r∧s=[(2,.pointer none),(3,iV 0),(4,pV B16 0),(14,iV p42)]∧L=[bj A53 n53 c53 p53,cC A57 n57 c57 p57,bj A58 n58 c58 p58,ad B16 151 [iV p43,iV p44,iV p45,iV p46,iV p47,iV p48,iV p49,iV p50,iV p51,iV p52,.nilIface,pV B5 0,pV B13 0,I A53 n53 c53,iV p54,iV p55,iV p56,I A57 n57 c57,I A58 n58 c58],br A59 n59 c59 p59,br A60 n60 c60 p60,aY A61 n61 c61 p61,aY A62 n62 c62 p62,ad B5 199 [I A59 n59 c59,I A60 n60 c60,I A61 n61 c61,I A62 n62 c62,pV B10 0],cE A63 n63 c63 p63,aG aF cv M64 p64,ad B13 205 [I A63 n63 c63,.map (some M64)],aG cx cz M65 p65,ad B10 247 [.map (some M65)]]) N _ _ ⟨0,0,0,0,a0.Way,a0.Steps,a0.Calls,a0.Made,a0.Young,a0.Full,a0.Sites,[],0,0,0,[],[],y4.m_.Young,y4.m_.Old,y4.roots_,y4.pending_,y12.shapes_,y12.next_,y4.set_.at_,none,0,0,none,0,0,none,0,0,A6,n6,c6,A7,n7,c7,A8,n8,c8,A9,n9,c9,A14,n14,c14,M15,M11,h,J,J⟩ sA ((jl EQ _).trans ((jl AX _).trans ((jl EQ _).trans (cS [2,1,0,3,8,9,10,11,7,5,6,4,13,12] 15)))) ?_
  rintro (_|m41) _ _ ⟨p42,p43,p44,p45,p46,p47,p48,p49,p50,p51,p52,p53,p54,p55,p56,p57,p58,p59,p60,p61,p62,p63,p64,p65,A53,n53,c53,A57,n57,c57,A58,n58,c58,A59,n59,c59,A60,n60,c60,A61,n61,c61,A62,n62,c62,A63,n63,c63,M64,M65,h,rfl,rfl⟩
  ·exact bh h
  rw [lU.eq_2] at h;refine Y ?_;refine aC ?_;refine ar J (fun g69=> ?_) (fun g69=> ?_)
  ·replace h:=ae g69 h;refine Y ?_;refine ba (fun s L=> ∃p71 p72 p73 p74 p75 p76 p77 p78 p79 p80 p81 p82 p83 p84 p85 p86 p87 p88 p89 p90 p91 p92 p93 A81 n81 c81 A85 n85 c85 A86 n86 c86 A87 n87 c87 A88 n88 c88 A89 n89 c89 A90 n90 c90 A91 n91 c91 M92 M93,rq N (lU N m41) p42 p71 p72 p73 p74 p75 p76 p77 p78 p79 p80 p81 p82 p83 p84 p85 p86 p87 p88 p89 p90 p91 p92 p93=some r∧s=[(2,.pointer none),(3,iV 0),(4,pV B16 0),(14,iV p42)]∧L=[bj A81 n81 c81 p81,cC A85 n85 c85 p85,bj A86 n86 c86 p86,ad B16 151 [iV p71,iV p72,iV p73,iV p74,iV p75,iV p76,iV p77,iV p78,iV p79,iV p80,.nilIface,pV B5 0,pV B13 0,I A81 n81 c81,iV p82,iV p83,iV p84,I A85 n85 c85,I A86 n86 c86],br A87 n87 c87 p87,br A88 n88 c88 p88,aY A89 n89 c89 p89,aY A90 n90 c90 p90,ad B5 199 [I A87 n87 c87,I A88 n88 c88,I A89 n89 c89,I A90 n90 c90,pV B10 0],cE A91 n91 c91 p91,aG aF cv M92 p92,ad B13 205 [I A91 n91 c91,.map (some M92)],aG cx cz M93 p93,ad B10 247 [.map (some M93)]]) ?_ ?_
   ·refine Y ?_;refine bF V ([bj A53 n53 c53 p53,cC A57 n57 c57 p57,bj A58 n58 c58 p58]) (cS [0,1,2] 14) ?_;refine zE 0 J (au J) ?_;refine zE 1 J (bc J) ?_;refine zE 2 J (bZ J km) ?_;refine zE 4 J (au J) ?_;refine zE 5 J (au J) ?_;refine tI 3 6 V ?_ ?_
    ·refine iH J (pz (aZ 3 J J kY J)) J J J ?_;rintro _ _ ⟨rfl,rfl⟩;refine dN (cS [0,1,2] 14) ?_;obtain ⟨y94,hy94,h⟩:=aa h;refine zD 6 J (aD (kh hy94) DW J (aB [0,1,2] [3,8,4,5,6,7,13,12,11,9,10] [0,1,2] 14 J)) ?_;rintro _ _ ⟨_,⟨A95,n95,c95,A96,n96,c96,A97,n97,c97,A98,n98,c98,M99,A100,n100,c100,M101,A102,n102,c102,A103,n103,c103,A104,n104,c104,rfl,rfl⟩,rfl⟩;refine ⟨[bj A102 n102 c102 y94.2.symbols_,cC A103 n103 c103 y94.2.events_,bj A104 n104 c104 y94.2.out_,bj A53 n53 c53 p53,cC A57 n57 c57 p57,bj A58 n58 c58 p58],cS [11,12,13,14,15,16] 17,(cv_tl).trans ((cv_tl).trans (cv_tl)),?_⟩;refine cV ?_;obtain ⟨y105,hy105,h⟩:=aa h;refine zD 7 J (aD (fz hy105) tz J (aB [] [1,2,3,4,5,6,7] [0,8,9,10,11,12,13,14,15,16] 17 J)) ?_;rintro _ _ ⟨_,⟨A106,n106,c106,A107,n107,c107,A108,n108,c108,A109,n109,c109,M110,rfl,rfl⟩,rfl⟩;refine dN (cS [11,12,13,14,15,16] 17) ?_;refine cV ?_;refine bw V ?_;refine Y ?_
     exact ⟨_,_,⟨y94.2.spent_.steps_,y94.2.spent_.made_,y94.2.spent_.calls_,y94.2.config_.Way,y94.2.config_.Steps,y94.2.config_.Calls,y94.2.config_.Made,y94.2.config_.Young,y94.2.config_.Full,y94.2.config_.Sites,y94.2.symbols_,y94.2.epoch_,y94.2.serial_,y94.2.sleepers_,y94.2.events_,y94.2.out_,y105.2.m_.Young,y105.2.m_.Old,y105.2.roots_,y105.2.pending_,y94.2.shapes_.shapes_,y94.2.shapes_.next_,y105.2.set_.at_,A102,n102,c102,A103,n103,c103,A104,n104,c104,A106,n106,c106,A107,n107,c107,A108,n108,c108,A109,n109,c109,A100,n100,c100,M101,M110,h,J,J⟩,sA,cS [11,12,13,7,1,2,3,4,0,9,10,8,6,5] 17⟩
    obtain ⟨y94,hy94,h⟩:=aa h;refine iH J (aD (kh hy94) DW J (aB [0,1,2] [3,8,4,5,6,7,13,12,11,9,10] [0,1,2] 14 J)) J J J ?_;rintro _ _ ⟨_,⟨A95,n95,c95,A96,n96,c96,A97,n97,c97,A98,n98,c98,M99,A100,n100,c100,M101,A102,n102,c102,A103,n103,c103,A104,n104,c104,rfl,rfl⟩,rfl⟩;refine ⟨[bj A102 n102 c102 y94.2.symbols_,cC A103 n103 c103 y94.2.events_,bj A104 n104 c104 y94.2.out_,bj A53 n53 c53 p53,cC A57 n57 c57 p57,bj A58 n58 c58 p58],cS [11,12,13,14,15,16] 17,(cv_tl).trans ((cv_tl).trans (cv_tl)),?_⟩;refine cV ?_;refine zD 3 J (pz (aZ 0 J J kY J)) ?_;rintro _ _ ⟨rfl,rfl⟩;refine dN (cS [11,12,13,14,15,16] 17) ?_;obtain ⟨y105,hy105,h⟩:=aa h;refine zD 7 J (aD (fz hy105) tz J (aB [] [1,2,3,4,5,6,7] [0,8,9,10,11,12,13,14,15,16] 17 J)) ?_;rintro _ _ ⟨_,⟨A106,n106,c106,A107,n107,c107,A108,n108,c108,A109,n109,c109,M110,rfl,rfl⟩,rfl⟩;refine dN (cS [11,12,13,14,15,16] 17) ?_;refine cV ?_;refine bw V ?_;refine Y ?_
    exact ⟨_,_,⟨y94.2.spent_.steps_,y94.2.spent_.made_,y94.2.spent_.calls_,y94.2.config_.Way,y94.2.config_.Steps,y94.2.config_.Calls,y94.2.config_.Made,y94.2.config_.Young,y94.2.config_.Full,y94.2.config_.Sites,y94.2.symbols_,y94.2.epoch_,y94.2.serial_,y94.2.sleepers_,y94.2.events_,y94.2.out_,y105.2.m_.Young,y105.2.m_.Old,y105.2.roots_,y105.2.pending_,y94.2.shapes_.shapes_,y94.2.shapes_.next_,y105.2.set_.at_,A102,n102,c102,A103,n103,c103,A104,n104,c104,A106,n106,c106,A107,n107,c107,A108,n108,c108,A109,n109,c109,A100,n100,c100,M101,M110,h,J,J⟩,sA,cS [11,12,13,7,1,2,3,4,0,9,10,8,6,5] 17⟩
   rintro _ _ ⟨p71,p72,p73,p74,p75,p76,p77,p78,p79,p80,p81,p82,p83,p84,p85,p86,p87,p88,p89,p90,p91,p92,p93,A81,n81,c81,A85,n85,c85,A86,n86,c86,A87,n87,c87,A88,n88,c88,A89,n89,c89,A90,n90,c90,A91,n91,c91,M92,M93,h,rfl,rfl⟩;refine ft ?_;obtain ⟨q111,h⟩:=ay h;refine gE (bC J J q111.1 q111.2) ?_;refine Y ?_;exact ⟨m41,_,_,J1 _,⟨p42+1,p71,p72,p73,p74,p75,p76,p77,p78,p79,p80,p81,p82,p83,p84,p85,p86,p87,p88,p89,p90,p91,p92,p93,A81,n81,c81,A85,n85,c85,A86,n86,c86,A87,n87,c87,A88,n88,c88,A89,n89,c89,A90,n90,c90,A91,n91,c91,M92,M93,h,J,J⟩,sA,cS [0,1,2,3,4,5,6,7,8,9,10,11,12,13] 14⟩
  replace h:=ah g69 h;refine Y ?_;exact ⟨_,_,⟨p43,p44,p45,p46,p47,p48,p49,p50,p51,p52,p53,p54,p55,p56,p57,p58,p59,p60,p61,p62,p63,p64,p65,A53,n53,c53,A57,n57,c57,A58,n58,c58,A59,n59,c59,A60,n60,c60,A61,n61,c61,A62,n62,c62,A63,n63,c63,M64,M65,h,J,J⟩,sA,cS [0,1,2,3,4,5,6,7,8,9,10,11,12,13] 14⟩
 rintro _ _ ⟨p18,p19,p20,p21,p22,p23,p24,p25,p26,p27,p28,p29,p30,p31,p32,p33,p34,p35,p36,p37,p38,p39,p40,A28,n28,c28,A32,n32,c32,A33,n33,c33,A34,n34,c34,A35,n35,c35,A36,n36,c36,A37,n37,c37,A38,n38,c38,M39,M40,h,rfl,rfl⟩;refine ba (fun s L=> ∃p113 p114 p115 p116 p117 p118 p119 p120 p121 p122 p123 p124 p125 p126 p127 p128 p129 p130 p131 p132 p133 p134 p135 A123 n123 c123 A127 n127 c127 A128 n128 c128 A129 n129 c129 A130 n130 c130 A131 n131 c131 A132 n132 c132 A133 n133 c133 M134 M135,qe N p113 p114 p115 p116 p117 p118 p119 p120 p121 p122 p123 p124 p125 p126 p127 p128 p129 p130 p131 p132 p133 p134 p135=some r∧s=[(2,.pointer none),(3,iV 0),(4,pV B16 0)]∧L=[bj A123 n123 c123 p123,cC A127 n127 c127 p127,bj A128 n128 c128 p128,ad B16 151 [iV p113,iV p114,iV p115,iV p116,iV p117,iV p118,iV p119,iV p120,iV p121,iV p122,.nilIface,pV B5 0,pV B13 0,I A123 n123 c123,iV p124,iV p125,iV p126,I A127 n127 c127,I A128 n128 c128],br A129 n129 c129 p129,br A130 n130 c130 p130,aY A131 n131 c131 p131,aY A132 n132 c132 p132,ad B5 199 [I A129 n129 c129,I A130 n130 c130,I A131 n131 c131,I A132 n132 c132,pV B10 0],cE A133 n133 c133 p133,aG aF cv M134 p134,ad B13 205 [I A133 n133 c133,.map (some M134)],aG cx cz M135 p135,ad B10 247 [.map (some M135)]]) ?_ ?_
 ·refine bF V ([bj A28 n28 c28 p28,cC A32 n32 c32 p32,bj A33 n33 c33 p33]) (cS [0,1,2] 14) ?_;refine zE 0 J (au J) ?_;refine zE 1 J (bc J) ?_;refine zE 2 J (bZ J km) ?_;refine zE 4 J (au J) ?_;refine zE 5 J (be J (xm _)) ?_;refine tI 3 6 V ?_ ?_
  ·refine iH J (pz (aZ 3 J J kY J)) J J J ?_;rintro _ _ ⟨rfl,rfl⟩;refine dN (cS [0,1,2] 14) ?_;obtain ⟨y136,hy136,h⟩:=aa h;refine pL (jl bW _) (cS [1,2,3] 15) ?_;refine pL (jl bW _) (cS [2,3,4] 16) ?_;refine zD 6 J (aD (fE hy136) we J (aB [2,3,4,1,0] [5,10,6,7,8,9,15,14,13,11,12] [0,1,2,3,4] 16 J)) ?_;rintro _ _ ⟨_,⟨A137,n137,c137,A138,n138,c138,A139,n139,c139,A140,n140,c140,M141,A142,n142,c142,M143,A144,n144,c144,A145,n145,c145,A146,n146,c146,rfl,rfl⟩,rfl⟩;refine ⟨[bj A144 n144 c144 y136.2.symbols_,cC A145 n145 c145 y136.2.events_,bj A146 n146 c146 y136.2.out_,bj A28 n28 c28 p28,cC A32 n32 c32 p32,bj A33 n33 c33 p33],cS [11,12,13,16,17,18] 19,(cv_tl).trans ((cv_tl).trans (cv_tl)),?_⟩;refine cV ?_;obtain ⟨y149,hy149,h⟩:=aa h;refine zD 7 J (aD (fz hy149) tz J (aB [] [1,2,3,4,5,6,7] [0,8,9,10,11,12,13,14,15,16,17,18] 19 J)) ?_;rintro _ _ ⟨_,⟨A150,n150,c150,A151,n151,c151,A152,n152,c152,A153,n153,c153,M154,rfl,rfl⟩,rfl⟩;refine dN (cS [11,12,13,16,17,18] 19) ?_;refine cV ?_;refine bw V ?_;refine eh ?_
   exact ⟨_,_,⟨y136.2.spent_.steps_,y136.2.spent_.made_,y136.2.spent_.calls_,y136.2.config_.Way,y136.2.config_.Steps,y136.2.config_.Calls,y136.2.config_.Made,y136.2.config_.Young,y136.2.config_.Full,y136.2.config_.Sites,y136.2.symbols_,y136.2.epoch_,y136.2.serial_,y136.2.sleepers_,y136.2.events_,y136.2.out_,y149.2.m_.Young,y149.2.m_.Old,y149.2.roots_,y149.2.pending_,y136.2.shapes_.shapes_,y136.2.shapes_.next_,y149.2.set_.at_,A144,n144,c144,A145,n145,c145,A146,n146,c146,A150,n150,c150,A151,n151,c151,A152,n152,c152,A153,n153,c153,A142,n142,c142,M143,M154,h,J,J⟩,sA,cS [11,12,13,7,1,2,3,4,0,9,10,8,6,5] 19⟩
  obtain ⟨y136,hy136,h⟩:=aa h;refine ul (jl bW _) (cS [1,2,3] 15) ?_;refine ul (jl bW _) (cS [2,3,4] 16) ?_;refine iH J (aD (fE hy136) we J (aB [2,3,4,1,0] [5,10,6,7,8,9,15,14,13,11,12] [0,1,2,3,4] 16 J)) J J J ?_;rintro _ _ ⟨_,⟨A137,n137,c137,A138,n138,c138,A139,n139,c139,A140,n140,c140,M141,A142,n142,c142,M143,A144,n144,c144,A145,n145,c145,A146,n146,c146,rfl,rfl⟩,rfl⟩;refine ⟨[bj A144 n144 c144 y136.2.symbols_,cC A145 n145 c145 y136.2.events_,bj A146 n146 c146 y136.2.out_,bj A28 n28 c28 p28,cC A32 n32 c32 p32,bj A33 n33 c33 p33],cS [11,12,13,16,17,18] 19,(cv_tl).trans ((cv_tl).trans (cv_tl)),?_⟩;refine cV ?_;refine zD 3 J (pz (aZ 0 J J kY J)) ?_;rintro _ _ ⟨rfl,rfl⟩;refine dN (cS [11,12,13,16,17,18] 19) ?_;obtain ⟨y149,hy149,h⟩:=aa h;refine zD 7 J (aD (fz hy149) tz J (aB [] [1,2,3,4,5,6,7] [0,8,9,10,11,12,13,14,15,16,17,18] 19 J)) ?_;rintro _ _ ⟨_,⟨A150,n150,c150,A151,n151,c151,A152,n152,c152,A153,n153,c153,M154,rfl,rfl⟩,rfl⟩;refine dN (cS [11,12,13,16,17,18] 19) ?_;refine cV ?_;refine bw V ?_;refine eh ?_
  exact ⟨_,_,⟨y136.2.spent_.steps_,y136.2.spent_.made_,y136.2.spent_.calls_,y136.2.config_.Way,y136.2.config_.Steps,y136.2.config_.Calls,y136.2.config_.Made,y136.2.config_.Young,y136.2.config_.Full,y136.2.config_.Sites,y136.2.symbols_,y136.2.epoch_,y136.2.serial_,y136.2.sleepers_,y136.2.events_,y136.2.out_,y149.2.m_.Young,y149.2.m_.Old,y149.2.roots_,y149.2.pending_,y136.2.shapes_.shapes_,y136.2.shapes_.next_,y149.2.set_.at_,A144,n144,c144,A145,n145,c145,A146,n146,c146,A150,n150,c150,A151,n151,c151,A152,n152,c152,A153,n153,c153,A142,n142,c142,M143,M154,h,J,J⟩,sA,cS [11,12,13,7,1,2,3,4,0,9,10,8,6,5] 19⟩
 rintro _ _ ⟨p113,p114,p115,p116,p117,p118,p119,p120,p121,p122,p123,p124,p125,p126,p127,p128,p129,p130,p131,p132,p133,p134,p135,A123,n123,c123,A127,n127,c127,A128,n128,c128,A129,n129,c129,A130,n130,c130,A131,n131,c131,A132,n132,c132,A133,n133,c133,M134,M135,h,rfl,rfl⟩;refine ba (fun s L=> ∃p156 p157 p158 p159 p160 p161 p162 p163 p164 p165 p166 p167 p168 p169 p170 p171 p172 p173 p174 p175 p176 p177 p178 A166 n166 c166 A170 n170 c170 A171 n171 c171 A172 n172 c172 A173 n173 c173 A174 n174 c174 A175 n175 c175 A176 n176 c176 M177 M178,qd N p156 p157 p158 p159 p160 p161 p162 p163 p164 p165 p166 p167 p168 p169 p170 p171 p172 p173 p174 p175 p176 p177 p178=some r∧s=[(2,.pointer none),(3,iV 0),(4,pV B16 0)]∧L=[bj A166 n166 c166 p166,cC A170 n170 c170 p170,bj A171 n171 c171 p171,ad B16 151 [iV p156,iV p157,iV p158,iV p159,iV p160,iV p161,iV p162,iV p163,iV p164,iV p165,.nilIface,pV B5 0,pV B13 0,I A166 n166 c166,iV p167,iV p168,iV p169,I A170 n170 c170,I A171 n171 c171],br A172 n172 c172 p172,br A173 n173 c173 p173,aY A174 n174 c174 p174,aY A175 n175 c175 p175,ad B5 199 [I A172 n172 c172,I A173 n173 c173,I A174 n174 c174,I A175 n175 c175,pV B10 0],cE A176 n176 c176 p176,aG aF cv M177 p177,ad B13 205 [I A176 n176 c176,.map (some M177)],aG cx cz M178 p178,ad B10 247 [.map (some M178)]]) ?_ ?_
 ·refine bF V ([bj A123 n123 c123 p123,cC A127 n127 c127 p127,bj A128 n128 c128 p128]) (cS [0,1,2] 14) ?_;refine zE 0 J (au J) ?_;refine zE 1 J (bc J) ?_;refine zE 2 J (bZ J km) ?_;refine zE 4 J (au J) ?_;refine zE 5 J (be J (xm _)) ?_;refine tI 3 6 V ?_ ?_
  ·refine iH J (pz (aZ 3 J J kY J)) J J J ?_;rintro _ _ ⟨rfl,rfl⟩;refine dN (cS [0,1,2] 14) ?_;obtain ⟨y179,hy179,h⟩:=aa h;refine pL (jl bW _) (cS [1,2,3] 15) ?_;refine pL (jl bW _) (cS [2,3,4] 16) ?_;refine zD 6 J (aD (fE hy179) we J (aB [2,3,4,1,0] [5,10,6,7,8,9,15,14,13,11,12] [0,1,2,3,4] 16 J)) ?_;rintro _ _ ⟨_,⟨A180,n180,c180,A181,n181,c181,A182,n182,c182,A183,n183,c183,M184,A185,n185,c185,M186,A187,n187,c187,A188,n188,c188,A189,n189,c189,rfl,rfl⟩,rfl⟩;refine ⟨[bj A187 n187 c187 y179.2.symbols_,cC A188 n188 c188 y179.2.events_,bj A189 n189 c189 y179.2.out_,bj A123 n123 c123 p123,cC A127 n127 c127 p127,bj A128 n128 c128 p128],cS [11,12,13,16,17,18] 19,(cv_tl).trans ((cv_tl).trans (cv_tl)),?_⟩;refine cV ?_;obtain ⟨y192,hy192,h⟩:=aa h;refine zD 7 J (aD (fz hy192) tz J (aB [] [1,2,3,4,5,6,7] [0,8,9,10,11,12,13,14,15,16,17,18] 19 J)) ?_;rintro _ _ ⟨_,⟨A193,n193,c193,A194,n194,c194,A195,n195,c195,A196,n196,c196,M197,rfl,rfl⟩,rfl⟩;refine dN (cS [11,12,13,16,17,18] 19) ?_;refine cV ?_;refine bw V ?_;refine eh ?_
   exact ⟨_,_,⟨y179.2.spent_.steps_,y179.2.spent_.made_,y179.2.spent_.calls_,y179.2.config_.Way,y179.2.config_.Steps,y179.2.config_.Calls,y179.2.config_.Made,y179.2.config_.Young,y179.2.config_.Full,y179.2.config_.Sites,y179.2.symbols_,y179.2.epoch_,y179.2.serial_,y179.2.sleepers_,y179.2.events_,y179.2.out_,y192.2.m_.Young,y192.2.m_.Old,y192.2.roots_,y192.2.pending_,y179.2.shapes_.shapes_,y179.2.shapes_.next_,y192.2.set_.at_,A187,n187,c187,A188,n188,c188,A189,n189,c189,A193,n193,c193,A194,n194,c194,A195,n195,c195,A196,n196,c196,A185,n185,c185,M186,M197,h,J,J⟩,sA,cS [11,12,13,7,1,2,3,4,0,9,10,8,6,5] 19⟩
  obtain ⟨y179,hy179,h⟩:=aa h;refine ul (jl bW _) (cS [1,2,3] 15) ?_;refine ul (jl bW _) (cS [2,3,4] 16) ?_;refine iH J (aD (fE hy179) we J (aB [2,3,4,1,0] [5,10,6,7,8,9,15,14,13,11,12] [0,1,2,3,4] 16 J)) J J J ?_;rintro _ _ ⟨_,⟨A180,n180,c180,A181,n181,c181,A182,n182,c182,A183,n183,c183,M184,A185,n185,c185,M186,A187,n187,c187,A188,n188,c188,A189,n189,c189,rfl,rfl⟩,rfl⟩;refine ⟨[bj A187 n187 c187 y179.2.symbols_,cC A188 n188 c188 y179.2.events_,bj A189 n189 c189 y179.2.out_,bj A123 n123 c123 p123,cC A127 n127 c127 p127,bj A128 n128 c128 p128],cS [11,12,13,16,17,18] 19,(cv_tl).trans ((cv_tl).trans (cv_tl)),?_⟩;refine cV ?_;refine zD 3 J (pz (aZ 0 J J kY J)) ?_;rintro _ _ ⟨rfl,rfl⟩;refine dN (cS [11,12,13,16,17,18] 19) ?_;obtain ⟨y192,hy192,h⟩:=aa h;refine zD 7 J (aD (fz hy192) tz J (aB [] [1,2,3,4,5,6,7] [0,8,9,10,11,12,13,14,15,16,17,18] 19 J)) ?_;rintro _ _ ⟨_,⟨A193,n193,c193,A194,n194,c194,A195,n195,c195,A196,n196,c196,M197,rfl,rfl⟩,rfl⟩;refine dN (cS [11,12,13,16,17,18] 19) ?_;refine cV ?_;refine bw V ?_;refine eh ?_
  exact ⟨_,_,⟨y179.2.spent_.steps_,y179.2.spent_.made_,y179.2.spent_.calls_,y179.2.config_.Way,y179.2.config_.Steps,y179.2.config_.Calls,y179.2.config_.Made,y179.2.config_.Young,y179.2.config_.Full,y179.2.config_.Sites,y179.2.symbols_,y179.2.epoch_,y179.2.serial_,y179.2.sleepers_,y179.2.events_,y179.2.out_,y192.2.m_.Young,y192.2.m_.Old,y192.2.roots_,y192.2.pending_,y179.2.shapes_.shapes_,y179.2.shapes_.next_,y192.2.set_.at_,A187,n187,c187,A188,n188,c188,A189,n189,c189,A193,n193,c193,A194,n194,c194,A195,n195,c195,A196,n196,c196,A185,n185,c185,M186,M197,h,J,J⟩,sA,cS [11,12,13,7,1,2,3,4,0,9,10,8,6,5] 19⟩
 rintro _ _ ⟨p156,p157,p158,p159,p160,p161,p162,p163,p164,p165,p166,p167,p168,p169,p170,p171,p172,p173,p174,p175,p176,p177,p178,A166,n166,c166,A170,n170,c170,A171,n171,c171,A172,n172,c172,A173,n173,c173,A174,n174,c174,A175,n175,c175,A176,n176,c176,M177,M178,h,rfl,rfl⟩;refine Y ?_;obtain rfl:=ao h;exact cO J J J (cS [3,8,4,5,6,7,13,12,11,9,10,0,1,2] 14) ⟨_,_,_,_,_,_,_,_,_,_,_,_,_,_,_,_,_,_,_,_,_,_,_,_,_,_,_,_,_,_,J,J⟩
def nn (N:Nat):Option (Unit ⊕ JL):=
 (tM N (⟨0,1000,10,1000,0,1,1⟩:JO)).bind fun y1=>xz y1 (fun y1_0=>bif !decide (y1_0=0) then (some (.inl ())) else (some (.inl ()))) (fun y1_1=>bif !decide (y1_1.2=0) then (some (.inl ())) else (some (.inr y1_1.1)))
theorem nT {N:Nat}{r:(Unit ⊕ JL)}(h:nn N=some r):Okc Tryz.prog 42 [] ([]) (fun u post=>H7 (fun (r:Unit)=>u=.pointer none∧post=[]) (fun (r:JL)=> ∃B0 B1 A2 n2 c2 A3 n3 c3 A4 n4 c4 A5 n5 c5 B6 M7 B8 A9 n9 c9 M10 A11 n11 c11 A12 n12 c12 A13 n13 c13,u=pV B0 0∧post=[ad B0 151 [iV r.spent_.steps_,iV r.spent_.made_,iV r.spent_.calls_,iV r.config_.Way,iV r.config_.Steps,iV r.config_.Calls,iV r.config_.Made,iV r.config_.Young,iV r.config_.Full,iV r.config_.Sites,.nilIface,pV B1 0,pV B8 0,I A11 n11 c11,iV r.epoch_,iV r.serial_,iV r.sleepers_,I A12 n12 c12,I A13 n13 c13],ad B1 199 [I A2 n2 c2,I A3 n3 c3,I A4 n4 c4,I A5 n5 c5,pV B6 0],br A2 n2 c2 r.heap_.m_.Young,br A3 n3 c3 r.heap_.m_.Old,aY A4 n4 c4 r.heap_.roots_,aY A5 n5 c5 r.heap_.pending_,ad B6 247 [.map (some M7)],aG cx cz M7 r.heap_.set_.at_,ad B8 205 [I A9 n9 c9,.map (some M10)],cE A9 n9 c9 r.shapes_.shapes_,aG aF cv M10 r.shapes_.next_,bj A11 n11 c11 r.symbols_,cC A12 n12 c12 r.events_,bj A13 n13 c13 r.out_]) r):=by
 refine bx Tryz.func42 J J ?_;simp only [aX];refine Y ?_;refine gE (be J (tD _ _ _ _ _)) ?_;obtain ⟨y1,hy1,h⟩:=aa h;rcases y1 with y1_0|y1_1
 ·replace h:=yX h;refine gD (aD (sa hy1) D4 J (aB [] [] [] 0 J)) ?_;rintro _ _ ⟨_,⟨rfl,rfl⟩,rfl⟩;refine Y ?_;refine aC ?_;refine Y ?_;refine ar J (fun g2=> ?_) (fun g2=> ?_)
  ·replace h:=ae g2 h;refine Y ?_;obtain rfl:=ao h;exact aN J J (cS [] 0) ⟨J,J⟩
  replace h:=ah g2 h;refine Y ?_;obtain rfl:=ao h;exact aN J J (cS [] 0) ⟨J,J⟩
 replace h:=yW h;refine gD (aD (sa hy1) D4 J (aB [] [] [] 0 J)) ?_;rintro _ _ ⟨_,⟨B3,B4,A5,n5,c5,A6,n6,c6,A7,n7,c7,A8,n8,c8,B9,M10,B11,A12,n12,c12,M13,A14,n14,c14,A15,n15,c15,A16,n16,c16,rfl,rfl⟩,rfl⟩;refine Y ?_;refine aC ?_;refine Y ?_;refine ar J (fun g17=> ?_) (fun g17=> ?_)
 ·replace h:=ae g17 h;refine Y ?_;obtain rfl:=ao h;exact aN J J (cS [] 14) ⟨J,J⟩
 replace h:=ah g17 h;refine Y ?_;obtain rfl:=ao h;exact aN J J (cS [0,1,2,3,4,5,6,7,8,9,10,11,12,13] 14) ⟨_,_,_,_,_,_,_,_,_,_,_,_,_,_,_,_,_,_,_,_,_,_,_,_,_,_,_,_,_,_,J,J⟩
def ki (N:Nat)(a1:Int)(p13:Int):Option Int:=
 bif decide (a1≤p13) then (some (-1)) else (some p13)
def kV (N:Nat)(a0:Int)(a1:Int)(p7:Int):Option Int:=
 (bif decide (65≤a0) then (some (decide (a0≤70))) else (some false)).bind fun b14=>bif b14 then (cN (bM ((IntKind.i64.wrap a0) - 65)) (cN (bM (((IntKind.i64.wrap a0) - 65)+10)) (ki N a1 (((IntKind.i64.wrap a0) - 65)+10)))) else (ki N a1 p7)
def kW (N:Nat)(a0:Int)(a1:Int)(p2:Int):Option Int:=
 (bif decide (97≤a0) then (some (decide (a0≤102))) else (some false)).bind fun b8=>bif b8 then (cN (bM ((IntKind.i64.wrap a0) - 97)) (cN (bM (((IntKind.i64.wrap a0) - 97)+10)) (kV N a0 a1 (((IntKind.i64.wrap a0) - 97)+10)))) else (kV N a0 a1 p2)
def ob (N:Nat)(a0:Int)(a1:Int):Option Int:=
 (bif decide (48≤a0) then (some (decide (a0≤57))) else (some false)).bind fun b3=>bif b3 then (cN (bM ((IntKind.i64.wrap a0) - 48)) (kW N a0 a1 ((IntKind.i64.wrap a0) - 48))) else (kW N a0 a1 (-1))
set_option maxHeartbeats 4000000 in
theorem xH {N:Nat}{a0:Int}{a1:Int}{r:Int}(h:ob N a0 a1=some r):Okc Tryz.prog 202 [.int .u8 a0,iV a1] ([]) (fun u post=>u=iV r∧post=[]):=by
 refine bx Tryz.func202 J J ?_;simp only [aX];refine Y ?_;refine ba (fun s L=> ∃p2,kW N a0 a1 p2=some r∧s=[(0,.int .u8 a0),(1,iV a1),(4,iV 0),(5,iV p2)]∧L=[]) ?_ ?_
 ·refine Y ?_;obtain ⟨b3,hb3,h⟩:=aa h;refine aK 3 11 b3 ?_ ?_
  ·clear h;refine aI 8 J (fun g3=> ?_) (fun g3=> ?_)
   ·have h:=ae g3 hb3;refine Y ?_;obtain rfl:=ao h;exact ac sA (cS [] 0)
   have h:=ah g3 hb3;refine Y ?_;obtain rfl:=ao h;exact ac sA (cS [] 0)
  refine Y ?_;refine ar J (fun g4=> ?_) (fun g4=> ?_)
  ·replace h:=ae g4 h;refine Y ?_;refine gE (pF J J hJ) ?_;obtain ⟨q5,h⟩:=ay h;refine gE (dj J J q5.1 q5.2) ?_;refine Y ?_;exact ⟨_,_,⟨(IntKind.i64.wrap a0) - 48,h,J,J⟩,sA,cS [] 0⟩
  replace h:=ah g4 h;refine Y ?_;exact ⟨_,_,⟨(-1),h,J,J⟩,sA,cS [] 0⟩
 rintro _ _ ⟨p2,h,rfl,rfl⟩;refine ba (fun s L=> ∃p7,kV N a0 a1 p7=some r∧s=[(0,.int .u8 a0),(1,iV a1),(4,iV 0),(5,iV p7)]∧L=[]) ?_ ?_
 ·refine Y ?_;obtain ⟨b8,hb8,h⟩:=aa h;refine aK 3 20 b8 ?_ ?_
  ·clear h;refine aI 17 J (fun g8=> ?_) (fun g8=> ?_)
   ·have h:=ae g8 hb8;refine Y ?_;obtain rfl:=ao h;exact ac sA (cS [] 0)
   have h:=ah g8 hb8;refine Y ?_;obtain rfl:=ao h;exact ac sA (cS [] 0)
  refine Y ?_;refine ar J (fun g9=> ?_) (fun g9=> ?_)
  ·replace h:=ae g9 h;refine Y ?_;refine gE (pF J J hJ) ?_;obtain ⟨q10,h⟩:=ay h;refine gE (dj J J q10.1 q10.2) ?_;obtain ⟨q11,h⟩:=ay h;refine gE (bC J J q11.1 q11.2) ?_;refine Y ?_;exact ⟨_,_,⟨((IntKind.i64.wrap a0) - 97)+10,h,J,J⟩,sA,cS [] 0⟩
  replace h:=ah g9 h;refine Y ?_;exact ⟨_,_,⟨p2,h,J,J⟩,sA,cS [] 0⟩
 rintro _ _ ⟨p7,h,rfl,rfl⟩;refine ba (fun s L=> ∃p13,ki N a1 p13=some r∧s=[(1,iV a1),(4,iV 0),(5,iV p13)]∧L=[]) ?_ ?_
 ·refine Y ?_;obtain ⟨b14,hb14,h⟩:=aa h;refine aK 3 30 b14 ?_ ?_
  ·clear h;refine aI 27 J (fun g14=> ?_) (fun g14=> ?_)
   ·have h:=ae g14 hb14;refine Y ?_;obtain rfl:=ao h;exact ac sA (cS [] 0)
   have h:=ah g14 hb14;refine Y ?_;obtain rfl:=ao h;exact ac sA (cS [] 0)
  refine Y ?_;refine ar J (fun g15=> ?_) (fun g15=> ?_)
  ·replace h:=ae g15 h;refine Y ?_;refine gE (pF J J hJ) ?_;obtain ⟨q16,h⟩:=ay h;refine gE (dj J J q16.1 q16.2) ?_;obtain ⟨q17,h⟩:=ay h;refine gE (bC J J q17.1 q17.2) ?_;refine Y ?_;exact ⟨_,_,⟨((IntKind.i64.wrap a0) - 65)+10,h,J,J⟩,sA,cS [] 0⟩
  replace h:=ah g15 h;refine Y ?_;exact ⟨_,_,⟨p7,h,J,J⟩,sA,cS [] 0⟩
 rintro _ _ ⟨p13,h,rfl,rfl⟩;refine aC ?_;refine Y ?_;refine ar J (fun g18=> ?_) (fun g18=> ?_)
 ·replace h:=ae g18 h;refine Y ?_;obtain rfl:=ao h;exact aN J J (cS [] 0) ⟨J,J⟩
 replace h:=ah g18 h;refine Y ?_;obtain rfl:=ao h;exact aN J J (cS [] 0) ⟨J,J⟩
theorem vb {r:Int}: ∀v post,((fun (u:Value) (post:List Chunk)=>u=iV r∧post=[])) v post→ ∀c∈post,cB c:=by
 rintro _ _ ⟨rfl,rfl⟩;exact ak
def sc (N:Nat)(a0:ByteArray)(p2:Int):Option (Int×Bool):=
 some (p2,!(a0.toList==(⟨#[]⟩:ByteArray).toList))
def kX (N:Nat)(kb3:Int→Int→Option (Int×Bool))(a0:ByteArray)(a1:Int)(p5:Int)(p8:Int):Option (Int×Bool):=
 cN (bM (p5+1)) (kb3 p8 (p5+1))
def kj (N:Nat)(kb3:Int→Int→Option (Int×Bool))(a0:ByteArray)(a1:Int)(p5:Int)(p13:Int):Option (Int×Bool):=
 bif decide (9007199254740992<p13) then (kX N kb3 a0 a1 p5 (-1)) else (kX N kb3 a0 a1 p5 p13)
def fJ (N:Nat)(a0:ByteArray)(a1:Int):Nat→Int→Int→Option (Int×Bool)
 |0,_,_=>none
 |m3+1,p4,p5=>bif decide (p5<(a0.size:Int)) then ((ud a0 p5).bind fun x9=>(ob N x9 a1).bind fun y10=>bif decide (y10<0) then (some (0,false)) else (bif decide (0≤p4) then (cN (bM (p4*a1)) (cN (bM ((p4*a1)+y10)) (kj N (fJ N a0 a1 m3) a0 a1 p5 ((p4*a1)+y10)))) else (kj N (fJ N a0 a1 m3) a0 a1 p5 p4))) else (sc N a0 p4)
def tR (N:Nat)(a0:ByteArray)(a1:Int):Option (Int×Bool):=
 fJ N a0 a1 N 0 0
set_option maxHeartbeats 4000000 in
theorem xI {N:Nat}{a0:ByteArray}{a1:Int}{r:(Int×Bool)}(h:tR N a0 a1=some r):Okc Tryz.prog 144 [.string a0,iV a1] ([]) (fun u post=>u=.tuple #[iV r.1,.bool r.2]∧post=[]):=by
 refine bx Tryz.func144 J J ?_;simp only [aX];refine Y ?_;refine ba (fun s L=> ∃p2,sc N a0 p2=some r∧s=[(0,.string a0),(4,iV 0),(5,.bool false),(6,iV p2)]∧L=[]) ?_ ?_
 ·refine Y ?_;refine ca (fun m s L=> ∃p4 p5,fJ N a0 a1 m p4 p5=some r∧s=[(0,.string a0),(1,iV a1),(4,iV 0),(5,.bool false),(6,iV p4),(7,iV p5)]∧L=[]) N _ _ ⟨0,0,h,J,J⟩ sA (cS [] 0) ?_;rintro (_|m3) _ _ ⟨p4,p5,h,rfl,rfl⟩
  ·exact bh h
  rw [fJ.eq_2] at h;refine aC ?_;refine Y ?_;refine gE (ky J hH) ?_;refine Y ?_;refine ar J (fun g6=> ?_) (fun g6=> ?_)
  ·replace h:=ae g6 h;refine Y ?_;refine ba (fun s L=> ∃p8,kX N (fJ N a0 a1 m3) a0 a1 p5 p8=some r∧s=[(0,.string a0),(1,iV a1),(4,iV 0),(5,.bool false),(6,iV p8),(7,iV p5)]∧L=[]) ?_ ?_
   ·refine Y ?_;obtain ⟨x9,hx9,h⟩:=aa h;refine gE (nj J J hH hx9) ?_;refine Y ?_;obtain ⟨y10,hy10,h⟩:=aa h;refine gD (aq (xH hy10) FT J (ak) vb) ?_;rintro _ _ ⟨_,⟨rfl,rfl⟩,rfl⟩;refine Y ?_;refine aC ?_;refine Y ?_;refine ar J (fun g11=> ?_) (fun g11=> ?_)
    ·replace h:=ae g11 h;refine Y ?_;obtain rfl:=ao h;exact cO J J J (cS [] 0) ⟨J,J⟩
    replace h:=ah g11 h;refine Y ?_;refine ba (fun s L=> ∃p13,kj N (fJ N a0 a1 m3) a0 a1 p5 p13=some r∧s=[(0,.string a0),(1,iV a1),(4,iV 0),(5,.bool false),(6,iV p13),(7,iV p5)]∧L=[]) ?_ ?_
    ·refine Y ?_;refine ar J (fun g14=> ?_) (fun g14=> ?_)
     ·replace h:=ae g14 h;refine Y ?_;obtain ⟨q15,h⟩:=ay h;refine gE (nO J J q15.1 q15.2) ?_;refine Y ?_;obtain ⟨q16,h⟩:=ay h;refine gE (bC J J q16.1 q16.2) ?_;refine Y ?_;exact ⟨_,_,⟨(p4*a1)+y10,h,J,J⟩,sA,cS [] 0⟩
     replace h:=ah g14 h;refine Y ?_;exact ⟨_,_,⟨p4,h,J,J⟩,sA,cS [] 0⟩
    rintro _ _ ⟨p13,h,rfl,rfl⟩;refine Y ?_;refine ar J (fun g17=> ?_) (fun g17=> ?_)
    ·replace h:=ae g17 h;refine Y ?_;exact ⟨_,_,⟨(-1),h,J,J⟩,sA,cS [] 0⟩
    replace h:=ah g17 h;refine Y ?_;exact ⟨_,_,⟨p13,h,J,J⟩,sA,cS [] 0⟩
   rintro _ _ ⟨p8,h,rfl,rfl⟩;refine Y ?_;obtain ⟨q18,h⟩:=ay h;refine gE (bC J J q18.1 q18.2) ?_;refine Y ?_;exact ⟨m3,_,_,J1 _,⟨p8,p5+1,h,J,J⟩,sA,cS [] 0⟩
  replace h:=ah g6 h;refine Y ?_;exact ⟨_,_,⟨p4,h,J,J⟩,sA,cS [] 0⟩
 rintro _ _ ⟨p2,h,rfl,rfl⟩;refine Y ?_;refine gE (vM J J) ?_;refine Y ?_;obtain rfl:=ao h;exact cO J J J (cS [] 0) ⟨J,J⟩
theorem vc {r:(Int×Bool)}: ∀v post,((fun (u:Value) (post:List Chunk)=>u=.tuple #[iV r.1,.bool r.2]∧post=[])) v post→ ∀c∈post,cB c:=by
 rintro _ _ ⟨rfl,rfl⟩;exact ak
def oa (N:Nat)(a0:ByteArray):Option (Int×Bool):=
 (bif a0.toList==(⟨#[]⟩:ByteArray).toList then (some true) else (some (decide (10<(a0.size:Int))))).bind fun b1=>(bif b1 then (some true) else ((ud a0 0).bind fun x3=>(bif decide (x3=48) then (some (decide (1<(a0.size:Int)))) else (some false)).bind fun b4=>some b4)).bind fun b2=>bif b2 then (some (0,false)) else ((tR N a0 10).bind fun y6=>(bif !y6.2 then (some true) else (some (decide (4294967294<y6.1)))).bind fun b7=>bif b7 then (some (0,false)) else (some (y6.1,true)))
set_option maxHeartbeats 4000000 in
theorem xG {N:Nat}{a0:ByteArray}{r:(Int×Bool)}(h:oa N a0=some r):Okc Tryz.prog 78 [.string a0] ([]) (fun u post=>u=.tuple #[iV r.1,.bool r.2]∧post=[]):=by
 refine bx Tryz.func78 J J ?_;simp only [aX];refine Y ?_;refine aC ?_;refine Y ?_;refine gE (oY J J) ?_;refine Y ?_;obtain ⟨b1,hb1,h⟩:=aa h;refine aK 4 12 b1 ?_ ?_
 ·clear h;refine aI 8 J (fun g1=> ?_) (fun g1=> ?_)
  ·have h:=ae g1 hb1;refine Y ?_;obtain rfl:=ao h;exact ac sA (cS [] 0)
  have h:=ah g1 hb1;refine Y ?_;refine ei (ky J hH) J (cU g1 J) J ?_;refine Y ?_;obtain rfl:=ao h;exact ac sA (cS [] 0)
 refine Y ?_;obtain ⟨b2,hb2,h⟩:=aa h;refine aK 9 22 b2 ?_ ?_
 ·clear h;refine aI 13 J (fun g2=> ?_) (fun g2=> ?_)
  ·have h:=ae g2 hb2;refine Y ?_;obtain rfl:=ao h;exact ac sA (cS [] 0)
  have h:=ah g2 hb2;refine Y ?_;obtain ⟨x3,hx3,h⟩:=aa h;refine ei (nj J J hH hx3) J (cU g2 J) J ?_;refine Y ?_;obtain ⟨b4,hb4,h⟩:=aa h;refine aK 4 21 b4 ?_ ?_
  ·clear h;refine aI 17 J (fun g4=> ?_) (fun g4=> ?_)
   ·have h:=ae g4 hb4;refine Y ?_;refine ei (ky J hH) J (bp g4 J) J ?_;refine Y ?_;obtain rfl:=ao h;exact ac sA (cS [] 0)
   have h:=ah g4 hb4;refine Y ?_;obtain rfl:=ao h;exact ac sA (cS [] 0)
  refine Y ?_;obtain rfl:=ao h;exact ac sA (cS [] 0)
 refine Y ?_;refine ar J (fun g5=> ?_) (fun g5=> ?_)
 ·replace h:=ae g5 h;refine Y ?_;obtain rfl:=ao h;exact cO J J J (cS [] 0) ⟨J,J⟩
 replace h:=ah g5 h;refine Y ?_;obtain ⟨y6,hy6,h⟩:=aa h;refine gD (aq (xI hy6) F5 J (ak) vc) ?_;rintro _ _ ⟨_,⟨rfl,rfl⟩,rfl⟩;refine Y ?_;refine aC ?_;refine Y ?_;obtain ⟨b7,hb7,h⟩:=aa h;refine aK 3 33 b7 ?_ ?_
 ·clear h;refine aI 30 J (fun g7=> ?_) (fun g7=> ?_)
  ·have h:=ae g7 hb7;refine Y ?_;obtain rfl:=ao h;exact ac sA (cS [] 0)
  have h:=ah g7 hb7;refine Y ?_;obtain rfl:=ao h;exact ac sA (cS [] 0)
 refine Y ?_;refine ar J (fun g8=> ?_) (fun g8=> ?_)
 ·replace h:=ae g8 h;refine Y ?_;obtain rfl:=ao h;exact cO J J J (cS [] 0) ⟨J,J⟩
 replace h:=ah g8 h;refine Y ?_;obtain rfl:=ao h;exact cO J J J (cS [] 0) ⟨J,J⟩
theorem va {r:(Int×Bool)}: ∀v post,((fun (u:Value) (post:List Chunk)=>u=.tuple #[iV r.1,.bool r.2]∧post=[])) v post→ ∀c∈post,cB c:=by
 rintro _ _ ⟨rfl,rfl⟩;exact ak
def nZ (N:Nat)(a0:JW):Option Bool:=
 bif decide (a0.Kind=0) then ((bif decide (0≤a0.N) then (some (decide (a0.N≤4294967294))) else (some false)).bind fun b3=>(bif b3 then (some (a0.S.toList==(⟨#[]⟩:ByteArray).toList)) else (some false)).bind fun b4=>some b4) else (bif decide (a0.Kind=1) then ((oa N a0.S).bind fun y6=>(bif decide (a0.N=0) then (some (!y6.2)) else (some false)).bind fun b7=>(bif b7 then (some (decide ((a0.S.size:Int)≤65536))) else (some false)).bind fun b8=>some b8) else (bif decide (a0.Kind=2) then ((bif decide (1≤a0.N) then (some (a0.S.toList==(⟨#[]⟩:ByteArray).toList)) else (some false)).bind fun b10=>some b10) else (some false)))
set_option maxHeartbeats 4000000 in
theorem xF {N:Nat}{a0:JW}{r:Bool}(h:nZ N a0=some r):Okc Tryz.prog 16 [(fG a0)] ([]) (fun u post=>u=.bool r∧post=[]):=by
 refine bx Tryz.func16 J J ?_;simp only [aX];refine Y ?_;refine gD (aQ J J) ?_;rintro _ _ ⟨B1,rfl,rfl⟩;refine Y ?_;refine aC ?_;refine Y ?_;refine ar J (fun g2=> ?_) (fun g2=> ?_)
 ·replace h:=ae g2 h;refine Y ?_;obtain ⟨b3,hb3,h⟩:=aa h;refine aK 4 16 b3 ?_ ?_
  ·clear h;refine aI 12 J (fun g3=> ?_) (fun g3=> ?_)
   ·have h:=ae g3 hb3;refine Y ?_;obtain rfl:=ao h;exact ac sA (cS [0] 1)
   have h:=ah g3 hb3;refine Y ?_;obtain rfl:=ao h;exact ac sA (cS [0] 1)
  refine Y ?_;obtain ⟨b4,hb4,h⟩:=aa h;refine aK 4 21 b4 ?_ ?_
  ·clear h;refine aI 17 J (fun g4=> ?_) (fun g4=> ?_)
   ·have h:=ae g4 hb4;refine Y ?_;refine ei (oY J J) J (bp g4 J) J ?_;refine Y ?_;obtain rfl:=ao h;exact ac sA (cS [0] 1)
   have h:=ah g4 hb4;refine Y ?_;obtain rfl:=ao h;exact ac sA (cS [0] 1)
  refine Y ?_;obtain rfl:=ao h;exact aN J J (cS [] 1) ⟨J,J⟩
 replace h:=ah g2 h;refine Y ?_;refine ar J (fun g5=> ?_) (fun g5=> ?_)
 ·replace h:=ae g5 h;refine Y ?_;obtain ⟨y6,hy6,h⟩:=aa h;refine gD (aq (xG hy6) Hy J (ak) va) ?_;rintro _ _ ⟨_,⟨rfl,rfl⟩,rfl⟩;refine Y ?_;obtain ⟨b7,hb7,h⟩:=aa h;refine aK 3 36 b7 ?_ ?_
  ·clear h;refine aI 33 J (fun g7=> ?_) (fun g7=> ?_)
   ·have h:=ae g7 hb7;refine Y ?_;obtain rfl:=ao h;exact ac sA (cS [0] 1)
   have h:=ah g7 hb7;refine Y ?_;obtain rfl:=ao h;exact ac sA (cS [0] 1)
  refine Y ?_;obtain ⟨b8,hb8,h⟩:=aa h;refine aK 5 42 b8 ?_ ?_
  ·clear h;refine aI 37 J (fun g8=> ?_) (fun g8=> ?_)
   ·have h:=ae g8 hb8;refine Y ?_;refine ei (ky J hH) J (bp g8 J) J ?_;refine Y ?_;obtain rfl:=ao h;exact ac sA (cS [0] 1)
   have h:=ah g8 hb8;refine Y ?_;obtain rfl:=ao h;exact ac sA (cS [0] 1)
  refine Y ?_;obtain rfl:=ao h;exact aN J J (cS [] 1) ⟨J,J⟩
 replace h:=ah g5 h;refine Y ?_;refine ar J (fun g9=> ?_) (fun g9=> ?_)
 ·replace h:=ae g9 h;refine Y ?_;obtain ⟨b10,hb10,h⟩:=aa h;refine aK 4 52 b10 ?_ ?_
  ·clear h;refine aI 48 J (fun g10=> ?_) (fun g10=> ?_)
   ·have h:=ae g10 hb10;refine Y ?_;refine ei (oY J J) J (bp g10 J) J ?_;refine Y ?_;obtain rfl:=ao h;exact ac sA (cS [0] 1)
   have h:=ah g10 hb10;refine Y ?_;obtain rfl:=ao h;exact ac sA (cS [0] 1)
  refine Y ?_;obtain rfl:=ao h;exact aN J J (cS [] 1) ⟨J,J⟩
 replace h:=ah g9 h;refine Y ?_;obtain rfl:=ao h;exact aN J J (cS [] 1) ⟨J,J⟩
theorem uZ {r:Bool}: ∀v post,((fun (u:Value) (post:List Chunk)=>u=.bool r∧post=[])) v post→ ∀c∈post,cB c:=by
 rintro _ _ ⟨rfl,rfl⟩;exact ak
def nh (N:Nat)(a0:Int)(a1:Int):Option Bool:=
 cN ((a1:Int)≠0∧bM (a0.tdiv a1)) (some (decide ((a0.tdiv a1).tmod 2=1)))
theorem rL {N:Nat}{a0:Int}{a1:Int}{r:Bool}(h:nh N a0 a1=some r):Okc Tryz.prog 114 [iV a0,iV a1] ([]) (fun u post=>u=.bool r∧post=[]):=by
 refine bx Tryz.func114 J J ?_;simp only [aX];refine Y ?_;obtain ⟨q1,h⟩:=ay h;refine gE (vN J J q1.1 q1.2.1 q1.2.2) ?_;refine gE (nN J J (by decide)) ?_;refine Y ?_;obtain rfl:=ao h;exact aN J J (cS [] 0) ⟨J,J⟩
theorem pa {r:Bool}: ∀v post,((fun (u:Value) (post:List Chunk)=>u=.bool r∧post=[])) v post→ ∀c∈post,cB c:=by
 rintro _ _ ⟨rfl,rfl⟩;exact ak
def nC (N:Nat)(a0:JS)(a1:Bool):Option Bool:=
 bif !a1 then (some (decide (a0=(⟨0,0,⟨#[]⟩⟩:JS)))) else ((bif decide (a0.Kind=0) then (some true) else (some (decide (a0.Kind=7)))).bind fun b3=>some b3)
theorem tO {N:Nat}{a0:JS}{a1:Bool}{r:Bool}(h:nC N a0 a1=some r):Okc Tryz.prog 116 [(bv a0),.bool a1] ([]) (fun u post=>u=.bool r∧post=[]):=by
 refine bx Tryz.func116 J J ?_;simp only [aX];refine Y ?_;refine gD (aQ J J) ?_;rintro _ _ ⟨B1,rfl,rfl⟩;refine Y ?_;refine aC ?_;refine Y ?_;refine ar J (fun g2=> ?_) (fun g2=> ?_)
 ·replace h:=ae g2 h;refine Y ?_;refine gR (aj (us:=ax a0) 0 J J aJ J) ?_;refine gE (be J (fM)) ?_;refine gE (lp (x:=a0) (y:=(⟨0,0,⟨#[]⟩⟩:JS)) J J) ?_;refine Y ?_;obtain rfl:=ao h;exact aN J J (cS [] 1) ⟨J,J⟩
 replace h:=ah g2 h;refine Y ?_;obtain ⟨b3,hb3,h⟩:=aa h;refine aK 4 17 b3 ?_ ?_
 ·clear h;refine aI 13 J (fun g3=> ?_) (fun g3=> ?_)
  ·have h:=ae g3 hb3;refine Y ?_;obtain rfl:=ao h;exact ac sA (cS [0] 1)
  have h:=ah g3 hb3;refine Y ?_;obtain rfl:=ao h;exact ac sA (cS [0] 1)
 refine Y ?_;obtain rfl:=ao h;exact aN J J (cS [] 1) ⟨J,J⟩
theorem ru {r:Bool}: ∀v post,((fun (u:Value) (post:List Chunk)=>u=.bool r∧post=[])) v post→ ∀c∈post,cB c:=by
 rintro _ _ ⟨rfl,rfl⟩;exact ak
def kw (N:Nat)(a0:JQ):Option Bool:=
 (bif decide (a0.Attrs<0) then (some true) else (some (decide (15<a0.Attrs)))).bind fun b2=>bif b2 then (some false) else ((nh N a0.Attrs 8).bind fun y4=>bif y4 then ((nh N a0.Attrs 1).bind fun y6=>(bif !y6 then (some (decide (a0.Value=(⟨0,0,⟨#[]⟩⟩:JS)))) else (some false)).bind fun b7=>(bif b7 then ((nC N a0.Get true).bind fun y9=>some y9) else (some false)).bind fun b8=>(bif b8 then ((nC N a0.Set true).bind fun y11=>some y11) else (some false)).bind fun b10=>some b10) else ((bif decide (a0.Get=(⟨0,0,⟨#[]⟩⟩:JS)) then (some (decide (a0.Set=(⟨0,0,⟨#[]⟩⟩:JS)))) else (some false)).bind fun b12=>(bif b12 then (some (decide (0≤a0.Value.Kind))) else (some false)).bind fun b13=>(bif b13 then (some (decide (a0.Value.Kind≤7))) else (some false)).bind fun b14=>some b14))
set_option maxHeartbeats 4000000 in
theorem tf {N:Nat}{a0:JQ}{r:Bool}(h:kw N a0=some r):Okc Tryz.prog 132 [(bE a0)] ([]) (fun u post=>u=.bool r∧post=[]):=by
 refine bx Tryz.func132 J J ?_;simp only [aX];refine Y ?_;refine gD (aQ J J) ?_;rintro _ _ ⟨B1,rfl,rfl⟩;refine Y ?_;refine aC ?_;refine Y ?_;obtain ⟨b2,hb2,h⟩:=aa h;refine aK 4 10 b2 ?_ ?_
 ·clear h;refine aI 6 J (fun g2=> ?_) (fun g2=> ?_)
  ·have h:=ae g2 hb2;refine Y ?_;obtain rfl:=ao h;exact ac sA (cS [0] 1)
  have h:=ah g2 hb2;refine Y ?_;obtain rfl:=ao h;exact ac sA (cS [0] 1)
 refine Y ?_;refine ar J (fun g3=> ?_) (fun g3=> ?_)
 ·replace h:=ae g3 h;refine Y ?_;obtain rfl:=ao h;exact aN J J (cS [] 1) ⟨J,J⟩
 replace h:=ah g3 h;refine Y ?_;refine aC ?_;refine Y ?_;obtain ⟨y4,hy4,h⟩:=aa h;refine gD (aq (rL hy4) yI J (ak) pa) ?_;rintro _ _ ⟨_,⟨rfl,rfl⟩,rfl⟩;refine Y ?_;refine ar J (fun g5=> ?_) (fun g5=> ?_)
 ·replace h:=ae g5 h;refine Y ?_;obtain ⟨y6,hy6,h⟩:=aa h;refine gD (aq (rL hy6) yI J (ak) pa) ?_;rintro _ _ ⟨_,⟨rfl,rfl⟩,rfl⟩;refine Y ?_;obtain ⟨b7,hb7,h⟩:=aa h;refine aK 5 23 b7 ?_ ?_
  ·clear h;refine aI 18 J (fun g7=> ?_) (fun g7=> ?_)
   ·have h:=ae g7 hb7;refine Y ?_;refine ck (aj (us:=ax a0.Value) 0 J J aJ J) J (bp g7 J) J ?_;refine ei (be J (fM)) J (bp g7 J) J ?_;refine ei (lp (x:=a0.Value) (y:=(⟨0,0,⟨#[]⟩⟩:JS)) J J) J (bp g7 J) J ?_;refine Y ?_;obtain rfl:=ao h;exact ac sA (cS [0] 1)
   have h:=ah g7 hb7;refine Y ?_;obtain rfl:=ao h;exact ac sA (cS [0] 1)
  refine Y ?_;obtain ⟨b8,hb8,h⟩:=aa h;refine aK 4 28 b8 ?_ ?_
  ·clear h;refine aI 24 J (fun g8=> ?_) (fun g8=> ?_)
   ·have h:=ae g8 hb8;refine Y ?_;refine ck (aj (us:=ax a0.Get) 0 J J aJ J) J (bp g8 J) J ?_;obtain ⟨y9,hy9,h⟩:=aa h;refine cL (aq (tO hy9) BW J (ak) ru) J (bp g8 J) J ?_;rintro _ _ ⟨_,⟨rfl,rfl⟩,rfl⟩;refine Y ?_;obtain rfl:=ao h;exact ac sA (cS [0] 1)
   have h:=ah g8 hb8;refine Y ?_;obtain rfl:=ao h;exact ac sA (cS [0] 1)
  refine Y ?_;obtain ⟨b10,hb10,h⟩:=aa h;refine aK 4 33 b10 ?_ ?_
  ·clear h;refine aI 29 J (fun g10=> ?_) (fun g10=> ?_)
   ·have h:=ae g10 hb10;refine Y ?_;refine ck (aj (us:=ax a0.Set) 0 J J aJ J) J (bp g10 J) J ?_;obtain ⟨y11,hy11,h⟩:=aa h;refine cL (aq (tO hy11) BW J (ak) ru) J (bp g10 J) J ?_;rintro _ _ ⟨_,⟨rfl,rfl⟩,rfl⟩;refine Y ?_;obtain rfl:=ao h;exact ac sA (cS [0] 1)
   have h:=ah g10 hb10;refine Y ?_;obtain rfl:=ao h;exact ac sA (cS [0] 1)
  refine Y ?_;obtain rfl:=ao h;exact aN J J (cS [] 1) ⟨J,J⟩
 replace h:=ah g5 h;refine Y ?_;refine gR (aj (us:=ax a0.Get) 0 J J aJ J) ?_;refine gE (be J (fM)) ?_;refine gE (lp (x:=a0.Get) (y:=(⟨0,0,⟨#[]⟩⟩:JS)) J J) ?_;refine Y ?_;obtain ⟨b12,hb12,h⟩:=aa h;refine aK 5 43 b12 ?_ ?_
 ·clear h;refine aI 38 J (fun g12=> ?_) (fun g12=> ?_)
  ·have h:=ae g12 hb12;refine Y ?_;refine ck (aj (us:=ax a0.Set) 0 J J aJ J) J (bp g12 J) J ?_;refine ei (be J (fM)) J (bp g12 J) J ?_;refine ei (lp (x:=a0.Set) (y:=(⟨0,0,⟨#[]⟩⟩:JS)) J J) J (bp g12 J) J ?_;refine Y ?_;obtain rfl:=ao h;exact ac sA (cS [0] 1)
  have h:=ah g12 hb12;refine Y ?_;obtain rfl:=ao h;exact ac sA (cS [0] 1)
 refine Y ?_;obtain ⟨b13,hb13,h⟩:=aa h;refine aK 5 49 b13 ?_ ?_
 ·clear h;refine aI 44 J (fun g13=> ?_) (fun g13=> ?_)
  ·have h:=ae g13 hb13;refine Y ?_;obtain rfl:=ao h;exact ac sA (cS [0] 1)
  have h:=ah g13 hb13;refine Y ?_;obtain rfl:=ao h;exact ac sA (cS [0] 1)
 refine Y ?_;obtain ⟨b14,hb14,h⟩:=aa h;refine aK 5 55 b14 ?_ ?_
 ·clear h;refine aI 50 J (fun g14=> ?_) (fun g14=> ?_)
  ·have h:=ae g14 hb14;refine Y ?_;obtain rfl:=ao h;exact ac sA (cS [0] 1)
  have h:=ah g14 hb14;refine Y ?_;obtain rfl:=ao h;exact ac sA (cS [0] 1)
 refine Y ?_;obtain rfl:=ao h;exact aN J J (cS [] 1) ⟨J,J⟩
theorem rM {r:Bool}: ∀v post,((fun (u:Value) (post:List Chunk)=>u=.bool r∧post=[])) v post→ ∀c∈post,cB c:=by
 rintro _ _ ⟨rfl,rfl⟩;exact ak
end Go.Proofs.YtanojiedimeegaaGreatDoor