/- Merged texts: part 6. No conditions of their own. -/
import Derived.Test.YtanojiedimeegaaGreatDoorG5
namespace Go.Proofs.YtanojiedimeegaaGreatDoor
theorem KT:type_of% Tryz.underlying279:=Tryz.underlying279
variable {A1 A10 A12 A13 A14 A2 A3 A4 A5 A6:Option Addr} {B1 B2 B7 B9 M11 M8 c1 c10 c12 c13 c14 c2 c3 c4 c5 c6 n1 n10 n12 n13 n14 n2 n3 n4 n5 n6:Nat}
open Go.RowKit Asn
set_option maxRecDepth 20000
def dz (N:Nat)(a1:Int)(a2:Int)(a3:Int):Nat→(List Lj)→Int→Option (List Lj)
 |0,_,_=>none
 |m2+1,p3,p4=>bif decide (p4<a3) then (cV (bC (a1+p4)) (cV (bC (a2+p4)) (cV (bC (a2+p4)) ((bE p3 (a2+p4)).bind fun x9=>cV (bC (a1+p4)) ((bE p3 (a1+p4)).bind fun x11=>(bE p3 (a1+p4)).bind fun x12=>(bE (List.set p3 ((a1+p4).toNat) (⟨x9.Kind,x9.N,x9.S⟩:Lj)) (a2+p4)).bind fun x13=>cV (bC (p4+1)) ((dz N a1 a2 a3 m2) (List.set (List.set p3 ((a1+p4).toNat) (⟨x9.Kind,x9.N,x9.S⟩:Lj)) ((a2+p4).toNat) (⟨x11.Kind,x11.N,x11.S⟩:Lj)) (p4+1))))))) else (some p3)
def cT (N:Nat)(a0:(List Lj))(a1:Int)(a2:Int)(a3:Int):Option (List Lj):=
 dz N a1 a2 a3 N a0 0
theorem eF {N:Nat}{a0:(List Lj)}{a1:Int}{a2:Int}{a3:Int}{r:(List Lj)}(h:cT N a0 a1 a2 a3=some r):Okc Tryz.prog 254 [U A1 n1 c1,iV a1,iV a2,iV a3,.func (.func 161) #[] #[]] ([jh A1 n1 c1 a0]) (fun u post=>u=.tuple #[]∧post=[jh A1 n1 c1 r]):=by
 refine bB Tryz.func254 J J ?_;simp only [ba];refine W ?_;refine cv (fun m s L=> ∃p3 p4,dz N a1 a2 a3 m p3 p4=some r∧s=[(0,U A1 n1 c1),(1,iV a1),(2,iV a2),(3,iV a3),(10,iV p4)]∧L=[jh A1 n1 c1 p3]) N _ _ ⟨a0,0,h,J,J⟩ sA (cS [0] 1) ?_;rintro (_|m2) _ _ ⟨p3,p4,h,rfl,rfl⟩
 ·exact bq h
 rw [dz.eq_2] at h;refine aB ?_;refine W ?_;refine av J (fun g5=> ?_) (fun g5=> ?_)
 ·replace h:=ad g5 h;refine W ?_;refine aB ?_;refine eT ?_;obtain ⟨q6,h⟩:=aA h;obtain ⟨q7,h⟩:=aA h;obtain ⟨q8,h⟩:=aA h;obtain ⟨x9,hx9,h⟩:=aa h;obtain ⟨lx9,ux9,hx9⟩:=aJ hx9;obtain ⟨q10,h⟩:=aA h;obtain ⟨x11,hx11,h⟩:=aa h;obtain ⟨lx11,ux11,hx11⟩:=aJ hx11;refine jf (t:=[(0,U A1 n1 c1),(1,iV a1),(2,iV a2),(3,iV a3),(10,iV p4)]) ?_ lD (ac _)
  refine jg O 20 [4,5,6,7] [0,3,4,7,13,19] [16,17,18,19,20,21,22,23,24,25,26,27,28,29,30,31,32,33,34,35] [[],[],[],[1,2],[],[],[],[5,6],[],[],[],[9,10],[8,11],[12],[],[],[],[15,16],[14,17],[18]] [aV (U A1 n1 c1),
 aV (iV a1),
 aV (iV p4),
 aV (iV (a1+p4)),
 aV (U A1 n1 c1),
 aV (iV a2),
 aV (iV p4),
 aV (iV (a2+p4)),
 aV (U A1 n1 c1),
 aV (iV a2),
 aV (iV p4),
 aV (iV (a2+p4)),
 aV (eQ (U A1 n1 c1) ((a2+p4).toNat) 3 0),
 aV (.agg #[iV x9.Kind,iV x9.N,.string x9.S]),
 aV (U A1 n1 c1),
 aV (iV a1),
 aV (iV p4),
 aV (iV (a1+p4)),
 aV (eQ (U A1 n1 c1) ((a1+p4).toNat) 3 0),
 aV (.agg #[iV x11.Kind,iV x11.N,.string x11.S])] [] (ac _) (fU rfl (fU rfl (fU rfl (fU rfl la)))) O rfl rfl ?_ ?_ ?_
  ·refine fT J ?_ ?_
   ·exact lB (au J) J (bf J (ac _))
   refine fT J ?_ ?_
   ·exact lB (au J) J (bf J (ac _))
   refine fT J ?_ ?_
   ·exact lB (au J) J (bf J (ac _))
   refine fT J ?_ ?_
   ·exact lB (bF J J q7.1 q7.2) J (bf J (ac _))
   exact kZ
  ·refine am J ?_ ?_
   ·exact gn (br (us:=[iV x11.Kind,iV x11.N,.string x11.S]) 0 J aC J hx11 bI (fun _ _ _ h=>by rw [show _=_ from h];rfl)) J (bf J (ac _))
   refine am J ?_ ?_
   ·exact gn (bn 0 J aC J J KR cY lx11 ux11) J (bf J (ac _))
   refine am J ?_ ?_
   ·exact bX (bF J J q10.1 q10.2) J (bf J (ac _))
   refine am J ?_ ?_
   ·exact bX (au J) J (bf J (ac _))
   refine am J ?_ ?_
   ·exact bX (au J) J (bf J (ac _))
   refine am J ?_ ?_
   ·exact bX (au J) J (bf J (ac _))
   refine am J ?_ ?_
   ·exact gn (br (us:=[iV x9.Kind,iV x9.N,.string x9.S]) 0 J aC J hx9 bI (fun _ _ _ h=>by rw [show _=_ from h];rfl)) J (bf J (ac _))
   refine am J ?_ ?_
   ·exact gn (bn 0 J aC J J KR cY lx9 ux9) J (bf J (ac _))
   refine am J ?_ ?_
   ·exact bX (bF J J q8.1 q8.2) J (bf J (ac _))
   refine am J ?_ ?_
   ·exact bX (au J) J (bf J (ac _))
   refine am J ?_ ?_
   ·exact bX (au J) J (bf J (ac _))
   refine am J ?_ ?_
   ·exact bX (au J) J (bf J (ac _))
   refine am J ?_ ?_
   ·exact bX (bF J J q7.1 q7.2) J (bf J (ac _))
   refine am J ?_ ?_
   ·exact bX (au J) J (bf J (ac _))
   refine am J ?_ ?_
   ·exact bX (au J) J (bf J (ac _))
   refine am J ?_ ?_
   ·exact bX (au J) J (bf J (ac _))
   refine am J ?_ ?_
   ·exact bX (bF J J q6.1 q6.2) J (bf J (ac _))
   refine am J ?_ ?_
   ·exact bX (au J) J (bf J (ac _))
   refine am J ?_ ?_
   ·exact bX (au J) J (bf J (ac _))
   refine am J ?_ ?_
   ·exact bX (au J) J (bf J (ac _))
   exact fG
  refine nY (t:=[(16,U A1 n1 c1),(19,iV (a1+p4)),(20,U A1 n1 c1),(23,iV (a2+p4)),(29,.agg #[iV x9.Kind,iV x9.N,.string x9.S]),(35,.agg #[iV x11.Kind,iV x11.N,.string x11.S]),(0,U A1 n1 c1),(1,iV a1),(2,iV a2),(3,iV a3),(10,iV p4)]) (L':=[jh A1 n1 c1 p3]) ?_ lD (ac _);obtain ⟨x12,hx12,h⟩:=aa h;obtain ⟨lx12,ux12,hx12⟩:=aJ hx12;refine Bw 20 J O (bn 0 J aC J J KR cY lx12 ux12) J J J ?_;refine nZ 21 J O (cR (us:=[iV x9.Kind,iV x9.N,.string x9.S]) (z:=(⟨x9.Kind,x9.N,x9.S⟩:Lj)) 0 J J J J cY J (toNat_lt lx12 ux12) J (fun S w vs xk hk hr ho=>by obtain rfl:=Option.some.inj (hk.symm.trans hx12);rw [show _=_ from hr];rfl)) J J ?_;rintro _ _ rfl;obtain ⟨x13,hx13,h⟩:=aa h;obtain ⟨lx13,ux13,hx13⟩:=aJ hx13;refine Bw 22 J O (bn 0 J aC J J KR cY lx13 ux13) J J J ?_;refine nZ 23 J O (cR (us:=[iV x11.Kind,iV x11.N,.string x11.S]) (z:=(⟨x11.Kind,x11.N,x11.S⟩:Lj)) 0 J J J J cY J (toNat_lt lx13 ux13) J (fun S w vs xk hk hr ho=>by obtain rfl:=Option.some.inj (hk.symm.trans hx13);rw [show _=_ from hr];rfl)) J J ?_;rintro _ _ rfl;refine lC O ?_;refine W ?_;obtain ⟨q14,h⟩:=aA h;refine gE (bF J J q14.1 q14.2) ?_;refine W ?_;exact ⟨m2,_,_,Lo _,⟨List.set (List.set p3 ((a1+p4).toNat) (⟨x9.Kind,x9.N,x9.S⟩:Lj)) ((a2+p4).toNat) (⟨x11.Kind,x11.N,x11.S⟩:Lj),p4+1,h,J,J⟩,sA,cS [0] 1⟩
 replace h:=ae g5 h;refine W ?_;obtain rfl:=ao h;exact fW J (cS [0] 1) ⟨J,J⟩
def fu (N:Nat)(a2:Int)(p5:(List Lj))(p6:Int):Option (List Lj):=
 cV (bC (a2 - p6)) ((cT N p5 (a2 - p6) a2 p6).bind fun y22=>some y22)
def dg (N:Nat)(a2:Int):Nat→(List Lj)→Int→Int→Option (List Lj)
 |0,_,_,_=>none
 |m7+1,p8,p9,p10=>bif !decide (p9=p10) then (bif decide (p10<p9) then (cV (bC (a2 - p9)) ((cT N p8 (a2 - p9) a2 p10).bind fun y14=>cV (bC (p9 - p10)) ((dg N a2 m7) y14 (p9 - p10) p10))) else (cV (bC (a2 - p9)) (cV (bC (a2+p10)) (cV (bC ((a2+p10) - p9)) ((cT N p8 (a2 - p9) ((a2+p10) - p9) p9).bind fun y19=>cV (bC (p10 - p9)) ((dg N a2 m7) y19 p9 (p10 - p9))))))) else (fu N a2 p8 p9)
def d9 (N:Nat)(a0:(List Lj))(a1:Int)(a2:Int)(a3:Int):Option (List Lj):=
 cV (bC (a2 - a1)) (cV (bC (a3 - a2)) (dg N a2 N a0 (a2 - a1) (a3 - a2)))
set_option maxHeartbeats 4000000 in
theorem mh {N:Nat}{a0:(List Lj)}{a1:Int}{a2:Int}{a3:Int}{r:(List Lj)}(h:d9 N a0 a1 a2 a3=some r):Okc Tryz.prog 243 [U A1 n1 c1,iV a1,iV a2,iV a3,.func (.func 161) #[] #[]] ([jh A1 n1 c1 a0]) (fun u post=>u=.tuple #[]∧post=[jh A1 n1 c1 r]):=by
 refine bB Tryz.func243 J J ?_;simp only [ba];refine W ?_;obtain ⟨q2,h⟩:=aA h;refine gE (dC J J q2.1 q2.2) ?_;refine W ?_;obtain ⟨q3,h⟩:=aA h;refine gE (dC J J q3.1 q3.2) ?_;refine W ?_;refine bc (fun s L=> ∃p5 p6,fu N a2 p5 p6=some r∧s=[(0,U A1 n1 c1),(2,iV a2),(4,.func (.func 161) #[] #[]),(10,iV p6)]∧L=[jh A1 n1 c1 p5]) ?_ ?_
 ·refine eT ?_;refine cv (fun m s L=> ∃p8 p9 p10,dg N a2 m p8 p9 p10=some r∧s=[(0,U A1 n1 c1),(2,iV a2),(4,.func (.func 161) #[] #[]),(10,iV p9),(11,iV p10)]∧L=[jh A1 n1 c1 p8]) N _ _ ⟨a0,a2 - a1,a3 - a2,h,J,J⟩ sA (cS [0] 1) ?_;rintro (_|m7) _ _ ⟨p8,p9,p10,h,rfl,rfl⟩
  ·exact bq h
  rw [dg.eq_2] at h;refine aB ?_;refine W ?_;refine av J (fun g11=> ?_) (fun g11=> ?_)
  ·replace h:=ad g11 h;refine W ?_;refine av J (fun g12=> ?_) (fun g12=> ?_)
   ·replace h:=ad g12 h;refine W ?_;obtain ⟨q13,h⟩:=aA h;refine gE (dC J J q13.1 q13.2) ?_;refine W ?_;obtain ⟨y14,hy14,h⟩:=aa h;refine gD (aI (eF hy14) zI J (aG [] [0] [] 1 J)) ?_;rintro _ _ ⟨_,⟨rfl,rfl⟩,rfl⟩;refine W ?_;obtain ⟨q15,h⟩:=aA h;refine gE (dC J J q15.1 q15.2) ?_;refine W ?_;exact ⟨m7,_,_,Lo _,⟨y14,p9 - p10,p10,h,J,J⟩,sA,cS [0] 1⟩
   replace h:=ae g12 h;refine W ?_;obtain ⟨q16,h⟩:=aA h;refine gE (dC J J q16.1 q16.2) ?_;refine W ?_;obtain ⟨q17,h⟩:=aA h;refine gE (bF J J q17.1 q17.2) ?_;refine W ?_;obtain ⟨q18,h⟩:=aA h;refine gE (dC J J q18.1 q18.2) ?_;refine W ?_;obtain ⟨y19,hy19,h⟩:=aa h;refine gD (aI (eF hy19) zI J (aG [] [0] [] 1 J)) ?_;rintro _ _ ⟨_,⟨rfl,rfl⟩,rfl⟩;refine W ?_;obtain ⟨q20,h⟩:=aA h;refine gE (dC J J q20.1 q20.2) ?_;refine W ?_;exact ⟨m7,_,_,Lo _,⟨y19,p9,p10 - p9,h,J,J⟩,sA,cS [0] 1⟩
  replace h:=ae g11 h;refine W ?_;exact ⟨_,_,⟨p8,p9,h,J,J⟩,sA,cS [0] 1⟩
 rintro _ _ ⟨p5,p6,h,rfl,rfl⟩;refine W ?_;obtain ⟨q21,h⟩:=aA h;refine gE (dC J J q21.1 q21.2) ?_;refine W ?_;obtain ⟨y22,hy22,h⟩:=aa h;refine gD (aI (eF hy22) zI J (aG [] [0] [] 1 J)) ?_;rintro _ _ ⟨_,⟨rfl,rfl⟩,rfl⟩;refine bG ?_;refine kM ?_;obtain rfl:=ao h;exact fW J (cS [0] 1) ⟨J,J⟩
def cL (N:Nat)(kb2:(List Lj)→Int→Int→Int→Option (List Lj))(a3:Int)(a1:Int)(a2:Int)(p65:Int)(p84:(List Lj)):Option (List Lj):=
 (bif decide ((IntKind.i64.wrap ((IntKind.u64.wrap (a1+a3)).fdiv (2 ^ 1)))<((IntKind.i64.wrap ((IntKind.u64.wrap (a1+a3)).fdiv (2 ^ 1)))+a2) - p65) then (some (decide (((IntKind.i64.wrap ((IntKind.u64.wrap (a1+a3)).fdiv (2 ^ 1)))+a2) - p65<a3))) else (some false)).bind fun b88=>bif b88 then ((kb2 p84 (IntKind.i64.wrap ((IntKind.u64.wrap (a1+a3)).fdiv (2 ^ 1))) (((IntKind.i64.wrap ((IntKind.u64.wrap (a1+a3)).fdiv (2 ^ 1)))+a2) - p65) a3).bind fun y90=>some y90) else (some p84)
def cM (N:Nat)(kb2:(List Lj)→Int→Int→Int→Option (List Lj))(a1:Int)(a3:Int)(p65:Int)(a2:Int)(p79:(List Lj)):Option (List Lj):=
 (bif decide (a1<p65) then (some (decide (p65<(IntKind.i64.wrap ((IntKind.u64.wrap (a1+a3)).fdiv (2 ^ 1)))))) else (some false)).bind fun b85=>bif b85 then ((kb2 p79 a1 p65 (IntKind.i64.wrap ((IntKind.u64.wrap (a1+a3)).fdiv (2 ^ 1)))).bind fun y87=>cL N kb2 a3 a1 a2 p65 y87) else (cL N kb2 a3 a1 a2 p65 p79)
def dv (N:Nat)(kb2:(List Lj)→Int→Int→Int→Option (List Lj))(a1:Int)(a2:Int)(a3:Int)(a0:(List Lj))(p65:Int):Option (List Lj):=
 cV (bC (((IntKind.i64.wrap ((IntKind.u64.wrap (a1+a3)).fdiv (2 ^ 1)))+a2) - p65)) ((bif decide (p65<a2) then (some (decide (a2<((IntKind.i64.wrap ((IntKind.u64.wrap (a1+a3)).fdiv (2 ^ 1)))+a2) - p65))) else (some false)).bind fun b80=>bif b80 then ((d9 N a0 p65 a2 (((IntKind.i64.wrap ((IntKind.u64.wrap (a1+a3)).fdiv (2 ^ 1)))+a2) - p65)).bind fun y82=>cM N kb2 a1 a3 p65 a2 y82) else (cM N kb2 a1 a3 p65 a2 a0))
def cJ (N:Nat)(kb2:(List Lj)→Int→Int→Int→Option (List Lj))(a1:Int)(a2:Int)(a3:Int)(a0:(List Lj)):Nat→Int→Int→Option (List Lj)
 |0,_,_=>none
 |m66+1,p67,p68=>bif decide (p67<p68) then (cV (bC (p67+p68)) (cV (bC ((((IntKind.i64.wrap ((IntKind.u64.wrap (a1+a3)).fdiv (2 ^ 1)))+a2) - 1) - (IntKind.i64.wrap ((IntKind.u64.wrap (p67+p68)).fdiv (2 ^ 1))))) ((bE a0 ((((IntKind.i64.wrap ((IntKind.u64.wrap (a1+a3)).fdiv (2 ^ 1)))+a2) - 1) - (IntKind.i64.wrap ((IntKind.u64.wrap (p67+p68)).fdiv (2 ^ 1))))).bind fun x72=>(bE a0 (IntKind.i64.wrap ((IntKind.u64.wrap (p67+p68)).fdiv (2 ^ 1)))).bind fun x73=>(js N x72 x73).bind fun y74=>bif !(decide (y74<0)) then (cV (bC ((IntKind.i64.wrap ((IntKind.u64.wrap (p67+p68)).fdiv (2 ^ 1)))+1)) ((cJ N kb2 a1 a2 a3 a0 m66) ((IntKind.i64.wrap ((IntKind.u64.wrap (p67+p68)).fdiv (2 ^ 1)))+1) p68)) else ((cJ N kb2 a1 a2 a3 a0 m66) p67 (IntKind.i64.wrap ((IntKind.u64.wrap (p67+p68)).fdiv (2 ^ 1))))))) else (dv N kb2 a1 a2 a3 a0 p67)
def dw (N:Nat)(kb2:(List Lj)→Int→Int→Int→Option (List Lj))(a1:Int)(a2:Int)(a3:Int)(a0:(List Lj))(p59:Int)(p60:Int):Option (List Lj):=
 cV (bC (((IntKind.i64.wrap ((IntKind.u64.wrap (a1+a3)).fdiv (2 ^ 1)))+a2) - 1)) (cJ N kb2 a1 a2 a3 a0 N p59 p60)
def dy (N:Nat)(kb2:(List Lj)→Int→Int→Int→Option (List Lj))(a1:Int)(a2:Int)(a3:Int)(a0:(List Lj)):Option (List Lj):=
 cV (bC (a1+a3)) (cV (bC ((IntKind.i64.wrap ((IntKind.u64.wrap (a1+a3)).fdiv (2 ^ 1)))+a2)) (bif decide ((IntKind.i64.wrap ((IntKind.u64.wrap (a1+a3)).fdiv (2 ^ 1)))<a2) then (cV (bC (((IntKind.i64.wrap ((IntKind.u64.wrap (a1+a3)).fdiv (2 ^ 1)))+a2) - a3)) (dw N kb2 a1 a2 a3 a0 (((IntKind.i64.wrap ((IntKind.u64.wrap (a1+a3)).fdiv (2 ^ 1)))+a2) - a3) (IntKind.i64.wrap ((IntKind.u64.wrap (a1+a3)).fdiv (2 ^ 1))))) else (dw N kb2 a1 a2 a3 a0 a1 a2)))
def dt (N:Nat)(kb2:(List Lj)→Int→Int→Int→Option (List Lj))(a1:Int)(a2:Int)(a3:Int)(p34:Int):Nat→(List Lj)→Int→Option (List Lj)
 |0,_,_=>none
 |m45+1,p46,p47=>bif decide (p34<p47) then (cV (bC (p47 - 1)) (cV (bC (p47 - 1)) ((bE p46 (p47 - 1)).bind fun x51=>(bE p46 p47).bind fun x52=>(bE p46 p47).bind fun x53=>(bE (List.set p46 p47.toNat (⟨x51.Kind,x51.N,x51.S⟩:Lj)) (p47 - 1)).bind fun x54=>cV (bC (p47 - 1)) ((dt N kb2 a1 a2 a3 p34 m45) (List.set (List.set p46 p47.toNat (⟨x51.Kind,x51.N,x51.S⟩:Lj)) ((p47 - 1).toNat) (⟨x52.Kind,x52.N,x52.S⟩:Lj)) (p47 - 1))))) else (some p46)
def gG (N:Nat)(kb2:(List Lj)→Int→Int→Int→Option (List Lj))(a1:Int)(a2:Int)(a3:Int)(a0:(List Lj))(p34:Int):Option (List Lj):=
 dt N kb2 a1 a2 a3 p34 N a0 a2
def cK (N:Nat)(kb2:(List Lj)→Int→Int→Int→Option (List Lj))(a1:Int)(a2:Int)(a3:Int)(a0:(List Lj)):Nat→Int→Int→Option (List Lj)
 |0,_,_=>none
 |m35+1,p36,p37=>bif decide (p36<p37) then (cV (bC (p36+p37)) ((bE a0 a2).bind fun x40=>(bE a0 (IntKind.i64.wrap ((IntKind.u64.wrap (p36+p37)).fdiv (2 ^ 1)))).bind fun x41=>(js N x40 x41).bind fun y42=>bif !(decide (y42<0)) then (cV (bC ((IntKind.i64.wrap ((IntKind.u64.wrap (p36+p37)).fdiv (2 ^ 1)))+1)) ((cK N kb2 a1 a2 a3 a0 m35) ((IntKind.i64.wrap ((IntKind.u64.wrap (p36+p37)).fdiv (2 ^ 1)))+1) p37)) else ((cK N kb2 a1 a2 a3 a0 m35) p36 (IntKind.i64.wrap ((IntKind.u64.wrap (p36+p37)).fdiv (2 ^ 1)))))) else (gG N kb2 a1 a2 a3 a0 p36)
def dI (N:Nat)(kb2:(List Lj)→Int→Int→Int→Option (List Lj))(a1:Int)(a2:Int)(a3:Int)(a0:(List Lj)):Option (List Lj):=
 cV (bC (a3 - a2)) (bif decide (a3 - a2=1) then (cK N kb2 a1 a2 a3 a0 N a1 a2) else (dy N kb2 a1 a2 a3 a0))
def du (N:Nat)(kb2:(List Lj)→Int→Int→Int→Option (List Lj))(a1:Int)(a2:Int)(a3:Int)(p7:Int):Nat→(List Lj)→Int→Option (List Lj)
 |0,_,_=>none
 |m18+1,p19,p20=>cV (bC (p7 - 1)) (bif decide (p20<p7 - 1) then (cV (bC (p20+1)) (cV (bC (p20+1)) ((bE p19 (p20+1)).bind fun x25=>(bE p19 p20).bind fun x26=>(bE p19 p20).bind fun x27=>(bE (List.set p19 p20.toNat (⟨x25.Kind,x25.N,x25.S⟩:Lj)) (p20+1)).bind fun x28=>cV (bC (p20+1)) ((du N kb2 a1 a2 a3 p7 m18) (List.set (List.set p19 p20.toNat (⟨x25.Kind,x25.N,x25.S⟩:Lj)) ((p20+1).toNat) (⟨x26.Kind,x26.N,x26.S⟩:Lj)) (p20+1))))) else (some p19))
def gV (N:Nat)(kb2:(List Lj)→Int→Int→Int→Option (List Lj))(a1:Int)(a2:Int)(a3:Int)(a0:(List Lj))(p7:Int):Option (List Lj):=
 du N kb2 a1 a2 a3 p7 N a0 a1
def cA (N:Nat)(kb2:(List Lj)→Int→Int→Int→Option (List Lj))(a1:Int)(a2:Int)(a3:Int)(a0:(List Lj)):Nat→Int→Int→Option (List Lj)
 |0,_,_=>none
 |m8+1,p9,p10=>bif decide (p9<p10) then (cV (bC (p9+p10)) ((bE a0 (IntKind.i64.wrap ((IntKind.u64.wrap (p9+p10)).fdiv (2 ^ 1)))).bind fun x13=>(bE a0 a1).bind fun x14=>(js N x13 x14).bind fun y15=>bif decide (y15<0) then (cV (bC ((IntKind.i64.wrap ((IntKind.u64.wrap (p9+p10)).fdiv (2 ^ 1)))+1)) ((cA N kb2 a1 a2 a3 a0 m8) ((IntKind.i64.wrap ((IntKind.u64.wrap (p9+p10)).fdiv (2 ^ 1)))+1) p10)) else ((cA N kb2 a1 a2 a3 a0 m8) p9 (IntKind.i64.wrap ((IntKind.u64.wrap (p9+p10)).fdiv (2 ^ 1)))))) else (gV N kb2 a1 a2 a3 a0 p9)
def aK (N:Nat):Nat→(List Lj)→Int→Int→Int→Option (List Lj)
 |0,_,_,_,_=>none
 |m2+1,a0,a1,a2,a3=>cV (bC (a2 - a1)) (bif decide (a2 - a1=1) then (cA N (aK N m2) a1 a2 a3 a0 N a2 a3) else (dI N (aK N m2) a1 a2 a3 a0))
theorem gF {N m2:Nat}{a0:(List Lj)}{a1:Int}{a2:Int}{a3:Int}:aK N (m2+1) a0 a1 a2 a3=cV (bC (a2 - a1)) (bif decide (a2 - a1=1) then (cA N (aK N m2) a1 a2 a3 a0 N a2 a3) else (dI N (aK N m2) a1 a2 a3 a0)):=rfl
def bN (N:Nat)(a0:(List Lj))(a1:Int)(a2:Int)(a3:Int):Option (List Lj):=aK N N a0 a1 a2 a3
set_option maxHeartbeats 4000000 in
theorem kQ {N:Nat}: ∀(m0:Nat) {a0:(List Lj)} {a1:Int} {a2:Int} {a3:Int} {r:(List Lj)} (h:aK N m0 a0 a1 a2 a3=some r) {A1:Option Addr} {n1 c1:Nat},Okc Tryz.prog 231 [U A1 n1 c1,iV a1,iV a2,iV a3,.func (.func 161) #[] #[]] ([jh A1 n1 c1 a0]) (fun u post=>u=.tuple #[]∧post=[jh A1 n1 c1 r]):=by
 intro m0
 induction m0 with
 |zero=>intro a0 a1 a2 a3 r h A1 n1 c1;exact bq h
 | succ m2 ih=>
  intro a0 a1 a2 a3 r h A1 n1 c1;rw [gF] at h;refine bB Tryz.func231 J J ?_;simp only [ba];refine bc (fun s L=>dI N (aK N m2) a1 a2 a3 a0=some r∧s=[(0,U A1 n1 c1),(1,iV a1),(2,iV a2),(3,iV a3),(4,.func (.func 161) #[] #[])]∧L=[jh A1 n1 c1 a0]) ?_ ?_
  ·refine W ?_;obtain ⟨q4,h⟩:=aA h;refine gE (dC J J q4.1 q4.2) ?_;refine W ?_;refine av J (fun g5=> ?_) (fun g5=> ?_)
   ·replace h:=ad g5 h;refine W ?_;refine bc (fun s L=> ∃p7,gV N (aK N m2) a1 a2 a3 a0 p7=some r∧s=[(0,U A1 n1 c1),(1,iV a1),(2,iV a2),(3,iV a3),(4,.func (.func 161) #[] #[]),(10,iV p7)]∧L=[jh A1 n1 c1 a0]) ?_ ?_
    ·refine eT ?_;refine cv (fun m s L=> ∃p9 p10,cA N (aK N m2) a1 a2 a3 a0 m p9 p10=some r∧s=[(0,U A1 n1 c1),(1,iV a1),(2,iV a2),(3,iV a3),(4,.func (.func 161) #[] #[]),(10,iV p9),(11,iV p10)]∧L=[jh A1 n1 c1 a0]) N _ _ ⟨a2,a3,h,J,J⟩ sA (cS [0] 1) ?_;rintro (_|m8) _ _ ⟨p9,p10,h,rfl,rfl⟩
     ·exact bq h
     rw [cA.eq_2] at h;refine aB ?_;refine W ?_;refine av J (fun g11=> ?_) (fun g11=> ?_)
     ·replace h:=ad g11 h;refine W ?_;obtain ⟨q12,h⟩:=aA h;refine gE (bF J J q12.1 q12.2) ?_;refine gE (qa J J KT) ?_;refine gE (zu (v:=(IntKind.u64.wrap (p9+p10)).fdiv (2 ^ 1)) J J (fun _=>J)) ?_;refine gE (qa J J KM) ?_;refine W ?_;refine aB ?_;refine bx O _ (ac _) ?_;refine zE 0 J (au J) ?_;refine zE 1 J (au J) ?_;refine zE 2 J (au J) ?_;obtain ⟨x13,hx13,h⟩:=aa h;obtain ⟨lx13,ux13,hx13⟩:=aJ hx13;refine zR 3 J (bn 0 J aC J J KR cY lx13 ux13) ?_;refine zR 4 J (br (us:=[iV x13.Kind,iV x13.N,.string x13.S]) 0 J aC J hx13 bI (fun _ _ _ h=>by rw [show _=_ from h];rfl)) ?_;refine zE 5 J (au J) ?_;refine zE 6 J (au J) ?_;obtain ⟨x14,hx14,h⟩:=aa h;obtain ⟨lx14,ux14,hx14⟩:=aJ hx14;refine zR 7 J (bn 0 J aC J J KR cY lx14 ux14) ?_;refine zR 8 J (br (us:=[iV x14.Kind,iV x14.N,.string x14.S]) 0 J aC J hx14 bI (fun _ _ _ h=>by rw [show _=_ from h];rfl)) ?_;obtain ⟨y15,hy15,h⟩:=aa h;refine zD 9 J (im (nc hy15) vt J J J (ai) lj) ?_;rintro _ _ ⟨_,⟨rfl,rfl⟩,rfl⟩;refine ⟨_,ac _,ac _,?_⟩;refine zE 10 J (wE J J) ?_;refine bj O ?_;refine d8 ?_;refine av J (fun g16=> ?_) (fun g16=> ?_)
      ·replace h:=ad g16 h;refine W ?_;obtain ⟨q17,h⟩:=aA h;refine gE (bF J J q17.1 q17.2) ?_;refine W ?_;exact ⟨m8,_,_,Lo _,⟨(IntKind.i64.wrap ((IntKind.u64.wrap (p9+p10)).fdiv (2 ^ 1)))+1,p10,h,J,J⟩,sA,cS [0] 1⟩
      replace h:=ae g16 h;refine W ?_;exact ⟨m8,_,_,Lo _,⟨p9,(IntKind.i64.wrap ((IntKind.u64.wrap (p9+p10)).fdiv (2 ^ 1))),h,J,J⟩,sA,cS [0] 1⟩
     replace h:=ae g11 h;refine W ?_;exact ⟨_,_,⟨p9,h,J,J⟩,sA,cS [0] 1⟩
    rintro _ _ ⟨p7,h,rfl,rfl⟩;refine aB ?_;refine W ?_;refine cv (fun m s L=> ∃p19 p20,du N (aK N m2) a1 a2 a3 p7 m p19 p20=some r∧s=[(0,U A1 n1 c1),(1,iV a1),(2,iV a2),(3,iV a3),(4,.func (.func 161) #[] #[]),(10,iV p7),(13,iV p20)]∧L=[jh A1 n1 c1 p19]) N _ _ ⟨a0,a1,h,J,J⟩ sA (cS [0] 1) ?_;rintro (_|m18) _ _ ⟨p19,p20,h,rfl,rfl⟩
    ·exact bq h
    rw [du.eq_2] at h;refine aB ?_;refine W ?_;obtain ⟨q21,h⟩:=aA h;refine gE (dC J J q21.1 q21.2) ?_;refine W ?_;refine av J (fun g22=> ?_) (fun g22=> ?_)
    ·replace h:=ad g22 h;refine W ?_;refine aB ?_;refine eT ?_;obtain ⟨q23,h⟩:=aA h;obtain ⟨q24,h⟩:=aA h;obtain ⟨x25,hx25,h⟩:=aa h;obtain ⟨lx25,ux25,hx25⟩:=aJ hx25;obtain ⟨x26,hx26,h⟩:=aa h;obtain ⟨lx26,ux26,hx26⟩:=aJ hx26;refine jf (t:=[(0,U A1 n1 c1),(1,iV a1),(2,iV a2),(3,iV a3),(4,.func (.func 161) #[] #[]),(10,iV p7),(13,iV p20)]) ?_ lD (ac _)
     refine jg O 14 [2,3,4] [0,1,2,4,9,13] [61,62,63,64,65,66,67,68,69,70,71,72,73,74] [[],[],[],[],[3],[],[],[6],[5,7],[8],[],[],[10,11],[12]] [aV (U A1 n1 c1),
aV (iV p20),
aV (U A1 n1 c1),
aV (iV p20),
aV (iV (p20+1)),
aV (U A1 n1 c1),
aV (iV p20),
aV (iV (p20+1)),
aV (eQ (U A1 n1 c1) ((p20+1).toNat) 3 0),
aV (.agg #[iV x25.Kind,iV x25.N,.string x25.S]),
aV (U A1 n1 c1),
aV (iV p20),
aV (eQ (U A1 n1 c1) p20.toNat 3 0),
aV (.agg #[iV x26.Kind,iV x26.N,.string x26.S])] [] (ac _) (fU rfl (fU rfl (fU rfl la))) O rfl rfl ?_ ?_ ?_
     ·refine fT J ?_ ?_
      ·exact lB (au J) J (bf J (ac _))
      refine fT J ?_ ?_
      ·exact lB (au J) J (bf J (ac _))
      refine fT J ?_ ?_
      ·exact lB (bF J J q23.1 q23.2) J (bf J (ac _))
      exact kZ
     ·refine am J ?_ ?_
      ·exact gn (br (us:=[iV x26.Kind,iV x26.N,.string x26.S]) 0 J aC J hx26 bI (fun _ _ _ h=>by rw [show _=_ from h];rfl)) J (bf J (ac _))
      refine am J ?_ ?_
      ·exact gn (bn 0 J aC J J KR cY lx26 ux26) J (bf J (ac _))
      refine am J ?_ ?_
      ·exact bX (au J) J (bf J (ac _))
      refine am J ?_ ?_
      ·exact bX (au J) J (bf J (ac _))
      refine am J ?_ ?_
      ·exact gn (br (us:=[iV x25.Kind,iV x25.N,.string x25.S]) 0 J aC J hx25 bI (fun _ _ _ h=>by rw [show _=_ from h];rfl)) J (bf J (ac _))
      refine am J ?_ ?_
      ·exact gn (bn 0 J aC J J KR cY lx25 ux25) J (bf J (ac _))
      refine am J ?_ ?_
      ·exact bX (bF J J q24.1 q24.2) J (bf J (ac _))
      refine am J ?_ ?_
      ·exact bX (au J) J (bf J (ac _))
      refine am J ?_ ?_
      ·exact bX (au J) J (bf J (ac _))
      refine am J ?_ ?_
      ·exact bX (bF J J q23.1 q23.2) J (bf J (ac _))
      refine am J ?_ ?_
      ·exact bX (au J) J (bf J (ac _))
      refine am J ?_ ?_
      ·exact bX (au J) J (bf J (ac _))
      refine am J ?_ ?_
      ·exact bX (au J) J (bf J (ac _))
      refine am J ?_ ?_
      ·exact bX (au J) J (bf J (ac _))
      exact fG
     refine nY (t:=[(61,U A1 n1 c1),(62,iV p20),(63,U A1 n1 c1),(65,iV (p20+1)),(70,.agg #[iV x25.Kind,iV x25.N,.string x25.S]),(74,.agg #[iV x26.Kind,iV x26.N,.string x26.S]),(0,U A1 n1 c1),(1,iV a1),(2,iV a2),(3,iV a3),(4,.func (.func 161) #[] #[]),(10,iV p7),(13,iV p20)]) (L':=[jh A1 n1 c1 p19]) ?_ lD (ac _);obtain ⟨x27,hx27,h⟩:=aa h;obtain ⟨lx27,ux27,hx27⟩:=aJ hx27;refine Bw 14 J O (bn 0 J aC J J KR cY lx27 ux27) J J J ?_;refine nZ 15 J O (cR (us:=[iV x25.Kind,iV x25.N,.string x25.S]) (z:=(⟨x25.Kind,x25.N,x25.S⟩:Lj)) 0 J J J J cY J (toNat_lt lx27 ux27) J (fun S w vs xk hk hr ho=>by obtain rfl:=Option.some.inj (hk.symm.trans hx27);rw [show _=_ from hr];rfl)) J J ?_;rintro _ _ rfl;refine wo ?_;obtain ⟨x28,hx28,h⟩:=aa h;obtain ⟨lx28,ux28,hx28⟩:=aJ hx28;refine Bw 16 J O (bn 0 J aC J J KR cY lx28 ux28) J J J ?_;refine nZ 17 J O (cR (us:=[iV x26.Kind,iV x26.N,.string x26.S]) (z:=(⟨x26.Kind,x26.N,x26.S⟩:Lj)) 0 J J J J cY J (toNat_lt lx28 ux28) J (fun S w vs xk hk hr ho=>by obtain rfl:=Option.some.inj (hk.symm.trans hx28);rw [show _=_ from hr];rfl)) J J ?_;rintro _ _ rfl;refine wo ?_;refine lC O ?_;refine W ?_;obtain ⟨q29,h⟩:=aA h;refine gE (bF J J q29.1 q29.2) ?_;refine W ?_
     exact ⟨m18,_,_,Lo _,⟨List.set (List.set p19 p20.toNat (⟨x25.Kind,x25.N,x25.S⟩:Lj)) ((p20+1).toNat) (⟨x26.Kind,x26.N,x26.S⟩:Lj),p20+1,h,J,J⟩,sA,cS [0] 1⟩
    replace h:=ae g22 h;refine W ?_;obtain rfl:=ao h;exact yr J (cS [0] 1) ⟨J,J⟩
   replace h:=ae g5 h;refine W ?_;exact ⟨_,_,⟨h,J,J⟩,sA,cS [0] 1⟩
  rintro _ _ ⟨h,rfl,rfl⟩;refine bc (fun s L=>dy N (aK N m2) a1 a2 a3 a0=some r∧s=[(0,U A1 n1 c1),(1,iV a1),(2,iV a2),(3,iV a3),(4,.func (.func 161) #[] #[])]∧L=[jh A1 n1 c1 a0]) ?_ ?_
  ·refine W ?_;obtain ⟨q31,h⟩:=aA h;refine gE (dC J J q31.1 q31.2) ?_;refine W ?_;refine av J (fun g32=> ?_) (fun g32=> ?_)
   ·replace h:=ad g32 h;refine W ?_;refine bc (fun s L=> ∃p34,gG N (aK N m2) a1 a2 a3 a0 p34=some r∧s=[(0,U A1 n1 c1),(1,iV a1),(2,iV a2),(3,iV a3),(4,.func (.func 161) #[] #[]),(14,iV p34)]∧L=[jh A1 n1 c1 a0]) ?_ ?_
    ·refine eT ?_;refine cv (fun m s L=> ∃p36 p37,cK N (aK N m2) a1 a2 a3 a0 m p36 p37=some r∧s=[(0,U A1 n1 c1),(1,iV a1),(2,iV a2),(3,iV a3),(4,.func (.func 161) #[] #[]),(14,iV p36),(15,iV p37)]∧L=[jh A1 n1 c1 a0]) N _ _ ⟨a1,a2,h,J,J⟩ sA (cS [0] 1) ?_;rintro (_|m35) _ _ ⟨p36,p37,h,rfl,rfl⟩
     ·exact bq h
     rw [cK.eq_2] at h;refine aB ?_;refine W ?_;refine av J (fun g38=> ?_) (fun g38=> ?_)
     ·replace h:=ad g38 h;refine W ?_;obtain ⟨q39,h⟩:=aA h;refine gE (bF J J q39.1 q39.2) ?_;refine gE (qa J J KT) ?_;refine gE (zu (v:=(IntKind.u64.wrap (p36+p37)).fdiv (2 ^ 1)) J J (fun _=>J)) ?_;refine gE (qa J J KM) ?_;refine W ?_;refine aB ?_;refine bx O _ (ac _) ?_;refine zE 0 J (au J) ?_;refine zE 1 J (au J) ?_;refine zE 2 J (au J) ?_;obtain ⟨x40,hx40,h⟩:=aa h;obtain ⟨lx40,ux40,hx40⟩:=aJ hx40;refine zR 3 J (bn 0 J aC J J KR cY lx40 ux40) ?_;refine zR 4 J (br (us:=[iV x40.Kind,iV x40.N,.string x40.S]) 0 J aC J hx40 bI (fun _ _ _ h=>by rw [show _=_ from h];rfl)) ?_;refine zE 5 J (au J) ?_;refine zE 6 J (au J) ?_;obtain ⟨x41,hx41,h⟩:=aa h;obtain ⟨lx41,ux41,hx41⟩:=aJ hx41;refine zR 7 J (bn 0 J aC J J KR cY lx41 ux41) ?_;refine zR 8 J (br (us:=[iV x41.Kind,iV x41.N,.string x41.S]) 0 J aC J hx41 bI (fun _ _ _ h=>by rw [show _=_ from h];rfl)) ?_;obtain ⟨y42,hy42,h⟩:=aa h;refine zD 9 J (im (nc hy42) vt J J J (ai) lj) ?_;rintro _ _ ⟨_,⟨rfl,rfl⟩,rfl⟩;refine ⟨_,ac _,ac _,?_⟩;refine zE 10 J (wE J J) ?_;refine zE 11 J (wD J) ?_;refine bj O ?_;refine d8 ?_;refine av J (fun g43=> ?_) (fun g43=> ?_)
      ·replace h:=ad g43 h;refine W ?_;obtain ⟨q44,h⟩:=aA h;refine gE (bF J J q44.1 q44.2) ?_;refine W ?_;exact ⟨m35,_,_,Lo _,⟨(IntKind.i64.wrap ((IntKind.u64.wrap (p36+p37)).fdiv (2 ^ 1)))+1,p37,h,J,J⟩,sA,cS [0] 1⟩
      replace h:=ae g43 h;refine W ?_;exact ⟨m35,_,_,Lo _,⟨p36,(IntKind.i64.wrap ((IntKind.u64.wrap (p36+p37)).fdiv (2 ^ 1))),h,J,J⟩,sA,cS [0] 1⟩
     replace h:=ae g38 h;refine W ?_;exact ⟨_,_,⟨p36,h,J,J⟩,sA,cS [0] 1⟩
    rintro _ _ ⟨p34,h,rfl,rfl⟩;refine aB ?_;refine W ?_;refine cv (fun m s L=> ∃p46 p47,dt N (aK N m2) a1 a2 a3 p34 m p46 p47=some r∧s=[(0,U A1 n1 c1),(1,iV a1),(2,iV a2),(3,iV a3),(4,.func (.func 161) #[] #[]),(14,iV p34),(17,iV p47)]∧L=[jh A1 n1 c1 p46]) N _ _ ⟨a0,a2,h,J,J⟩ sA (cS [0] 1) ?_;rintro (_|m45) _ _ ⟨p46,p47,h,rfl,rfl⟩
    ·exact bq h
    rw [dt.eq_2] at h;refine aB ?_;refine W ?_;refine av J (fun g48=> ?_) (fun g48=> ?_)
    ·replace h:=ad g48 h;refine W ?_;refine aB ?_;refine eT ?_;obtain ⟨q49,h⟩:=aA h;obtain ⟨q50,h⟩:=aA h;obtain ⟨x51,hx51,h⟩:=aa h;obtain ⟨lx51,ux51,hx51⟩:=aJ hx51;obtain ⟨x52,hx52,h⟩:=aa h;obtain ⟨lx52,ux52,hx52⟩:=aJ hx52;refine jf (t:=[(0,U A1 n1 c1),(1,iV a1),(2,iV a2),(3,iV a3),(4,.func (.func 161) #[] #[]),(14,iV p34),(17,iV p47)]) ?_ lD (ac _)
     refine jg O 14 [2,3,4] [0,1,2,4,9,13] [113,114,115,116,117,118,119,120,121,122,123,124,125,126] [[],[],[],[],[3],[],[],[6],[5,7],[8],[],[],[10,11],[12]] [aV (U A1 n1 c1),
aV (iV p47),
aV (U A1 n1 c1),
aV (iV p47),
aV (iV (p47 - 1)),
aV (U A1 n1 c1),
aV (iV p47),
aV (iV (p47 - 1)),
aV (eQ (U A1 n1 c1) ((p47 - 1).toNat) 3 0),
aV (.agg #[iV x51.Kind,iV x51.N,.string x51.S]),
aV (U A1 n1 c1),
aV (iV p47),
aV (eQ (U A1 n1 c1) p47.toNat 3 0),
aV (.agg #[iV x52.Kind,iV x52.N,.string x52.S])] [] (ac _) (fU rfl (fU rfl (fU rfl la))) O rfl rfl ?_ ?_ ?_
     ·refine fT J ?_ ?_
      ·exact lB (au J) J (bf J (ac _))
      refine fT J ?_ ?_
      ·exact lB (au J) J (bf J (ac _))
      refine fT J ?_ ?_
      ·exact lB (dC J J q49.1 q49.2) J (bf J (ac _))
      exact kZ
     ·refine am J ?_ ?_
      ·exact gn (br (us:=[iV x52.Kind,iV x52.N,.string x52.S]) 0 J aC J hx52 bI (fun _ _ _ h=>by rw [show _=_ from h];rfl)) J (bf J (ac _))
      refine am J ?_ ?_
      ·exact gn (bn 0 J aC J J KR cY lx52 ux52) J (bf J (ac _))
      refine am J ?_ ?_
      ·exact bX (au J) J (bf J (ac _))
      refine am J ?_ ?_
      ·exact bX (au J) J (bf J (ac _))
      refine am J ?_ ?_
      ·exact gn (br (us:=[iV x51.Kind,iV x51.N,.string x51.S]) 0 J aC J hx51 bI (fun _ _ _ h=>by rw [show _=_ from h];rfl)) J (bf J (ac _))
      refine am J ?_ ?_
      ·exact gn (bn 0 J aC J J KR cY lx51 ux51) J (bf J (ac _))
      refine am J ?_ ?_
      ·exact bX (dC J J q50.1 q50.2) J (bf J (ac _))
      refine am J ?_ ?_
      ·exact bX (au J) J (bf J (ac _))
      refine am J ?_ ?_
      ·exact bX (au J) J (bf J (ac _))
      refine am J ?_ ?_
      ·exact bX (dC J J q49.1 q49.2) J (bf J (ac _))
      refine am J ?_ ?_
      ·exact bX (au J) J (bf J (ac _))
      refine am J ?_ ?_
      ·exact bX (au J) J (bf J (ac _))
      refine am J ?_ ?_
      ·exact bX (au J) J (bf J (ac _))
      refine am J ?_ ?_
      ·exact bX (au J) J (bf J (ac _))
      exact fG
     refine nY (t:=[(113,U A1 n1 c1),(114,iV p47),(115,U A1 n1 c1),(117,iV (p47 - 1)),(122,.agg #[iV x51.Kind,iV x51.N,.string x51.S]),(126,.agg #[iV x52.Kind,iV x52.N,.string x52.S]),(0,U A1 n1 c1),(1,iV a1),(2,iV a2),(3,iV a3),(4,.func (.func 161) #[] #[]),(14,iV p34),(17,iV p47)]) (L':=[jh A1 n1 c1 p46]) ?_ lD (ac _);obtain ⟨x53,hx53,h⟩:=aa h;obtain ⟨lx53,ux53,hx53⟩:=aJ hx53;refine Bw 14 J O (bn 0 J aC J J KR cY lx53 ux53) J J J ?_;refine nZ 15 J O (cR (us:=[iV x51.Kind,iV x51.N,.string x51.S]) (z:=(⟨x51.Kind,x51.N,x51.S⟩:Lj)) 0 J J J J cY J (toNat_lt lx53 ux53) J (fun S w vs xk hk hr ho=>by obtain rfl:=Option.some.inj (hk.symm.trans hx53);rw [show _=_ from hr];rfl)) J J ?_;rintro _ _ rfl;refine wo ?_;obtain ⟨x54,hx54,h⟩:=aa h;obtain ⟨lx54,ux54,hx54⟩:=aJ hx54;refine Bw 16 J O (bn 0 J aC J J KR cY lx54 ux54) J J J ?_;refine nZ 17 J O (cR (us:=[iV x52.Kind,iV x52.N,.string x52.S]) (z:=(⟨x52.Kind,x52.N,x52.S⟩:Lj)) 0 J J J J cY J (toNat_lt lx54 ux54) J (fun S w vs xk hk hr ho=>by obtain rfl:=Option.some.inj (hk.symm.trans hx54);rw [show _=_ from hr];rfl)) J J ?_;rintro _ _ rfl;refine wo ?_;refine lC O ?_;refine W ?_;obtain ⟨q55,h⟩:=aA h;refine gE (dC J J q55.1 q55.2) ?_;refine W ?_
     exact ⟨m45,_,_,Lo _,⟨List.set (List.set p46 p47.toNat (⟨x51.Kind,x51.N,x51.S⟩:Lj)) ((p47 - 1).toNat) (⟨x52.Kind,x52.N,x52.S⟩:Lj),p47 - 1,h,J,J⟩,sA,cS [0] 1⟩
    replace h:=ae g48 h;refine W ?_;obtain rfl:=ao h;exact yr J (cS [0] 1) ⟨J,J⟩
   replace h:=ae g32 h;refine W ?_;exact ⟨_,_,⟨h,J,J⟩,sA,cS [0] 1⟩
  rintro _ _ ⟨h,rfl,rfl⟩;refine W ?_;obtain ⟨q56,h⟩:=aA h;refine gE (bF J J q56.1 q56.2) ?_;refine gE (qa J J KT) ?_;refine gE (zu (v:=(IntKind.u64.wrap (a1+a3)).fdiv (2 ^ 1)) J J (fun _=>J)) ?_;refine gE (qa J J KM) ?_;refine W ?_;obtain ⟨q57,h⟩:=aA h;refine gE (bF J J q57.1 q57.2) ?_;refine W ?_;refine bc (fun s L=> ∃p59 p60,dw N (aK N m2) a1 a2 a3 a0 p59 p60=some r∧s=[(0,U A1 n1 c1),(1,iV a1),(2,iV a2),(3,iV a3),(4,.func (.func 161) #[] #[]),(18,iV (IntKind.i64.wrap ((IntKind.u64.wrap (a1+a3)).fdiv (2 ^ 1)))),(19,iV ((IntKind.i64.wrap ((IntKind.u64.wrap (a1+a3)).fdiv (2 ^ 1)))+a2)),(20,iV p59),(21,iV p60)]∧L=[jh A1 n1 c1 a0]) ?_ ?_
  ·refine W ?_;refine av J (fun g61=> ?_) (fun g61=> ?_)
   ·replace h:=ad g61 h;refine W ?_;obtain ⟨q62,h⟩:=aA h;refine gE (dC J J q62.1 q62.2) ?_;refine W ?_;exact ⟨_,_,⟨((IntKind.i64.wrap ((IntKind.u64.wrap (a1+a3)).fdiv (2 ^ 1)))+a2) - a3,(IntKind.i64.wrap ((IntKind.u64.wrap (a1+a3)).fdiv (2 ^ 1))),h,J,J⟩,sA,cS [0] 1⟩
   replace h:=ae g61 h;refine W ?_;exact ⟨_,_,⟨a1,a2,h,J,J⟩,sA,cS [0] 1⟩
  rintro _ _ ⟨p59,p60,h,rfl,rfl⟩;refine W ?_;obtain ⟨q63,h⟩:=aA h;refine gE (dC J J q63.1 q63.2) ?_;refine W ?_;refine bc (fun s L=> ∃p65,dv N (aK N m2) a1 a2 a3 a0 p65=some r∧s=[(0,U A1 n1 c1),(1,iV a1),(2,iV a2),(3,iV a3),(4,.func (.func 161) #[] #[]),(18,iV (IntKind.i64.wrap ((IntKind.u64.wrap (a1+a3)).fdiv (2 ^ 1)))),(19,iV ((IntKind.i64.wrap ((IntKind.u64.wrap (a1+a3)).fdiv (2 ^ 1)))+a2)),(20,iV p65)]∧L=[jh A1 n1 c1 a0]) ?_ ?_
  ·refine eT ?_;refine cv (fun m s L=> ∃p67 p68,cJ N (aK N m2) a1 a2 a3 a0 m p67 p68=some r∧s=[(0,U A1 n1 c1),(1,iV a1),(2,iV a2),(3,iV a3),(4,.func (.func 161) #[] #[]),(18,iV (IntKind.i64.wrap ((IntKind.u64.wrap (a1+a3)).fdiv (2 ^ 1)))),(19,iV ((IntKind.i64.wrap ((IntKind.u64.wrap (a1+a3)).fdiv (2 ^ 1)))+a2)),(20,iV p67),(21,iV p68),(22,iV (((IntKind.i64.wrap ((IntKind.u64.wrap (a1+a3)).fdiv (2 ^ 1)))+a2) - 1))]∧L=[jh A1 n1 c1 a0]) N _ _ ⟨p59,p60,h,J,J⟩ sA (cS [0] 1) ?_;rintro (_|m66) _ _ ⟨p67,p68,h,rfl,rfl⟩
   ·exact bq h
   rw [cJ.eq_2] at h;refine aB ?_;refine W ?_;refine av J (fun g69=> ?_) (fun g69=> ?_)
   ·replace h:=ad g69 h;refine W ?_;obtain ⟨q70,h⟩:=aA h;refine gE (bF J J q70.1 q70.2) ?_;refine gE (qa J J KT) ?_;refine gE (zu (v:=(IntKind.u64.wrap (p67+p68)).fdiv (2 ^ 1)) J J (fun _=>J)) ?_;refine gE (qa J J KM) ?_;refine W ?_;refine aB ?_;refine bx O _ (ac _) ?_;refine zE 0 J (au J) ?_;refine zE 1 J (au J) ?_;refine zE 2 J (au J) ?_;refine zE 3 J (au J) ?_;obtain ⟨q71,h⟩:=aA h;refine zE 4 J (dC J J q71.1 q71.2) ?_;obtain ⟨x72,hx72,h⟩:=aa h;obtain ⟨lx72,ux72,hx72⟩:=aJ hx72;refine zR 5 J (bn 0 J aC J J KR cY lx72 ux72) ?_;refine zR 6 J (br (us:=[iV x72.Kind,iV x72.N,.string x72.S]) 0 J aC J hx72 bI (fun _ _ _ h=>by rw [show _=_ from h];rfl)) ?_;refine zE 7 J (au J) ?_;refine zE 8 J (au J) ?_;obtain ⟨x73,hx73,h⟩:=aa h;obtain ⟨lx73,ux73,hx73⟩:=aJ hx73;refine zR 9 J (bn 0 J aC J J KR cY lx73 ux73) ?_;refine zR 10 J (br (us:=[iV x73.Kind,iV x73.N,.string x73.S]) 0 J aC J hx73 bI (fun _ _ _ h=>by rw [show _=_ from h];rfl)) ?_;obtain ⟨y74,hy74,h⟩:=aa h;refine zD 11 J (im (nc hy74) vt J J J (ai) lj) ?_;rintro _ _ ⟨_,⟨rfl,rfl⟩,rfl⟩;refine ⟨_,ac _,ac _,?_⟩;refine zE 12 J (wE J J) ?_;refine zE 13 J (wD J) ?_;refine bj O ?_;refine d8 ?_;refine av J (fun g75=> ?_) (fun g75=> ?_)
    ·replace h:=ad g75 h;refine W ?_;obtain ⟨q76,h⟩:=aA h;refine gE (bF J J q76.1 q76.2) ?_;refine W ?_;exact ⟨m66,_,_,Lo _,⟨(IntKind.i64.wrap ((IntKind.u64.wrap (p67+p68)).fdiv (2 ^ 1)))+1,p68,h,J,J⟩,sA,cS [0] 1⟩
    replace h:=ae g75 h;refine W ?_;exact ⟨m66,_,_,Lo _,⟨p67,(IntKind.i64.wrap ((IntKind.u64.wrap (p67+p68)).fdiv (2 ^ 1))),h,J,J⟩,sA,cS [0] 1⟩
   replace h:=ae g69 h;refine W ?_;exact ⟨_,_,⟨p67,h,J,J⟩,sA,cS [0] 1⟩
  rintro _ _ ⟨p65,h,rfl,rfl⟩;refine W ?_;obtain ⟨q77,h⟩:=aA h;refine gE (dC J J q77.1 q77.2) ?_;refine W ?_;refine bc (fun s L=> ∃p79,cM N (aK N m2) a1 a3 p65 a2 p79=some r∧s=[(0,U A1 n1 c1),(1,iV a1),(3,iV a3),(4,.func (.func 161) #[] #[]),(18,iV (IntKind.i64.wrap ((IntKind.u64.wrap (a1+a3)).fdiv (2 ^ 1)))),(20,iV p65),(24,iV (((IntKind.i64.wrap ((IntKind.u64.wrap (a1+a3)).fdiv (2 ^ 1)))+a2) - p65))]∧L=[jh A1 n1 c1 p79]) ?_ ?_
  ·refine W ?_;obtain ⟨b80,hb80,h⟩:=aa h;refine aH 4 185 b80 ?_ ?_
   ·clear h;refine aD 181 J (fun g80=> ?_) (fun g80=> ?_)
    ·have h:=ad g80 hb80;refine W ?_;obtain rfl:=ao h;exact ab sA (cS [0] 1)
    have h:=ae g80 hb80;refine W ?_;obtain rfl:=ao h;exact ab sA (cS [0] 1)
   refine W ?_;refine av J (fun g81=> ?_) (fun g81=> ?_)
   ·replace h:=ad g81 h;refine W ?_;obtain ⟨y82,hy82,h⟩:=aa h;refine gD (aI (mh hy82) Hb J (aG [] [0] [] 1 J)) ?_;rintro _ _ ⟨_,⟨rfl,rfl⟩,rfl⟩;refine bG ?_;refine W ?_;exact ⟨_,_,⟨y82,h,J,J⟩,sA,cS [0] 1⟩
   replace h:=ae g81 h;refine W ?_;exact ⟨_,_,⟨a0,h,J,J⟩,sA,cS [0] 1⟩
  rintro _ _ ⟨p79,h,rfl,rfl⟩;refine bc (fun s L=> ∃p84,cL N (aK N m2) a3 a1 a2 p65 p84=some r∧s=[(0,U A1 n1 c1),(3,iV a3),(4,.func (.func 161) #[] #[]),(18,iV (IntKind.i64.wrap ((IntKind.u64.wrap (a1+a3)).fdiv (2 ^ 1)))),(24,iV (((IntKind.i64.wrap ((IntKind.u64.wrap (a1+a3)).fdiv (2 ^ 1)))+a2) - p65))]∧L=[jh A1 n1 c1 p84]) ?_ ?_
  ·refine W ?_;obtain ⟨b85,hb85,h⟩:=aa h;refine aH 4 199 b85 ?_ ?_
   ·clear h;refine aD 195 J (fun g85=> ?_) (fun g85=> ?_)
    ·have h:=ad g85 hb85;refine W ?_;obtain rfl:=ao h;exact ab sA (cS [0] 1)
    have h:=ae g85 hb85;refine W ?_;obtain rfl:=ao h;exact ab sA (cS [0] 1)
   refine W ?_;refine av J (fun g86=> ?_) (fun g86=> ?_)
   ·replace h:=ad g86 h;refine W ?_;obtain ⟨y87,hy87,h⟩:=aa h;refine gD (aI (ih hy87) oI J (aG [] [0] [] 1 J)) ?_;rintro _ _ ⟨_,⟨rfl,rfl⟩,rfl⟩;refine bG ?_;refine W ?_;exact ⟨_,_,⟨y87,h,J,J⟩,sA,cS [0] 1⟩
   replace h:=ae g86 h;refine W ?_;exact ⟨_,_,⟨p79,h,J,J⟩,sA,cS [0] 1⟩
  rintro _ _ ⟨p84,h,rfl,rfl⟩;refine W ?_;obtain ⟨b88,hb88,h⟩:=aa h;refine aH 4 213 b88 ?_ ?_
  ·clear h;refine aD 209 J (fun g88=> ?_) (fun g88=> ?_)
   ·have h:=ad g88 hb88;refine W ?_;obtain rfl:=ao h;exact ab sA (cS [0] 1)
   have h:=ae g88 hb88;refine W ?_;obtain rfl:=ao h;exact ab sA (cS [0] 1)
  refine W ?_;refine av J (fun g89=> ?_) (fun g89=> ?_)
  ·replace h:=ad g89 h;refine W ?_;obtain ⟨y90,hy90,h⟩:=aa h;refine gD (aI (ih hy90) oI J (aG [] [0] [] 1 J)) ?_;rintro _ _ ⟨_,⟨rfl,rfl⟩,rfl⟩;refine bG ?_;refine kM ?_;obtain rfl:=ao h;exact fW J (cS [0] 1) ⟨J,J⟩
  replace h:=ae g89 h;refine o3 ?_;obtain rfl:=ao h;exact fW J (cS [0] 1) ⟨J,J⟩
theorem cz {N:Nat}{a0:(List Lj)}{a1:Int}{a2:Int}{a3:Int}{r:(List Lj)}(h:bN N a0 a1 a2 a3=some r):Okc Tryz.prog 231 [U A1 n1 c1,iV a1,iV a2,iV a3,.func (.func 161) #[] #[]] ([jh A1 n1 c1 a0]) (fun u post=>u=.tuple #[]∧post=[jh A1 n1 c1 r]):=kQ N h
def fb (N:Nat)(kb14:(List Lj)→Int→Option (List Lj))(a1:Int)(p16:Int)(p33:(List Lj)):Option (List Lj):=
 cV (bC (p16*2)) (kb14 p33 (p16*2))
def lN (N:Nat)(kb14:(List Lj)→Int→Option (List Lj))(a1:Int)(p16:Int)(p15:(List Lj)):Option (List Lj):=
 cV (bC (0+p16)) (bif decide (0+p16<a1) then ((bN N p15 0 (0+p16) a1).bind fun y36=>fb N kb14 a1 p16 y36) else (fb N kb14 a1 p16 p15))
def fa (N:Nat)(kb14:(List Lj)→Int→Option (List Lj))(a1:Int)(p16:Int)(p39:(List Lj)):Option (List Lj):=
 cV (bC (p16*2)) (kb14 p39 (p16*2))
def ik (N:Nat)(kb14:(List Lj)→Int→Option (List Lj))(a1:Int)(p16:Int)(p21:(List Lj))(p22:Int):Option (List Lj):=
 cV (bC (p22+p16)) (bif decide (p22+p16<a1) then ((bN N p21 p22 (p22+p16) a1).bind fun y42=>fa N kb14 a1 p16 y42) else (fa N kb14 a1 p16 p21))
def eX (N:Nat)(kb14:(List Lj)→Int→Option (List Lj))(a1:Int)(p16:Int):Nat→(List Lj)→Int→Int→Option (List Lj)
 |0,_,_,_=>none
 |m23+1,p24,p25,p26=>bif decide (p26≤a1) then (cV (bC (p25+p16)) ((bN N p24 p25 (p25+p16) p26).bind fun y29=>cV (bC (2*p16)) (cV (bC (p26+(2*p16))) ((eX N kb14 a1 p16 m23) y29 p26 (p26+(2*p16)))))) else (ik N kb14 a1 p16 p24 p25)
def bO (N:Nat)(a1:Int):Nat→(List Lj)→Int→Option (List Lj)
 |0,_,_=>none
 |m14+1,p15,p16=>bif decide (p16<a1) then (cV (bC (2*p16)) (eX N (bO N a1 m14) a1 p16 N p15 0 (2*p16))) else (some p15)
def mg (N:Nat)(a1:Int)(a0:(List Lj)):Option (List Lj):=
 (bW N a0 0 a1).bind fun y13=>bO N a1 N y13 20
def eY (N:Nat)(kb45:(List Lj)→Int→Option (List Lj))(a1:Int)(p47:Int)(p64:(List Lj)):Option (List Lj):=
 cV (bC (p47*2)) (kb45 p64 (p47*2))
def lM (N:Nat)(kb45:(List Lj)→Int→Option (List Lj))(a1:Int)(p47:Int)(p46:(List Lj)):Option (List Lj):=
 cV (bC (0+p47)) (bif decide (0+p47<a1) then ((bN N p46 0 (0+p47) a1).bind fun y67=>eY N kb45 a1 p47 y67) else (eY N kb45 a1 p47 p46))
def dR (N:Nat)(kb45:(List Lj)→Int→Option (List Lj))(a1:Int)(p47:Int)(p70:(List Lj)):Option (List Lj):=
 cV (bC (p47*2)) (kb45 p70 (p47*2))
def eZ (N:Nat)(kb45:(List Lj)→Int→Option (List Lj))(a1:Int)(p47:Int)(p52:(List Lj))(p53:Int):Option (List Lj):=
 cV (bC (p53+p47)) (bif decide (p53+p47<a1) then ((bN N p52 p53 (p53+p47) a1).bind fun y73=>dR N kb45 a1 p47 y73) else (dR N kb45 a1 p47 p52))
def dQ (N:Nat)(kb45:(List Lj)→Int→Option (List Lj))(a1:Int)(p47:Int):Nat→(List Lj)→Int→Int→Option (List Lj)
 |0,_,_,_=>none
 |m54+1,p55,p56,p57=>bif decide (p57≤a1) then (cV (bC (p56+p47)) ((bN N p55 p56 (p56+p47) p57).bind fun y60=>cV (bC (2*p47)) (cV (bC (p57+(2*p47))) ((dQ N kb45 a1 p47 m54) y60 p57 (p57+(2*p47)))))) else (eZ N kb45 a1 p47 p55 p56)
def bD (N:Nat)(a1:Int):Nat→(List Lj)→Int→Option (List Lj)
 |0,_,_=>none
 |m45+1,p46,p47=>bif decide (p47<a1) then (cV (bC (2*p47)) (dQ N (bD N a1 m45) a1 p47 N p46 0 (2*p47))) else (some p46)
def ft (N:Nat)(a1:Int)(p4:(List Lj))(p5:Int):Option (List Lj):=
 (bW N p4 p5 a1).bind fun y44=>bD N a1 N y44 20
def dZ (N:Nat)(a1:Int):Nat→(List Lj)→Int→Int→Option (List Lj)
 |0,_,_,_=>none
 |m6+1,p7,p8,p9=>bif decide (p9≤a1) then ((bW N p7 p8 p9).bind fun y11=>cV (bC (p9+20)) ((dZ N a1 m6) y11 p9 (p9+20))) else (ft N a1 p7 p8)
def fK (N:Nat)(a0:(List Lj))(a1:Int):Option (List Lj):=
 dZ N a1 N a0 0 20
set_option maxHeartbeats 4000000 in
theorem mf {N:Nat}{a0:(List Lj)}{a1:Int}{r:(List Lj)}(h:fK N a0 a1=some r):Okc Tryz.prog 207 [U A1 n1 c1,iV a1,.func (.func 161) #[] #[]] ([jh A1 n1 c1 a0]) (fun u post=>u=.tuple #[]∧post=[jh A1 n1 c1 r]):=by
 refine bB Tryz.func207 J J ?_;simp only [ba];refine W ?_;refine bc (fun s L=>(mg N a1 a0=some r∧s=[(0,U A1 n1 c1),(1,iV a1),(2,.func (.func 161) #[] #[]),(6,iV 20),(7,iV 0)]∧L=[jh A1 n1 c1 a0])∨(∃p4 p5,ft N a1 p4 p5=some r∧s=[(0,U A1 n1 c1),(1,iV a1),(2,.func (.func 161) #[] #[]),(6,iV 20),(7,iV p5)]∧L=[jh A1 n1 c1 p4])) ?_ ?_
 ·refine eT ?_;refine cv (fun m s L=> ∃p7 p8 p9,dZ N a1 m p7 p8 p9=some r∧s=[(0,U A1 n1 c1),(1,iV a1),(2,.func (.func 161) #[] #[]),(6,iV 20),(7,iV p8),(8,iV p9)]∧L=[jh A1 n1 c1 p7]) N _ _ ⟨a0,0,20,h,J,J⟩ sA (cS [0] 1) ?_;rintro (_|m6) _ _ ⟨p7,p8,p9,h,rfl,rfl⟩
  ·exact bq h
  rw [dZ.eq_2] at h;refine aB ?_;refine W ?_;refine av J (fun g10=> ?_) (fun g10=> ?_)
  ·replace h:=ad g10 h;refine W ?_;obtain ⟨y11,hy11,h⟩:=aa h;refine gD (aI (dT hy11) zJ J (aG [] [0] [] 1 J)) ?_;rintro _ _ ⟨_,⟨rfl,rfl⟩,rfl⟩;refine W ?_;obtain ⟨q12,h⟩:=aA h;refine gE (bF J J q12.1 q12.2) ?_;refine W ?_;exact ⟨m6,_,_,Lo _,⟨y11,p9,p9+20,h,J,J⟩,sA,cS [0] 1⟩
  replace h:=ae g10 h;refine W ?_;exact ⟨_,_,.inr (⟨p7,p8,h,J,J⟩),sA,cS [0] 1⟩
 rintro _ _ (⟨h,rfl,rfl⟩|⟨p4,p5,h,rfl,rfl⟩)
 ·refine W ?_;obtain ⟨y13,hy13,h⟩:=aa h;refine gD (aI (dT hy13) zJ J (aG [] [0] [] 1 J)) ?_;rintro _ _ ⟨_,⟨rfl,rfl⟩,rfl⟩;refine W ?_;refine cv (fun m s L=> ∃p15 p16,bO N a1 m p15 p16=some r∧s=[(0,U A1 n1 c1),(1,iV a1),(2,.func (.func 161) #[] #[]),(6,iV p16)]∧L=[jh A1 n1 c1 p15]) N _ _ ⟨y13,20,h,J,J⟩ sA (cS [0] 1) ?_;rintro (_|m14) _ _ ⟨p15,p16,h,rfl,rfl⟩
  ·exact bq h
  rw [bO.eq_2] at h;refine aB ?_;refine W ?_;refine av J (fun g17=> ?_) (fun g17=> ?_)
  ·replace h:=ad g17 h;refine W ?_;obtain ⟨q18,h⟩:=aA h;refine gE (nT J J q18.1 q18.2) ?_;refine W ?_;refine bc (fun s L=>(lN N (bO N a1 m14) a1 p16 p15=some r∧s=[(0,U A1 n1 c1),(1,iV a1),(2,.func (.func 161) #[] #[]),(6,iV p16),(7,iV 0)]∧L=[jh A1 n1 c1 p15])∨(∃p21 p22,ik N (bO N a1 m14) a1 p16 p21 p22=some r∧s=[(0,U A1 n1 c1),(1,iV a1),(2,.func (.func 161) #[] #[]),(6,iV p16),(7,iV p22)]∧L=[jh A1 n1 c1 p21])) ?_ ?_
   ·refine eT ?_;refine cv (fun m s L=> ∃p24 p25 p26,eX N (bO N a1 m14) a1 p16 m p24 p25 p26=some r∧s=[(0,U A1 n1 c1),(1,iV a1),(2,.func (.func 161) #[] #[]),(6,iV p16),(7,iV p25),(8,iV p26)]∧L=[jh A1 n1 c1 p24]) N _ _ ⟨p15,0,2*p16,h,J,J⟩ sA (cS [0] 1) ?_;rintro (_|m23) _ _ ⟨p24,p25,p26,h,rfl,rfl⟩
    ·exact bq h
    rw [eX.eq_2] at h;refine aB ?_;refine W ?_;refine av J (fun g27=> ?_) (fun g27=> ?_)
    ·replace h:=ad g27 h;refine W ?_;obtain ⟨q28,h⟩:=aA h;refine gE (bF J J q28.1 q28.2) ?_;refine W ?_;obtain ⟨y29,hy29,h⟩:=aa h;refine gD (aI (cz hy29) oI J (aG [] [0] [] 1 J)) ?_;rintro _ _ ⟨_,⟨rfl,rfl⟩,rfl⟩;refine bG ?_;refine W ?_;obtain ⟨q30,h⟩:=aA h;refine gE (nT J J q30.1 q30.2) ?_;obtain ⟨q31,h⟩:=aA h;refine gE (bF J J q31.1 q31.2) ?_;refine W ?_;exact ⟨m23,_,_,Lo _,⟨y29,p26,p26+(2*p16),h,J,J⟩,sA,cS [0] 1⟩
    replace h:=ae g27 h;refine W ?_;exact ⟨_,_,.inr (⟨p24,p25,h,J,J⟩),sA,cS [0] 1⟩
   rintro _ _ (⟨h,rfl,rfl⟩|⟨p21,p22,h,rfl,rfl⟩)
   ·refine bc (fun s L=> ∃p33,fb N (bO N a1 m14) a1 p16 p33=some r∧s=[(0,U A1 n1 c1),(1,iV a1),(2,.func (.func 161) #[] #[]),(6,iV p16)]∧L=[jh A1 n1 c1 p33]) ?_ ?_
    ·refine W ?_;obtain ⟨q34,h⟩:=aA h;refine gE (bF J J q34.1 q34.2) ?_;refine W ?_;refine av J (fun g35=> ?_) (fun g35=> ?_)
     ·replace h:=ad g35 h;refine W ?_;obtain ⟨y36,hy36,h⟩:=aa h;refine gD (aI (cz hy36) oI J (aG [] [0] [] 1 J)) ?_;rintro _ _ ⟨_,⟨rfl,rfl⟩,rfl⟩;refine W ?_;exact ⟨_,_,⟨y36,h,J,J⟩,sA,cS [0] 1⟩
     replace h:=ae g35 h;refine W ?_;exact ⟨_,_,⟨p15,h,J,J⟩,sA,cS [0] 1⟩
    rintro _ _ ⟨p33,h,rfl,rfl⟩;refine W ?_;obtain ⟨q37,h⟩:=aA h;refine gE (nT J J q37.1 q37.2) ?_;refine W ?_;exact ⟨m14,_,_,Lo _,⟨p33,p16*2,h,J,J⟩,sA,cS [0] 1⟩
   refine bc (fun s L=> ∃p39,fa N (bO N a1 m14) a1 p16 p39=some r∧s=[(0,U A1 n1 c1),(1,iV a1),(2,.func (.func 161) #[] #[]),(6,iV p16)]∧L=[jh A1 n1 c1 p39]) ?_ ?_
   ·refine W ?_;obtain ⟨q40,h⟩:=aA h;refine gE (bF J J q40.1 q40.2) ?_;refine W ?_;refine av J (fun g41=> ?_) (fun g41=> ?_)
    ·replace h:=ad g41 h;refine W ?_;obtain ⟨y42,hy42,h⟩:=aa h;refine gD (aI (cz hy42) oI J (aG [] [0] [] 1 J)) ?_;rintro _ _ ⟨_,⟨rfl,rfl⟩,rfl⟩;refine W ?_;exact ⟨_,_,⟨y42,h,J,J⟩,sA,cS [0] 1⟩
    replace h:=ae g41 h;refine W ?_;exact ⟨_,_,⟨p21,h,J,J⟩,sA,cS [0] 1⟩
   rintro _ _ ⟨p39,h,rfl,rfl⟩;refine W ?_;obtain ⟨q43,h⟩:=aA h;refine gE (nT J J q43.1 q43.2) ?_;refine W ?_;exact ⟨m14,_,_,Lo _,⟨p39,p16*2,h,J,J⟩,sA,cS [0] 1⟩
  replace h:=ae g17 h;refine W ?_;obtain rfl:=ao h;exact fW J (cS [0] 1) ⟨J,J⟩
 refine W ?_;obtain ⟨y44,hy44,h⟩:=aa h;refine gD (aI (dT hy44) zJ J (aG [] [0] [] 1 J)) ?_;rintro _ _ ⟨_,⟨rfl,rfl⟩,rfl⟩;refine bG ?_;refine W ?_;refine cv (fun m s L=> ∃p46 p47,bD N a1 m p46 p47=some r∧s=[(0,U A1 n1 c1),(1,iV a1),(2,.func (.func 161) #[] #[]),(6,iV p47)]∧L=[jh A1 n1 c1 p46]) N _ _ ⟨y44,20,h,J,J⟩ sA (cS [0] 1) ?_;rintro (_|m45) _ _ ⟨p46,p47,h,rfl,rfl⟩
 ·exact bq h
 rw [bD.eq_2] at h;refine aB ?_;refine W ?_;refine av J (fun g48=> ?_) (fun g48=> ?_)
 ·replace h:=ad g48 h;refine W ?_;obtain ⟨q49,h⟩:=aA h;refine gE (nT J J q49.1 q49.2) ?_;refine W ?_;refine bc (fun s L=>(lM N (bD N a1 m45) a1 p47 p46=some r∧s=[(0,U A1 n1 c1),(1,iV a1),(2,.func (.func 161) #[] #[]),(6,iV p47),(7,iV 0)]∧L=[jh A1 n1 c1 p46])∨(∃p52 p53,eZ N (bD N a1 m45) a1 p47 p52 p53=some r∧s=[(0,U A1 n1 c1),(1,iV a1),(2,.func (.func 161) #[] #[]),(6,iV p47),(7,iV p53)]∧L=[jh A1 n1 c1 p52])) ?_ ?_
  ·refine eT ?_;refine cv (fun m s L=> ∃p55 p56 p57,dQ N (bD N a1 m45) a1 p47 m p55 p56 p57=some r∧s=[(0,U A1 n1 c1),(1,iV a1),(2,.func (.func 161) #[] #[]),(6,iV p47),(7,iV p56),(8,iV p57)]∧L=[jh A1 n1 c1 p55]) N _ _ ⟨p46,0,2*p47,h,J,J⟩ sA (cS [0] 1) ?_;rintro (_|m54) _ _ ⟨p55,p56,p57,h,rfl,rfl⟩
   ·exact bq h
   rw [dQ.eq_2] at h;refine aB ?_;refine W ?_;refine av J (fun g58=> ?_) (fun g58=> ?_)
   ·replace h:=ad g58 h;refine W ?_;obtain ⟨q59,h⟩:=aA h;refine gE (bF J J q59.1 q59.2) ?_;refine W ?_;obtain ⟨y60,hy60,h⟩:=aa h;refine gD (aI (cz hy60) oI J (aG [] [0] [] 1 J)) ?_;rintro _ _ ⟨_,⟨rfl,rfl⟩,rfl⟩;refine W ?_;obtain ⟨q61,h⟩:=aA h;refine gE (nT J J q61.1 q61.2) ?_;obtain ⟨q62,h⟩:=aA h;refine gE (bF J J q62.1 q62.2) ?_;refine W ?_;exact ⟨m54,_,_,Lo _,⟨y60,p57,p57+(2*p47),h,J,J⟩,sA,cS [0] 1⟩
   replace h:=ae g58 h;refine W ?_;exact ⟨_,_,.inr (⟨p55,p56,h,J,J⟩),sA,cS [0] 1⟩
  rintro _ _ (⟨h,rfl,rfl⟩|⟨p52,p53,h,rfl,rfl⟩)
  ·refine bc (fun s L=> ∃p64,eY N (bD N a1 m45) a1 p47 p64=some r∧s=[(0,U A1 n1 c1),(1,iV a1),(2,.func (.func 161) #[] #[]),(6,iV p47)]∧L=[jh A1 n1 c1 p64]) ?_ ?_
   ·refine W ?_;obtain ⟨q65,h⟩:=aA h;refine gE (bF J J q65.1 q65.2) ?_;refine W ?_;refine av J (fun g66=> ?_) (fun g66=> ?_)
    ·replace h:=ad g66 h;refine W ?_;obtain ⟨y67,hy67,h⟩:=aa h;refine gD (aI (cz hy67) oI J (aG [] [0] [] 1 J)) ?_;rintro _ _ ⟨_,⟨rfl,rfl⟩,rfl⟩;refine W ?_;exact ⟨_,_,⟨y67,h,J,J⟩,sA,cS [0] 1⟩
    replace h:=ae g66 h;refine W ?_;exact ⟨_,_,⟨p46,h,J,J⟩,sA,cS [0] 1⟩
   rintro _ _ ⟨p64,h,rfl,rfl⟩;refine W ?_;obtain ⟨q68,h⟩:=aA h;refine gE (nT J J q68.1 q68.2) ?_;refine W ?_;exact ⟨m45,_,_,Lo _,⟨p64,p47*2,h,J,J⟩,sA,cS [0] 1⟩
  refine bc (fun s L=> ∃p70,dR N (bD N a1 m45) a1 p47 p70=some r∧s=[(0,U A1 n1 c1),(1,iV a1),(2,.func (.func 161) #[] #[]),(6,iV p47)]∧L=[jh A1 n1 c1 p70]) ?_ ?_
  ·refine W ?_;obtain ⟨q71,h⟩:=aA h;refine gE (bF J J q71.1 q71.2) ?_;refine W ?_;refine av J (fun g72=> ?_) (fun g72=> ?_)
   ·replace h:=ad g72 h;refine W ?_;obtain ⟨y73,hy73,h⟩:=aa h;refine gD (aI (cz hy73) oI J (aG [] [0] [] 1 J)) ?_;rintro _ _ ⟨_,⟨rfl,rfl⟩,rfl⟩;refine bG ?_;refine W ?_;exact ⟨_,_,⟨y73,h,J,J⟩,sA,cS [0] 1⟩
   replace h:=ae g72 h;refine W ?_;exact ⟨_,_,⟨p52,h,J,J⟩,sA,cS [0] 1⟩
  rintro _ _ ⟨p70,h,rfl,rfl⟩;refine W ?_;obtain ⟨q74,h⟩:=aA h;refine gE (nT J J q74.1 q74.2) ?_;refine W ?_;exact ⟨m45,_,_,Lo _,⟨p70,p47*2,h,J,J⟩,sA,cS [0] 1⟩
 replace h:=ae g48 h;refine W ?_;obtain rfl:=ao h;exact fW J (cS [0] 1) ⟨J,J⟩
def d3 (N:Nat)(a0:(List Lj)):Option (List Lj):=
 (fK N a0 (a0.length:Int)).bind fun y2=>some y2
theorem lO {N:Nat}{a0:(List Lj)}{r:(List Lj)}(h:d3 N a0=some r):Okc Tryz.prog 160 [U A1 n1 c1,.func (.func 161) #[] #[]] ([jh A1 n1 c1 a0]) (fun u post=>u=.tuple #[]∧post=[jh A1 n1 c1 r]):=by
 refine bB Tryz.func160 J J ?_;simp only [ba];refine W ?_;refine gR (bJ 0 J aC J KR) ?_;refine W ?_;obtain ⟨y2,hy2,h⟩:=aa h;refine gD (aI (mf hy2) Hl J (aG [] [0] [] 1 J)) ?_;rintro _ _ ⟨_,⟨rfl,rfl⟩,rfl⟩;refine kM ?_;obtain rfl:=ao h;exact fW J (cS [0] 1) ⟨J,J⟩
def pH (N:Nat)(p3:(List Lj)):Option (List Lj):=
 (d3 N p3).bind fun y19=>some y19
def ng (N:Nat)(kb4:(List Lj)→Int→Option (List Lj))(a0:(List Lj))(p6:Int)(p10:(List Lj)):Option (List Lj):=
 cV (bC (p6+1)) (kb4 p10 (p6+1))
def jI (N:Nat)(a0:(List Lj)):Nat→(List Lj)→Int→Option (List Lj)
 |0,_,_=>none
 |m4+1,p5,p6=>bif decide (p6<(a0.length:Int)) then ((bE a0 p6).bind fun x11=>(cW N x11).bind fun y13=>bif y13 then (cV (gv (p5.length+([x11]:List Lj).length)) (ng N (jI N a0 m4) a0 p6 (p5++([x11]:List Lj)))) else (ng N (jI N a0 m4) a0 p6 p5)) else (pH N p5)
def ga (N:Nat)(a0:(List Lj)):Option (List Lj):=
 jI N a0 N [] 0
theorem sV {N:Nat}{a0:(List Lj)}{r:(List Lj)}(h:ga N a0=some r):Okc Tryz.prog 106 [U A1 n1 c1] ([kS jP (U A1 n1 c1) a0]) (fun u post=> ∃A0 n0 c0,u=U A0 n0 c0∧post=[jh A0 n0 c0 r]):=by
 refine bB Tryz.func106 J J ?_;simp only [ba];refine W ?_;refine bc (fun s L=> ∃p3 A3 n3 c3,pH N p3=some r∧s=[(2,U none 0 0),(3,U A3 n3 c3)]∧L=[jh A3 n3 c3 p3]) ?_ ?_
 ·refine W ?_;refine gR (bJ 0 J aQ J KR) ?_;refine W ?_;refine cv (fun m s L=> ∃p5 p6 A5 n5 c5,jI N a0 m p5 p6=some r∧s=[(2,U none 0 0),(3,U A5 n5 c5),(6,U A1 n1 c1),(7,iV (a0.length:Int)),(8,iV p6)]∧L=[jh A5 n5 c5 p5,kS jP (U A1 n1 c1) a0]) N _ _ ⟨[],0,none,0,0,h,J,J⟩ sA ((gy jP 24 _).trans (cS [0,1] 2)) ?_;rintro (_|m4) _ _ ⟨p5,p6,A5,n5,c5,h,rfl,rfl⟩
  ·exact bq h
  rw [jI.eq_2] at h;refine W ?_;refine aB ?_;refine av J (fun g8=> ?_) (fun g8=> ?_)
  ·replace h:=ad g8 h;refine W ?_;refine bc (fun s L=> ∃p10 A10 n10 c10,ng N (jI N a0 m4) a0 p6 p10=some r∧s=[(2,U none 0 0),(3,U A10 n10 c10),(6,U A1 n1 c1),(7,iV (a0.length:Int)),(8,iV p6)]∧L=[jh A10 n10 c10 p10,kS jP (U A1 n1 c1) a0]) ?_ ?_
   ·refine W ?_;obtain ⟨x11,hx11,h⟩:=aa h;obtain ⟨lx11,ux11,hx11⟩:=aJ hx11;refine gR (bn 1 J aQ J J KR cY lx11 ux11) ?_;refine gR (br (us:=[iV x11.Kind,iV x11.N,.string x11.S]) 1 J aQ J hx11 bI (fun _ _ _ h=>by rw [show _=_ from h];rfl)) ?_;refine gD (aM vB J) ?_;rintro _ _ ⟨B12,rfl,rfl⟩;refine gO (aw (us:=[iV x11.Kind,iV x11.N,.string x11.S]) (cs':=[iV x11.Kind,iV x11.N,.string x11.S]) 0 J J J J cY J J J) ?_;rintro _ _ rfl;refine W ?_;refine gR (aj (us:=[iV x11.Kind,iV x11.N,.string x11.S]) 0 J J bI J) ?_;obtain ⟨y13,hy13,h⟩:=aa h;refine gD (ap (jH hy13) t3 J (ai) iq) ?_;rintro _ _ ⟨_,⟨rfl,rfl⟩,rfl⟩;refine W ?_;refine av J (fun g14=> ?_) (fun g14=> ?_)
    ·replace h:=ad g14 h;refine W ?_;refine gR (aj (us:=[iV x11.Kind,iV x11.N,.string x11.S]) 0 J J bI J) ?_;refine gD (ce (R:=jP) (vss:=[[iV x11.Kind,iV x11.N,.string x11.S]]) (xs:=[x11]) J (qU _ _ _) J J (fun _ _ hr=> .cons J All2.nil)) ?_;rintro _ _ ⟨A15,n15,c15,rfl,rfl⟩;obtain ⟨q16,h⟩:=aA h;refine gD (ew 2 0 J J aC J J KR Es J J q16) ?_;rintro _ _ ⟨A17,n17,c17,rfl,rfl⟩;refine W ?_;exact ⟨_,_,⟨p5++([x11]:List Lj),A17,n17,c17,h,J,J⟩,sA,cS [2,3] 4⟩
    replace h:=ae g14 h;refine W ?_;exact ⟨_,_,⟨p5,A5,n5,c5,h,J,J⟩,sA,cS [1,2] 3⟩
   rintro _ _ ⟨p10,A10,n10,c10,h,rfl,rfl⟩;refine fR ?_;obtain ⟨q18,h⟩:=aA h;refine gE (bF J J q18.1 q18.2) ?_;refine W ?_;exact ⟨m4,_,_,Lo _,⟨p10,p6+1,A10,n10,c10,h,J,J⟩,sA,cS [0,1] 2⟩
  replace h:=ae g8 h;refine W ?_;exact ⟨_,_,⟨p5,A5,n5,c5,h,J,J⟩,sA,cS [0] 2⟩
 rintro _ _ ⟨p3,A3,n3,c3,h,rfl,rfl⟩;refine W ?_;obtain ⟨y19,hy19,h⟩:=aa h;refine gD (aI (lO hy19) Hu J (aG [] [0] [] 1 J)) ?_;rintro _ _ ⟨_,⟨rfl,rfl⟩,rfl⟩;refine bG ?_;refine W ?_;obtain rfl:=ao h;exact aO J J (cS [0] 1) ⟨_,_,_,J,J⟩
theorem qF {r:(List Lj)}: ∀v post,((fun (u:Value) (post:List Chunk)=> ∃A0 n0 c0,u=U A0 n0 c0∧post=[jh A0 n0 c0 r])) v post→ ∀c∈post,cF c:=by
 rintro _ _ ⟨_,_,_,rfl,rfl⟩;exact hJ fz (ai)
def nX (N:Nat)(a0:K2)(p37:(List Lj)):Option (List Lj):=
 (ga N p37).bind fun y50=>some y50
def lz (N:Nat)(y38:((List K4)))(a0:K2):Nat→Int→(List Lj)→Option (List Lj)
 |0,_,_=>none
 |m40+1,p41,p42=>bif decide (p41<(y38.length:Int)) then ((bE y38 p41).bind fun x44=>cV (gv (p42.length+([x44.Key]:List Lj).length)) (cV (bC (p41+1)) ((lz N y38 a0 m40) (p41+1) (p42++([x44.Key]:List Lj))))) else (nX N a0 p42)
def fD (N:Nat)(a0:K2)(a1:Lf)(x25:Int×Lf):((List Lj))→Option (Option Exit×(List Lj))
 |p26=>cV (gv (p26.length+([(⟨0,x25.1,⟨#[]⟩⟩:Lj)]:List Lj).length)) (some (none,p26++([(⟨0,x25.1,⟨#[]⟩⟩:Lj)]:List Lj)))
def fX (N:Nat)(a0:K2)(a1:Lf):Option (List Lj):=
 (dB N a0 a1).bind fun y16=>bif !y16.2 then (some []) else ((jO N y16.1).bind fun y23=>(jV N y16.1 (iP (fun x st=>fD N a0 a1 x st)) (none,[])).bind fun y27=>uy y27.1 ((dc N).bind fun y32=>cV (gv (y27.2.length+([y32]:List Lj).length)) ((gj N a0 a1).bind fun y38=>lz N y38 a0 N 0 (y27.2++([y32]:List Lj)))) none (fun _=>none))
set_option maxHeartbeats 4000000 in
theorem oY {N:Nat}{a0:K2}{a1:Lf}{r:(List Lj)}(h:fX N a0 a1=some r):Okc Tryz.prog 30 [pV B1 0,(bQ a1)] ([bw A12 n12 c12 a0.symbols_,dr A13 n13 c13 a0.events_,bw A14 n14 c14 a0.out_,bd 0 30 [iV 8,iV 0,.string (⟨#[]⟩:ByteArray)],al B1 151 (fE a0 B2 B9 A12 n12 c12 A13 n13 c13 A14 n14 c14),al B2 199 [U A3 n3 c3,U A4 n4 c4,U A5 n5 c5,U A6 n6 c6,pV B7 0],bL A3 n3 c3 a0.heap_.m_.Young,bL A4 n4 c4 a0.heap_.m_.Old,bh A5 n5 c5 a0.heap_.roots_,bh A6 n6 c6 a0.heap_.pending_,al B7 247 [.map (some M8)],aP dG dL M8 a0.heap_.set_.at_,al B9 205 [U A10 n10 c10,.map (some M11)],d6 A10 n10 c10 a0.shapes_.shapes_,aP aL dE M11 a0.shapes_.next_]) (fun u post=> ∃A500 n500 c500,u=U A500 n500 c500∧post=[jh A500 n500 c500 r,al B1 151 (fE a0 B2 B9 A12 n12 c12 A13 n13 c13 A14 n14 c14),al B2 199 [U A3 n3 c3,U A4 n4 c4,U A5 n5 c5,U A6 n6 c6,pV B7 0],bL A3 n3 c3 a0.heap_.m_.Young,bL A4 n4 c4 a0.heap_.m_.Old,bh A5 n5 c5 a0.heap_.roots_,bh A6 n6 c6 a0.heap_.pending_,al B7 247 [.map (some M8)],aP dG dL M8 a0.heap_.set_.at_,al B9 205 [U A10 n10 c10,.map (some M11)],d6 A10 n10 c10 a0.shapes_.shapes_,aP aL dE M11 a0.shapes_.next_]):=by
 refine bB Tryz.func30 J J ?_;simp only [ba];refine W ?_;refine gD (aT J J) ?_;rintro _ _ ⟨B15,rfl,rfl⟩;refine W ?_;refine gR (aj (us:=aE a1) 0 J J aN J) ?_;obtain ⟨y16,hy16,h⟩:=aa h;refine gD (ap (fo hy16) pM J (hJ (az (i:=5) J) (hJ (az (i:=6) J) (hJ (ar (i:=7) J) (hJ (ar (i:=8) J) (hJ (ar (i:=9) J) (hJ (ar (i:=10) J) (hJ (az (i:=11) J) (hJ (aU (i:=12) J) (hJ (az (i:=13) J) (hJ (ar (i:=14) J) (hJ (aU (i:=15) J) (hJ (aq (i:=1) J J) (hJ (aq (i:=2) J J) (hJ (aq (i:=3) J J) ai)))))))))))))) ei) ?_;rintro _ _ ⟨_,⟨A17,n17,c17,A18,n18,c18,rfl,rfl⟩,rfl⟩;refine W ?_;refine gD (aM gC J) ?_;rintro _ _ ⟨B19,rfl,rfl⟩;refine gO (aw (us:=[iV y16.1.Kind,iV y16.1.Shape,iV y16.1.Flags,iV y16.1.Age,U A17 n17 c17,U A18 n18 c18]) (cs':=[iV y16.1.Kind,iV y16.1.Shape,iV y16.1.Flags,iV y16.1.Age,U A17 n17 c17,U A18 n18 c18]) 0 J J J J dq J J J) ?_;rintro _ _ rfl;refine W ?_;refine aB ?_;refine W ?_;refine av J (fun g20=> ?_) (fun g20=> ?_)
 ·replace h:=ad g20 h;refine W ?_;obtain rfl:=ao h;exact aO J J ((gy jP 24 _).trans (cS [0,9,10,11,12,13,14,15,16,17,18,19] 20)) ⟨_,_,_,J,J⟩
 replace h:=ae g20 h;refine W ?_;refine gD (aM Io J) ?_;rintro _ _ ⟨B22,rfl,rfl⟩;refine W ?_;refine aB ?_;refine W ?_;refine gR (aj (us:=[iV y16.1.Kind,iV y16.1.Shape,iV y16.1.Flags,iV y16.1.Age,U A17 n17 c17,U A18 n18 c18]) 1 J J cb J) ?_;obtain ⟨y23,hy23,h⟩:=aa h;refine gD (ap (tr hy23) HJ J (hJ (ar (i:=2) J) (hJ (ar (i:=3) J) (hJ (aq (i:=8) J J) ai))) rI) ?_;rintro _ _ ⟨_,⟨B24,rfl,rfl⟩,rfl⟩;refine kM ?_;refine d8 ?_;refine jf ?_ cj (pp 0 J);refine jf ?_ cj (cQ 3 J);refine Eu ?_;refine jf ?_ cj (cQ 4 J);obtain ⟨y27,hy27,h⟩:=aa h
 refine xi (en:=(fun x=> [iV x.1,.agg #[iV x.2.Kind,iV x.2.N,.string x.2.S]])) (fun x st=>fD N a0 a1 x st) (fun (st:(List Lj)) (mz:((Option Addr×Nat×Nat)))=> [bw A12 n12 c12 a0.symbols_,dr A13 n13 c13 a0.events_,bw A14 n14 c14 a0.out_,al B1 151 (fE a0 B2 B9 A12 n12 c12 A13 n13 c13 A14 n14 c14),al B15 30 (aE a1),dn jP 24 (.slice mz.1 mz.2.1 mz.2.2) st,al B22 67 [.slice mz.1 mz.2.1 mz.2.2],bd 0 30 [iV 8,iV 0,.string (⟨#[]⟩:ByteArray)],bL A3 n3 c3 a0.heap_.m_.Young,bL A4 n4 c4 a0.heap_.m_.Old,bh A5 n5 c5 a0.heap_.roots_,bh A6 n6 c6 a0.heap_.pending_,al B2 199 [U A3 n3 c3,U A4 n4 c4,U A5 n5 c5,U A6 n6 c6,pV B7 0],d6 A10 n10 c10 a0.shapes_.shapes_,aP aL dE M11 a0.shapes_.next_,al B9 205 [U A10 n10 c10,.map (some M11)],aP dG dL M8 a0.heap_.set_.at_,al B7 247 [.map (some M8)]]) [bd B24 138 [iV y16.1.Kind,iV y16.1.Shape,iV y16.1.Flags,iV y16.1.Age,U A17 n17 c17,U A18 n18 c18],dK A17 n17 c17 y16.1.Slots,dK A18 n18 c18 y16.1.More,bd 0 30 [iV 8,iV 0,.string (⟨#[]⟩:ByteArray)]] ([]) ((none,0,0)) J J Hw J (fun _=>J) (fun l G hY=>(qX hy27 hY).mono fun _ _ hh=>hh.2) ((gy jP 24 _).trans (aG [1,4,5,10] [] [7,8,9,11,6,0,2,10,13,14,15,16,12,20,21,19,18,17] 22 J)) h ?_ ?_ ?_ ?_
 ·rintro l x25 p26 je sr25 ⟨A26,n26,c26⟩ h;replace h:fD N a0 a1 x25 p26=some (je,sr25):=h;simp only [xF,List.zip_cons_cons,List.zip_nil_left,List.zip_nil_right,List.reverse_cons,List.reverse_nil,List.nil_append,List.cons_append];refine W ?_;refine gE (bg J (wY _ _)) ?_;refine gD (ce (R:=jP) (vss:=[[iV 0,iV x25.1,.string (⟨#[]⟩)]]) (xs:=[(⟨0,x25.1,⟨#[]⟩⟩:Lj)]) J (qU _ _ _) J J (fun _ _ hr=> .cons J All2.nil)) ?_;rintro _ _ ⟨A29,n29,c29,rfl,rfl⟩;obtain ⟨q30,h⟩:=aA h;refine gD (ew 6 0 J J aC J J KR Es J J q30) ?_;rintro _ _ ⟨A31,n31,c31,rfl,rfl⟩;refine gO (aw (us:=[U A31 n31 c31]) (cs':=[U A31 n31 c31]) 7 J J J J BG J J J) ?_;rintro _ _ rfl;refine bG ?_;refine W ?_;obtain ⟨rfl,rfl⟩:=Prod.mk.inj (Option.some.inj h);exact FS ((cS [1,2,3,4,5,6,7,8,9,10,11,12,13,14,15,16,17,18] 19).trans (kj (A31,n31,c31) J))
 ·rintro ⟨A26,n26,c26⟩ h;refine rB ([bw A12 n12 c12 a0.symbols_,dr A13 n13 c13 a0.events_,bw A14 n14 c14 a0.out_,al B1 151 (fE a0 B2 B9 A12 n12 c12 A13 n13 c13 A14 n14 c14),al B15 30 (aE a1),jh A26 n26 c26 y27.2,al B22 67 [U A26 n26 c26],bd 0 30 [iV 8,iV 0,.string (⟨#[]⟩:ByteArray)],bL A3 n3 c3 a0.heap_.m_.Young,bL A4 n4 c4 a0.heap_.m_.Old,bh A5 n5 c5 a0.heap_.roots_,bh A6 n6 c6 a0.heap_.pending_,al B2 199 [U A3 n3 c3,U A4 n4 c4,U A5 n5 c5,U A6 n6 c6,pV B7 0],d6 A10 n10 c10 a0.shapes_.shapes_,aP aL dE M11 a0.shapes_.next_,al B9 205 [U A10 n10 c10,.map (some M11)],aP dG dL M8 a0.heap_.set_.at_,al B7 247 [.map (some M8)]]) J ?_;refine W ?_;refine aB ?_;refine bx O _ (ac _) ?_;refine zR 0 J (aW 6 J J H5 J) ?_;obtain ⟨y32,hy32,h⟩:=aa h;refine zD 1 J (ap (gm hy32) wR J (ai) fB) ?_;rintro _ _ ⟨_,⟨rfl,rfl⟩,rfl⟩;refine ⟨_,ac _,ac _,?_⟩;refine zD 2 J (ce (R:=jP) (vss:=[[iV y32.Kind,iV y32.N,.string y32.S]]) (xs:=[y32]) J (qU _ _ _) J J (fun _ _ hr=> .cons J All2.nil)) ?_;rintro _ _ ⟨A33,n33,c33,rfl,rfl⟩;refine cZ (cS [1,2,3,4,5,6,7,8,9,10,11,12,13,14,15,16,17,18] 19) ?_;obtain ⟨q34,h⟩:=aA h;refine Aa 3 J O O (ew 6 0 J J aC J J KR Es J J q34) ?_;rintro _ _ ⟨A35,n35,c35,rfl,rfl⟩;refine bZ ?_;refine oL 4 J O O (aw (us:=[U A35 n35 c35]) (cs':=[U A35 n35 c35]) 7 J J J J BG J J J) ?_;rintro _ _ rfl;refine bZ ?_
  refine bj O ?_;refine d8 ?_;refine bc (fun s L=> ∃p37 A37 n37 c37,nX N a0 p37=some r∧s=[(4,U none 0 0),(7,pV B22 0)]∧L=[jh A37 n37 c37 p37,al B22 67 [U A37 n37 c37],bd 0 30 [iV 8,iV 0,.string (⟨#[]⟩:ByteArray)],bw A12 n12 c12 a0.symbols_,dr A13 n13 c13 a0.events_,bw A14 n14 c14 a0.out_,al B1 151 (fE a0 B2 B9 A12 n12 c12 A13 n13 c13 A14 n14 c14),bL A3 n3 c3 a0.heap_.m_.Young,bL A4 n4 c4 a0.heap_.m_.Old,bh A5 n5 c5 a0.heap_.roots_,bh A6 n6 c6 a0.heap_.pending_,al B2 199 [U A3 n3 c3,U A4 n4 c4,U A5 n5 c5,U A6 n6 c6,pV B7 0],d6 A10 n10 c10 a0.shapes_.shapes_,aP aL dE M11 a0.shapes_.next_,al B9 205 [U A10 n10 c10,.map (some M11)],aP dG dL M8 a0.heap_.set_.at_,al B7 247 [.map (some M8)]]) ?_ ?_
  ·refine W ?_;refine gR (aj (us:=aE a1) 5 J J aN J) ?_;obtain ⟨y38,hy38,h⟩:=aa h;refine gD (aI (ko hy38) vz J (aG [1,2,3] [4,13,9,10,11,12,18,17,16,14,15] [0,1,2,3,5,6,7,8] 19 J)) ?_;rintro _ _ ⟨_,⟨A39,n39,c39,rfl,rfl⟩,rfl⟩;refine gR (bJ 0 J aC J KS) ?_;refine W ?_;refine cv (fun m s L=> ∃p41 p42 A42 n42 c42,lz N y38 a0 m p41 p42=some r∧s=[(4,U none 0 0),(7,pV B22 0),(34,U A39 n39 c39),(35,iV (y38.length:Int)),(36,iV p41)]∧L=[dn mB 42 (U A39 n39 c39) y38,jh A42 n42 c42 p42,al B22 67 [U A42 n42 c42],bd 0 30 [iV 8,iV 0,.string (⟨#[]⟩:ByteArray)],bw A12 n12 c12 a0.symbols_,dr A13 n13 c13 a0.events_,bw A14 n14 c14 a0.out_,al B1 151 (fE a0 B2 B9 A12 n12 c12 A13 n13 c13 A14 n14 c14),bL A3 n3 c3 a0.heap_.m_.Young,bL A4 n4 c4 a0.heap_.m_.Old,bh A5 n5 c5 a0.heap_.roots_,bh A6 n6 c6 a0.heap_.pending_,al B2 199 [U A3 n3 c3,U A4 n4 c4,U A5 n5 c5,U A6 n6 c6,pV B7 0],d6 A10 n10 c10 a0.shapes_.shapes_,aP aL dE M11 a0.shapes_.next_,al B9 205 [U A10 n10 c10,.map (some M11)],aP dG dL M8 a0.heap_.set_.at_,al B7 247 [.map (some M8)]]) N _ _ ⟨0,y27.2++([y32]:List Lj),A35,n35,c35,h,J,J⟩ sA (cS [0,17,18,19,13,14,15,1,3,4,5,6,2,10,11,9,8,7] 20) ?_;rintro (_|m40) _ _ ⟨p41,p42,A42,n42,c42,h,rfl,rfl⟩
   ·exact bq h
   rw [lz.eq_2] at h;refine W ?_;refine aB ?_;refine av J (fun g43=> ?_) (fun g43=> ?_)
   ·replace h:=ad g43 h;refine W ?_;refine aB ?_;refine W ?_;obtain ⟨x44,hx44,h⟩:=aa h;obtain ⟨lx44,ux44,hx44⟩:=aJ hx44;refine gR (bn 0 J aC J J KS dh lx44 ux44) ?_;refine gR (br (us:=bm x44) 0 J aC J hx44 eM (fun _ _ _ h=>by rw [show _=_ from h];rfl)) ?_;refine gD (aM fq J) ?_;rintro _ _ ⟨B45,rfl,rfl⟩;refine gO (aw (us:=bm x44) (cs':=bm x44) 0 J J J J dh J J J) ?_;rintro _ _ rfl;refine W ?_;refine gR (aj (us:=cn x44.Key) 0 J J bI J) ?_;refine gD (ce (R:=jP) (vss:=[(cn x44.Key)]) (xs:=[x44.Key]) J (qU _ _ _) J J (fun _ _ hr=> .cons J All2.nil)) ?_;rintro _ _ ⟨A46,n46,c46,rfl,rfl⟩;obtain ⟨q47,h⟩:=aA h;refine gD (ew 3 0 J J aC J J KR Es J J q47) ?_;rintro _ _ ⟨A48,n48,c48,rfl,rfl⟩;refine bG ?_;refine gO (aw (us:=[U A48 n48 c48]) (cs':=[U A48 n48 c48]) 4 J J J J BG J J J) ?_;rintro _ _ rfl;refine W ?_;obtain ⟨q49,h⟩:=aA h;refine gE (bF J J q49.1 q49.2) ?_;refine W ?_;exact ⟨m40,_,_,Lo _,⟨p41+1,p42++([x44.Key]:List Lj),A48,n48,c48,h,J,J⟩,sA,cS [2,3,4,5,6,7,8,9,10,11,12,13,14,15,16,17,18,19] 20⟩
   replace h:=ae g43 h;refine W ?_;exact ⟨_,_,⟨p42,A42,n42,c42,h,J,J⟩,sA,cS [1,2,3,4,5,6,7,8,9,10,11,12,13,14,15,16,17] 18⟩
  rintro _ _ ⟨p37,A37,n37,c37,h,rfl,rfl⟩;refine W ?_;obtain ⟨y50,hy50,h⟩:=aa h;refine gD (ap (sV hy50) Dw J (hJ (ar (i:=0) J) ai) qF) ?_;rintro _ _ ⟨_,⟨A51,n51,c51,rfl,rfl⟩,rfl⟩;refine W ?_;obtain rfl:=ao h;exact aO J J (cS [0,7,12,8,9,10,11,17,16,15,13,14] 18) ⟨_,_,_,J,J⟩
 ·rintro ⟨A26,n26,c26⟩ h;exact bq h
 rintro i ⟨A26,n26,c26⟩ h;exact bq h
def t6 (N:Nat)(p23:(List Lj)):Option (List Lj):=
 (ga N p23).bind fun y36=>some y36
def pz (N:Nat)(y24:((List K4))):Nat→Int→(List Lj)→Option (List Lj)
 |0,_,_=>none
 |m26+1,p27,p28=>bif decide (p27<(y24.length:Int)) then ((bE y24 p27).bind fun x30=>cV (gv (p28.length+([x30.Key]:List Lj).length)) (cV (bC (p27+1)) ((pz N y24 m26) (p27+1) (p28++([x30.Key]:List Lj))))) else (t6 N p28)
def t7 (N:Nat)(a1:Lf)(x11:Int×Lf):((List Lj))→Option (Option Exit×(List Lj))
 |p12=>cV (gv (p12.length+([(⟨0,x11.1,⟨#[]⟩⟩:Lj)]:List Lj).length)) (some (none,p12++([(⟨0,x11.1,⟨#[]⟩⟩:Lj)]:List Lj)))
def xf (N:Nat)(a1:Lf):Option (List Lj):=
 (jz N a1).bind fun y2=>bif !y2.2 then (some []) else ((jO N y2.1).bind fun y9=>(jV N y2.1 (iP (fun x st=>t7 N a1 x st)) (none,[])).bind fun y13=>uy y13.1 ((dc N).bind fun y18=>cV (gv (y13.2.length+([y18]:List Lj).length)) ((lQ N a1).bind fun y24=>pz N y24 N 0 (y13.2++([y18]:List Lj)))) none (fun _=>none))
def kH (N:Nat)(a0:Int):Option Lj:=
 some (⟨0,a0,⟨#[]⟩⟩:Lj)
theorem kP {N:Nat}{a0:Int}{r:Lj}(h:kH N a0=some r):Okc Tryz.prog 93 [iV a0] ([]) (fun u post=>u=(gk r)∧post=[]):=by
 refine bB Tryz.func93 J J ?_;simp only [ba];refine W ?_;refine gD (aM vB J) ?_;rintro _ _ ⟨B1,rfl,rfl⟩;refine W ?_;refine gE (bg J (wY _ _)) ?_;refine gO (aw (us:=[iV 0,iV a0,.string (⟨#[]⟩)]) (cs':=[iV 0,iV a0,.string (⟨#[]⟩)]) 0 J J J J cY J J J) ?_;rintro _ _ rfl;refine W ?_;obtain rfl:=ao h;exact cG (rs:=[.cell 2 24]) (vs:=[.agg #[iV 0,iV a0,.string (⟨#[]⟩)]]) J (.cons (bA 0 J J bI) .nil) J (cS [] 1) ⟨J,J⟩
theorem ji {r:Lj}: ∀v post,((fun (u:Value) (post:List Chunk)=>u=(gk r)∧post=[])) v post→ ∀c∈post,cF c:=by
 rintro _ _ ⟨rfl,rfl⟩;exact ai
def mY (N:Nat):Option Lj:=
 some (⟨1,0,(⟨#[108,101,110,103,116,104]⟩:ByteArray)⟩:Lj)
theorem oN {N:Nat}{r:Lj}(h:mY N=some r):Okc Tryz.prog 36 [] ([]) (fun u post=>u=(gk r)∧post=[]):=by
 refine bB Tryz.func36 J J ?_;simp only [ba];refine W ?_;refine gD (aM vB J) ?_;rintro _ _ ⟨B1,rfl,rfl⟩;refine W ?_;refine gE (bg J (wX _ _)) ?_;refine gO (aw (us:=[iV 1,iV 0,.string (⟨#[108,101,110,103,116,104]⟩:ByteArray)]) (cs':=[iV 1,iV 0,.string (⟨#[108,101,110,103,116,104]⟩:ByteArray)]) 0 J J J J cY J J J) ?_;rintro _ _ rfl;refine W ?_;obtain rfl:=ao h;exact cG (rs:=[.cell 0 24]) (vs:=[.agg #[iV 1,iV 0,.string (⟨#[108,101,110,103,116,104]⟩:ByteArray)]]) J (.cons (bA 0 J J bI) .nil) J (cS [] 1) ⟨J,J⟩
theorem mC {r:Lj}: ∀v post,((fun (u:Value) (post:List Chunk)=>u=(gk r)∧post=[])) v post→ ∀c∈post,cF c:=by
 rintro _ _ ⟨rfl,rfl⟩;exact ai
def ul (N:Nat):Option Bool:=
 some true
def qE (N:Nat)(a0:(List Lj))(a1:(List Lj)):Nat→Int→Option Bool
 |0,_=>none
 |m5+1,p6=>bif decide (p6<(a0.length:Int)) then ((bE a0 p6).bind fun x8=>(bE a1 p6).bind fun x9=>bif !decide (x8=x9) then (some false) else (cV (bC (p6+1)) ((qE N a0 a1 m5) (p6+1)))) else (ul N)
def sf (N:Nat)(a0:(List Lj))(a1:(List Lj)):Option Bool:=
 bif !decide ((a0.length:Int)=(a1.length:Int)) then (some false) else (qE N a0 a1 N 0)
theorem uk {N:Nat}{a0:(List Lj)}{a1:(List Lj)}{r:Bool}(h:sf N a0 a1=some r):Okc Tryz.prog 59 [U A1 n1 c1,U A2 n2 c2] ([kS jP (U A1 n1 c1) a0,kS jP (U A2 n2 c2) a1]) (fun u post=>u=.bool r∧post=[]):=by
 refine bB Tryz.func59 J J ?_;simp only [ba];refine W ?_;refine aB ?_;refine W ?_;refine gR (bJ 0 J aQ J KR) ?_;refine W ?_;refine gR (bJ 1 J aQ J KR) ?_;refine W ?_;refine av J (fun g3=> ?_) (fun g3=> ?_)
 ·replace h:=ad g3 h;refine W ?_;obtain rfl:=ao h;exact aO J J (cS [] 2) ⟨J,J⟩
 replace h:=ae g3 h;refine W ?_;refine bc (fun s L=>ul N=some r∧s=[(4,.bool false)]∧L=[]) ?_ ?_
 ·refine W ?_;refine cv (fun m s L=> ∃p6,qE N a0 a1 m p6=some r∧s=[(0,U A1 n1 c1),(1,U A2 n2 c2),(4,.bool false),(5,iV p6)]∧L=[kS jP (U A1 n1 c1) a0,kS jP (U A2 n2 c2) a1]) N _ _ ⟨0,h,J,J⟩ sA (cS [0,1] 2) ?_;rintro (_|m5) _ _ ⟨p6,h,rfl,rfl⟩
  ·exact bq h
  rw [qE.eq_2] at h;refine aB ?_;refine W ?_;refine gR (bJ 0 J aQ J KR) ?_;refine W ?_;refine av J (fun g7=> ?_) (fun g7=> ?_)
  ·replace h:=ad g7 h;refine W ?_;refine aB ?_;refine eT ?_;refine aB ?_;refine bx O _ (ac _) ?_;refine zE 0 J (au J) ?_;refine zE 1 J (au J) ?_;obtain ⟨x8,hx8,h⟩:=aa h;obtain ⟨lx8,ux8,hx8⟩:=aJ hx8;refine zR 2 J (bn 0 J aQ J J KR cY lx8 ux8) ?_;refine zR 3 J (br (us:=[iV x8.Kind,iV x8.N,.string x8.S]) 0 J aQ J hx8 bI (fun _ _ _ h=>by rw [show _=_ from h];rfl)) ?_;refine zE 4 J (au J) ?_;refine zE 5 J (au J) ?_;obtain ⟨x9,hx9,h⟩:=aa h;obtain ⟨lx9,ux9,hx9⟩:=aJ hx9;refine zR 6 J (bn 1 J aQ J J KR cY lx9 ux9) ?_;refine zR 7 J (br (us:=[iV x9.Kind,iV x9.N,.string x9.S]) 1 J aQ J hx9 bI (fun _ _ _ h=>by rw [show _=_ from h];rfl)) ?_;refine zE 8 J (D9 (x:=x8) (y:=x9) J J) ?_;refine bj O ?_;refine d8 ?_;refine av J (fun g10=> ?_) (fun g10=> ?_)
   ·replace h:=ad g10 h;refine W ?_;obtain rfl:=ao h;exact aO J J (cS [] 2) ⟨J,J⟩
   replace h:=ae g10 h;refine W ?_;obtain ⟨q11,h⟩:=aA h;refine gE (bF J J q11.1 q11.2) ?_;refine W ?_;exact ⟨m5,_,_,Lo _,⟨p6+1,h,J,J⟩,sA,cS [0,1] 2⟩
  replace h:=ae g7 h;refine W ?_;exact ⟨_,_,⟨h,J,J⟩,sA,cS [] 2⟩
 rintro _ _ ⟨h,rfl,rfl⟩;refine W ?_;obtain rfl:=ao h;exact aO J J (cS [] 0) ⟨J,J⟩
theorem rS {r:Bool}: ∀v post,((fun (u:Value) (post:List Chunk)=>u=.bool r∧post=[])) v post→ ∀c∈post,cF c:=by
 rintro _ _ ⟨rfl,rfl⟩;exact ai
def sb (N:Nat)(a0:Int)(a1:Int):Option Li:=
 some (⟨51,a1,(⟨3,a0,⟨#[]⟩⟩:Lf),(⟨0,0,⟨#[]⟩⟩:Lf),(⟨0,0,⟨#[]⟩⟩:Lf)⟩:Li)
theorem ue {N:Nat}{a0:Int}{a1:Int}{r:Li}(h:sb N a0 a1=some r):Okc Tryz.prog 94 [iV a0,iV a1] ([]) (fun u post=>u=(fV r)∧post=[]):=by
 refine bB Tryz.func94 J J ?_;simp only [ba];refine W ?_;refine gD (aM yE J) ?_;rintro _ _ ⟨B1,rfl,rfl⟩;refine W ?_;refine gE (bg J (lW _ _)) ?_;refine gE (bg J (tn _ _ _ _ _)) ?_;refine gO (aw (us:=[iV 51,iV a1,iV 3,iV a0,.string (⟨#[]⟩),iV 0,iV 0,.string (⟨#[]⟩),iV 0,iV 0,.string (⟨#[]⟩)]) (cs':=[iV 51,iV a1,iV 3,iV a0,.string (⟨#[]⟩),iV 0,iV 0,.string (⟨#[]⟩),iV 0,iV 0,.string (⟨#[]⟩)]) 0 J J J J vH J J J) ?_;rintro _ _ rfl;refine W ?_;obtain rfl:=ao h;exact cG (rs:=[.cell 4 32]) (vs:=[.agg #[iV 51,iV a1,iV 3,iV a0,.string (⟨#[]⟩),iV 0,iV 0,.string (⟨#[]⟩),iV 0,iV 0,.string (⟨#[]⟩)]]) J (.cons (bA 0 J J df) .nil) J (cS [] 1) ⟨J,J⟩
theorem rL {r:Li}: ∀v post,((fun (u:Value) (post:List Chunk)=>u=(fV r)∧post=[])) v post→ ∀c∈post,cF c:=by
 rintro _ _ ⟨rfl,rfl⟩;exact ai
def bp (N:Nat)(a0:Li)(a1:Int):Option Bool:=
 some (!decide (aF .i64 a0.Has a1=0))
theorem cp {N:Nat}{a0:Li}{a1:Int}{r:Bool}(h:bp N a0 a1=some r):Okc Tryz.prog 152 [(fV a0),iV a1] ([]) (fun u post=>u=.bool r∧post=[]):=by
 refine bB Tryz.func152 J J ?_;simp only [ba];refine W ?_;refine gD (aT J J) ?_;rintro _ _ ⟨B1,rfl,rfl⟩;refine W ?_;refine gE (bR J J) ?_;refine W ?_;obtain rfl:=ao h;exact aO J J (cS [] 1) ⟨J,J⟩
theorem bH {r:Bool}: ∀v post,((fun (u:Value) (post:List Chunk)=>u=.bool r∧post=[])) v post→ ∀c∈post,cF c:=by
 rintro _ _ ⟨rfl,rfl⟩;exact ai
def jw (N:Nat)(p11:Int):Option Int:=
 some p11
def kh (N:Nat)(a0:Li)(p7:Int):Option Int:=
 (bp N a0 32).bind fun y12=>bif y12 then (jw N (cD .i64 p7 4)) else (jw N p7)
def ki (N:Nat)(a0:Li)(p3:Int):Option Int:=
 (bp N a0 16).bind fun y8=>bif y8 then (kh N a0 (cD .i64 p3 2)) else (kh N a0 p3)
def iK (N:Nat)(a0:Li):Option Int:=
 (bp N a0 2).bind fun y4=>bif y4 then (ki N a0 (cD .i64 0 1)) else (ki N a0 0)
theorem rY {N:Nat}{a0:Li}{r:Int}(h:iK N a0=some r):Okc Tryz.prog 153 [(fV a0)] ([]) (fun u post=>u=iV r∧post=[]):=by
 refine bB Tryz.func153 J J ?_;simp only [ba];refine W ?_;refine gD (aT J J) ?_;rintro _ _ ⟨B1,rfl,rfl⟩;refine W ?_;refine bc (fun s L=> ∃p3,ki N a0 p3=some r∧s=[(1,pV B1 0),(2,iV 0),(3,iV p3)]∧L=[al B1 32 (bK a0)]) ?_ ?_
 ·refine W ?_;refine gR (aj (us:=bK a0) 0 J J df J) ?_;obtain ⟨y4,hy4,h⟩:=aa h;refine gD (ap (cp hy4) fm J (ai) bH) ?_;rintro _ _ ⟨_,⟨rfl,rfl⟩,rfl⟩;refine W ?_;refine av J (fun g5=> ?_) (fun g5=> ?_)
  ·replace h:=ad g5 h;refine W ?_;refine gE (jL J J) ?_;refine W ?_;exact ⟨_,_,⟨cD .i64 0 1,h,J,J⟩,sA,cS [0] 1⟩
  replace h:=ae g5 h;refine W ?_;exact ⟨_,_,⟨0,h,J,J⟩,sA,cS [0] 1⟩
 rintro _ _ ⟨p3,h,rfl,rfl⟩;refine bc (fun s L=> ∃p7,kh N a0 p7=some r∧s=[(1,pV B1 0),(2,iV 0),(3,iV p7)]∧L=[al B1 32 (bK a0)]) ?_ ?_
 ·refine W ?_;refine gR (aj (us:=bK a0) 0 J J df J) ?_;obtain ⟨y8,hy8,h⟩:=aa h;refine gD (ap (cp hy8) fm J (ai) bH) ?_;rintro _ _ ⟨_,⟨rfl,rfl⟩,rfl⟩;refine W ?_;refine av J (fun g9=> ?_) (fun g9=> ?_)
  ·replace h:=ad g9 h;refine W ?_;refine gE (jL J J) ?_;refine W ?_;exact ⟨_,_,⟨cD .i64 p3 2,h,J,J⟩,sA,cS [0] 1⟩
  replace h:=ae g9 h;refine W ?_;exact ⟨_,_,⟨p3,h,J,J⟩,sA,cS [0] 1⟩
 rintro _ _ ⟨p7,h,rfl,rfl⟩;refine bc (fun s L=> ∃p11,jw N p11=some r∧s=[(2,iV 0),(3,iV p11)]∧L=[]) ?_ ?_
 ·refine W ?_;refine gR (aj (us:=bK a0) 0 J J df J) ?_;obtain ⟨y12,hy12,h⟩:=aa h;refine gD (ap (cp hy12) fm J (ai) bH) ?_;rintro _ _ ⟨_,⟨rfl,rfl⟩,rfl⟩;refine W ?_;refine av J (fun g13=> ?_) (fun g13=> ?_)
  ·replace h:=ad g13 h;refine W ?_;refine gE (jL J J) ?_;refine W ?_;exact ⟨_,_,⟨cD .i64 p7 4,h,J,J⟩,sA,cS [] 1⟩
  replace h:=ae g13 h;refine W ?_;exact ⟨_,_,⟨p7,h,J,J⟩,sA,cS [] 1⟩
 rintro _ _ ⟨p11,h,rfl,rfl⟩;refine W ?_;obtain rfl:=ao h;exact aO J J (cS [] 0) ⟨J,J⟩
theorem qb {r:Int}: ∀v post,((fun (u:Value) (post:List Chunk)=>u=iV r∧post=[])) v post→ ∀c∈post,cF c:=by
 rintro _ _ ⟨rfl,rfl⟩;exact ai
def ms (N:Nat)(a0:Lf):Option Bool:=
 (bif decide (a0.Kind=0) then (some true) else (some (decide (a0.Kind=7)))).bind fun b2=>some b2
theorem tf {N:Nat}{a0:Lf}{r:Bool}(h:ms N a0=some r):Okc Tryz.prog 154 [(bQ a0)] ([]) (fun u post=>u=.bool r∧post=[]):=by
 refine bB Tryz.func154 J J ?_;simp only [ba];refine W ?_;refine gD (aT J J) ?_;rintro _ _ ⟨B1,rfl,rfl⟩;refine W ?_;obtain ⟨b2,hb2,h⟩:=aa h;refine aH 4 10 b2 ?_ ?_
 ·clear h;refine aD 6 J (fun g2=> ?_) (fun g2=> ?_)
  ·have h:=ad g2 hb2;refine W ?_;obtain rfl:=ao h;exact ab sA (cS [0] 1)
  have h:=ae g2 hb2;refine W ?_;obtain rfl:=ao h;exact ab sA (cS [0] 1)
 refine W ?_;obtain rfl:=ao h;exact aO J J (cS [] 1) ⟨J,J⟩
theorem qM {r:Bool}: ∀v post,((fun (u:Value) (post:List Chunk)=>u=.bool r∧post=[])) v post→ ∀c∈post,cF c:=by
 rintro _ _ ⟨rfl,rfl⟩;exact ai
def jM (N:Nat)(a0:Li):Option Bool:=
 (bif !decide (cr .i64 a0.Has 63=0) then (some true) else ((bp N a0 3).bind fun y3=>(bif y3 then ((bp N a0 12).bind fun y5=>some y5) else (some false)).bind fun b4=>some b4)).bind fun b2=>(bif b2 then (some true) else ((iK N a0).bind fun y7=>some (!decide (cr .i64 a0.Attrs y7=0)))).bind fun b6=>bif b6 then (some false) else ((bif decide (a0.Value.Kind<0) then (some true) else (some (decide (7<a0.Value.Kind)))).bind fun b9=>(bif b9 then (some true) else ((ms N a0.Get).bind fun y11=>some (!y11))).bind fun b10=>(bif b10 then (some true) else ((ms N a0.Set).bind fun y13=>some (!y13))).bind fun b12=>bif b12 then (some false) else ((bp N a0 1).bind fun y16=>(bif y16 then (some true) else (some (decide (a0.Value=(⟨0,0,⟨#[]⟩⟩:Lf))))).bind fun b17=>(bif b17 then ((bp N a0 4).bind fun y19=>(bif y19 then (some true) else (some (decide (a0.Get=(⟨0,0,⟨#[]⟩⟩:Lf))))).bind fun b20=>some b20) else (some false)).bind fun b18=>(bif b18 then ((bp N a0 8).bind fun y22=>(bif y22 then (some true) else (some (decide (a0.Set=(⟨0,0,⟨#[]⟩⟩:Lf))))).bind fun b23=>some b23) else (some false)).bind fun b21=>some b21))
set_option maxHeartbeats 4000000 in
theorem xH {N:Nat}{a0:Li}{r:Bool}(h:jM N a0=some r):Okc Tryz.prog 101 [(fV a0)] ([]) (fun u post=>u=.bool r∧post=[]):=by
 refine bB Tryz.func101 J J ?_;simp only [ba];refine W ?_;refine gD (aT J J) ?_;rintro _ _ ⟨B1,rfl,rfl⟩;refine W ?_;refine aB ?_;refine aB ?_;refine bx O _ (ac _) ?_;refine zE 0 J (dD J CX) ?_;refine zR 1 J (aW 0 J J dH J) ?_;refine zE 2 J (oS J J) ?_;refine zE 3 J (C1 J J) ?_;refine zE 4 J (au J) ?_;obtain ⟨b2,hb2,h⟩:=aa h;refine iU (fun l=>(((((((l.setIfInBounds 5 true).setIfInBounds 6 true).setIfInBounds 7 true).setIfInBounds 8 true).setIfInBounds 9 true).setIfInBounds 10 true).setIfInBounds 11 true)) 8 15 b2 (fun rest=> ?_) ?_
 ·clear h;refine kq 8 J (fun g2=> ?_) (fun g2=> ?_)
  ·have h:=ad g2 hb2;refine cH 5 J O (mq g2 J) J ?_;refine cH 6 J O (mq g2 J) J ?_;refine cH 7 J O (mq g2 J) J ?_;refine zU 8 J ?_;refine zU 9 J ?_;refine cH 10 J O (mq g2 J) J ?_;refine zE 11 J (dX g2 J J) ?_;obtain rfl:=ao h;exact fL rest (dm J (ay (ay (ay (ay (ay (ay (ay cj J) J) J) J) J) J) J)) (ac _) (ac _)
  have h:=ae g2 hb2;refine jA 5 J O (aj (us:=bK a0) 0 J J df J) (co g2 J) J ?_;obtain ⟨y3,hy3,h⟩:=aa h;refine lA 6 J O (ap (cp hy3) fm J (ai) bH) J (co g2 J) J ?_;rintro _ _ ⟨_,⟨rfl,rfl⟩,rfl⟩;refine ⟨_,ac _,ac _,?_⟩;refine eW 7 J O (au J) (co g2 J) J ?_;obtain ⟨b4,hb4,h⟩:=aa h;refine iU (fun l=>(((l.setIfInBounds 8 true).setIfInBounds 9 true).setIfInBounds 10 true)) 9 14 b4 (fun rest=> ?_) ?_
  ·clear h;refine kq 11 J (fun g4=> ?_) (fun g4=> ?_)
   ·have h:=ad g4 hb4;refine jA 8 J O (aj (us:=bK a0) 0 J J df J) (bi g4 J) J ?_;obtain ⟨y5,hy5,h⟩:=aa h;refine lA 9 J O (ap (cp hy5) fm J (ai) bH) J (bi g4 J) J ?_;rintro _ _ ⟨_,⟨rfl,rfl⟩,rfl⟩;refine ⟨_,ac _,ac _,?_⟩;refine eW 10 J O (dX g4 J J) (co g2 J) J ?_;obtain rfl:=ao h;exact fL rest (dm J (ay (ay (ay cj J) J) J)) (ac _) (ac _)
   have h:=ae g4 hb4;refine cH 8 J O (fF g4 J) J ?_;refine cH 9 J O (fF g4 J) J ?_;refine eW 10 J O (dY g4 J J) (co g2 J) J ?_;obtain rfl:=ao h;exact fL rest (dm J (ay (ay (ay cj J) J) J)) (ac _) (ac _)
  refine zE 11 J (dY g2 J J) ?_;obtain rfl:=ao h;exact fL rest (dm J (ay (ay (ay (ay (ay cj J) J) J) J) J)) (ac _) (ac _)
 refine zE 12 J (au J) ?_;obtain ⟨b6,hb6,h⟩:=aa h;refine iU (fun l=>(((((((l.setIfInBounds 13 true).setIfInBounds 14 true).setIfInBounds 15 true).setIfInBounds 16 true).setIfInBounds 17 true).setIfInBounds 18 true).setIfInBounds 19 true)) 0 23 b6 (fun rest=> ?_) ?_
 ·clear h;refine kq 16 J (fun g6=> ?_) (fun g6=> ?_)
  ·have h:=ad g6 hb6;refine cH 13 J O (mq g6 J) J ?_;refine cH 14 J O (mq g6 J) J ?_;refine cH 15 J O (mq g6 J) J ?_;refine cH 16 J O (mq g6 J) J ?_;refine cH 17 J O (mq g6 J) J ?_;refine cH 18 J O (mq g6 J) J ?_;refine zE 19 J (dX g6 J J) ?_;obtain rfl:=ao h;exact fL rest (dm J (ay (ay (ay (ay (ay (ay (ay cj J) J) J) J) J) J) J)) (ac _) (ac _)
  have h:=ae g6 hb6;refine eW 13 J O (bT J CW) (co g6 J) J ?_;refine jA 14 J O (aW 0 J J dH J) (co g6 J) J ?_;refine jA 15 J O (aj (us:=bK a0) 0 J J df J) (co g6 J) J ?_;obtain ⟨y7,hy7,h⟩:=aa h;refine lA 16 J O (ap (rY hy7) Dq J (ai) qb) J (co g6 J) J ?_;rintro _ _ ⟨_,⟨rfl,rfl⟩,rfl⟩;refine ⟨_,ac _,ac _,?_⟩;refine eW 17 J O (oS J J) (co g6 J) J ?_;refine eW 18 J O (C1 J J) (co g6 J) J ?_;refine zE 19 J (dY g6 J J) ?_;obtain rfl:=ao h;exact fL rest (dm J (ay (ay (ay (ay (ay (ay (ay cj J) J) J) J) J) J) J)) (ac _) (ac _)
 refine bj O ?_;refine d8 ?_;refine av J (fun g8=> ?_) (fun g8=> ?_)
 ·replace h:=ad g8 h;refine W ?_;obtain rfl:=ao h;exact aO J J (cS [] 1) ⟨J,J⟩
 replace h:=ae g8 h;refine W ?_;refine aB ?_;refine W ?_;obtain ⟨b9,hb9,h⟩:=aa h;refine aH 5 33 b9 ?_ ?_
 ·clear h;refine aD 28 J (fun g9=> ?_) (fun g9=> ?_)
  ·have h:=ad g9 hb9;refine W ?_;obtain rfl:=ao h;exact ab sA (cS [0] 1)
  have h:=ae g9 hb9;refine W ?_;obtain rfl:=ao h;exact ab sA (cS [0] 1)
 refine W ?_;obtain ⟨b10,hb10,h⟩:=aa h;refine aH 5 39 b10 ?_ ?_
 ·clear h;refine aD 34 J (fun g10=> ?_) (fun g10=> ?_)
  ·have h:=ad g10 hb10;refine W ?_;obtain rfl:=ao h;exact ab sA (cS [0] 1)
  have h:=ae g10 hb10;refine W ?_;refine bY (aj (us:=aE a0.Get) 0 J J aN J) J (co g10 J) J ?_;obtain ⟨y11,hy11,h⟩:=aa h;refine cc (ap (tf hy11) Dp J (ai) qM) J (co g10 J) J ?_;rintro _ _ ⟨_,⟨rfl,rfl⟩,rfl⟩;refine W ?_;obtain rfl:=ao h;exact ab sA (cS [0] 1)
 refine W ?_;obtain ⟨b12,hb12,h⟩:=aa h;refine aH 5 45 b12 ?_ ?_
 ·clear h;refine aD 40 J (fun g12=> ?_) (fun g12=> ?_)
  ·have h:=ad g12 hb12;refine W ?_;obtain rfl:=ao h;exact ab sA (cS [0] 1)
  have h:=ae g12 hb12;refine W ?_;refine bY (aj (us:=aE a0.Set) 0 J J aN J) J (co g12 J) J ?_;obtain ⟨y13,hy13,h⟩:=aa h;refine cc (ap (tf hy13) Dp J (ai) qM) J (co g12 J) J ?_;rintro _ _ ⟨_,⟨rfl,rfl⟩,rfl⟩;refine W ?_;obtain rfl:=ao h;exact ab sA (cS [0] 1)
 refine W ?_;refine av J (fun g14=> ?_) (fun g14=> ?_)
 ·replace h:=ad g14 h;refine W ?_;obtain rfl:=ao h;exact aO J J (cS [] 1) ⟨J,J⟩
 replace h:=ae g14 h;refine W ?_;refine gE (bg J (gu)) ?_;refine gD (aM eA J) ?_;rintro _ _ ⟨B15,rfl,rfl⟩;refine gO (aw (us:=[iV 0,iV 0,.string (⟨#[]⟩)]) (cs':=[iV 0,iV 0,.string (⟨#[]⟩)]) 0 J J J J be J J J) ?_;rintro _ _ rfl;refine W ?_;refine gR (aj (us:=bK a0) 1 J J df J) ?_;obtain ⟨y16,hy16,h⟩:=aa h;refine gD (ap (cp hy16) fm J (ai) bH) ?_;rintro _ _ ⟨_,⟨rfl,rfl⟩,rfl⟩;refine W ?_;obtain ⟨b17,hb17,h⟩:=aa h;refine aH 5 54 b17 ?_ ?_
 ·clear h;refine aD 49 J (fun g17=> ?_) (fun g17=> ?_)
  ·have h:=ad g17 hb17;refine W ?_;obtain rfl:=ao h;exact ab sA (cS [0,1] 2)
  have h:=ae g17 hb17;refine W ?_;refine bY (aj (us:=aE a0.Value) 1 J J aN J) J (co g17 J) J ?_;refine bY (aj (us:=[iV 0,iV 0,.string (⟨#[]⟩)]) 0 J J aN J) J (co g17 J) J ?_;refine eR (pm (x:=a0.Value) (y:=(⟨0,0,⟨#[]⟩⟩:Lf)) J J) J (co g17 J) J ?_;refine W ?_;obtain rfl:=ao h;exact ab sA (cS [0,1] 2)
 refine W ?_;obtain ⟨b18,hb18,h⟩:=aa h;refine aH 9 64 b18 ?_ ?_
 ·clear h;refine aD 55 J (fun g18=> ?_) (fun g18=> ?_)
  ·have h:=ad g18 hb18;refine bY (aj (us:=bK a0) 1 J J df J) J (bi g18 J) J ?_;obtain ⟨y19,hy19,h⟩:=aa h;refine cc (ap (cp hy19) fm J (ai) bH) J (bi g18 J) J ?_;rintro _ _ ⟨_,⟨rfl,rfl⟩,rfl⟩;refine W ?_;obtain ⟨b20,hb20,h⟩:=aa h;refine aH 5 63 b20 ?_ ?_
   ·clear h;refine aD 58 J (fun g20=> ?_) (fun g20=> ?_)
    ·have h:=ad g20 hb20;refine W ?_;obtain rfl:=ao h;exact ab sA (cS [0,1] 2)
    have h:=ae g20 hb20;refine W ?_;refine bY (aj (us:=aE a0.Get) 1 J J aN J) J (co g20 J) J ?_;refine bY (aj (us:=[iV 0,iV 0,.string (⟨#[]⟩)]) 0 J J aN J) J (co g20 J) J ?_;refine eR (pm (x:=a0.Get) (y:=(⟨0,0,⟨#[]⟩⟩:Lf)) J J) J (co g20 J) J ?_;refine W ?_;obtain rfl:=ao h;exact ab sA (cS [0,1] 2)
   refine W ?_;obtain rfl:=ao h;exact ab sA (cS [0,1] 2)
  have h:=ae g18 hb18;refine W ?_;obtain rfl:=ao h;exact ab sA (cS [0,1] 2)
 refine W ?_;obtain ⟨b21,hb21,h⟩:=aa h;refine aH 9 74 b21 ?_ ?_
 ·clear h;refine aD 65 J (fun g21=> ?_) (fun g21=> ?_)
  ·have h:=ad g21 hb21;refine bY (aj (us:=bK a0) 1 J J df J) J (bi g21 J) J ?_;obtain ⟨y22,hy22,h⟩:=aa h;refine cc (ap (cp hy22) fm J (ai) bH) J (bi g21 J) J ?_;rintro _ _ ⟨_,⟨rfl,rfl⟩,rfl⟩;refine W ?_;obtain ⟨b23,hb23,h⟩:=aa h;refine aH 5 73 b23 ?_ ?_
   ·clear h;refine aD 68 J (fun g23=> ?_) (fun g23=> ?_)
    ·have h:=ad g23 hb23;refine W ?_;obtain rfl:=ao h;exact ab sA (cS [0,1] 2)
    have h:=ae g23 hb23;refine W ?_;refine bY (aj (us:=aE a0.Set) 1 J J aN J) J (co g23 J) J ?_;refine bY (aj (us:=[iV 0,iV 0,.string (⟨#[]⟩)]) 0 J J aN J) J (co g23 J) J ?_;refine eR (pm (x:=a0.Set) (y:=(⟨0,0,⟨#[]⟩⟩:Lf)) J J) J (co g23 J) J ?_;refine W ?_;obtain rfl:=ao h;exact ab sA (cS [0,1] 2)
   refine W ?_;obtain rfl:=ao h;exact ab sA (cS [0,1] 2)
  have h:=ae g21 hb21;refine W ?_;obtain rfl:=ao h;exact ab sA (cS [0,1] 2)
 refine W ?_;obtain rfl:=ao h;exact aO J J (cS [] 2) ⟨J,J⟩
theorem uM {r:Bool}: ∀v post,((fun (u:Value) (post:List Chunk)=>u=.bool r∧post=[])) v post→ ∀c∈post,cF c:=by
 rintro _ _ ⟨rfl,rfl⟩;exact ai
end Go.Proofs.YtanojiedimeegaaGreatDoor