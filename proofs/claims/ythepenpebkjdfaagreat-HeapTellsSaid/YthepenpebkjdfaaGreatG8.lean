/- Merged texts: part 8. No conditions of their own. -/
import Derived.Test.YthepenpebkjdfaaGreatG7
set_option maxHeartbeats 4000000
namespace Go.Proofs.YthepenpebkjdfaaGreat
section
variable {A1 A2 A3 A4 A5 A6 A8 A9:Option Addr} {B1 B6 M7 c1 c2 c3 c4 c5 c6 c8 c9 n1 n2 n3 n4 n5 n6 n8 n9:Nat}
open Go.RowKit Asn
set_option maxRecDepth 20000
def tC (N:Nat)(kb12:Qq->Option Qq)(p13:Qq)(a0:Qg)(p15:Qq):Option Qq:=
 bif decide ((p15.length:Int)=(p13.length:Int)) then (some p15) else ((jk N a0 p15 (p13.length:Int)).bind fun y33=>kb12 y33)
def kY (N:Nat)(kb12:Qq->Option Qq)(p13:Qq)(a0:Qg):Nat->Qq->Int->Option Qq
 |0,_,_=>none
 |m16+1,p17,p18=>bif decide (p18<(p13.length:Int)) then ((aw p17 p18).bind fun x20=>(qe N a0 x20).bind fun y21=>(qh N y21 p17).bind fun y26=>(pf N a0 p17 y26).bind fun y29=>aZ (in64 (p18+1)) ((kY N kb12 p13 a0 m16) y29 (p18+1))) else (tC N kb12 p13 a0 p17)
def ey (N:Nat)(a0:Qg):Nat->Qq->Option Qq
 |0,_=>none
 |m12+1,p13=>kY N (ey N a0 m12) p13 a0 N p13 0
def qc (N:Nat)(a0:Qg)(a1:Qr):Option Qq:=
 (kL N a1).bind fun y5=>(pf N a0 ([]:List Int) y5).bind fun y8=>(jk N a0 y8 0).bind fun y10=>ey N a0 N y10
theorem E9 {N:Nat}{a0:Qg}{a1:Qr}{r:Qq}(h:qc N a0 a1=some r):Okc QB 168 [.agg #[W A1 n1 c1,W A2 n2 c2],W A3 n3 c3] ([aK A1 n1 c1 a0.Young,aK A2 n2 c2 a0.Old,az A3 n3 c3 a1]) (fun u post=> ∃A0 n0 c0,u=W A0 n0 c0/\post=[bS A0 n0 c0 r]):=by
 refine cQ Tryz.func168 ?_;intro B4;refine ae ?_;refine ay ?_;refine bm I _ (ab _) ?_;refine ae ?_;obtain ⟨y5,k,h⟩:=aa h;refine zD 3 J (oR (AC k)) ?_;rintro _ _ ⟨_,⟨A6,n6,c6,rfl,rfl⟩,rfl⟩;refine bq (cS [1,2,3,4] 5) ?_;refine vP (aD (da .i64) 3 _) (cS [2,3,4,5] 6) ?_;refine vP (aY 1 J) (cS [2,3,4,5] 6) ?_;obtain ⟨y8,k,h⟩:=aa h;refine zD 4 J (oC (yC k)) ?_;rintro _ _ ⟨_,⟨A9,n9,c9,rfl,rfl⟩,rfl⟩;refine bq (cS [2,3,4,5] 6) ?_;obtain ⟨y10,k,h⟩:=aa h;refine zD 5 J (oC (wu k)) ?_;rintro _ _ ⟨_,⟨A11,n11,c11,rfl,rfl⟩,rfl⟩;refine bq (cS [2,3,4,5] 6) ?_;refine ae ?_;refine aH (fun m s L=> ∃p13 A13 n13 c13,ey N a0 m p13=some r/\s=[(2,pV B4 0),(4,W none 0 0),(5,W A13 n13 c13)]/\L=[bS A13 n13 c13 p13,aK A1 n1 c1 a0.Young,aK A2 n2 c2 a0.Old,ah B4 29 [W A1 n1 c1,W A2 n2 c2]]) N _ _ ⟨y10,A11,n11,c11,h,J,J⟩ sA (cS [0,3,4,2] 6) ?_;rintro (_|m12) _ _ ⟨p13,A13,n13,c13,h,rfl,rfl⟩
 ·exact aj h
 rw [ey.eq_2] at h;refine ae ?_;refine am (fun s L=> ∃p15 A15 n15 c15,tC N (ey N a0 m12) p13 a0 p15=some r/\s=[(2,pV B4 0),(4,W none 0 0),(5,W A15 n15 c15),(6,iV (p13.length:Int))]/\L=[bS A15 n15 c15 p15,aK A1 n1 c1 a0.Young,aK A2 n2 c2 a0.Old,ah B4 29 [W A1 n1 c1,W A2 n2 c2]]) ?_ ?_
 ·refine ae ?_;refine aH (fun m s L=> ∃p17 p18 A17 n17 c17,kY N (ey N a0 m12) p13 a0 m p17 p18=some r/\s=[(2,pV B4 0),(4,W none 0 0),(5,W A17 n17 c17),(6,iV (p13.length:Int)),(7,iV p18)]/\L=[bS A17 n17 c17 p17,aK A1 n1 c1 a0.Young,aK A2 n2 c2 a0.Old,ah B4 29 [W A1 n1 c1,W A2 n2 c2]]) N _ _ ⟨p13,0,A13,n13,c13,h,J,J⟩ sA (cS [0,1,2,3] 4) ?_;rintro (_|m16) _ _ ⟨p17,p18,A17,n17,c17,h,rfl,rfl⟩
  ·exact aj h
  rw [kY.eq_2] at h;refine sZ ?_;refine gH J h ?_ ?_<;>intro h
  ·refine sY ?_;obtain ⟨x20,lx20,ux20,hx20,h⟩:=aU h;obtain ⟨y21,hy21,h⟩:=aa h;obtain ⟨y26,hy26,h⟩:=aa h;refine dB (t:=[(2,pV B4 0),(4,W none 0 0),(5,W A17 n17 c17),(6,iV (p13.length:Int)),(7,iV p18)]) ?_ fv (ab _)
   refine dF I 10 [] [0,1,9] [21,22,23,24,25,26,27,28,29,30] [[],[],[],[],[],[3,4],[5],[2,6],[],[7,8]] [aV (.agg #[W A1 n1 c1,W A2 n2 c2]),
 aV (W A17 n17 c17),
 aV (.agg #[W A1 n1 c1,W A2 n2 c2]),
 aV (W A17 n17 c17),
 aV (iV p18),
 aV (dj (W A17 n17 c17) p18.toNat 1 0),
 aV (iV x20),
 aX6 (fun (A24:Option Addr) (n24 c24:Nat) (A25:Option Addr) (n25 c25:Nat)=> .agg #[iV y21.Kind,iV y21.Shape,iV y21.Flags,iV y21.Age,W A24 n24 c24,W A25 n25 c25]) (fun A24 n24 c24 A25 n25 c25=> [az A24 n24 c24 y21.Slots,az A25 n25 c25 y21.More]),
 aV (W A17 n17 c17),
 aX3 (fun (A28:Option Addr) (n28 c28:Nat)=> W A28 n28 c28) (fun A28 n28 c28=> [bS A28 n28 c28 y26])] [] (ab _) (fj) I rfl rfl ?_ ?_ ?_
   ·exact fi
   ·refine ac J ?_ ?_
    ·intro A24 n24 c24 A25 n25 c25;refine gj (oR (zw hy26)) J ?_;rintro _ _ ⟨_,⟨A27,n27,c27,rfl,rfl⟩,rfl⟩;exact pv A27 n27 c27 (ab _)
    refine ac J ?_ ?_
    ·exact bN (ai J) J (aP J (ab _))
    refine ac J ?_ ?_
    ·refine gj (oC (xA hy21)) J ?_;rintro _ _ ⟨_,⟨A22,n22,c22,A23,n23,c23,rfl,rfl⟩,rfl⟩;exact BN A22 n22 c22 A23 n23 c23 (ab _)
    refine ac J ?_ ?_
    ·exact cB (bF (u:=iV x20) 0 J ap J hx20 ex (fun _ _ _ h=>by rw [show _=_ from h];rfl)) J (aP J (ab _))
    refine ac J ?_ ?_
    ·exact cB (bf 0 J ap J J Ex size3.out lx20 ux20) J (aP J (ab _))
    refine ac J ?_ ?_
    ·exact bN (ai J) J (aP J (ab _))
    refine ac J ?_ ?_
    ·exact bN (ai J) J (aP J (ab _))
    refine ac J ?_ ?_
    ·exact cB (aR (us:=[W A1 n1 c1,W A2 n2 c2]) 3 J J agg29.out J) J (aP J (ab _))
    refine ac J ?_ ?_
    ·exact bN (ai J) J (aP J (ab _))
    refine ac J ?_ ?_
    ·exact cB (aR (us:=[W A1 n1 c1,W A2 n2 c2]) 3 J J agg29.out J) J (aP J (ab _))
    exact cp
   intro A28 n28 c28;refine gu (t:=[(21,.agg #[W A1 n1 c1,W A2 n2 c2]),(22,W A17 n17 c17),(30,W A28 n28 c28),(2,pV B4 0),(4,W none 0 0),(5,W A17 n17 c17),(6,iV (p13.length:Int)),(7,iV p18)]) (L':=[bS A28 n28 c28 y26,bS A17 n17 c17 p17,aK A1 n1 c1 a0.Young,aK A2 n2 c2 a0.Old,ah B4 29 [W A1 n1 c1,W A2 n2 c2]]) ?_ fv (ab _);refine gu ?_ aW (aY 0 J);obtain ⟨y29,k,h⟩:=aa h;refine jt 10 J I (oC (yC k)) J J J ?_;rintro _ _ ⟨_,⟨A30,n30,c30,rfl,rfl⟩,rfl⟩;refine rc 11 J I (av J) J J J ?_;refine ft I ?_;refine ae ?_;obtain ⟨q31,h⟩:=ad h;exact lY
  exact jY
 rintro _ _ ⟨p15,A15,n15,c15,h,rfl,rfl⟩;refine sZ ?_;refine gH J h ?_ ?_<;>intro h
 ·exact eY
 refine ae ?_;obtain ⟨y33,k,h⟩:=aa h
 refine iE (oC (wu k)) fun A34 n34 c34=> ?_
 exact lN
def tz (N:Nat)(p6:Qq):Option Qq:=
 some p6
def oz (N:Nat)(kb7:Qq->Int->Option Qq)(p9:Int)(p12:Qq):Option Qq:=
 aZ (in64 (p9+1)) (kb7 p12 (p9+1))
def lS (N:Nat)(kb7:Qq->Int->Option Qq)(p9:Int):Nat->Qq->Int->Option Qq
 |0,_,_=>none
 |m13+1,p14,p15=>(bif decide (0<p15) then (aZ (in64 (p15 - 1)) ((aw p14 (p15 - 1)).bind fun x18=>(aw p14 p15).bind fun x19=>some (decide (x19<x18)))) else (some false)).bind fun b16=>bif b16 then ((aw p14 p15).bind fun x21=>aZ (in64 (p15 - 1)) ((aw p14 (p15 - 1)).bind fun x23=>(aw p14 p15).bind fun x24=>aZ (in64 (p15 - 1)) ((aw (List.set p14 p15.toNat x23) (p15 - 1)).bind fun x26=>aZ (in64 (p15 - 1)) ((lS N kb7 p9 m13) (List.set (List.set p14 p15.toNat x23) ((p15 - 1).toNat) x21) (p15 - 1))))) else (oz N kb7 p9 p14)
def dX (N:Nat):Nat->Qq->Int->Option Qq
 |0,_,_=>none
 |m7+1,p8,p9=>bif decide (p9<(p8.length:Int)) then (lS N (dX N m7) p9 N p8 p9) else (tz N p8)
def qU (N:Nat)(a0:Qq):Option Qq:=
 aZ (bi (([]:List Int).length+a0.length)) (dX N N (([]:List Int)++a0) 1)
theorem DF {N:Nat}{a0:Qq}{r:Qq}(h:qU N a0=some r):Okc QB 167 [W A1 n1 c1] ([bV A1 n1 c1 a0]) (fun u post=> ∃A0 n0 c0,u=W A0 n0 c0/\post=[bS A0 n0 c0 r]):=by
 refine cQ Tryz.func167 ?_
 refine iE (aG (R:=(da .i64)) (vss:=[]) (xs:=[]) J (uz) J J (fun _ _ hr=>All2.nil)) fun A2 n2 c2=> ?_
 obtain ⟨q3,h⟩:=ad h
 refine iE (ar 0 1 J J ao J J Ex uE J J q3) fun A4 n4 c4=> ?_
 refine am (fun s L=> ∃p6 A6 n6 c6,tz N p6=some r/\s=[(2,W none 0 0),(3,W A6 n6 c6)]/\L=[bS A6 n6 c6 p6]) ?_ ?_
 ·refine ae ?_;refine aH (fun m s L=> ∃p8 p9 A8 n8 c8,dX N m p8 p9=some r/\s=[(2,W none 0 0),(3,W A8 n8 c8),(4,iV p9)]/\L=[bS A8 n8 c8 p8]) N _ _ ⟨([]:List Int)++a0,1,A4,n4,c4,h,J,J⟩ sA (cS [0] 2) ?_;rintro (_|m7) _ _ ⟨p8,p9,A8,n8,c8,h,rfl,rfl⟩
  ·exact aj h
  rw [dX.eq_2] at h;refine sZ ?_;refine gH J h ?_ ?_<;>intro h
  ·refine ae ?_;refine am (fun s L=> ∃p12 A12 n12 c12,oz N (dX N m7) p9 p12=some r/\s=[(2,W none 0 0),(3,W A12 n12 c12),(4,iV p9)]/\L=[bS A12 n12 c12 p12]) ?_ ?_
   ·refine ae ?_;refine aH (fun m s L=> ∃p14 p15 A14 n14 c14,lS N (dX N m7) p9 m p14 p15=some r/\s=[(2,W none 0 0),(3,W A14 n14 c14),(4,iV p9),(5,iV p15)]/\L=[bS A14 n14 c14 p14]) N _ _ ⟨p8,p9,A8,n8,c8,h,J,J⟩ sA (cS [0] 1) ?_;rintro (_|m13) _ _ ⟨p14,p15,A14,n14,c14,h,rfl,rfl⟩
    ·exact aj h
    rw [lS.eq_2] at h;refine ay ?_;refine ay ?_;refine bm I _ (ab _) ?_;refine zE 0 J (ai J) ?_;refine zE 1 J (Ie J J) ?_;refine zE 2 J (ai J) ?_;obtain ⟨b16,hb16,h⟩:=aa h;refine eM (fun l=>(((((((((((l.setIfInBounds 3 true).setIfInBounds 4 true).setIfInBounds 5 true).setIfInBounds 6 true).setIfInBounds 7 true).setIfInBounds 8 true).setIfInBounds 9 true).setIfInBounds 10 true).setIfInBounds 11 true).setIfInBounds 12 true).setIfInBounds 13 true)) 0 30 b16 (fun rest=> ?_) ?_
    ·clear h;refine gI 19 J (fun g16=> ?_) (fun g16=> ?_)
     ·have h:=aE g16 hb16;refine cP 3 J I (ai J) (bx g16 J) J ?_;refine cP 4 J I (ai J) (bx g16 J) J ?_;obtain ⟨q17,h⟩:=ad h;refine cP 5 J I (tL J J q17.1 q17.2) (bx g16 J) J ?_;obtain ⟨x18,lx18,ux18,hx18,h⟩:=aU h;refine fb 6 J I (bf 0 J ap J J Ex size3.out lx18 ux18) (bx g16 J) J ?_;refine fb 7 J I (bF (u:=iV x18) 0 J ap J hx18 ex (fun _ _ _ h=>by rw [show _=_ from h];rfl)) (bx g16 J) J ?_;refine cP 8 J I (ai J) (bx g16 J) J ?_;refine cP 9 J I (ai J) (bx g16 J) J ?_;obtain ⟨x19,lx19,ux19,hx19,h⟩:=aU h;refine fb 10 J I (bf 0 J ap J J Ex size3.out lx19 ux19) (bx g16 J) J ?_;refine fb 11 J I (bF (u:=iV x19) 0 J ap J hx19 ex (fun _ _ _ h=>by rw [show _=_ from h];rfl)) (bx g16 J) J ?_;refine cP 12 J I (Ie J J) (bx g16 J) J ?_;refine zE 13 J (cI g16 J J) ?_;obtain rfl:=bw h;exact di rest (bM J (ag (ag (ag (ag (ag (ag (ag (ag (ag (ag (ag aW J) J) J) J) J) J) J) J) J) J) J)) (ab _) (ab _)
     have h:=aF g16 hb16;refine bo 3 J I (eb g16 J) J ?_;refine bo 4 J I (eb g16 J) J ?_;refine bo 5 J I (eb g16 J) J ?_;refine bo 6 J I (eb g16 J) J ?_;refine bo 7 J I (eb g16 J) J ?_;refine bo 8 J I (eb g16 J) J ?_;refine bo 9 J I (eb g16 J) J ?_;refine bo 10 J I (eb g16 J) J ?_;refine bo 11 J I (eb g16 J) J ?_;refine bo 12 J I (eb g16 J) J ?_;refine zE 13 J (cJ g16 J J) ?_;obtain rfl:=bw h;exact di rest (bM J (ag (ag (ag (ag (ag (ag (ag (ag (ag (ag (ag aW J) J) J) J) J) J) J) J) J) J) J)) (ab _) (ab _)
    refine bv I ?_;refine ew h ?_ ?_<;>intro h
    ·refine sY ?_;obtain ⟨x21,lx21,ux21,hx21,h⟩:=aU h;refine ae ?_;obtain ⟨q22,h⟩:=ad h;refine ae ?_;obtain ⟨x23,lx23,ux23,hx23,h⟩:=aU h;refine ae ?_;obtain ⟨x24,lx24,ux24,hx24,h⟩:=aU h;refine ae ?_;refine Fu (iK (us:=[iV x23]) (z:=x23) 0 J J J J size3.out J (bc lx24 ux24) J (fun S w vs xk hk hr ho=>by obtain rfl:=Option.some.inj (hk.symm.trans hx24);rw [show _=_ from hr];rfl)) ?_;obtain ⟨q25,h⟩:=ad h;refine ae ?_;obtain ⟨x26,lx26,ux26,hx26,h⟩:=aU h;refine ae ?_;refine Fu (iK (us:=[iV x21]) (z:=x21) 0 J J J J size3.out J (bc lx26 ux26) J (fun S w vs xk hk hr ho=>by obtain rfl:=Option.some.inj (hk.symm.trans hx26);rw [show _=_ from hr];rfl)) ?_;obtain ⟨q27,h⟩:=ad h;exact lY
    exact jY
   rintro _ _ ⟨p12,A12,n12,c12,h,rfl,rfl⟩;refine ae ?_;obtain ⟨q28,h⟩:=ad h;exact lY
  exact jY
 rintro _ _ ⟨p6,A6,n6,c6,h,rfl,rfl⟩;exact eY
def pg (N:Nat)(a0:Qg)(a1:Qr):Option Qq:=
 (qc N a0 a1).bind fun y5=>(qU N y5).bind fun y7=>some y7
theorem Be {N:Nat}{a0:Qg}{a1:Qr}{r:Qq}(h:pg N a0 a1=some r):Okc QB 117 [.agg #[W A1 n1 c1,W A2 n2 c2],W A3 n3 c3] ([aK A1 n1 c1 a0.Young,aK A2 n2 c2 a0.Old,az A3 n3 c3 a1]) (fun u post=> ∃A0 n0 c0,u=W A0 n0 c0/\post=[bS A0 n0 c0 r]):=by
 refine cQ Tryz.func117 ?_;intro B4;refine ae ?_;obtain ⟨y5,k,h⟩:=aa h;refine gD (oR (E9 k)) ?_;rintro _ _ ⟨_,⟨A6,n6,c6,rfl,rfl⟩,rfl⟩;obtain ⟨y7,k,h⟩:=aa h
 refine iE (oR (DF k)) fun A8 n8 c8=> ?_
 exact eN
theorem DG {r:Qq}: ∀v post,((fun (u:Value) (post:List Chunk)=> ∃A0 n0 c0,u=W A0 n0 c0/\post=[bS A0 n0 c0 r])) v post-> ∀c∈post,fu c:=by
 rintro _ _ ⟨_,_,_,rfl,rfl⟩;exact hU gr (ax)
def rG (N:Nat)(p9:Qq)(p32:Qq):Option (Qq×Qq):=
 some (p9,p32)
def jE (N:Nat)(p9:Qq):Nat->Qq->Int->Option (Qq×Qq)
 |0,_,_=>none
 |m33+1,p34,p35=>bif decide (p35<(p9.length:Int)) then (aZ (in64 (2*p35)) (aZ (in64 ((2*p35)+2)) (aZ (bi (p34.length+([(2*p35)+2]:List Int).length)) (aZ (in64 (p35+1)) ((jE N p9 m33) (p34++([(2*p35)+2]:List Int)) (p35+1)))))) else (rG N p9 p34)
def pA (N:Nat)(p9:Qq):Option (Qq×Qq):=
 jE N p9 N ([]:List Int) 0
def rH (N:Nat)(kb10:Qq->Int->Option (Qq×Qq))(p12:Int)(y5:Qq)(p15:Qq):Option (Qq×Qq):=
 aZ (in64 (p12+1)) (kb10 p15 (p12+1))
def ot (N:Nat)(kb10:Qq->Int->Option (Qq×Qq))(kb16:Qq->Int->Option (Qq×Qq))(p12:Int)(p18:Int)(y5:Qq)(p21:Qq):Option (Qq×Qq):=
 aZ (in64 (p18+1)) (kb16 p21 (p18+1))
def eB (N:Nat)(kb10:Qq->Int->Option (Qq×Qq))(p12:Int)(y5:Qq):Nat->Qq->Int->Option (Qq×Qq)
 |0,_,_=>none
 |m16+1,p17,p18=>bif decide (p18<(y5.length:Int)) then ((aw y5 p18).bind fun x22=>bif decide (x22.tmod 2=p12) then ((aw y5 p18).bind fun x24=>aZ (bi (p17.length+([x24]:List Int).length)) (ot N kb10 (eB N kb10 p12 y5 m16) p12 p18 y5 (p17++([x24]:List Int)))) else (ot N kb10 (eB N kb10 p12 y5 m16) p12 p18 y5 p17)) else (rH N kb10 p12 y5 p17)
def iv (N:Nat)(y5:Qq):Nat->Qq->Int->Option (Qq×Qq)
 |0,_,_=>none
 |m10+1,p11,p12=>bif decide (p12<2) then (eB N (iv N y5 m10) p12 y5 N p11 0) else (pA N p11)
def qP (N:Nat)(a0:Qg)(a1:Qr):Option (Qq×Qq):=
 (pg N a0 a1).bind fun y5=>iv N y5 N ([]:List Int) 0
theorem DB {N:Nat}{a0:Qg}{a1:Qr}{r:Qq×Qq}(h:qP N a0 a1=some r):Okc QB 116 [.agg #[W A1 n1 c1,W A2 n2 c2],W A3 n3 c3] ([aK A1 n1 c1 a0.Young,aK A2 n2 c2 a0.Old,az A3 n3 c3 a1]) (fun u post=> ∃A0 n0 c0 A1 n1 c1,u=.tuple #[W A0 n0 c0,W A1 n1 c1]/\post=[bS A0 n0 c0 r.1,bS A1 n1 c1 r.2]):=by
 refine rQ Tryz.func116 J J ?_;simp only [jr];refine Y ?_
 refine gB (nH J J) fun B4=> ?_
 refine Y ?_;refine gR (aR (us:=[W A1 n1 c1,W A2 n2 c2]) 0 J J agg29.out J) ?_;refine Y ?_;obtain ⟨y5,k,h⟩:=aa h;refine gD (ba (Be k) call117.out J (hU (aJ (i:=1) J J) (hU (aJ (i:=2) J J) (hU (aJ (i:=3) J J) ax))) DG) ?_;rintro _ _ ⟨_,⟨A6,n6,c6,rfl,rfl⟩,rfl⟩;refine Y ?_;refine gD (aG (R:=(da .i64)) (vss:=[]) (xs:=[]) J (uz) J J (fun _ _ hr=>All2.nil)) ?_;rintro _ _ ⟨A7,n7,c7,rfl,rfl⟩;refine Y ?_;refine am (fun s L=> ∃p9 A9 n9 c9,pA N p9=some r/\s=[(4,W none 0 0),(5,W none 0 0),(7,W A9 n9 c9)]/\L=[bS A9 n9 c9 p9]) ?_ ?_
 ·refine Y ?_;refine aH (fun m s L=> ∃p11 p12 A11 n11 c11,iv N y5 m p11 p12=some r/\s=[(4,W none 0 0),(5,W none 0 0),(6,W A6 n6 c6),(7,W A11 n11 c11),(8,iV p12)]/\L=[bS A6 n6 c6 y5,bS A11 n11 c11 p11]) N _ _ ⟨([]:List Int),0,A7,n7,c7,h,J,J⟩ sA (cS [1,0] 6) ?_;rintro (_|m10) _ _ ⟨p11,p12,A11,n11,c11,h,rfl,rfl⟩
  ·exact aj h
  rw [iv.eq_2] at h;refine ay ?_;refine Y ?_;refine gH J h ?_ ?_<;>intro h
  ·refine Y ?_;refine am (fun s L=> ∃p15 A15 n15 c15,rH N (iv N y5 m10) p12 y5 p15=some r/\s=[(4,W none 0 0),(5,W none 0 0),(6,W A6 n6 c6),(7,W A15 n15 c15),(8,iV p12)]/\L=[bS A6 n6 c6 y5,bS A15 n15 c15 p15]) ?_ ?_
   ·refine Y ?_;refine aH (fun m s L=> ∃p17 p18 A17 n17 c17,eB N (iv N y5 m10) p12 y5 m p17 p18=some r/\s=[(4,W none 0 0),(5,W none 0 0),(6,W A6 n6 c6),(7,W A17 n17 c17),(8,iV p12),(9,iV p18)]/\L=[bS A6 n6 c6 y5,bS A17 n17 c17 p17]) N _ _ ⟨p11,0,A11,n11,c11,h,J,J⟩ sA (cS [0,1] 2) ?_;rintro (_|m16) _ _ ⟨p17,p18,A17,n17,c17,h,rfl,rfl⟩
    ·exact aj h
    rw [eB.eq_2] at h;refine ay ?_;refine Y ?_;refine gR (cC 0 J ap J Ex) ?_;refine Y ?_;refine gH J h ?_ ?_<;>intro h
    ·refine Y ?_;refine am (fun s L=> ∃p21 A21 n21 c21,ot N (iv N y5 m10) (eB N (iv N y5 m10) p12 y5 m16) p12 p18 y5 p21=some r/\s=[(4,W none 0 0),(5,W none 0 0),(6,W A6 n6 c6),(7,W A21 n21 c21),(8,iV p12),(9,iV p18)]/\L=[bS A6 n6 c6 y5,bS A21 n21 c21 p21]) ?_ ?_
     ·refine Y ?_;obtain ⟨x22,lx22,ux22,hx22,h⟩:=aU h;refine gR (bf 0 J ap J J Ex size3.out lx22 ux22) ?_;refine gR (bF (u:=iV x22) 0 J ap J hx22 ex (fun _ _ _ h=>by rw [show _=_ from h];rfl)) ?_;refine gE (ky J J (by decide)) ?_;refine Y ?_;refine gH J h ?_ ?_<;>intro h
      ·refine Y ?_;obtain ⟨x24,lx24,ux24,hx24,h⟩:=aU h;refine gR (bf 0 J ap J J Ex size3.out lx24 ux24) ?_;refine gR (bF (u:=iV x24) 0 J ap J hx24 ex (fun _ _ _ h=>by rw [show _=_ from h];rfl)) ?_;refine gD (aG (R:=(da .i64)) (vss:=[[iV x24]]) (xs:=[x24]) J (dp _) J J (fun _ _ hr=> .cons J All2.nil)) ?_;rintro _ _ ⟨A25,n25,c25,rfl,rfl⟩;obtain ⟨q26,h⟩:=ad h;refine gD (ar 2 0 J J ap J J Ex uE J J q26) ?_;rintro _ _ ⟨A27,n27,c27,rfl,rfl⟩;refine Y ?_;exact ⟨_,_,⟨p17++([x24]:List Int),A27,n27,c27,h,J,J⟩,sA,cS [1,2] 3⟩
      refine Y ?_;exact ⟨_,_,⟨p17,A17,n17,c17,h,J,J⟩,sA,cS [0,1] 2⟩
     rintro _ _ ⟨p21,A21,n21,c21,h,rfl,rfl⟩;refine Y ?_;obtain ⟨q28,h⟩:=ad h;refine gE (cr J J q28.1 q28.2) ?_;refine Y ?_;exact ⟨m16,_,_,Qu _,⟨p21,p18+1,A21,n21,c21,h,J,J⟩,sA,cS [0,1] 2⟩
    refine Y ?_;exact ⟨_,_,⟨p17,A17,n17,c17,h,J,J⟩,sA,cS [0,1] 2⟩
   rintro _ _ ⟨p15,A15,n15,c15,h,rfl,rfl⟩;refine Y ?_;obtain ⟨q29,h⟩:=ad h;refine gE (cr J J q29.1 q29.2) ?_;refine Y ?_;exact ⟨m10,_,_,Qu _,⟨p15,p12+1,A15,n15,c15,h,J,J⟩,sA,cS [0,1] 2⟩
  refine Y ?_;exact ⟨_,_,⟨p11,A11,n11,c11,h,J,J⟩,sA,cS [1] 2⟩
 rintro _ _ ⟨p9,A9,n9,c9,h,rfl,rfl⟩;refine Y ?_;refine gD (aG (R:=(da .i64)) (vss:=[]) (xs:=[]) J (uz) J J (fun _ _ hr=>All2.nil)) ?_;rintro _ _ ⟨A30,n30,c30,rfl,rfl⟩;refine Y ?_;refine am (fun s L=> ∃p32 A32 n32 c32,rG N p9 p32=some r/\s=[(4,W none 0 0),(5,W none 0 0),(7,W A9 n9 c9),(10,W A32 n32 c32)]/\L=[bS A9 n9 c9 p9,bS A32 n32 c32 p32]) ?_ ?_
 ·refine Y ?_;refine aH (fun m s L=> ∃p34 p35 A34 n34 c34,jE N p9 m p34 p35=some r/\s=[(4,W none 0 0),(5,W none 0 0),(7,W A9 n9 c9),(10,W A34 n34 c34),(11,iV p35)]/\L=[bS A9 n9 c9 p9,bS A34 n34 c34 p34]) N _ _ ⟨([]:List Int),0,A30,n30,c30,h,J,J⟩ sA (cS [1,0] 2) ?_;rintro (_|m33) _ _ ⟨p34,p35,A34,n34,c34,h,rfl,rfl⟩
  ·exact aj h
  rw [jE.eq_2] at h;refine ay ?_;refine Y ?_;refine gR (cC 0 J ap J Ex) ?_;refine Y ?_;refine gH J h ?_ ?_<;>intro h
  ·refine Y ?_;refine ay ?_;refine Y ?_;obtain ⟨q37,h⟩:=ad h;refine gE (kA J J q37.1 q37.2) ?_;obtain ⟨q38,h⟩:=ad h;refine gE (cr J J q38.1 q38.2) ?_;refine gD (aG (R:=(da .i64)) (vss:=[[iV ((2*p35)+2)]]) (xs:=[(2*p35)+2]) J (dp _) J J (fun _ _ hr=> .cons J All2.nil)) ?_;rintro _ _ ⟨A39,n39,c39,rfl,rfl⟩;obtain ⟨q40,h⟩:=ad h;refine gD (ar 2 0 J J ap J J Ex uE J J q40) ?_;rintro _ _ ⟨A41,n41,c41,rfl,rfl⟩;refine Y ?_;obtain ⟨q42,h⟩:=ad h;refine gE (cr J J q42.1 q42.2) ?_;refine Y ?_;exact ⟨m33,_,_,Qu _,⟨p34++([(2*p35)+2]:List Int),p35+1,A41,n41,c41,h,J,J⟩,sA,cS [1,2] 3⟩
  refine Y ?_;exact ⟨_,_,⟨p34,A34,n34,c34,h,J,J⟩,sA,cS [0,1] 2⟩
 rintro _ _ ⟨p32,A32,n32,c32,h,rfl,rfl⟩;refine Y ?_;obtain rfl:=bw h;exact Mo J J J (cS [0,1] 2) ⟨_,_,_,_,_,_,J,J⟩
def oq (N:Nat)(a0:Qr)(a1:Qq)(a2:Qq):Option Qr:=
 (fL N (⟨11,0,0,0,[],a0⟩:Ql) a1 a2).bind fun y4=>some y4.More
theorem ye {N:Nat}{a0:Qr}{a1:Qq}{a2:Qq}{r:Qr}(h:oq N a0 a1 a2=some r):Okc QB 120 [W A1 n1 c1,W A2 n2 c2,W A3 n3 c3] ([az A1 n1 c1 a0,bV A2 n2 c2 a1,bV A3 n3 c3 a2]) (fun u post=> ∃A0 n0 c0,u=W A0 n0 c0/\post=[bh A0 n0 c0 r]):=by
 refine rQ Tryz.func120 J J ?_;simp only [jr];refine Y ?_;refine gE (dw J (bld_35_0_5 _ _ _ _).out) ?_;refine Y ?_;obtain ⟨y4,k,h⟩:=aa h;refine gD (ba (qZ k) call112.out J (hU (C3) (hU (aJ (i:=0) J J) (hU (aJ (i:=1) J J) (hU (aJ (i:=2) J J) ax)))) CI) ?_;rintro _ _ ⟨_,⟨A5,n5,c5,A6,n6,c6,rfl,rfl⟩,rfl⟩;refine gE (uy J (Gs _ _ _ _ _ _ _ _ _ _)) ?_;refine Y ?_;obtain rfl:=bw h;exact js J J (cS [1] 5) ⟨_,_,_,J,J⟩
def qz (N:Nat)(a1:Qr)(y12:Qq×Qq)(p20:Qr)(p21:Qy):Option (Qg×Qr×Qr×Int):=
 (oq N a1 y12.1 y12.2).bind fun y74=>(oq N p20 y12.1 y12.2).bind fun y76=>some ((⟨[],p21⟩:Qg),y74,y76,0)
def kI (N:Nat)(kb22:Qq->Qr->Int->Qy->Option (Qg×Qr×Qr×Int))(p25:Int)(a1:Qr)(y12:Qq×Qq)(p23:Qq)(a0:Qg)(p26:Qy)(p49:Qr)(p50:Int)(p51:Int)(p52:Int)(p53:Int)(p54:Qr)(p55:Qr):Option (Qg×Qr×Qr×Int):=
 (fL N (⟨p50,p51,p52,p53,p54,p55⟩:Ql) y12.1 y12.2).bind fun y64=>aZ (bi (p26.length+([y64]:List Ql).length)) (aZ (in64 (p25+1)) (kb22 p23 p49 (p25+1) (p26++([y64]:List Ql))))
def kJ (N:Nat)(kb22:Qq->Qr->Int->Qy->Option (Qg×Qr×Qr×Int))(p25:Int)(a1:Qr)(y12:Qq×Qq)(p23:Qq)(p24:Qr)(a0:Qg)(p26:Qy)(p38:Int)(p39:Int)(p40:Int)(p41:Int)(p42:Qr)(p43:Qr):Option (Qg×Qr×Qr×Int):=
 bif decide (p38=10) then ((qg N (⟨p38,p39,p40,p41,p42,p43⟩:Ql) p23).bind fun y57=>aZ (bi (p24.length+y57.2.length)) (kI N kb22 p25 a1 y12 p23 a0 p26 (p24++y57.2) y57.1.Kind y57.1.Shape y57.1.Flags y57.1.Age y57.1.Slots y57.1.More)) else (kI N kb22 p25 a1 y12 p23 a0 p26 p24 p38 p39 p40 p41 p42 p43)
def dC (N:Nat)(a1:Qr)(y12:Qq×Qq)(a0:Qg):Nat->Qq->Qr->Int->Qy->Option (Qg×Qr×Qr×Int)
 |0,_,_,_,_=>none
 |m22+1,p23,p24,p25,p26=>bif decide (p25<(y12.1.length:Int)) then ((aw y12.1 p25).bind fun x29=>(qe N a0 x29).bind fun y30=>bif decide (y30.Kind=8) then ((qj N y30 p23).bind fun y45=>kJ N (dC N a1 y12 a0 m22) p25 a1 y12 p23 p24 a0 p26 y45.Kind y45.Shape y45.Flags y45.Age y45.Slots y45.More) else (kJ N (dC N a1 y12 a0 m22) p25 a1 y12 p23 p24 a0 p26 y30.Kind y30.Shape y30.Flags y30.Age y30.Slots y30.More)) else (qz N a1 y12 p24 p26)
def na (N:Nat)(a0:Qg)(a1:Qr):Option (Qg×Qr×Qr×Int):=
 (sM N a0 a1).bind fun y6=>bif !decide (y6=0) then (some ((⟨[],[]⟩:Qg),[],[],y6)) else ((qP N a0 a1).bind fun y12=>(pg N a0 a1).bind fun y15=>dC N a1 y12 a0 N y15 ([]:List Qn) 0 [])
theorem Cy {N:Nat}{a0:Qg}{a1:Qr}{r:Qg×Qr×Qr×Int}(h:na N a0 a1=some r):Okc QB 62 [.agg #[W A1 n1 c1,W A2 n2 c2],W A3 n3 c3] ([aK A1 n1 c1 a0.Young,aK A2 n2 c2 a0.Old,az A3 n3 c3 a1]) (fun u post=> ∃A0 n0 c0 A1 n1 c1 A2 n2 c2 A3 n3 c3,u=.tuple #[.agg #[W A0 n0 c0,W A1 n1 c1],W A2 n2 c2,W A3 n3 c3,iV r.2.2.2]/\post=[bY A0 n0 c0 r.1.Young,bY A1 n1 c1 r.1.Old,bh A2 n2 c2 r.2.1,bh A3 n3 c3 r.2.2.1]):=by
 refine cQ Tryz.func62 ?_;intro B4
 refine gg fun B5=> ?_
 refine sZ ?_;obtain ⟨y6,k,h⟩:=aa h;refine kw (oR (E3 k)) ?_;refine gH J h ?_ ?_<;>intro h
 ·refine ae ?_;obtain rfl:=bw h;exact dt (rs:=[.cell 4 29,.tmp 5,.tmp 6,.tmp 7]) (vs:=[.agg #[W none 0 0,W none 0 0],W none 0 0,W none 0 0,iV y6]) J (.cons (bd 0 J J agg29.out) (.cons (iu J) (.cons (iu J) (.cons (iu J) .nil)))) J ((aD bT 35 _).trans ((aD bT 35 _).trans ((aD ak 37 _).trans ((aD ak 37 _).trans (cS [3,2,1,0] 9))))) ⟨_,_,_,_,_,_,_,_,_,_,_,_,J,J⟩
 refine ae ?_;obtain ⟨y12,k,h⟩:=aa h
 refine BM (oR (DB k)) fun A13 n13 c13 A14 n14 c14=> ?_
 obtain ⟨y15,k,h⟩:=aa h
 refine iE (oR (Be k)) fun A16 n16 c16=> ?_
 intro B17;refine ae ?_
 refine iE (aG (R:=ak) (vss:=[]) (xs:=[]) J (kT) J J (fun _ _ hr=>All2.nil)) fun A18 n18 c18=> ?_
 refine am (fun s L=> ∃p20 p21 A20 n20 c20 A21 n21 c21,qz N a1 y12 p20 p21=some r/\s=[(1,W A3 n3 c3),(4,pV B5 0),(5,W none 0 0),(6,W none 0 0),(7,iV 0),(9,W A13 n13 c13),(10,W A14 n14 c14),(12,pV B17 0),(13,W A20 n20 c20)]/\L=[az A3 n3 c3 a1,bS A13 n13 c13 y12.1,bS A14 n14 c14 y12.2,bh A20 n20 c20 p20,ah B5 29 [W none 0 0,W none 0 0],bY A21 n21 c21 p21,ah B17 29 [W none 0 0,W A21 n21 c21]]) ?_ ?_
 ·refine ae ?_;refine aH (fun m s L=> ∃p23 p24 p25 p26 A23 n23 c23 A24 n24 c24 A26 n26 c26,dC N a1 y12 a0 m p23 p24 p25 p26=some r/\s=[(1,W A3 n3 c3),(2,pV B4 0),(4,pV B5 0),(5,W none 0 0),(6,W none 0 0),(7,iV 0),(9,W A13 n13 c13),(10,W A14 n14 c14),(11,W A23 n23 c23),(12,pV B17 0),(13,W A24 n24 c24),(14,iV p25)]/\L=[az A3 n3 c3 a1,bS A13 n13 c13 y12.1,bS A14 n14 c14 y12.2,bV A23 n23 c23 p23,bh A24 n24 c24 p24,aK A1 n1 c1 a0.Young,aK A2 n2 c2 a0.Old,ah B4 29 [W A1 n1 c1,W A2 n2 c2],ah B5 29 [W none 0 0,W none 0 0],bY A26 n26 c26 p26,ah B17 29 [W none 0 0,W A26 n26 c26]]) N _ _ ⟨y15,([]:List Qn),0,[],A16,n16,c16,A18,n18,c18,none,0,0,h,J,J⟩ sA ((aY 2 J).trans ((aD bT 35 _).trans (cS [10,4,5,3,1,8,9,7,6,0,2] 11))) ?_;rintro (_|m22) _ _ ⟨p23,p24,p25,p26,A23,n23,c23,A24,n24,c24,A26,n26,c26,h,rfl,rfl⟩
  ·exact aj h
  rw [dC.eq_2] at h;refine sZ ?_;refine gH J h ?_ ?_<;>intro h
  ·refine sY ?_;refine ay ?_;obtain ⟨x29,lx29,ux29,hx29,h⟩:=aU h;obtain ⟨y30,hy30,h⟩:=aa h;refine dB (t:=[(1,W A3 n3 c3),(2,pV B4 0),(4,pV B5 0),(5,W none 0 0),(6,W none 0 0),(7,iV 0),(9,W A13 n13 c13),(10,W A14 n14 c14),(11,W A23 n23 c23),(12,pV B17 0),(13,W A24 n24 c24),(14,iV p25)]) ?_ fv (ab _)
   refine dF I 7 [] [5,6] [42,43,44,45,46,47,15] [[],[],[],[1,2],[3],[0,4],[]] [aV (.agg #[W A1 n1 c1,W A2 n2 c2]),
aV (W A13 n13 c13),
aV (iV p25),
aV (dj (W A13 n13 c13) p25.toNat 1 0),
aV (iV x29),
aX6 (fun (A33:Option Addr) (n33 c33:Nat) (A34:Option Addr) (n34 c34:Nat)=> .agg #[iV y30.Kind,iV y30.Shape,iV y30.Flags,iV y30.Age,W A33 n33 c33,W A34 n34 c34]) (fun A33 n33 c33 A34 n34 c34=> [az A33 n33 c33 y30.Slots,az A34 n34 c34 y30.More]),
aX1 (fun (B36:Nat)=>pV B36 0) (fun B36=> [ah B36 35 [iV 0,iV 0,iV 0,iV 0,W none 0 0,W none 0 0]])] [] (ab _) (fj) I rfl rfl ?_ ?_ ?_
   ·exact fi
   ·refine ac J ?_ ?_
    ·refine gj (ci zero35.out J) J ?_;rintro _ _ ⟨B35,rfl,rfl⟩;exact FC B35 (ab _)
    refine ac J ?_ ?_
    ·refine gj (oC (xA hy30)) J ?_;rintro _ _ ⟨_,⟨A31,n31,c31,A32,n32,c32,rfl,rfl⟩,rfl⟩;exact BN A31 n31 c31 A32 n32 c32 (ab _)
    refine ac J ?_ ?_
    ·exact cB (bF (u:=iV x29) 1 J ap J hx29 ex (fun _ _ _ h=>by rw [show _=_ from h];rfl)) J (aP J (ab _))
    refine ac J ?_ ?_
    ·exact cB (bf 1 J ap J J Ex size3.out lx29 ux29) J (aP J (ab _))
    refine ac J ?_ ?_
    ·exact bN (ai J) J (aP J (ab _))
    refine ac J ?_ ?_
    ·exact bN (ai J) J (aP J (ab _))
    refine ac J ?_ ?_
    ·exact cB (aR (us:=[W A1 n1 c1,W A2 n2 c2]) 7 J J agg29.out J) J (aP J (ab _))
    exact cp
   intro A33 n33 c33 A34 n34 c34 B36;refine gu (t:=[(47,.agg #[iV y30.Kind,iV y30.Shape,iV y30.Flags,iV y30.Age,W A33 n33 c33,W A34 n34 c34]),(15,pV B36 0),(1,W A3 n3 c3),(2,pV B4 0),(4,pV B5 0),(5,W none 0 0),(6,W none 0 0),(7,iV 0),(9,W A13 n13 c13),(10,W A14 n14 c14),(11,W A23 n23 c23),(12,pV B17 0),(13,W A24 n24 c24),(14,iV p25)]) (L':=[az A33 n33 c33 y30.Slots,az A34 n34 c34 y30.More,ah B36 35 [iV 0,iV 0,iV 0,iV 0,W none 0 0,W none 0 0],az A3 n3 c3 a1,bS A13 n13 c13 y12.1,bS A14 n14 c14 y12.2,bV A23 n23 c23 p23,bh A24 n24 c24 p24,aK A1 n1 c1 a0.Young,aK A2 n2 c2 a0.Old,ah B4 29 [W A1 n1 c1,W A2 n2 c2],ah B5 29 [W none 0 0,W none 0 0],bY A26 n26 c26 p26,ah B17 29 [W none 0 0,W A26 n26 c26]]) ?_ fv (ab _);refine o7 7 J I (aq (us:=[iV y30.Kind,iV y30.Shape,iV y30.Flags,iV y30.Age,W A33 n33 c33,W A34 n34 c34]) (cs':=[iV y30.Kind,iV y30.Shape,iV y30.Flags,iV y30.Age,W A33 n33 c33,W A34 n34 c34]) 2 J J J J size35.out J J J) J J ?_;rintro _ _ rfl;refine sU ?_;refine ft I ?_;refine ae ?_
   refine am (fun s L=> ∃p38 p39 p40 p41 p42 p43 A42 n42 c42 A43 n43 c43,kJ N (dC N a1 y12 a0 m22) p25 a1 y12 p23 p24 a0 p26 p38 p39 p40 p41 p42 p43=some r/\s=[(1,W A3 n3 c3),(2,pV B4 0),(4,pV B5 0),(5,W none 0 0),(6,W none 0 0),(7,iV 0),(9,W A13 n13 c13),(10,W A14 n14 c14),(11,W A23 n23 c23),(12,pV B17 0),(13,W A24 n24 c24),(14,iV p25),(15,pV B36 0)]/\L=[az A3 n3 c3 a1,bS A13 n13 c13 y12.1,bS A14 n14 c14 y12.2,bV A23 n23 c23 p23,bh A24 n24 c24 p24,aK A1 n1 c1 a0.Young,aK A2 n2 c2 a0.Old,ah B4 29 [W A1 n1 c1,W A2 n2 c2],ah B5 29 [W none 0 0,W none 0 0],bY A26 n26 c26 p26,ah B17 29 [W none 0 0,W A26 n26 c26],az A42 n42 c42 p42,az A43 n43 c43 p43,ah B36 35 [iV p38,iV p39,iV p40,iV p41,W A42 n42 c42,W A43 n43 c43]]) ?_ ?_
   ·refine ew h ?_ ?_<;>intro h
    ·refine ae ?_;obtain ⟨y45,k,h⟩:=aa h
     refine BM (oR (zx k)) fun A46 n46 c46 A47 n47 c47=> ?_
     exact ⟨_,_,⟨y45.Kind,y45.Shape,y45.Flags,y45.Age,y45.Slots,y45.More,A46,n46,c46,A47,n47,c47,h,J,J⟩,sA,(aY 0 J).trans ((aY 1 J).trans (cS [5,6,7,8,9,10,11,12,13,14,15,0,1,4] 16))⟩
    exact jY
   rintro _ _ ⟨p38,p39,p40,p41,p42,p43,A42,n42,c42,A43,n43,c43,h,rfl,rfl⟩;refine am (fun s L=> ∃p49 p50 p51 p52 p53 p54 p55 A49 n49 c49 A54 n54 c54 A55 n55 c55,kI N (dC N a1 y12 a0 m22) p25 a1 y12 p23 a0 p26 p49 p50 p51 p52 p53 p54 p55=some r/\s=[(1,W A3 n3 c3),(2,pV B4 0),(4,pV B5 0),(5,W none 0 0),(6,W none 0 0),(7,iV 0),(9,W A13 n13 c13),(10,W A14 n14 c14),(11,W A23 n23 c23),(12,pV B17 0),(13,W A49 n49 c49),(14,iV p25),(15,pV B36 0)]/\L=[az A3 n3 c3 a1,bS A13 n13 c13 y12.1,bS A14 n14 c14 y12.2,bV A23 n23 c23 p23,bh A49 n49 c49 p49,aK A1 n1 c1 a0.Young,aK A2 n2 c2 a0.Old,ah B4 29 [W A1 n1 c1,W A2 n2 c2],ah B5 29 [W none 0 0,W none 0 0],bY A26 n26 c26 p26,ah B17 29 [W none 0 0,W A26 n26 c26],az A54 n54 c54 p54,az A55 n55 c55 p55,ah B36 35 [iV p50,iV p51,iV p52,iV p53,W A54 n54 c54,W A55 n55 c55]]) ?_ ?_
   ·refine ew h ?_ ?_<;>intro h
    ·refine ae ?_;obtain ⟨y57,k,h⟩:=aa h
     refine MX (oC (zv k)) fun A58 n58 c58 A59 n59 c59 A60 n60 c60=> ?_
     intro B61;refine ae ?_;obtain ⟨q62,h⟩:=ad h
     refine iE (ar 8 3 J J ap J J z9 lF J J q62) fun A63 n63 c63=> ?_
     exact jN
    exact jY
   rintro _ _ ⟨p49,p50,p51,p52,p53,p54,p55,A49,n49,c49,A54,n54,c54,A55,n55,c55,h,rfl,rfl⟩;obtain ⟨y64,hy64,h⟩:=aa h;refine dB (t:=[(1,W A3 n3 c3),(2,pV B4 0),(4,pV B5 0),(5,W none 0 0),(6,W none 0 0),(7,iV 0),(9,W A13 n13 c13),(10,W A14 n14 c14),(11,W A23 n23 c23),(12,pV B17 0),(13,W A49 n49 c49),(14,iV p25),(15,pV B36 0)]) ?_ fv (ab _)
   refine dF I 7 [] [1,6] [67,68,69,70,71,72,73] [[],[0],[],[],[],[2,3,4],[5]] [aV (pV B17 1),
aV (W A26 n26 c26),
aV (.agg #[iV p50,iV p51,iV p52,iV p53,W A54 n54 c54,W A55 n55 c55]),
aV (W A13 n13 c13),
aV (W A14 n14 c14),
aX6 (fun (A67:Option Addr) (n67 c67:Nat) (A68:Option Addr) (n68 c68:Nat)=> .agg #[iV y64.Kind,iV y64.Shape,iV y64.Flags,iV y64.Age,W A67 n67 c67,W A68 n68 c68]) (fun A67 n67 c67 A68 n68 c68=> [az A67 n67 c67 y64.Slots,az A68 n68 c68 y64.More]),
aX3 (fun (A70:Option Addr) (n70 c70:Nat)=> W A70 n70 c70) (fun A70 n70 c70=> [bY A70 n70 c70 ([y64]:List Ql)])] [] (ab _) (fj) I rfl rfl ?_ ?_ ?_
   ·exact fi
   ·refine ac J ?_ ?_
    ·intro A67 n67 c67 A68 n68 c68;refine gj (aG (R:=bT) (vss:=[[iV y64.Kind,iV y64.Shape,iV y64.Flags,iV y64.Age,W A67 n67 c67,W A68 n68 c68]]) (xs:=[y64]) J (mf _ _ _ _ _ _ _ _ _ _) J J (fun _ _ hr=> .cons (⟨_,_,_,_,_,_,J,hr 0 _ J J,hr 1 _ J J⟩) All2.nil)) J ?_;rintro _ _ ⟨A69,n69,c69,rfl,rfl⟩;exact pv A69 n69 c69 (ab _)
    refine ac J ?_ ?_
    ·refine gj (oR (qZ hy64)) J ?_;rintro _ _ ⟨_,⟨A65,n65,c65,A66,n66,c66,rfl,rfl⟩,rfl⟩;exact BN A65 n65 c65 A66 n66 c66 ((aY 0 J).trans ((aY 1 J).trans (ab _)))
    refine ac J ?_ ?_
    ·exact bN (ai J) J (aP J (ab _))
    refine ac J ?_ ?_
    ·exact bN (ai J) J (aP J (ab _))
    refine ac J ?_ ?_
    ·exact cB (aR (us:=[iV p50,iV p51,iV p52,iV p53,W A54 n54 c54,W A55 n55 c55]) 13 J J agg35.out J) J (aP J (ab _))
    refine ac J ?_ ?_
    ·exact cB (aL 10 J J ni J) J (aP J (ab _))
    refine ac J ?_ ?_
    ·exact bN (bB J lC) J (aP J (ab _))
    exact cp
   intro A70 n70 c70;refine gu (t:=[(68,W A26 n26 c26),(73,W A70 n70 c70),(1,W A3 n3 c3),(2,pV B4 0),(4,pV B5 0),(5,W none 0 0),(6,W none 0 0),(7,iV 0),(9,W A13 n13 c13),(10,W A14 n14 c14),(11,W A23 n23 c23),(12,pV B17 0),(13,W A49 n49 c49),(14,iV p25),(15,pV B36 0)]) (L':=[bY A70 n70 c70 ([y64]:List Ql),az A3 n3 c3 a1,bS A13 n13 c13 y12.1,bS A14 n14 c14 y12.2,bV A23 n23 c23 p23,bh A49 n49 c49 p49,aK A1 n1 c1 a0.Young,aK A2 n2 c2 a0.Old,ah B4 29 [W A1 n1 c1,W A2 n2 c2],ah B5 29 [W none 0 0,W none 0 0],bY A26 n26 c26 p26,ah B17 29 [W none 0 0,W A26 n26 c26],az A54 n54 c54 p54,az A55 n55 c55 p55,ah B36 35 [iV p50,iV p51,iV p52,iV p53,W A54 n54 c54,W A55 n55 c55]]) ?_ fv (ab _);obtain ⟨q71,h⟩:=ad h;refine jt 7 J I (ar 10 0 J J ap J J t9 tt J J q71) J J J ?_;rintro _ _ ⟨A72,n72,c72,rfl,rfl⟩;refine sU ?_;refine rc 8 J I (bB J lC) J J J ?_;refine o7 9 J I (aq (us:=[W A72 n72 c72]) (cs':=[W none 0 0,W A72 n72 c72]) 11 J J J J size27.out J J J) J J ?_;rintro _ _ rfl;refine ft I ?_;refine ae ?_;obtain ⟨q73,h⟩:=ad h;exact lY
  exact jY
 rintro _ _ ⟨p20,p21,A20,n20,c20,A21,n21,c21,h,rfl,rfl⟩;refine ay ?_;refine bm I ([az A3 n3 c3 a1,bS A13 n13 c13 y12.1,bS A14 n14 c14 y12.2,bh A20 n20 c20 p20,bY A21 n21 c21 p21,ah B17 29 [W none 0 0,W A21 n21 c21]]) (cS [0,1,2,3,5,6] 7) ?_;refine zR 0 J (aR (us:=[W none 0 0,W A21 n21 c21]) 5 J J agg29.out J) ?_;refine zE 1 J (ai J) ?_;refine zE 2 J (ai J) ?_;refine zE 3 J (ai J) ?_;refine zE 5 J (ai J) ?_;refine zE 6 J (ai J) ?_;refine zE 7 J (ai J) ?_;obtain ⟨y74,k,h⟩:=aa h;refine zD 4 J (oR (ye k)) ?_;rintro _ _ ⟨_,⟨A75,n75,c75,rfl,rfl⟩,rfl⟩;refine bq (cS [1,2,3,4,6,7] 8) ?_;obtain ⟨y76,k,h⟩:=aa h;refine zD 8 J (oR (ye k)) ?_;rintro _ _ ⟨_,⟨A77,n77,c77,rfl,rfl⟩,rfl⟩;refine bq (cS [2,3,4,5,7,8] 9) ?_;refine zO 9 J (aq (us:=[W none 0 0,W A21 n21 c21]) (cs':=[W none 0 0,W A21 n21 c21]) 6 J J J J size29.out J J J) ?_;rintro _ _ rfl;refine bq (cS [2,3,4,5,7,8] 9) ?_;refine zE 10 J (av J) ?_;refine zE 11 J (av J) ?_;refine zE 12 J (av J) ?_;refine bv I ?_;refine ae ?_;obtain rfl:=bw h;exact dt (rs:=[.cell 4 29,.tmp 5,.tmp 6,.tmp 7]) (vs:=[.agg #[W none 0 0,W A21 n21 c21],W A75 n75 c75,W A77 n77 c77,iV 0]) J (.cons (bd 6 J J agg29.out) (.cons (iu J) (.cons (iu J) (.cons (iu J) .nil)))) J ((aD bT 35 _).trans (cS [0,8,2,1] 10)) ⟨_,_,_,_,_,_,_,_,_,_,_,_,J,J⟩
def eV (N:Nat)(a0:Qk)(p15:Qr)(p16:Qr)(p17:Int)(p18:Qy)(p19:Qy):Option (Qk×Qd):=
 bif !decide (p17=0) then (some (a0,(⟨0,p17,false,(⟨0,0,0,0,[],[]⟩:Ql),(⟨0,0,⟨#[]⟩⟩:Qn),[]⟩:Qd))) else (aZ ((0:Int)<=(a0.Roots.length:Int)/\0<=(a0.Roots.length:Int).toNat/\(a0.Roots.length:Int).toNat<=p15.length) (aZ (bi (([]:List Qn).length+((p15.drop 0).take ((a0.Roots.length:Int).toNat - 0)).length)) (aZ ((0:Int)<=(a0.Roots.length:Int)/\(a0.Roots.length:Int).toNat<=p15.length/\p15.length<=p15.length) (aZ (bi (([]:List Qn).length+((p15.drop ((a0.Roots.length:Int).toNat)).take (p15.length - (a0.Roots.length:Int).toNat)).length)) (aZ (bi ((([]:List Qn)++((p15.drop ((a0.Roots.length:Int).toNat)).take (p15.length - (a0.Roots.length:Int).toNat))).length+p16.length)) (some ((⟨(⟨p18,p19⟩:Qg),([]:List Qn)++((p15.drop 0).take ((a0.Roots.length:Int).toNat - 0)),(([]:List Qn)++((p15.drop ((a0.Roots.length:Int).toNat)).take (p15.length - (a0.Roots.length:Int).toNat)))++p16⟩:Qk),(⟨0,0,false,(⟨0,0,0,0,[],[]⟩:Ql),(⟨0,0,⟨#[]⟩⟩:Qn),[]⟩:Qd))))))))
def gM (N:Nat)(a0:Qk)(a1:Int):Option (Qk×Qd):=
 aZ (bi (([]:List Qn).length+a0.Roots.length)) (aZ (bi ((([]:List Qn)++a0.Roots).length+a0.Pending.length)) (bif decide (a1=5) then ((sO N a0.M).bind fun y21=>(jj N a0.M ((([]:List Qn)++a0.Roots)++a0.Pending) y21).bind fun y24=>eV N a0 y24.Now y24.Gone y24.Err y24.M.Young y24.M.Old) else ((na N a0.M ((([]:List Qn)++a0.Roots)++a0.Pending)).bind fun y35=>eV N a0 y35.2.1 y35.2.2.1 y35.2.2.2 y35.1.Young y35.1.Old)))
theorem Cu {N:Nat}{a0:Qk}{a1:Int}{r:Qk×Qd}(h:gM N a0 a1=some r):Okc QB 29 [.agg #[W A1 n1 c1,W A2 n2 c2,W A3 n3 c3,W A4 n4 c4],iV a1] ([aK A1 n1 c1 a0.M.Young,aK A2 n2 c2 a0.M.Old,az A3 n3 c3 a0.Roots,az A4 n4 c4 a0.Pending]) (fun u post=> ∃A0 n0 c0 A1 n1 c1 A2 n2 c2 A3 n3 c3 A4 n4 c4 A5 n5 c5 A6 n6 c6,u=.tuple #[.agg #[W A0 n0 c0,W A1 n1 c1,W A2 n2 c2,W A3 n3 c3],.agg #[iV r.2.N,iV r.2.E,.bool r.2.Ok,iV r.2.C.Kind,iV r.2.C.Shape,iV r.2.C.Flags,iV r.2.C.Age,W A4 n4 c4,W A5 n5 c5,iV r.2.V.Kind,iV r.2.V.N,.string r.2.V.S,W A6 n6 c6]]/\post=[aK A0 n0 c0 r.1.M.Young,aK A1 n1 c1 r.1.M.Old,az A2 n2 c2 r.1.Roots,az A3 n3 c3 r.1.Pending,bh A4 n4 c4 r.2.C.Slots,bh A5 n5 c5 r.2.C.More,bh A6 n6 c6 r.2.L]):=by
 refine rQ Tryz.func29 J J ?_;simp only [jr];refine Y ?_
 refine gB (nH J J) fun B5=> ?_
 refine gB (ci zero32.out J) fun B6=> ?_
 refine gB (ci zero39.out J) fun B7=> ?_
 refine Y ?_;refine ay ?_;refine bm I _ (ab _) ?_;refine zE 1 J (bB J te) ?_;refine zR 2 J (aL 2 J J dr J) ?_;refine zE 4 J (bB J FA) ?_;refine zR 5 J (aL 2 J J dr J) ?_;refine zD 0 J (aG (R:=ak) (vss:=[]) (xs:=[]) J (kT) J J (fun _ _ hr=>All2.nil)) ?_;rintro _ _ ⟨A8,n8,c8,rfl,rfl⟩;refine bq (cS [1,2,3,4,5,6,7] 8) ?_;obtain ⟨q9,h⟩:=ad h;refine zD 3 J (ar 0 6 J J ao J J z9 lF J J q9) ?_;rintro _ _ ⟨A10,n10,c10,rfl,rfl⟩;refine bq (cS [1,2,3,4,5,6,7] 8) ?_;obtain ⟨q11,h⟩:=ad h;refine zD 6 J (ar 0 7 J J ao J J z9 lF J J q11) ?_;rintro _ _ ⟨A12,n12,c12,rfl,rfl⟩;refine bq (cS [1,2,3,4,5,6,7] 8) ?_;refine zE 7 J (av J) ?_;refine bv I ?_;refine Y ?_;refine gR (aR (us:=[W A1 n1 c1,W A2 n2 c2]) 3 J J agg29.out J) ?_;refine Y ?_
 refine gB (ci zero29.out J) fun B13=> ?_
 refine gW (aq (us:=[W A1 n1 c1,W A2 n2 c2]) (cs':=[W A1 n1 c1,W A2 n2 c2]) 0 J J J J size29.out J J J) ?_;refine Y ?_;refine am (fun s L=> ∃p15 p16 p17 p18 p19 A15 n15 c15 A16 n16 c16 A18 n18 c18 A19 n19 c19,eV N a0 p15 p16 p17 p18 p19=some r/\s=[(2,pV B5 0),(4,pV B6 0),(5,pV B7 0),(7,pV B13 0),(8,W A15 n15 c15),(9,W A16 n16 c16),(10,iV p17)]/\L=[bh A15 n15 c15 p15,bh A16 n16 c16 p16,aK A1 n1 c1 a0.M.Young,aK A2 n2 c2 a0.M.Old,az A3 n3 c3 a0.Roots,az A4 n4 c4 a0.Pending,ah B5 32 [W A1 n1 c1,W A2 n2 c2,W A3 n3 c3,W A4 n4 c4],ah B6 32 [W none 0 0,W none 0 0,W none 0 0,W none 0 0],ah B7 39 [iV 0,iV 0,.bool false,iV 0,iV 0,iV 0,iV 0,W none 0 0,W none 0 0,iV 0,iV 0,.string (⟨#[]⟩),W none 0 0],bY A18 n18 c18 p18,bY A19 n19 c19 p19,ah B13 29 [W A18 n18 c18,W A19 n19 c19]]) ?_ ?_
 ·refine Y ?_;refine gH J h ?_ ?_<;>intro h
  ·refine ay ?_;refine dB ?_ aW (aY 1 J);obtain ⟨y21,hy21,h⟩:=aa h;obtain ⟨y24,hy24,h⟩:=aa h;refine dB (t:=[(2,pV B5 0),(4,pV B6 0),(5,pV B7 0),(6,W A12 n12 c12),(7,pV B13 0),(8,W A12 n12 c12),(9,W A12 n12 c12),(10,iV 0)]) ?_ fv (ab _)
   refine dF I 8 [] [6,7] [26,27,28,29,30,31,32,11] [[],[0],[],[],[3],[4],[1,2,5],[]] [aV (pV B5 0),
 aV (.agg #[W A1 n1 c1,W A2 n2 c2]),
 aV (W A12 n12 c12),
 aV (pV B5 0),
 aV (.agg #[W A1 n1 c1,W A2 n2 c2]),
 aX3 (fun (A23:Option Addr) (n23 c23:Nat)=> W A23 n23 c23) (fun A23 n23 c23=> [bV A23 n23 c23 y21]),
 aX12 (fun (A29:Option Addr) (n29 c29:Nat) (A30:Option Addr) (n30 c30:Nat) (A31:Option Addr) (n31 c31:Nat) (A32:Option Addr) (n32 c32:Nat)=> .agg #[W A29 n29 c29,W A30 n30 c30,W A31 n31 c31,W A32 n32 c32,iV y24.Err]) (fun A29 n29 c29 A30 n30 c30 A31 n31 c31 A32 n32 c32=> [bY A29 n29 c29 y24.M.Young,bY A30 n30 c30 y24.M.Old,bh A31 n31 c31 y24.Now,bh A32 n32 c32 y24.Gone]),
 aX1 (fun (B34:Nat)=>pV B34 0) (fun B34=> [ah B34 98 [W none 0 0,W none 0 0,W none 0 0,W none 0 0,iV 0]])] [] (ab _) (fj) I rfl rfl ?_ ?_ ?_
   ·exact fi
   ·refine ac J ?_ ?_
    ·refine gj (ci zero98.out J) J ?_;rintro _ _ ⟨B33,rfl,rfl⟩;exact FC B33 (ab _)
    refine ac J ?_ ?_
    ·intro A23 n23 c23;refine gj (gz (CC hy24) call60.out J (ce [6,7,2,0] [] [0,1,2,3,4,5,6,7,8,9] 10 J)) J ?_;rintro _ _ ⟨_,⟨A25,n25,c25,A26,n26,c26,A27,n27,c27,A28,n28,c28,rfl,rfl⟩,rfl⟩;exact Mu A25 n25 c25 A26 n26 c26 A27 n27 c27 A28 n28 c28 (ab _)
    refine ac J ?_ ?_
    ·refine gj (ba (E5 hy21) call61.out J (hU (aJ (i:=5) J J) (hU (aJ (i:=6) J J) ax)) Cz) J ?_;rintro _ _ ⟨_,⟨A22,n22,c22,rfl,rfl⟩,rfl⟩;exact pv A22 n22 c22 ((aY 0 J).trans (ab _))
    refine ac J ?_ ?_
    ·exact cB (aR (us:=[W A1 n1 c1,W A2 n2 c2]) 4 J J agg29.out J) J (aP J (ab _))
    refine ac J ?_ ?_
    ·exact bN (cG J oQ) J (aP J (ab _))
    refine ac J ?_ ?_
    ·exact bN (ai J) J (aP J (ab _))
    refine ac J ?_ ?_
    ·exact cB (aR (us:=[W A1 n1 c1,W A2 n2 c2]) 4 J J agg29.out J) J (aP J (ab _))
    refine ac J ?_ ?_
    ·exact bN (cG J oQ) J (aP J (ab _))
    exact cp
   intro A29 n29 c29 A30 n30 c30 A31 n31 c31 A32 n32 c32 B34;refine gu (t:=[(32,.agg #[W A29 n29 c29,W A30 n30 c30,W A31 n31 c31,W A32 n32 c32,iV y24.Err]),(11,pV B34 0),(2,pV B5 0),(4,pV B6 0),(5,pV B7 0),(6,W A12 n12 c12),(7,pV B13 0),(8,W A12 n12 c12),(9,W A12 n12 c12),(10,iV 0)]) (L':=[bY A29 n29 c29 y24.M.Young,bY A30 n30 c30 y24.M.Old,bh A31 n31 c31 y24.Now,bh A32 n32 c32 y24.Gone,ah B34 98 [W none 0 0,W none 0 0,W none 0 0,W none 0 0,iV 0],ah B13 29 [W A1 n1 c1,W A2 n2 c2],az A12 n12 c12 ((([]:List Qn)++a0.Roots)++a0.Pending),ah B7 39 [iV 0,iV 0,.bool false,iV 0,iV 0,iV 0,iV 0,W none 0 0,W none 0 0,iV 0,iV 0,.string (⟨#[]⟩),W none 0 0],ah B6 32 [W none 0 0,W none 0 0,W none 0 0,W none 0 0],ah B5 32 [W A1 n1 c1,W A2 n2 c2,W A3 n3 c3,W A4 n4 c4],aK A1 n1 c1 a0.M.Young,aK A2 n2 c2 a0.M.Old,az A3 n3 c3 a0.Roots,az A4 n4 c4 a0.Pending]) ?_ fv (ab _);refine o7 8 J I (aq (us:=[W A29 n29 c29,W A30 n30 c30,W A31 n31 c31,W A32 n32 c32,iV y24.Err]) (cs':=[W A29 n29 c29,W A30 n30 c30,W A31 n31 c31,W A32 n32 c32,iV y24.Err]) 4 J J J J size98.out J J J) J J ?_;rintro _ _ rfl;refine sU ?_;refine ft I ?_;refine wF ?_
   refine bm I ([bY A29 n29 c29 y24.M.Young,bY A30 n30 c30 y24.M.Old,bh A31 n31 c31 y24.Now,bh A32 n32 c32 y24.Gone,ah B34 98 [W A29 n29 c29,W A30 n30 c30,W A31 n31 c31,W A32 n32 c32,iV y24.Err],az A12 n12 c12 ((([]:List Qn)++a0.Roots)++a0.Pending),ah B7 39 [iV 0,iV 0,.bool false,iV 0,iV 0,iV 0,iV 0,W none 0 0,W none 0 0,iV 0,iV 0,.string (⟨#[]⟩),W none 0 0],ah B6 32 [W none 0 0,W none 0 0,W none 0 0,W none 0 0],ah B5 32 [W A1 n1 c1,W A2 n2 c2,W A3 n3 c3,W A4 n4 c4],aK A1 n1 c1 a0.M.Young,aK A2 n2 c2 a0.M.Old,az A3 n3 c3 a0.Roots,az A4 n4 c4 a0.Pending]) (cS [0,1,2,3,4,6,7,8,9,10,11,12,13] 14) ?_;refine zE 0 J (cG J BT) ?_;refine zR 1 J (aR (us:=[W A29 n29 c29,W A30 n30 c30]) 4 J J agg29.out J) ?_;refine zE 2 J (bB J H5) ?_;refine zR 3 J (aL 4 J J dr J) ?_;refine zE 4 J (bB J H4) ?_;refine zR 5 J (aL 4 J J dr J) ?_;refine zE 6 J (bB J H3) ?_;refine zR 7 J (aL 4 J J ex J) ?_;refine zO 8 J (aq (us:=[W A29 n29 c29,W A30 n30 c30]) (cs':=[W A29 n29 c29,W A30 n30 c30]) 5 J J J J size29.out J J J) ?_;rintro _ _ rfl;refine bq (cS [0,1,2,3,4,6,7,8,9,10,11,12,13] 14) ?_;refine zE 9 J (av J) ?_;refine zE 10 J (av J) ?_;refine zE 11 J (av J) ?_;refine bv I ?_;refine wF ?_
   exact ⟨_,_,⟨y24.Now,y24.Gone,y24.Err,y24.M.Young,y24.M.Old,A31,n31,c31,A32,n32,c32,A29,n29,c29,A30,n30,c30,h,J,J⟩,sA,cS [2,3,10,11,12,13,9,8,7,0,1,5] 14⟩
  refine Y ?_;refine gR (aR (us:=[W A1 n1 c1,W A2 n2 c2]) 4 J J agg29.out J) ?_;refine Y ?_;obtain ⟨y35,k,h⟩:=aa h;refine lp (aY 1 J) ?_;refine gD (gz (Cy k) call62.out J (ce [5,6,1] [] [0,1,2,3,4,5,6,7,8] 9 J)) ?_;rintro _ _ ⟨_,⟨A36,n36,c36,A37,n37,c37,A38,n38,c38,A39,n39,c39,rfl,rfl⟩,rfl⟩;refine Y ?_;refine gW (aq (us:=[W A36 n36 c36,W A37 n37 c37]) (cs':=[W A36 n36 c36,W A37 n37 c37]) 4 J J J J size29.out J J J) ?_;refine eh ?_;refine Y ?_;exact ⟨_,_,⟨y35.2.1,y35.2.2.1,y35.2.2.2,y35.1.Young,y35.1.Old,A38,n38,c38,A39,n39,c39,A36,n36,c36,A37,n37,c37,h,J,J⟩,sA,cS [2,3,9,10,11,12,8,7,6,0,1,4] 13⟩
 rintro _ _ ⟨p15,p16,p17,p18,p19,A15,n15,c15,A16,n16,c16,A18,n18,c18,A19,n19,c19,h,rfl,rfl⟩;refine ay ?_;refine Y ?_;refine gH J h ?_ ?_<;>intro h
 ·refine Y ?_;refine gR (aR (us:=[W A1 n1 c1,W A2 n2 c2,W A3 n3 c3,W A4 n4 c4]) 6 J J agg32.out J) ?_;refine Y ?_;refine gE (dw J (bld_39_1 _).out) ?_;refine gW (aq (us:=[W A1 n1 c1,W A2 n2 c2,W A3 n3 c3,W A4 n4 c4]) (cs':=[W A1 n1 c1,W A2 n2 c2,W A3 n3 c3,W A4 n4 c4]) 7 J J J J size32.out J J J) ?_;refine gW (aq (us:=[iV 0,iV p17,.bool false,iV 0,iV 0,iV 0,iV 0,W none 0 0,W none 0 0,iV 0,iV 0,.string (⟨#[]⟩),W none 0 0]) (cs':=[iV 0,iV p17,.bool false,iV 0,iV 0,iV 0,iV 0,W none 0 0,W none 0 0,iV 0,iV 0,.string (⟨#[]⟩),W none 0 0]) 8 J J J J size39.out J J J) ?_;refine Y ?_;obtain rfl:=bw h;exact dt (rs:=[.cell 4 32,.cell 5 39]) (vs:=[.agg #[W A1 n1 c1,W A2 n2 c2,W A3 n3 c3,W A4 n4 c4],.agg #[iV 0,iV p17,.bool false,iV 0,iV 0,iV 0,iV 0,W none 0 0,W none 0 0,iV 0,iV 0,.string (⟨#[]⟩),W none 0 0]]) J (.cons (bd 7 J J agg32.out) (.cons (bd 8 J J agg39.out) .nil)) J ((aD ak 37 _).trans ((aD ak 37 _).trans ((aD ak 37 _).trans (cS [5,6,7,8,2,1,0] 15)))) ⟨_,_,_,_,_,_,_,_,_,_,_,_,_,_,_,_,_,_,_,_,_,J,J⟩
 refine Y ?_;refine gR (cC 4 J ao J z9) ?_;refine Y ?_;refine gR (aR (us:=[W A18 n18 c18,W A19 n19 c19]) 11 J J agg29.out J) ?_;refine Y ?_;refine gW (aq (us:=[W A18 n18 c18,W A19 n19 c19]) (cs':=[W A18 n18 c18,W A19 n19 c19,W A3 n3 c3,W A4 n4 c4]) 6 J J J J size29.out J J J) ?_;refine eh ?_;refine Y ?_;refine gD (aG (R:=ak) (vss:=[]) (xs:=[]) J (kT) J J (fun _ _ hr=>All2.nil)) ?_;rintro _ _ ⟨A44,n44,c44,rfl,rfl⟩;refine Ny ?_;refine lp (aY 1 J) ?_;obtain ⟨q45,h⟩:=ad h;refine GQ 1 J (l:=0) (h:=(a0.Roots.length:Int).toNat) q45.2.1 q45.2.2 ?_;rintro A46 n46 c46 e46;refine gR (E0 2 J e46 J z9 size37.out J J (by rw [Int.toNat_of_nonneg q45.1];rfl) q45.2.1 q45.2.2) ?_;obtain ⟨q47,h⟩:=ad h;refine gD (ar 1 0 J J ao J J z9 lF J J q47) ?_;rintro _ _ ⟨A48,n48,c48,rfl,rfl⟩;refine Y ?_;refine gW (aq (us:=[W A48 n48 c48]) (cs':=[W A18 n18 c18,W A19 n19 c19,W A48 n48 c48,W A4 n4 c4]) 8 J J J J size30.out J J J) ?_;refine eh ?_;refine Y ?_;refine gD (aG (R:=ak) (vss:=[]) (xs:=[]) J (kT) J J (fun _ _ hr=>All2.nil)) ?_;rintro _ _ ⟨A49,n49,c49,rfl,rfl⟩;refine Y ?_;obtain ⟨q50,h⟩:=ad h;refine GQ 3 J (l:=(a0.Roots.length:Int).toNat) (h:=p15.length) q50.2.1 q50.2.2 ?_;rintro A51 n51 c51 e51;refine gR (xy 4 J e51 J z9 size37.out J (by rw [Int.toNat_of_nonneg q50.1];rfl) q50.2.1) ?_
 obtain ⟨q52,h⟩:=ad h;refine gD (ar 1 0 J J ao J J z9 lF J J q52) ?_;rintro _ _ ⟨A53,n53,c53,rfl,rfl⟩;refine Y ?_;obtain ⟨q54,h⟩:=ad h;refine gD (ar 1 5 J J ap J J z9 lF J J q54) ?_;rintro _ _ ⟨A55,n55,c55,rfl,rfl⟩;refine Y ?_;refine gW (aq (us:=[W A55 n55 c55]) (cs':=[W A18 n18 c18,W A19 n19 c19,W A48 n48 c48,W A55 n55 c55]) 10 J J J J size30.out J J J) ?_;refine eh ?_;refine Y ?_;refine gR (aR (us:=[W A18 n18 c18,W A19 n19 c19,W A48 n48 c48,W A55 n55 c55]) 10 J J agg32.out J) ?_;refine gE (dw J bld_39_.out) ?_;refine gW (aq (us:=[W A18 n18 c18,W A19 n19 c19,W A48 n48 c48,W A55 n55 c55]) (cs':=[W A18 n18 c18,W A19 n19 c19,W A48 n48 c48,W A55 n55 c55]) 11 J J J J size32.out J J J) ?_;refine gW (aq (us:=[iV 0,iV 0,.bool false,iV 0,iV 0,iV 0,iV 0,W none 0 0,W none 0 0,iV 0,iV 0,.string (⟨#[]⟩),W none 0 0]) (cs':=[iV 0,iV 0,.bool false,iV 0,iV 0,iV 0,iV 0,W none 0 0,W none 0 0,iV 0,iV 0,.string (⟨#[]⟩),W none 0 0]) 12 J J J J size39.out J J J) ?_;refine Y ?_;obtain rfl:=bw h
 exact dt (rs:=[.cell 4 32,.cell 5 39]) (vs:=[.agg #[W A18 n18 c18,W A19 n19 c19,W A48 n48 c48,W A55 n55 c55],.agg #[iV 0,iV 0,.bool false,iV 0,iV 0,iV 0,iV 0,W none 0 0,W none 0 0,iV 0,iV 0,.string (⟨#[]⟩),W none 0 0]]) J (.cons (bd 11 J J agg32.out) (.cons (bd 12 J J agg39.out) .nil)) J ((aY 13 J).trans ((aY 14 J).trans ((aY 3 J).trans ((aY 1 J).trans ((aD ak 37 _).trans ((aD ak 37 _).trans ((aD ak 37 _).trans (cS [16,17,6,4,2,1,0] 19)))))))) ⟨_,_,_,_,_,_,_,_,_,_,_,_,_,_,_,_,_,_,_,_,_,J,J⟩
def uM (N:Nat)(a0:Qk)(a1:Qc)(p62:Qr):Option (Qk×Qd):=
 some ((⟨a0.M,p62,a0.Pending⟩:Qk),(⟨0,0,false,(⟨0,0,0,0,[],[]⟩:Ql),(⟨0,0,⟨#[]⟩⟩:Qn),[]⟩:Qd))
def kj (N:Nat)(a0:Qk)(a1:Qc)(p59:Int):Option (Qk×Qd):=
 bif decide (p59<(a0.Roots.length:Int)) then (aZ ((0:Int)<=p59/\0<=p59.toNat/\p59.toNat<=a0.Roots.length) (aZ (bi (([]:List Qn).length+((a0.Roots.drop 0).take (p59.toNat - 0)).length)) (uM N a0 a1 (([]:List Qn)++((a0.Roots.drop 0).take (p59.toNat - 0)))))) else (uM N a0 a1 a0.Roots)
def pc (N:Nat)(a1:Qc)(a0:Qk)(p73:Bool):Option (Qk×Qd):=
 bif p73 then ((gM N a0 a1.Kind).bind fun y76=>some (y76.1,y76.2)) else (bif decide (a1.Kind=7) then (some ((⟨a0.M,a0.Roots,[]⟩:Qk),(⟨0,0,false,(⟨0,0,0,0,[],[]⟩:Ql),(⟨0,0,⟨#[]⟩⟩:Qn),a0.Pending⟩:Qd))) else (bif decide (a1.Kind=8) then ((jF N a0.M a1.N).bind fun y89=>bif !y89 then (some (a0,(⟨0,0,false,(⟨0,0,0,0,[],[]⟩:Ql),(⟨0,0,⟨#[]⟩⟩:Qn),[]⟩:Qd))) else ((qe N a0.M a1.N).bind fun y94=>some (a0,(⟨0,0,true,y94,(⟨0,0,⟨#[]⟩⟩:Qn),[]⟩:Qd)))) else ((bif decide (a1.N<0) then (some true) else (some (decide ((a0.Roots.length:Int)<=a1.N)))).bind fun b98=>bif b98 then (some (a0,(⟨0,0,false,(⟨0,0,0,0,[],[]⟩:Ql),(⟨0,0,⟨#[]⟩⟩:Qn),[]⟩:Qd))) else ((aw a0.Roots a1.N).bind fun x103=>some (a0,(⟨0,0,false,(⟨0,0,0,0,[],[]⟩:Ql),x103,[]⟩:Qd))))))
def zi (N:Nat)(a0:Qk)(a1:Qc):Option (Qk×Qd):=
 bif decide (a1.Kind=0) then ((rE N a0 a1.C).bind fun y12=>some (y12.1,y12.2)) else (bif decide (a1.Kind=1) then ((ue N a0 a1.N a1.C).bind fun y21=>some (y21.1,y21.2)) else (bif decide (a1.Kind=2) then (aZ (bi (([]:List Qn).length+a0.Roots.length)) (aZ (bi ((([]:List Qn)++a0.Roots).length+([a1.V]:List Qn).length)) (aZ (in64 ((((([]:List Qn)++a0.Roots)++([a1.V]:List Qn)).length:Int) - 1)) (some ((⟨a0.M,(([]:List Qn)++a0.Roots)++([a1.V]:List Qn),a0.Pending⟩:Qk),(⟨(((([]:List Qn)++a0.Roots)++([a1.V]:List Qn)).length:Int) - 1,0,false,(⟨0,0,0,0,[],[]⟩:Ql),(⟨0,0,⟨#[]⟩⟩:Qn),[]⟩:Qd)))))) else (bif decide (a1.Kind=3) then ((bif decide (a1.N<0) then (some true) else (some (decide ((a0.Roots.length:Int)<=a1.N)))).bind fun b45=>bif b45 then (some (a0,(⟨0,0,false,(⟨0,0,0,0,[],[]⟩:Ql),(⟨0,0,⟨#[]⟩⟩:Qn),[]⟩:Qd))) else (aZ (bi (([]:List Qn).length+a0.Roots.length)) ((aw (([]:List Qn)++a0.Roots) a1.N).bind fun x53=>some ((⟨a0.M,List.set (([]:List Qn)++a0.Roots) a1.N.toNat (⟨a1.V.Kind,a1.V.N,a1.V.S⟩:Qn),a0.Pending⟩:Qk),(⟨0,0,true,(⟨0,0,0,0,[],[]⟩:Ql),(⟨0,0,⟨#[]⟩⟩:Qn),[]⟩:Qd))))) else (bif decide (a1.Kind=4) then (bif decide (a1.N<0) then (kj N a0 a1 0) else (kj N a0 a1 a1.N)) else (bif decide (a1.Kind=5) then (pc N a1 a0 (decide (a1.Kind=5))) else (pc N a1 a0 (decide (a1.Kind=6))))))))
theorem IN {N:Nat}{a0:Qk}{a1:Qc}{r:Qk×Qd}(h:zi N a0 a1=some r):Okc QB 7 [.agg #[W A1 n1 c1,W A2 n2 c2,W A3 n3 c3,W A4 n4 c4],.agg #[iV a1.Kind,iV a1.N,iV a1.C.Kind,iV a1.C.Shape,iV a1.C.Flags,iV a1.C.Age,W A5 n5 c5,W A6 n6 c6,iV a1.V.Kind,iV a1.V.N,.string a1.V.S]] ([aK A1 n1 c1 a0.M.Young,aK A2 n2 c2 a0.M.Old,az A3 n3 c3 a0.Roots,az A4 n4 c4 a0.Pending,az A5 n5 c5 a1.C.Slots,az A6 n6 c6 a1.C.More]) (fun u post=> ∃A0 n0 c0 A1 n1 c1 A2 n2 c2 A3 n3 c3 A4 n4 c4 A5 n5 c5 A6 n6 c6,u=.tuple #[.agg #[W A0 n0 c0,W A1 n1 c1,W A2 n2 c2,W A3 n3 c3],.agg #[iV r.2.N,iV r.2.E,.bool r.2.Ok,iV r.2.C.Kind,iV r.2.C.Shape,iV r.2.C.Flags,iV r.2.C.Age,W A4 n4 c4,W A5 n5 c5,iV r.2.V.Kind,iV r.2.V.N,.string r.2.V.S,W A6 n6 c6]]/\post=[aK A0 n0 c0 r.1.M.Young,aK A1 n1 c1 r.1.M.Old,az A2 n2 c2 r.1.Roots,az A3 n3 c3 r.1.Pending,az A4 n4 c4 r.2.C.Slots,az A5 n5 c5 r.2.C.More,az A6 n6 c6 r.2.L]):=by
 refine rQ Tryz.func7 J J ?_;simp only [jr];refine Y ?_
 refine gB (nH J J) fun B7=> ?_
 refine gB (nH J J) fun B8=> ?_
 refine gB (ci zero32.out J) fun B9=> ?_
 refine gB (ci zero39.out J) fun B10=> ?_
 refine Y ?_;refine ay ?_;refine Y ?_;refine gH J h ?_ ?_<;>intro h
 ·refine Y ?_;refine gR (aR (us:=[W A1 n1 c1,W A2 n2 c2,W A3 n3 c3,W A4 n4 c4]) 3 J J agg32.out J) ?_;refine Y ?_;refine gR (aR (us:=[iV a1.C.Kind,iV a1.C.Shape,iV a1.C.Flags,iV a1.C.Age,W A5 n5 c5,W A6 n6 c6]) 2 J J agg35.out J) ?_;obtain ⟨y12,k,h⟩:=aa h;refine gD (gz (FX k) call27.out J (ce [4,5,6,7,8,9] [] [0,1,2,3,4,5,6,7,8,9] 10 J)) ?_;rintro _ _ ⟨_,⟨A13,n13,c13,A14,n14,c14,A15,n15,c15,A16,n16,c16,A17,n17,c17,A18,n18,c18,A19,n19,c19,rfl,rfl⟩,rfl⟩;refine eh ?_;refine Y ?_;refine gW (aq (us:=[W A13 n13 c13,W A14 n14 c14,W A15 n15 c15,W A16 n16 c16]) (cs':=[W A13 n13 c13,W A14 n14 c14,W A15 n15 c15,W A16 n16 c16]) 8 J J J J size32.out J J J) ?_;refine eh ?_;refine gW (aq (us:=[iV y12.2.N,iV y12.2.E,.bool y12.2.Ok,iV y12.2.C.Kind,iV y12.2.C.Shape,iV y12.2.C.Flags,iV y12.2.C.Age,W A17 n17 c17,W A18 n18 c18,iV y12.2.V.Kind,iV y12.2.V.N,.string y12.2.V.S,W A19 n19 c19]) (cs':=[iV y12.2.N,iV y12.2.E,.bool y12.2.Ok,iV y12.2.C.Kind,iV y12.2.C.Shape,iV y12.2.C.Flags,iV y12.2.C.Age,W A17 n17 c17,W A18 n18 c18,iV y12.2.V.Kind,iV y12.2.V.N,.string y12.2.V.S,W A19 n19 c19]) 7 J J J J size39.out J J J) ?_;refine eh ?_;refine Y ?_;obtain rfl:=bw h
  exact dt (rs:=[.cell 4 32,.cell 5 39]) (vs:=[.agg #[W A13 n13 c13,W A14 n14 c14,W A15 n15 c15,W A16 n16 c16],.agg #[iV y12.2.N,iV y12.2.E,.bool y12.2.Ok,iV y12.2.C.Kind,iV y12.2.C.Shape,iV y12.2.C.Flags,iV y12.2.C.Age,W A17 n17 c17,W A18 n18 c18,iV y12.2.V.Kind,iV y12.2.V.N,.string y12.2.V.S,W A19 n19 c19]]) J (.cons (bd 8 J J agg32.out) (.cons (bd 7 J J agg39.out) .nil)) J ((aY 4 J).trans ((aY 5 J).trans ((aY 6 J).trans (cS [0,1,2,3,4,5,6] 17)))) ⟨_,_,_,_,_,_,_,_,_,_,_,_,_,_,_,_,_,_,_,_,_,J,J⟩
 refine Y ?_;refine gH J h ?_ ?_<;>intro h
 ·refine Y ?_;refine gR (aR (us:=[W A1 n1 c1,W A2 n2 c2,W A3 n3 c3,W A4 n4 c4]) 3 J J agg32.out J) ?_;refine Y ?_;refine gR (aR (us:=[iV a1.C.Kind,iV a1.C.Shape,iV a1.C.Flags,iV a1.C.Age,W A5 n5 c5,W A6 n6 c6]) 2 J J agg35.out J) ?_;obtain ⟨y21,k,h⟩:=aa h;refine gD (gz (G5 k) call28.out J (ce [4,5,6,7,8,9] [] [0,1,2,3,4,5,6,7,8,9] 10 J)) ?_;rintro _ _ ⟨_,⟨A22,n22,c22,A23,n23,c23,A24,n24,c24,A25,n25,c25,A26,n26,c26,A27,n27,c27,A28,n28,c28,rfl,rfl⟩,rfl⟩;refine eh ?_;refine Y ?_;refine gW (aq (us:=[W A22 n22 c22,W A23 n23 c23,W A24 n24 c24,W A25 n25 c25]) (cs':=[W A22 n22 c22,W A23 n23 c23,W A24 n24 c24,W A25 n25 c25]) 8 J J J J size32.out J J J) ?_;refine eh ?_;refine gW (aq (us:=[iV y21.2.N,iV y21.2.E,.bool y21.2.Ok,iV y21.2.C.Kind,iV y21.2.C.Shape,iV y21.2.C.Flags,iV y21.2.C.Age,W A26 n26 c26,W A27 n27 c27,iV y21.2.V.Kind,iV y21.2.V.N,.string y21.2.V.S,W A28 n28 c28]) (cs':=[iV y21.2.N,iV y21.2.E,.bool y21.2.Ok,iV y21.2.C.Kind,iV y21.2.C.Shape,iV y21.2.C.Flags,iV y21.2.C.Age,W A26 n26 c26,W A27 n27 c27,iV y21.2.V.Kind,iV y21.2.V.N,.string y21.2.V.S,W A28 n28 c28]) 7 J J J J size39.out J J J) ?_;refine eh ?_;refine Y ?_;obtain rfl:=bw h
  exact dt (rs:=[.cell 4 32,.cell 5 39]) (vs:=[.agg #[W A22 n22 c22,W A23 n23 c23,W A24 n24 c24,W A25 n25 c25],.agg #[iV y21.2.N,iV y21.2.E,.bool y21.2.Ok,iV y21.2.C.Kind,iV y21.2.C.Shape,iV y21.2.C.Flags,iV y21.2.C.Age,W A26 n26 c26,W A27 n27 c27,iV y21.2.V.Kind,iV y21.2.V.N,.string y21.2.V.S,W A28 n28 c28]]) J (.cons (bd 8 J J agg32.out) (.cons (bd 7 J J agg39.out) .nil)) J ((aY 4 J).trans ((aY 5 J).trans ((aY 6 J).trans (cS [0,1,2,3,4,5,6] 17)))) ⟨_,_,_,_,_,_,_,_,_,_,_,_,_,_,_,_,_,_,_,_,_,J,J⟩
 refine Y ?_;refine gH J h ?_ ?_<;>intro h
 ·refine ay ?_;obtain ⟨q33,h⟩:=ad h;refine dB (t:=[(2,pV B7 0),(3,pV B8 0),(4,pV B9 0),(5,pV B10 0)]) ?_ fv (ab _)
  refine dF I 7 [] [3,6] [30,31,32,33,34,35,36] [[],[],[1],[0,2],[],[4],[5]] [aX1 (fun (A31:Option Addr)=> .slice A31 0 0) (fun A31=> []),
aV (pV B7 2),
aV (W A3 n3 c3),
aX3 (fun (A35:Option Addr) (n35 c35:Nat)=> W A35 n35 c35) (fun A35 n35 c35=> [bh A35 n35 c35 (([]:List Qn)++a0.Roots)]),
aV (pV B8 8),
aV ((bD a1.V)),
aX3 (fun (A37:Option Addr) (n37 c37:Nat)=> W A37 n37 c37) (fun A37 n37 c37=> [bh A37 n37 c37 ([a1.V]:List Qn)])] [] (ab _) (fj) I rfl rfl ?_ ?_ ?_
  ·exact fi
  ·refine ac J ?_ ?_
   ·refine gj (aG (R:=ak) (vss:=[(be a1.V)]) (xs:=[a1.V]) J (oX _ _ _) J J (fun _ _ hr=> .cons J All2.nil)) J ?_;rintro _ _ ⟨A36,n36,c36,rfl,rfl⟩;exact pv A36 n36 c36 (ab _)
   refine ac J ?_ ?_
   ·exact cB (aR (us:=be a1.V) 2 J J agg37.out J) J (aP J (ab _))
   refine ac J ?_ ?_
   ·exact bN (bB J H7) J (aP J (ab _))
   refine ac J ?_ ?_
   ·intro A31;refine LY (BV ak 37 A31 _) ?_;refine gj (ar 0 7 J J ao J J z9 lF J J q33) J ?_;rintro _ _ ⟨A34,n34,c34,rfl,rfl⟩;exact pv A34 n34 c34 (ab _)
   refine ac J ?_ ?_
   ·exact cB (aL 3 J J dr J) J (aP J (ab _))
   refine ac J ?_ ?_
   ·exact bN (bB J te) J (aP J (ab _))
   refine ac J ?_ ?_
   ·refine gj (vb J (kT)) J ?_;rintro _ _ ⟨A30,rfl,rfl⟩;exact FC A30 (ab _)
   exact cp
  intro A35 n35 c35 A37 n37 c37;refine gu (t:=[(33,W A35 n35 c35),(36,W A37 n37 c37),(2,pV B7 0),(3,pV B8 0),(4,pV B9 0),(5,pV B10 0)]) (L':=[bh A35 n35 c35 (([]:List Qn)++a0.Roots),bh A37 n37 c37 ([a1.V]:List Qn),ah B10 39 [iV 0,iV 0,.bool false,iV 0,iV 0,iV 0,iV 0,W none 0 0,W none 0 0,iV 0,iV 0,.string (⟨#[]⟩),W none 0 0],ah B9 32 [W none 0 0,W none 0 0,W none 0 0,W none 0 0],ah B8 43 [iV a1.Kind,iV a1.N,iV a1.C.Kind,iV a1.C.Shape,iV a1.C.Flags,iV a1.C.Age,W A5 n5 c5,W A6 n6 c6,iV a1.V.Kind,iV a1.V.N,.string a1.V.S],ah B7 32 [W A1 n1 c1,W A2 n2 c2,W A3 n3 c3,W A4 n4 c4],aK A1 n1 c1 a0.M.Young,aK A2 n2 c2 a0.M.Old,az A3 n3 c3 a0.Roots,az A4 n4 c4 a0.Pending,az A5 n5 c5 a1.C.Slots,az A6 n6 c6 a1.C.More]) ?_ fv (ab _);obtain ⟨q38,h⟩:=ad h;refine jt 7 J I (ar 0 1 J J ap J J z9 lF J J q38) J J J ?_;rintro _ _ ⟨A39,n39,c39,rfl,rfl⟩;refine sU ?_;refine rc 8 J I (bB J te) J J J ?_;refine o7 9 J I (aq (us:=[W A39 n39 c39]) (cs':=[W A1 n1 c1,W A2 n2 c2,W A39 n39 c39,W A4 n4 c4]) 5 J J J J size30.out J J J) J J ?_;rintro _ _ rfl;refine sU ?_;refine ft I ?_;refine wF ?_;refine ay ?_
  refine bm I ([bh A39 n39 c39 ((([]:List Qn)++a0.Roots)++([a1.V]:List Qn)),bh A37 n37 c37 ([a1.V]:List Qn),ah B10 39 [iV 0,iV 0,.bool false,iV 0,iV 0,iV 0,iV 0,W none 0 0,W none 0 0,iV 0,iV 0,.string (⟨#[]⟩),W none 0 0],ah B8 43 [iV a1.Kind,iV a1.N,iV a1.C.Kind,iV a1.C.Shape,iV a1.C.Flags,iV a1.C.Age,W A5 n5 c5,W A6 n6 c6,iV a1.V.Kind,iV a1.V.N,.string a1.V.S],ah B7 32 [W A1 n1 c1,W A2 n2 c2,W A39 n39 c39,W A4 n4 c4],aK A1 n1 c1 a0.M.Young,aK A2 n2 c2 a0.M.Old,az A3 n3 c3 a0.Roots,az A4 n4 c4 a0.Pending,az A5 n5 c5 a1.C.Slots,az A6 n6 c6 a1.C.More]) (cS [0,1,2,4,5,6,7,8,9,10,11] 12) ?_;refine zR 0 J (aR (us:=[W A1 n1 c1,W A2 n2 c2,W A39 n39 c39,W A4 n4 c4]) 4 J J agg32.out J) ?_;refine zE 1 J (bB J te) ?_;refine zR 2 J (aL 4 J J dr J) ?_;refine zR 3 J (cC 0 J ap J z9) ?_;obtain ⟨q40,h⟩:=ad h;refine zE 4 J (tL J J q40.1 q40.2) ?_;refine zE 5 J (dw J (bld_39_0 _).out) ?_;refine zO 6 J (aq (us:=[W A1 n1 c1,W A2 n2 c2,W A39 n39 c39,W A4 n4 c4]) (cs':=[W A1 n1 c1,W A2 n2 c2,W A39 n39 c39,W A4 n4 c4]) 3 J J J J size32.out J J J) ?_;rintro _ _ rfl;refine bq (cS [0,1,2,4,5,6,7,8,9,10,11] 12) ?_;refine cn ?_
  refine lE 7 J I I (aq (us:=[iV ((((([]:List Qn)++a0.Roots)++([a1.V]:List Qn)).length:Int) - 1),iV 0,.bool false,iV 0,iV 0,iV 0,iV 0,W none 0 0,W none 0 0,iV 0,iV 0,.string (⟨#[]⟩),W none 0 0]) (cs':=[iV ((((([]:List Qn)++a0.Roots)++([a1.V]:List Qn)).length:Int) - 1),iV 0,.bool false,iV 0,iV 0,iV 0,iV 0,W none 0 0,W none 0 0,iV 0,iV 0,.string (⟨#[]⟩),W none 0 0]) 2 J J J J size39.out J J J) ?_;rintro _ _ rfl;refine cn ?_;refine bv I ?_;refine Y ?_;obtain rfl:=bw h;exact dt (rs:=[.cell 4 32,.cell 5 39]) (vs:=[.agg #[W A1 n1 c1,W A2 n2 c2,W A39 n39 c39,W A4 n4 c4],.agg #[iV ((((([]:List Qn)++a0.Roots)++([a1.V]:List Qn)).length:Int) - 1),iV 0,.bool false,iV 0,iV 0,iV 0,iV 0,W none 0 0,W none 0 0,iV 0,iV 0,.string (⟨#[]⟩),W none 0 0]]) J (.cons (bd 3 J J agg32.out) (.cons (bd 2 J J agg39.out) .nil)) J ((aY 0 J).trans ((cq ak _).trans ((cq ak _).trans ((cq ak _).trans (cS [9,10,3,12,2,1,0] 15))))) ⟨_,_,_,_,_,_,_,_,_,_,_,_,_,_,_,_,_,_,_,_,_,J,J⟩
 refine Y ?_;refine gH J h ?_ ?_<;>intro h
 ·refine ay ?_;refine Y ?_;obtain ⟨b45,hb45,h⟩:=aa h;refine aQ 7 57 b45 ?_ ?_
  ·clear h;refine aM 50 J (fun g45=> ?_) (fun g45=> ?_)
   ·have h:=aE g45 hb45;refine Y ?_;obtain rfl:=bw h;exact cH sA (cS [0,1,2,3,4,5,6,7,8,9] 10)
   have h:=aF g45 hb45;refine Y ?_;refine mH (cC 6 J ao J z9) J (dh g45 J) J ?_;refine Y ?_;obtain rfl:=bw h;exact cH sA (cS [0,1,2,3,4,5,6,7,8,9] 10)
  refine Y ?_;refine gH J h ?_ ?_<;>intro h
  ·refine Y ?_;refine gR (aR (us:=[W A1 n1 c1,W A2 n2 c2,W A3 n3 c3,W A4 n4 c4]) 3 J J agg32.out J) ?_;refine gE (dw J bld_39_.out) ?_;refine gW (aq (us:=[W A1 n1 c1,W A2 n2 c2,W A3 n3 c3,W A4 n4 c4]) (cs':=[W A1 n1 c1,W A2 n2 c2,W A3 n3 c3,W A4 n4 c4]) 1 J J J J size32.out J J J) ?_;refine eh ?_;refine gW (aq (us:=[iV 0,iV 0,.bool false,iV 0,iV 0,iV 0,iV 0,W none 0 0,W none 0 0,iV 0,iV 0,.string (⟨#[]⟩),W none 0 0]) (cs':=[iV 0,iV 0,.bool false,iV 0,iV 0,iV 0,iV 0,W none 0 0,W none 0 0,iV 0,iV 0,.string (⟨#[]⟩),W none 0 0]) 0 J J J J size39.out J J J) ?_;refine eh ?_;refine Y ?_;obtain rfl:=bw h;exact dt (rs:=[.cell 4 32,.cell 5 39]) (vs:=[.agg #[W A1 n1 c1,W A2 n2 c2,W A3 n3 c3,W A4 n4 c4],.agg #[iV 0,iV 0,.bool false,iV 0,iV 0,iV 0,iV 0,W none 0 0,W none 0 0,iV 0,iV 0,.string (⟨#[]⟩),W none 0 0]]) J (.cons (bd 1 J J agg32.out) (.cons (bd 0 J J agg39.out) .nil)) J ((cq ak _).trans ((cq ak _).trans ((cq ak _).trans (cS [7,8,9,10,2,1,0] 13)))) ⟨_,_,_,_,_,_,_,_,_,_,_,_,_,_,_,_,_,_,_,_,_,J,J⟩
  refine Y ?_;refine gD (aG (R:=ak) (vss:=[]) (xs:=[]) J (kT) J J (fun _ _ hr=>All2.nil)) ?_;rintro _ _ ⟨A50,n50,c50,rfl,rfl⟩;refine Y ?_;obtain ⟨q51,h⟩:=ad h;refine gD (ar 0 7 J J ao J J z9 lF J J q51) ?_;rintro _ _ ⟨A52,n52,c52,rfl,rfl⟩;refine eh ?_;refine Y ?_;refine gW (aq (us:=[W A52 n52 c52]) (cs':=[W A1 n1 c1,W A2 n2 c2,W A52 n52 c52,W A4 n4 c4]) 4 J J J J size30.out J J J) ?_;refine eh ?_;refine Y ?_;refine gR (aR (us:=be a1.V) 3 J J agg37.out J) ?_;obtain ⟨x53,lx53,ux53,hx53,h⟩:=aU h;refine gR (bf 0 J ap J J z9 size37.out lx53 ux53) ?_;refine gW (iK (us:=be a1.V) (z:=(⟨a1.V.Kind,a1.V.N,a1.V.S⟩:Qn)) 0 J J J J size37.out J (bc lx53 ux53) J (fun S w vs xk hk hr ho=>by obtain rfl:=Option.some.inj (hk.symm.trans hx53);rw [show _=_ from hr];rfl)) ?_;refine eh ?_;refine Y ?_;refine gR (aR (us:=[W A1 n1 c1,W A2 n2 c2,W A52 n52 c52,W A4 n4 c4]) 4 J J agg32.out J) ?_;refine gE (dw J (bld_39_2 _).out) ?_;refine gW (aq (us:=[W A1 n1 c1,W A2 n2 c2,W A52 n52 c52,W A4 n4 c4]) (cs':=[W A1 n1 c1,W A2 n2 c2,W A52 n52 c52,W A4 n4 c4]) 2 J J J J size32.out J J J) ?_;refine eh ?_
  refine gW (aq (us:=[iV 0,iV 0,.bool true,iV 0,iV 0,iV 0,iV 0,W none 0 0,W none 0 0,iV 0,iV 0,.string (⟨#[]⟩),W none 0 0]) (cs':=[iV 0,iV 0,.bool true,iV 0,iV 0,iV 0,iV 0,W none 0 0,W none 0 0,iV 0,iV 0,.string (⟨#[]⟩),W none 0 0]) 1 J J J J size39.out J J J) ?_;refine eh ?_;refine Y ?_;obtain rfl:=bw h;exact dt (rs:=[.cell 4 32,.cell 5 39]) (vs:=[.agg #[W A1 n1 c1,W A2 n2 c2,W A52 n52 c52,W A4 n4 c4],.agg #[iV 0,iV 0,.bool true,iV 0,iV 0,iV 0,iV 0,W none 0 0,W none 0 0,iV 0,iV 0,.string (⟨#[]⟩),W none 0 0]]) J (.cons (bd 2 J J agg32.out) (.cons (bd 1 J J agg39.out) .nil)) J ((aY 0 J).trans ((cq ak _).trans ((cq ak _).trans ((cq ak _).trans (cS [8,9,3,11,2,1,0] 14))))) ⟨_,_,_,_,_,_,_,_,_,_,_,_,_,_,_,_,_,_,_,_,_,J,J⟩
 refine Y ?_;refine gH J h ?_ ?_<;>intro h
 ·refine Y ?_;refine am (fun s L=> ∃p59,kj N a0 a1 p59=some r/\s=[(2,pV B7 0),(3,pV B8 0),(4,pV B9 0),(5,pV B10 0),(6,iV p59)]/\L=[aK A1 n1 c1 a0.M.Young,aK A2 n2 c2 a0.M.Old,az A3 n3 c3 a0.Roots,az A4 n4 c4 a0.Pending,ah B7 32 [W A1 n1 c1,W A2 n2 c2,W A3 n3 c3,W A4 n4 c4],az A5 n5 c5 a1.C.Slots,az A6 n6 c6 a1.C.More,ah B8 43 [iV a1.Kind,iV a1.N,iV a1.C.Kind,iV a1.C.Shape,iV a1.C.Flags,iV a1.C.Age,W A5 n5 c5,W A6 n6 c6,iV a1.V.Kind,iV a1.V.N,.string a1.V.S],ah B9 32 [W none 0 0,W none 0 0,W none 0 0,W none 0 0],ah B10 39 [iV 0,iV 0,.bool false,iV 0,iV 0,iV 0,iV 0,W none 0 0,W none 0 0,iV 0,iV 0,.string (⟨#[]⟩),W none 0 0]]) ?_ ?_
  ·refine Y ?_;refine gH J h ?_ ?_<;>intro h
   ·refine Y ?_;exact ⟨_,_,⟨0,h,J,J⟩,sA,cS [4,5,6,7,3,8,9,2,1,0] 10⟩
   refine Y ?_;exact ⟨_,_,⟨a1.N,h,J,J⟩,sA,cS [4,5,6,7,3,8,9,2,1,0] 10⟩
  rintro _ _ ⟨p59,h,rfl,rfl⟩;refine am (fun s L=> ∃p62 A62 n62 c62,uM N a0 a1 p62=some r/\s=[(2,pV B7 0),(3,pV B8 0),(4,pV B9 0),(5,pV B10 0)]/\L=[aK A1 n1 c1 a0.M.Young,aK A2 n2 c2 a0.M.Old,az A62 n62 c62 p62,az A4 n4 c4 a0.Pending,ah B7 32 [W A1 n1 c1,W A2 n2 c2,W A62 n62 c62,W A4 n4 c4],az A5 n5 c5 a1.C.Slots,az A6 n6 c6 a1.C.More,ah B8 43 [iV a1.Kind,iV a1.N,iV a1.C.Kind,iV a1.C.Shape,iV a1.C.Flags,iV a1.C.Age,W A5 n5 c5,W A6 n6 c6,iV a1.V.Kind,iV a1.V.N,.string a1.V.S],ah B9 32 [W none 0 0,W none 0 0,W none 0 0,W none 0 0],ah B10 39 [iV 0,iV 0,.bool false,iV 0,iV 0,iV 0,iV 0,W none 0 0,W none 0 0,iV 0,iV 0,.string (⟨#[]⟩),W none 0 0]]) ?_ ?_
  ·refine Y ?_;refine gR (cC 2 J ao J z9) ?_;refine Y ?_;refine gH J h ?_ ?_<;>intro h
   ·refine oZ ?_;refine gD (aG (R:=ak) (vss:=[]) (xs:=[]) J (kT) J J (fun _ _ hr=>All2.nil)) ?_;rintro _ _ ⟨A64,n64,c64,rfl,rfl⟩;refine Y ?_;obtain ⟨q65,h⟩:=ad h;refine GQ 3 J (l:=0) (h:=p59.toNat) q65.2.1 q65.2.2 ?_;rintro A66 n66 c66 e66;refine gR (E0 4 J e66 J z9 size37.out J J (by rw [Int.toNat_of_nonneg q65.1];rfl) q65.2.1 q65.2.2) ?_;obtain ⟨q67,h⟩:=ad h;refine gD (ar 1 0 J J ao J J z9 lF J J q67) ?_;rintro _ _ ⟨A68,n68,c68,rfl,rfl⟩;refine eh ?_;refine Y ?_;refine gW (aq (us:=[W A68 n68 c68]) (cs':=[W A1 n1 c1,W A2 n2 c2,W A68 n68 c68,W A4 n4 c4]) 6 J J J J size30.out J J J) ?_;refine eh ?_;refine Y ?_;exact ⟨_,_,⟨([]:List Qn)++((a0.Roots.drop 0).take (p59.toNat - 0)),A68,n68,c68,h,J,J⟩,sA,(aY 1 J).trans (cS [2,3,1,5,6,7,8,9,10,11] 12)⟩
   refine Y ?_;exact ⟨_,_,⟨a0.Roots,A3,n3,c3,h,J,J⟩,sA,cS [0,1,2,3,4,5,6,7,8,9] 10⟩
  rintro _ _ ⟨p62,A62,n62,c62,h,rfl,rfl⟩;refine Y ?_;refine gR (aR (us:=[W A1 n1 c1,W A2 n2 c2,W A62 n62 c62,W A4 n4 c4]) 4 J J agg32.out J) ?_;refine gE (dw J bld_39_.out) ?_;refine gW (aq (us:=[W A1 n1 c1,W A2 n2 c2,W A62 n62 c62,W A4 n4 c4]) (cs':=[W A1 n1 c1,W A2 n2 c2,W A62 n62 c62,W A4 n4 c4]) 8 J J J J size32.out J J J) ?_;refine eh ?_;refine gW (aq (us:=[iV 0,iV 0,.bool false,iV 0,iV 0,iV 0,iV 0,W none 0 0,W none 0 0,iV 0,iV 0,.string (⟨#[]⟩),W none 0 0]) (cs':=[iV 0,iV 0,.bool false,iV 0,iV 0,iV 0,iV 0,W none 0 0,W none 0 0,iV 0,iV 0,.string (⟨#[]⟩),W none 0 0]) 9 J J J J size39.out J J J) ?_;refine eh ?_;refine Y ?_;obtain rfl:=bw h;exact dt (rs:=[.cell 4 32,.cell 5 39]) (vs:=[.agg #[W A1 n1 c1,W A2 n2 c2,W A62 n62 c62,W A4 n4 c4],.agg #[iV 0,iV 0,.bool false,iV 0,iV 0,iV 0,iV 0,W none 0 0,W none 0 0,iV 0,iV 0,.string (⟨#[]⟩),W none 0 0]]) J (.cons (bd 8 J J agg32.out) (.cons (bd 9 J J agg39.out) .nil)) J ((cq ak _).trans ((cq ak _).trans ((cq ak _).trans (cS [3,4,5,6,2,1,0] 13)))) ⟨_,_,_,_,_,_,_,_,_,_,_,_,_,_,_,_,_,_,_,_,_,J,J⟩
 refine am (fun s L=> ∃p73,pc N a1 a0 p73=some r/\s=[(2,pV B7 0),(3,pV B8 0),(4,pV B9 0),(5,pV B10 0),(9,iV a1.Kind),(94,.bool p73)]/\L=[aK A1 n1 c1 a0.M.Young,aK A2 n2 c2 a0.M.Old,az A3 n3 c3 a0.Roots,az A4 n4 c4 a0.Pending,ah B7 32 [W A1 n1 c1,W A2 n2 c2,W A3 n3 c3,W A4 n4 c4],az A5 n5 c5 a1.C.Slots,az A6 n6 c6 a1.C.More,ah B8 43 [iV a1.Kind,iV a1.N,iV a1.C.Kind,iV a1.C.Shape,iV a1.C.Flags,iV a1.C.Age,W A5 n5 c5,W A6 n6 c6,iV a1.V.Kind,iV a1.V.N,.string a1.V.S],ah B9 32 [W none 0 0,W none 0 0,W none 0 0,W none 0 0],ah B10 39 [iV 0,iV 0,.bool false,iV 0,iV 0,iV 0,iV 0,W none 0 0,W none 0 0,iV 0,iV 0,.string (⟨#[]⟩),W none 0 0]]) ?_ ?_
 ·refine Y ?_;refine gH J h ?_ ?_<;>intro h
  ·refine Y ?_;exact ⟨_,_,⟨decide (a1.Kind=5),h,J,J⟩,sA,cS [4,5,6,7,3,8,9,2,1,0] 10⟩
  refine Y ?_;exact ⟨_,_,⟨decide (a1.Kind=6),h,J,J⟩,sA,cS [4,5,6,7,3,8,9,2,1,0] 10⟩
 rintro _ _ ⟨p73,h,rfl,rfl⟩;refine gH J h ?_ ?_<;>intro h
 ·refine Y ?_;refine gR (aR (us:=[W A1 n1 c1,W A2 n2 c2,W A3 n3 c3,W A4 n4 c4]) 4 J J agg32.out J) ?_;refine Y ?_;obtain ⟨y76,k,h⟩:=aa h;refine gD (gz (Cu k) call29.out J (ce [0,1,2,3] [] [0,1,2,3,4,5,6,7,8,9] 10 J)) ?_;rintro _ _ ⟨_,⟨A77,n77,c77,A78,n78,c78,A79,n79,c79,A80,n80,c80,A81,n81,c81,A82,n82,c82,A83,n83,c83,rfl,rfl⟩,rfl⟩;refine eh ?_;refine Y ?_;refine gW (aq (us:=[W A77 n77 c77,W A78 n78 c78,W A79 n79 c79,W A80 n80 c80]) (cs':=[W A77 n77 c77,W A78 n78 c78,W A79 n79 c79,W A80 n80 c80]) 15 J J J J size32.out J J J) ?_;refine eh ?_;refine gW (aq (us:=[iV y76.2.N,iV y76.2.E,.bool y76.2.Ok,iV y76.2.C.Kind,iV y76.2.C.Shape,iV y76.2.C.Flags,iV y76.2.C.Age,W A81 n81 c81,W A82 n82 c82,iV y76.2.V.Kind,iV y76.2.V.N,.string y76.2.V.S,W A83 n83 c83]) (cs':=[iV y76.2.N,iV y76.2.E,.bool y76.2.Ok,iV y76.2.C.Kind,iV y76.2.C.Shape,iV y76.2.C.Flags,iV y76.2.C.Age,W A81 n81 c81,W A82 n82 c82,iV y76.2.V.Kind,iV y76.2.V.N,.string y76.2.V.S,W A83 n83 c83]) 16 J J J J size39.out J J J) ?_;refine eh ?_;refine Y ?_;obtain rfl:=bw h
  exact dt (rs:=[.cell 4 32,.cell 5 39]) (vs:=[.agg #[W A77 n77 c77,W A78 n78 c78,W A79 n79 c79,W A80 n80 c80],.agg #[iV y76.2.N,iV y76.2.E,.bool y76.2.Ok,iV y76.2.C.Kind,iV y76.2.C.Shape,iV y76.2.C.Flags,iV y76.2.C.Age,W A81 n81 c81,W A82 n82 c82,iV y76.2.V.Kind,iV y76.2.V.N,.string y76.2.V.S,W A83 n83 c83]]) J (.cons (bd 15 J J agg32.out) (.cons (bd 16 J J agg39.out) .nil)) J ((aY 4 J).trans ((aY 5 J).trans ((aY 6 J).trans (cS [0,1,2,3,4,5,6] 17)))) ⟨_,_,_,_,_,_,_,_,_,_,_,_,_,_,_,_,_,_,_,_,_,J,J⟩
 refine Y ?_;refine gH J h ?_ ?_<;>intro h
 ·refine Y ?_;refine gW (aq (us:=[W none 0 0]) (cs':=[W A1 n1 c1,W A2 n2 c2,W A3 n3 c3,W none 0 0]) 4 J J J J size30.out J J J) ?_;refine eh ?_;refine Y ?_;refine gR (aR (us:=[W A1 n1 c1,W A2 n2 c2,W A3 n3 c3,W none 0 0]) 4 J J agg32.out J) ?_;refine Y ?_;refine gE (dw J (bld_39_5 _ _ _).out) ?_;refine gW (aq (us:=[W A1 n1 c1,W A2 n2 c2,W A3 n3 c3,W none 0 0]) (cs':=[W A1 n1 c1,W A2 n2 c2,W A3 n3 c3,W none 0 0]) 8 J J J J size32.out J J J) ?_;refine eh ?_;refine gW (aq (us:=[iV 0,iV 0,.bool false,iV 0,iV 0,iV 0,iV 0,W none 0 0,W none 0 0,iV 0,iV 0,.string (⟨#[]⟩),W A4 n4 c4]) (cs':=[iV 0,iV 0,.bool false,iV 0,iV 0,iV 0,iV 0,W none 0 0,W none 0 0,iV 0,iV 0,.string (⟨#[]⟩),W A4 n4 c4]) 9 J J J J size39.out J J J) ?_;refine eh ?_;refine Y ?_;obtain rfl:=bw h;exact dt (rs:=[.cell 4 32,.cell 5 39]) (vs:=[.agg #[W A1 n1 c1,W A2 n2 c2,W A3 n3 c3,W none 0 0],.agg #[iV 0,iV 0,.bool false,iV 0,iV 0,iV 0,iV 0,W none 0 0,W none 0 0,iV 0,iV 0,.string (⟨#[]⟩),W A4 n4 c4]]) J (.cons (bd 8 J J agg32.out) (.cons (bd 9 J J agg39.out) .nil)) J ((cq ak _).trans ((cq ak _).trans ((cq ak _).trans (cS [3,4,5,2,1,0,6] 13)))) ⟨_,_,_,_,_,_,_,_,_,_,_,_,_,_,_,_,_,_,_,_,_,J,J⟩
 refine Y ?_;refine gH J h ?_ ?_<;>intro h
 ·refine ay ?_;refine Y ?_;refine gR (aR (us:=[W A1 n1 c1,W A2 n2 c2]) 4 J J agg29.out J) ?_;refine Y ?_;obtain ⟨y89,k,h⟩:=aa h;refine gV (ba (nG k) call30.out J (hU (aJ (i:=0) J J) (hU (aJ (i:=1) J J) ax)) qV) ?_;refine Y ?_;refine gH J h ?_ ?_<;>intro h
  ·refine Y ?_;refine gR (aR (us:=[W A1 n1 c1,W A2 n2 c2,W A3 n3 c3,W A4 n4 c4]) 4 J J agg32.out J) ?_;refine gE (dw J bld_39_.out) ?_;refine gW (aq (us:=[W A1 n1 c1,W A2 n2 c2,W A3 n3 c3,W A4 n4 c4]) (cs':=[W A1 n1 c1,W A2 n2 c2,W A3 n3 c3,W A4 n4 c4]) 8 J J J J size32.out J J J) ?_;refine eh ?_;refine gW (aq (us:=[iV 0,iV 0,.bool false,iV 0,iV 0,iV 0,iV 0,W none 0 0,W none 0 0,iV 0,iV 0,.string (⟨#[]⟩),W none 0 0]) (cs':=[iV 0,iV 0,.bool false,iV 0,iV 0,iV 0,iV 0,W none 0 0,W none 0 0,iV 0,iV 0,.string (⟨#[]⟩),W none 0 0]) 9 J J J J size39.out J J J) ?_;refine eh ?_;refine Y ?_;obtain rfl:=bw h;exact dt (rs:=[.cell 4 32,.cell 5 39]) (vs:=[.agg #[W A1 n1 c1,W A2 n2 c2,W A3 n3 c3,W A4 n4 c4],.agg #[iV 0,iV 0,.bool false,iV 0,iV 0,iV 0,iV 0,W none 0 0,W none 0 0,iV 0,iV 0,.string (⟨#[]⟩),W none 0 0]]) J (.cons (bd 8 J J agg32.out) (.cons (bd 9 J J agg39.out) .nil)) J ((cq ak _).trans ((cq ak _).trans ((cq ak _).trans (cS [3,4,5,6,2,1,0] 13)))) ⟨_,_,_,_,_,_,_,_,_,_,_,_,_,_,_,_,_,_,_,_,_,J,J⟩
  refine Y ?_;refine ay ?_;refine bm I ([aK A1 n1 c1 a0.M.Young,aK A2 n2 c2 a0.M.Old,az A3 n3 c3 a0.Roots,az A4 n4 c4 a0.Pending,ah B7 32 [W A1 n1 c1,W A2 n2 c2,W A3 n3 c3,W A4 n4 c4],az A5 n5 c5 a1.C.Slots,az A6 n6 c6 a1.C.More,ah B8 43 [iV a1.Kind,iV a1.N,iV a1.C.Kind,iV a1.C.Shape,iV a1.C.Flags,iV a1.C.Age,W A5 n5 c5,W A6 n6 c6,iV a1.V.Kind,iV a1.V.N,.string a1.V.S],ah B10 39 [iV 0,iV 0,.bool false,iV 0,iV 0,iV 0,iV 0,W none 0 0,W none 0 0,iV 0,iV 0,.string (⟨#[]⟩),W none 0 0]]) (cS [0,1,2,3,4,5,6,7,9] 10) ?_;refine zR 0 J (aR (us:=[W A1 n1 c1,W A2 n2 c2,W A3 n3 c3,W A4 n4 c4]) 4 J J agg32.out J) ?_;refine zE 1 J (cG J oQ) ?_;refine zR 2 J (aR (us:=[W A1 n1 c1,W A2 n2 c2]) 4 J J agg29.out J) ?_;refine zE 3 J (bB J Fz) ?_;refine zR 4 J (aL 7 J J ex J) ?_;obtain ⟨y94,k,h⟩:=aa h;refine zD 5 J (gz (xA k) call31.out J (ce [0,1] [] [0,1,2,3,4,5,6,7,8,9] 10 J)) ?_;rintro _ _ ⟨_,⟨A95,n95,c95,A96,n96,c96,rfl,rfl⟩,rfl⟩
  refine ⟨[az A95 n95 c95 y94.Slots,az A96 n96 c96 y94.More,aK A1 n1 c1 a0.M.Young,aK A2 n2 c2 a0.M.Old,az A3 n3 c3 a0.Roots,az A4 n4 c4 a0.Pending,ah B7 32 [W A1 n1 c1,W A2 n2 c2,W A3 n3 c3,W A4 n4 c4],az A5 n5 c5 a1.C.Slots,az A6 n6 c6 a1.C.More,ah B8 43 [iV a1.Kind,iV a1.N,iV a1.C.Kind,iV a1.C.Shape,iV a1.C.Flags,iV a1.C.Age,W A5 n5 c5,W A6 n6 c6,iV a1.V.Kind,iV a1.V.N,.string a1.V.S],ah B10 39 [iV 0,iV 0,.bool false,iV 0,iV 0,iV 0,iV 0,W none 0 0,W none 0 0,iV 0,iV 0,.string (⟨#[]⟩),W none 0 0]],cS [0,1,2,3,4,5,6,7,8,9,11] 12,(cv_tl).trans (cv_tl),?_⟩;refine cn ?_;refine zE 6 J (dw J (bld_39_2_3 _ _ _ _ _ _ _ _ _ _ _).out) ?_;refine zO 7 J (aq (us:=[W A1 n1 c1,W A2 n2 c2,W A3 n3 c3,W A4 n4 c4]) (cs':=[W A1 n1 c1,W A2 n2 c2,W A3 n3 c3,W A4 n4 c4]) 10 J J J J size32.out J J J) ?_;rintro _ _ rfl;refine bq (cS [0,1,2,3,4,5,6,7,8,9,11] 12) ?_;refine cn ?_;refine lE 8 J I I (aq (us:=[iV 0,iV 0,.bool true,iV y94.Kind,iV y94.Shape,iV y94.Flags,iV y94.Age,W A95 n95 c95,W A96 n96 c96,iV 0,iV 0,.string (⟨#[]⟩),W none 0 0]) (cs':=[iV 0,iV 0,.bool true,iV y94.Kind,iV y94.Shape,iV y94.Flags,iV y94.Age,W A95 n95 c95,W A96 n96 c96,iV 0,iV 0,.string (⟨#[]⟩),W none 0 0]) 11 J J J J size39.out J J J) ?_;rintro _ _ rfl;refine cn ?_;refine bv I ?_;refine Y ?_;obtain rfl:=bw h
  exact dt (rs:=[.cell 4 32,.cell 5 39]) (vs:=[.agg #[W A1 n1 c1,W A2 n2 c2,W A3 n3 c3,W A4 n4 c4],.agg #[iV 0,iV 0,.bool true,iV y94.Kind,iV y94.Shape,iV y94.Flags,iV y94.Age,W A95 n95 c95,W A96 n96 c96,iV 0,iV 0,.string (⟨#[]⟩),W none 0 0]]) J (.cons (bd 10 J J agg32.out) (.cons (bd 11 J J agg39.out) .nil)) J ((cq ak _).trans (cS [3,4,5,6,1,2,0] 13)) ⟨_,_,_,_,_,_,_,_,_,_,_,_,_,_,_,_,_,_,_,_,_,J,J⟩
 refine Y ?_;refine ay ?_;refine Y ?_;obtain ⟨b98,hb98,h⟩:=aa h;refine aQ 7 138 b98 ?_ ?_
 ·clear h;refine aM 131 J (fun g98=> ?_) (fun g98=> ?_)
  ·have h:=aE g98 hb98;refine Y ?_;obtain rfl:=bw h;exact cH sA (cS [0,1,2,3,4,5,6,7,8,9] 10)
  have h:=aF g98 hb98;refine Y ?_;refine mH (cC 2 J ao J z9) J (dh g98 J) J ?_;refine Y ?_;obtain rfl:=bw h;exact cH sA (cS [0,1,2,3,4,5,6,7,8,9] 10)
 refine Y ?_;refine gH J h ?_ ?_<;>intro h
 ·refine Y ?_;refine gR (aR (us:=[W A1 n1 c1,W A2 n2 c2,W A3 n3 c3,W A4 n4 c4]) 4 J J agg32.out J) ?_;refine gE (dw J bld_39_.out) ?_;refine gW (aq (us:=[W A1 n1 c1,W A2 n2 c2,W A3 n3 c3,W A4 n4 c4]) (cs':=[W A1 n1 c1,W A2 n2 c2,W A3 n3 c3,W A4 n4 c4]) 8 J J J J size32.out J J J) ?_;refine eh ?_;refine gW (aq (us:=[iV 0,iV 0,.bool false,iV 0,iV 0,iV 0,iV 0,W none 0 0,W none 0 0,iV 0,iV 0,.string (⟨#[]⟩),W none 0 0]) (cs':=[iV 0,iV 0,.bool false,iV 0,iV 0,iV 0,iV 0,W none 0 0,W none 0 0,iV 0,iV 0,.string (⟨#[]⟩),W none 0 0]) 9 J J J J size39.out J J J) ?_;refine eh ?_;refine Y ?_;obtain rfl:=bw h;exact dt (rs:=[.cell 4 32,.cell 5 39]) (vs:=[.agg #[W A1 n1 c1,W A2 n2 c2,W A3 n3 c3,W A4 n4 c4],.agg #[iV 0,iV 0,.bool false,iV 0,iV 0,iV 0,iV 0,W none 0 0,W none 0 0,iV 0,iV 0,.string (⟨#[]⟩),W none 0 0]]) J (.cons (bd 8 J J agg32.out) (.cons (bd 9 J J agg39.out) .nil)) J ((cq ak _).trans ((cq ak _).trans ((cq ak _).trans (cS [3,4,5,6,2,1,0] 13)))) ⟨_,_,_,_,_,_,_,_,_,_,_,_,_,_,_,_,_,_,_,_,_,J,J⟩
 refine Y ?_;refine ay ?_;refine bm I ([aK A1 n1 c1 a0.M.Young,aK A2 n2 c2 a0.M.Old,az A3 n3 c3 a0.Roots,az A4 n4 c4 a0.Pending,ah B7 32 [W A1 n1 c1,W A2 n2 c2,W A3 n3 c3,W A4 n4 c4],az A5 n5 c5 a1.C.Slots,az A6 n6 c6 a1.C.More,ah B8 43 [iV a1.Kind,iV a1.N,iV a1.C.Kind,iV a1.C.Shape,iV a1.C.Flags,iV a1.C.Age,W A5 n5 c5,W A6 n6 c6,iV a1.V.Kind,iV a1.V.N,.string a1.V.S],ah B10 39 [iV 0,iV 0,.bool false,iV 0,iV 0,iV 0,iV 0,W none 0 0,W none 0 0,iV 0,iV 0,.string (⟨#[]⟩),W none 0 0]]) (cS [0,1,2,3,4,5,6,7,9] 10) ?_;refine zR 0 J (aR (us:=[W A1 n1 c1,W A2 n2 c2,W A3 n3 c3,W A4 n4 c4]) 4 J J agg32.out J) ?_;refine zE 1 J (bB J te) ?_;refine zR 2 J (aL 4 J J dr J) ?_;refine zE 3 J (bB J Fz) ?_;refine zR 4 J (aL 7 J J ex J) ?_;obtain ⟨x103,lx103,ux103,hx103,h⟩:=aU h;refine zR 5 J (bf 2 J ao J J z9 size37.out lx103 ux103) ?_;refine zR 6 J (dm (us:=be x103) 2 J ao J hx103 agg37.out (fun _ _ _ h=>by rw [show _=_ from h];rfl)) ?_;refine zE 7 J (dw J (bld_39_4 _ _ _).out) ?_;refine zO 8 J (aq (us:=[W A1 n1 c1,W A2 n2 c2,W A3 n3 c3,W A4 n4 c4]) (cs':=[W A1 n1 c1,W A2 n2 c2,W A3 n3 c3,W A4 n4 c4]) 8 J J J J size32.out J J J) ?_;rintro _ _ rfl;refine bq (cS [0,1,2,3,4,5,6,7,9] 10) ?_;refine cn ?_
 refine lE 9 J I I (aq (us:=[iV 0,iV 0,.bool false,iV 0,iV 0,iV 0,iV 0,W none 0 0,W none 0 0,iV x103.Kind,iV x103.N,.string x103.S,W none 0 0]) (cs':=[iV 0,iV 0,.bool false,iV 0,iV 0,iV 0,iV 0,W none 0 0,W none 0 0,iV x103.Kind,iV x103.N,.string x103.S,W none 0 0]) 9 J J J J size39.out J J J) ?_;rintro _ _ rfl;refine cn ?_;refine bv I ?_;refine Y ?_;obtain rfl:=bw h;exact dt (rs:=[.cell 4 32,.cell 5 39]) (vs:=[.agg #[W A1 n1 c1,W A2 n2 c2,W A3 n3 c3,W A4 n4 c4],.agg #[iV 0,iV 0,.bool false,iV 0,iV 0,iV 0,iV 0,W none 0 0,W none 0 0,iV x103.Kind,iV x103.N,.string x103.S,W none 0 0]]) J (.cons (bd 8 J J agg32.out) (.cons (bd 9 J J agg39.out) .nil)) J ((cq ak _).trans ((cq ak _).trans ((cq ak _).trans (cS [3,4,5,6,2,1,0] 13)))) ⟨_,_,_,_,_,_,_,_,_,_,_,_,_,_,_,_,_,_,_,_,_,J,J⟩
end
section
variable {A1 A2 A3 A4 A5 A6 A8 A9:Option Addr} {B1 B6 M7 c1 c2 c3 c4 c5 c6 c8 c9 n1 n2 n3 n4 n5 n6 n8 n9:Nat}
open Go.RowKit Asn
set_option maxRecDepth 20000
def lB (N:Nat)(a0:Qe)(y17_0:Int)(y19:Ql)(x18:Ql)(p24:Qz):Option (Int×Qe):=
 some (0,(⟨(⟨List.set (List.set a0.m_.Young y17_0.toNat (⟨y19.Kind,y19.Shape,y19.Flags,y19.Age,y19.Slots,y19.More⟩:Ql)) y17_0.toNat (⟨(⟨y19.Kind,y19.Shape,y19.Flags,y19.Age,y19.Slots,y19.More⟩:Ql).Kind,(⟨y19.Kind,y19.Shape,y19.Flags,y19.Age,y19.Slots,y19.More⟩:Ql).Shape,(⟨y19.Kind,y19.Shape,y19.Flags,y19.Age,y19.Slots,y19.More⟩:Ql).Flags,x18.Age,(⟨y19.Kind,y19.Shape,y19.Flags,y19.Age,y19.Slots,y19.More⟩:Ql).Slots,(⟨y19.Kind,y19.Shape,y19.Flags,y19.Age,y19.Slots,y19.More⟩:Ql).More⟩:Ql),a0.m_.Old⟩:Qg),a0.roots_,a0.pending_,(⟨p24⟩:Qo)⟩:Qe))
def lA (N:Nat)(a0:Qe)(y17_1:Int)(y29:Ql)(x28:Ql)(p34:Qz):Option (Int×Qe):=
 some (0,(⟨(⟨a0.m_.Young,List.set (List.set a0.m_.Old y17_1.toNat (⟨y29.Kind,y29.Shape,y29.Flags,y29.Age,y29.Slots,y29.More⟩:Ql)) y17_1.toNat (⟨(⟨y29.Kind,y29.Shape,y29.Flags,y29.Age,y29.Slots,y29.More⟩:Ql).Kind,(⟨y29.Kind,y29.Shape,y29.Flags,y29.Age,y29.Slots,y29.More⟩:Ql).Shape,(⟨y29.Kind,y29.Shape,y29.Flags,y29.Age,y29.Slots,y29.More⟩:Ql).Flags,x28.Age,(⟨y29.Kind,y29.Shape,y29.Flags,y29.Age,y29.Slots,y29.More⟩:Ql).Slots,(⟨y29.Kind,y29.Shape,y29.Flags,y29.Age,y29.Slots,y29.More⟩:Ql).More⟩:Ql)⟩:Qg),a0.roots_,a0.pending_,(⟨p34⟩:Qo)⟩:Qe))
def kQ (N:Nat)(a0:Qe)(a1:Int)(a2:Ql):Option (Int×Qe):=
 (aI N a0).bind fun y11=>bif y11 then (some (1,a0)) else ((eZ N a0 a1).bind fun y13=>bif !y13 then (some (50,a0)) else ((fF N a2).bind fun y15=>bif !y15 then (some (51,a0)) else ((i9 N a0 a1).bind fun y17=>ET y17 (fun y17_0=>(aw a0.m_.Young y17_0).bind fun x18=>(dU N a2).bind fun y19=>bif decide (a1.tmod 2=0) then ((dM N a0.set_ a1 a2).bind fun y26=>lB N a0 y17_0 y19 x18 y26.2.at_) else (lB N a0 y17_0 y19 x18 a0.set_.at_)) (fun y17_1=>(aw a0.m_.Old y17_1).bind fun x28=>(dU N a2).bind fun y29=>bif decide (a1.tmod 2=0) then ((dM N a0.set_ a1 a2).bind fun y36=>lA N a0 y17_1 y29 x28 y36.2.at_) else (lA N a0 y17_1 y29 x28 a0.set_.at_)))))
theorem AN {N:Nat}{a0:Qe}{a1:Int}{a2:Ql}{r:Int×Qe}(h:kQ N a0 a1 a2=some r):Okc QB 33 [pV B1 0,iV a1,.agg #[iV a2.Kind,iV a2.Shape,iV a2.Flags,iV a2.Age,W A8 n8 c8,W A9 n9 c9]] ([az A8 n8 c8 a2.Slots,az A9 n9 c9 a2.More,ah B1 56 [W A2 n2 c2,W A3 n3 c3,W A4 n4 c4,W A5 n5 c5,pV B6 0],bY A2 n2 c2 a0.m_.Young,bY A3 n3 c3 a0.m_.Old,bh A4 n4 c4 a0.roots_,bh A5 n5 c5 a0.pending_,ah B6 87 [.map (some M7)],bj cx dW M7 a0.set_.at_]) (fun u post=> ∃A0 n0 c0 A1 n1 c1 A2 n2 c2 A3 n3 c3 M4,u=iV r.1/\post=[ah B1 56 [W A0 n0 c0,W A1 n1 c1,W A2 n2 c2,W A3 n3 c3,pV B6 0],bY A0 n0 c0 r.2.m_.Young,bY A1 n1 c1 r.2.m_.Old,bh A2 n2 c2 r.2.roots_,bh A3 n3 c3 r.2.pending_,ah B6 87 [.map (some M4)],bj cx dW M4 r.2.set_.at_]):=by
 refine cQ Tryz.func33 ?_;intro B10;refine sY ?_;obtain ⟨y11,k,h⟩:=aa h;refine kw (oR (bL k)) ?_;refine gH J h ?_ ?_<;>intro h
 ·exact eY
 refine ae ?_;obtain ⟨y13,k,h⟩:=aa h;refine kw (oR (mD k)) ?_;refine gH J h ?_ ?_<;>intro h
 ·exact eY
 refine ae ?_;obtain ⟨y15,k,h⟩:=aa h;refine kw (oR (li k)) ?_;refine gH J h ?_ ?_<;>intro h
 ·exact eY
 refine ae ?_;obtain ⟨y17,hy17,h⟩:=aa h;rcases y17 with y17_0|y17_1
 ·replace h:=Jy h;refine gD (oR (kq hy17)) ?_;rintro _ _ ⟨_,⟨rfl,rfl⟩,rfl⟩;obtain ⟨x18,lx18,ux18,hx18,h⟩:=aU h;refine ae ?_;refine gR (sJ 4 J ap J (bc lx18 ux18)) ?_;refine gR (mJ 4 J ap J (bc lx18 ux18) td) ?_;refine zX (bF (u:=iV x18.Age) 4 J ap J hx18 ex (fun _ _ _ h=>by obtain ⟨_,_,_,_,_,_,e,_⟩:=h;rw [e];rfl)) ?_;obtain ⟨y19,k,h⟩:=aa h;refine gD (oR (gG k)) ?_;rintro _ _ ⟨_,⟨A20,n20,c20,A21,n21,c21,rfl,rfl⟩,rfl⟩;refine gR (sJ 6 J ap J (bc lx18 ux18)) ?_;refine lp (aY 0 J) ?_;refine lp (aY 1 J) ?_;refine Fu (iK (us:=[iV y19.Kind,iV y19.Shape,iV y19.Flags,iV y19.Age,W A20 n20 c20,W A21 n21 c21]) (z:=(⟨y19.Kind,y19.Shape,y19.Flags,y19.Age,y19.Slots,y19.More⟩:Ql)) 6 J J J J size35.out J (bc lx18 ux18) J (fun S w vs xk hk hr ho=>by obtain rfl:=Option.some.inj (hk.symm.trans hx18);obtain ⟨_,_,_,_,_,_,rfl,s4,s5⟩:=hr;exact ⟨_,_,_,_,_,_,rfl,ho 0 _ rfl rfl,ho 1 _ rfl rfl⟩)) ?_;have hx22:=H0 (z:=(⟨y19.Kind,y19.Shape,y19.Flags,y19.Age,y19.Slots,y19.More⟩:Ql)) hx18;refine gR (sJ 6 J ap J (AJ (bc lx18 ux18))) ?_;refine gR (mJ 6 J ap J (AJ (bc lx18 ux18)) td) ?_
  refine Fu (iK (us:=[iV x18.Age]) (z:=(⟨(⟨y19.Kind,y19.Shape,y19.Flags,y19.Age,y19.Slots,y19.More⟩:Ql).Kind,(⟨y19.Kind,y19.Shape,y19.Flags,y19.Age,y19.Slots,y19.More⟩:Ql).Shape,(⟨y19.Kind,y19.Shape,y19.Flags,y19.Age,y19.Slots,y19.More⟩:Ql).Flags,x18.Age,(⟨y19.Kind,y19.Shape,y19.Flags,y19.Age,y19.Slots,y19.More⟩:Ql).Slots,(⟨y19.Kind,y19.Shape,y19.Flags,y19.Age,y19.Slots,y19.More⟩:Ql).More⟩:Ql)) 6 J J J J size3.out J (AJ (bc lx18 ux18)) J (fun S w vs xk hk hr ho=>by obtain rfl:=Option.some.inj (hk.symm.trans hx22);obtain ⟨_,_,_,_,_,_,rfl,s4,s5⟩:=hr;exact ⟨_,_,_,_,_,_,rfl,s4,s5⟩)) ?_;refine am (fun s L=> ∃p24 M24,lB N a0 y17_0 y19 x18 p24=some r/\s=[(6,iV 0)]/\L=[bY A2 n2 c2 (List.set (List.set a0.m_.Young y17_0.toNat (⟨y19.Kind,y19.Shape,y19.Flags,y19.Age,y19.Slots,y19.More⟩:Ql)) y17_0.toNat (⟨(⟨y19.Kind,y19.Shape,y19.Flags,y19.Age,y19.Slots,y19.More⟩:Ql).Kind,(⟨y19.Kind,y19.Shape,y19.Flags,y19.Age,y19.Slots,y19.More⟩:Ql).Shape,(⟨y19.Kind,y19.Shape,y19.Flags,y19.Age,y19.Slots,y19.More⟩:Ql).Flags,x18.Age,(⟨y19.Kind,y19.Shape,y19.Flags,y19.Age,y19.Slots,y19.More⟩:Ql).Slots,(⟨y19.Kind,y19.Shape,y19.Flags,y19.Age,y19.Slots,y19.More⟩:Ql).More⟩:Ql)),bY A3 n3 c3 a0.m_.Old,bh A4 n4 c4 a0.roots_,bh A5 n5 c5 a0.pending_,ah B1 56 [W A2 n2 c2,W A3 n3 c3,W A4 n4 c4,W A5 n5 c5,pV B6 0],bj cx dW M24 p24,ah B6 87 [.map (some M24)]]) ?_ ?_
  ·refine ae ?_;refine lh (ky J J (by decide)) ?_;refine gH J h ?_ ?_<;>intro h
   ·refine bm I ([az A20 n20 c20 y19.Slots,az A21 n21 c21 y19.More,ah B10 35 [iV a2.Kind,iV a2.Shape,iV a2.Flags,iV a2.Age,W A8 n8 c8,W A9 n9 c9],az A8 n8 c8 a2.Slots,az A9 n9 c9 a2.More,ah B1 56 [W A2 n2 c2,W A3 n3 c3,W A4 n4 c4,W A5 n5 c5,pV B6 0],bY A2 n2 c2 (List.set (List.set a0.m_.Young y17_0.toNat (⟨y19.Kind,y19.Shape,y19.Flags,y19.Age,y19.Slots,y19.More⟩:Ql)) y17_0.toNat (⟨(⟨y19.Kind,y19.Shape,y19.Flags,y19.Age,y19.Slots,y19.More⟩:Ql).Kind,(⟨y19.Kind,y19.Shape,y19.Flags,y19.Age,y19.Slots,y19.More⟩:Ql).Shape,(⟨y19.Kind,y19.Shape,y19.Flags,y19.Age,y19.Slots,y19.More⟩:Ql).Flags,x18.Age,(⟨y19.Kind,y19.Shape,y19.Flags,y19.Age,y19.Slots,y19.More⟩:Ql).Slots,(⟨y19.Kind,y19.Shape,y19.Flags,y19.Age,y19.Slots,y19.More⟩:Ql).More⟩:Ql)),bY A3 n3 c3 a0.m_.Old,bh A4 n4 c4 a0.roots_,bh A5 n5 c5 a0.pending_]) (cS [0,1,2,3,4,5,6,7,8,9] 12) ?_;refine ae ?_;obtain ⟨y26,k,h⟩:=aa h;refine zD 6 J (oC (nE k)) ?_;rintro _ _ ⟨_,⟨M27,rfl,rfl⟩,rfl⟩;refine bq (cS [2,3,4,5,6,7,8,9,10,11] 12) ?_;exact jY
   exact jY
  rintro _ _ ⟨p24,M24,h,rfl,rfl⟩;exact eY
 replace h:=Jx h;refine gD (oR (kq hy17)) ?_;rintro _ _ ⟨_,⟨rfl,rfl⟩,rfl⟩;obtain ⟨x28,lx28,ux28,hx28,h⟩:=aU h;refine ae ?_;refine gR (sJ 5 J ap J (bc lx28 ux28)) ?_;refine gR (mJ 5 J ap J (bc lx28 ux28) td) ?_;refine zX (bF (u:=iV x28.Age) 5 J ap J hx28 ex (fun _ _ _ h=>by obtain ⟨_,_,_,_,_,_,e,_⟩:=h;rw [e];rfl)) ?_;obtain ⟨y29,k,h⟩:=aa h;refine gD (oR (gG k)) ?_;rintro _ _ ⟨_,⟨A30,n30,c30,A31,n31,c31,rfl,rfl⟩,rfl⟩;refine gR (sJ 7 J ap J (bc lx28 ux28)) ?_;refine lp (aY 0 J) ?_;refine lp (aY 1 J) ?_;refine ae ?_;refine Fu (iK (us:=[iV y29.Kind,iV y29.Shape,iV y29.Flags,iV y29.Age,W A30 n30 c30,W A31 n31 c31]) (z:=(⟨y29.Kind,y29.Shape,y29.Flags,y29.Age,y29.Slots,y29.More⟩:Ql)) 7 J J J J size35.out J (bc lx28 ux28) J (fun S w vs xk hk hr ho=>by obtain rfl:=Option.some.inj (hk.symm.trans hx28);obtain ⟨_,_,_,_,_,_,rfl,s4,s5⟩:=hr;exact ⟨_,_,_,_,_,_,rfl,ho 0 _ rfl rfl,ho 1 _ rfl rfl⟩)) ?_;have hx32:=H0 (z:=(⟨y29.Kind,y29.Shape,y29.Flags,y29.Age,y29.Slots,y29.More⟩:Ql)) hx28;refine gR (sJ 7 J ap J (AJ (bc lx28 ux28))) ?_;refine gR (mJ 7 J ap J (AJ (bc lx28 ux28)) td) ?_
 refine Fu (iK (us:=[iV x28.Age]) (z:=(⟨(⟨y29.Kind,y29.Shape,y29.Flags,y29.Age,y29.Slots,y29.More⟩:Ql).Kind,(⟨y29.Kind,y29.Shape,y29.Flags,y29.Age,y29.Slots,y29.More⟩:Ql).Shape,(⟨y29.Kind,y29.Shape,y29.Flags,y29.Age,y29.Slots,y29.More⟩:Ql).Flags,x28.Age,(⟨y29.Kind,y29.Shape,y29.Flags,y29.Age,y29.Slots,y29.More⟩:Ql).Slots,(⟨y29.Kind,y29.Shape,y29.Flags,y29.Age,y29.Slots,y29.More⟩:Ql).More⟩:Ql)) 7 J J J J size3.out J (AJ (bc lx28 ux28)) J (fun S w vs xk hk hr ho=>by obtain rfl:=Option.some.inj (hk.symm.trans hx32);obtain ⟨_,_,_,_,_,_,rfl,s4,s5⟩:=hr;exact ⟨_,_,_,_,_,_,rfl,s4,s5⟩)) ?_;refine am (fun s L=> ∃p34 M34,lA N a0 y17_1 y29 x28 p34=some r/\s=[(6,iV 0)]/\L=[bY A2 n2 c2 a0.m_.Young,bY A3 n3 c3 (List.set (List.set a0.m_.Old y17_1.toNat (⟨y29.Kind,y29.Shape,y29.Flags,y29.Age,y29.Slots,y29.More⟩:Ql)) y17_1.toNat (⟨(⟨y29.Kind,y29.Shape,y29.Flags,y29.Age,y29.Slots,y29.More⟩:Ql).Kind,(⟨y29.Kind,y29.Shape,y29.Flags,y29.Age,y29.Slots,y29.More⟩:Ql).Shape,(⟨y29.Kind,y29.Shape,y29.Flags,y29.Age,y29.Slots,y29.More⟩:Ql).Flags,x28.Age,(⟨y29.Kind,y29.Shape,y29.Flags,y29.Age,y29.Slots,y29.More⟩:Ql).Slots,(⟨y29.Kind,y29.Shape,y29.Flags,y29.Age,y29.Slots,y29.More⟩:Ql).More⟩:Ql)),bh A4 n4 c4 a0.roots_,bh A5 n5 c5 a0.pending_,ah B1 56 [W A2 n2 c2,W A3 n3 c3,W A4 n4 c4,W A5 n5 c5,pV B6 0],bj cx dW M34 p34,ah B6 87 [.map (some M34)]]) ?_ ?_
 ·refine ae ?_;refine lh (ky J J (by decide)) ?_;refine gH J h ?_ ?_<;>intro h
  ·refine bm I ([az A30 n30 c30 y29.Slots,az A31 n31 c31 y29.More,ah B10 35 [iV a2.Kind,iV a2.Shape,iV a2.Flags,iV a2.Age,W A8 n8 c8,W A9 n9 c9],az A8 n8 c8 a2.Slots,az A9 n9 c9 a2.More,ah B1 56 [W A2 n2 c2,W A3 n3 c3,W A4 n4 c4,W A5 n5 c5,pV B6 0],bY A2 n2 c2 a0.m_.Young,bY A3 n3 c3 (List.set (List.set a0.m_.Old y17_1.toNat (⟨y29.Kind,y29.Shape,y29.Flags,y29.Age,y29.Slots,y29.More⟩:Ql)) y17_1.toNat (⟨(⟨y29.Kind,y29.Shape,y29.Flags,y29.Age,y29.Slots,y29.More⟩:Ql).Kind,(⟨y29.Kind,y29.Shape,y29.Flags,y29.Age,y29.Slots,y29.More⟩:Ql).Shape,(⟨y29.Kind,y29.Shape,y29.Flags,y29.Age,y29.Slots,y29.More⟩:Ql).Flags,x28.Age,(⟨y29.Kind,y29.Shape,y29.Flags,y29.Age,y29.Slots,y29.More⟩:Ql).Slots,(⟨y29.Kind,y29.Shape,y29.Flags,y29.Age,y29.Slots,y29.More⟩:Ql).More⟩:Ql)),bh A4 n4 c4 a0.roots_,bh A5 n5 c5 a0.pending_]) (cS [0,1,2,3,4,5,6,7,8,9] 12) ?_;refine ae ?_;obtain ⟨y36,k,h⟩:=aa h;refine zD 6 J (oC (nE k)) ?_;rintro _ _ ⟨_,⟨M37,rfl,rfl⟩,rfl⟩;refine bq (cS [2,3,4,5,6,7,8,9,10,11] 12) ?_;exact jY
  exact jY
 rintro _ _ ⟨p34,M34,h,rfl,rfl⟩;exact eY
def gn (N:Nat)(a0:Qe)(a1:Int)(a2:Qn):Option (Bool×Qe):=
 (aI N a0).bind fun y9=>(bif y9 then (some true) else (some (decide (a1<0)))).bind fun b10=>(bif b10 then (some true) else (some (decide ((a0.roots_.length:Int)<=a1)))).bind fun b11=>bif b11 then (some (false,a0)) else ((aw a0.roots_ a1).bind fun x13=>some (true,(⟨a0.m_,List.set a0.roots_ a1.toNat (⟨a2.Kind,a2.N,a2.S⟩:Qn),a0.pending_,a0.set_⟩:Qe)))
theorem wW {N:Nat}{a0:Qe}{a1:Int}{a2:Qn}{r:Bool×Qe}(h:gn N a0 a1 a2=some r):Okc QB 34 [pV B1 0,iV a1,(bD a2)] ([ah B1 56 [W A2 n2 c2,W A3 n3 c3,W A4 n4 c4,W A5 n5 c5,pV B6 0],bY A2 n2 c2 a0.m_.Young,bY A3 n3 c3 a0.m_.Old,bh A4 n4 c4 a0.roots_,bh A5 n5 c5 a0.pending_,ah B6 87 [.map (some M7)],bj cx dW M7 a0.set_.at_]) (fun u post=> ∃A0 n0 c0 A1 n1 c1 A2 n2 c2 A3 n3 c3 M4,u=.bool r.1/\post=[ah B1 56 [W A0 n0 c0,W A1 n1 c1,W A2 n2 c2,W A3 n3 c3,pV B6 0],bY A0 n0 c0 r.2.m_.Young,bY A1 n1 c1 r.2.m_.Old,bh A2 n2 c2 r.2.roots_,bh A3 n3 c3 r.2.pending_,ah B6 87 [.map (some M4)],bj cx dW M4 r.2.set_.at_]):=by
 refine cQ Tryz.func34 ?_;intro B8;refine sY ?_;obtain ⟨y9,k,h⟩:=aa h;refine kw (oR (bL k)) ?_;refine gS 3 12 9 h ?_;intro b10 h;refine ae ?_;refine gS 8 21 13 h ?_;intro b11 h;refine ew h ?_ ?_<;>intro h
 ·exact eY
 refine ae ?_;refine ay ?_;refine bm I _ (ab _) ?_;refine ae ?_;obtain ⟨x13,lx13,ux13,hx13,h⟩:=aU h;refine ae ?_;refine lE 7 J I I (iK (us:=be a2) (z:=(⟨a2.Kind,a2.N,a2.S⟩:Qn)) 4 J J J J size37.out J (bc lx13 ux13) J (fun S w vs xk hk hr ho=>by obtain rfl:=Option.some.inj (hk.symm.trans hx13);rw [show _=_ from hr];rfl)) ?_;rintro _ _ rfl;exact eY
def gp (N:Nat)(a0:Qe):Option (Qr×Qe):=
 (aI N a0).bind fun y8=>bif y8 then (some ([],a0)) else (some (a0.pending_,(⟨a0.m_,a0.roots_,[],a0.set_⟩:Qe)))
theorem wY {N:Nat}{a0:Qe}{r:Qr×Qe}(h:gp N a0=some r):Okc QB 35 [pV B1 0] ([ah B1 56 [W A2 n2 c2,W A3 n3 c3,W A4 n4 c4,W A5 n5 c5,pV B6 0],bY A2 n2 c2 a0.m_.Young,bY A3 n3 c3 a0.m_.Old,bh A4 n4 c4 a0.roots_,bh A5 n5 c5 a0.pending_,ah B6 87 [.map (some M7)],bj cx dW M7 a0.set_.at_]) (fun u post=> ∃A0 n0 c0 A1 n1 c1 A2 n2 c2 A3 n3 c3 A4 n4 c4 M5,u=W A0 n0 c0/\post=[bh A0 n0 c0 r.1,ah B1 56 [W A1 n1 c1,W A2 n2 c2,W A3 n3 c3,W A4 n4 c4,pV B6 0],bY A1 n1 c1 r.2.m_.Young,bY A2 n2 c2 r.2.m_.Old,bh A3 n3 c3 r.2.roots_,bh A4 n4 c4 r.2.pending_,ah B6 87 [.map (some M5)],bj cx dW M5 r.2.set_.at_]):=by
 refine cQ Tryz.func35 ?_;refine sZ ?_;obtain ⟨y8,k,h⟩:=aa h;refine kw (oR (bL k)) ?_;refine gH J h ?_ ?_<;>intro h
 ·refine ae ?_;obtain rfl:=bw h;exact js J J ((aD ak 37 _).trans (cS [0,1,2,3,4,5,6,7] 8)) ⟨_,_,_,_,_,_,_,_,_,_,_,_,_,_,_,_,J,J⟩
 refine ae ?_;obtain rfl:=bw h;exact js J J ((aD ak 37 _).trans (cS [5,1,2,3,4,0,6,7] 8)) ⟨_,_,_,_,_,_,_,_,_,_,_,_,_,_,_,_,J,J⟩
def bP (N:Nat)(p14:Int)(p15:Int)(p16:Bool)(p17:Int)(p18:Int)(p19:Int)(p20:Int)(p21:Qr)(p22:Qr)(p23:Int)(p24:Int)(p25:ByteArray)(p26:Qr)(p27:Qy)(p28:Qy)(p29:Qr)(p30:Qr)(p31:Qz):Option (Qd×Qe):=
 some ((⟨p14,p15,p16,(⟨p17,p18,p19,p20,p21,p22⟩:Ql),(⟨p23,p24,p25⟩:Qn),p26⟩:Qd),(⟨(⟨p27,p28⟩:Qg),p29,p30,(⟨p31⟩:Qo)⟩:Qe))
def yW (N:Nat)(a0:Qe)(a1:Qc):Option (Qd×Qe):=
 bif decide (a1.Kind=0) then ((fo N a0 a1.C).bind fun y33=>bP N y33.1 y33.2.1 false 0 0 0 0 [] [] 0 0 (⟨#[]⟩) [] y33.2.2.m_.Young y33.2.2.m_.Old y33.2.2.roots_ y33.2.2.pending_ y33.2.2.set_.at_) else (bif decide (a1.Kind=1) then ((kQ N a0 a1.N a1.C).bind fun y43=>bP N 0 y43.1 false 0 0 0 0 [] [] 0 0 (⟨#[]⟩) [] y43.2.m_.Young y43.2.m_.Old y43.2.roots_ y43.2.pending_ y43.2.set_.at_) else (bif decide (a1.Kind=2) then ((ik N a0 a1.V).bind fun y53=>bP N y53.1 0 false 0 0 0 0 [] [] 0 0 (⟨#[]⟩) [] y53.2.m_.Young y53.2.m_.Old y53.2.roots_ y53.2.pending_ y53.2.set_.at_) else (bif decide (a1.Kind=3) then ((gn N a0 a1.N a1.V).bind fun y63=>bP N 0 0 y63.1 0 0 0 0 [] [] 0 0 (⟨#[]⟩) [] y63.2.m_.Young y63.2.m_.Old y63.2.roots_ y63.2.pending_ y63.2.set_.at_) else (bif decide (a1.Kind=4) then ((fa N a0 a1.N).bind fun y73=>bP N 0 0 false 0 0 0 0 [] [] 0 0 (⟨#[]⟩) [] y73.m_.Young y73.m_.Old y73.roots_ y73.pending_ y73.set_.at_) else (bif decide (a1.Kind=5) then ((cF N a0).bind fun y83=>bP N 0 y83.1 false 0 0 0 0 [] [] 0 0 (⟨#[]⟩) [] y83.2.m_.Young y83.2.m_.Old y83.2.roots_ y83.2.pending_ y83.2.set_.at_) else (bif decide (a1.Kind=6) then ((cW N a0).bind fun y93=>bP N 0 y93.1 false 0 0 0 0 [] [] 0 0 (⟨#[]⟩) [] y93.2.m_.Young y93.2.m_.Old y93.2.roots_ y93.2.pending_ y93.2.set_.at_) else (bif decide (a1.Kind=7) then ((gp N a0).bind fun y103=>bP N 0 0 false 0 0 0 0 [] [] 0 0 (⟨#[]⟩) y103.1 y103.2.m_.Young y103.2.m_.Old y103.2.roots_ y103.2.pending_ y103.2.set_.at_) else (bif decide (a1.Kind=8) then ((jK N a0 a1.N).bind fun y113=>bP N 0 0 y113.2 y113.1.Kind y113.1.Shape y113.1.Flags y113.1.Age y113.1.Slots y113.1.More 0 0 (⟨#[]⟩) [] a0.m_.Young a0.m_.Old a0.roots_ a0.pending_ a0.set_.at_) else ((fm N a0 a1.N).bind fun y117=>bP N 0 0 false 0 0 0 0 [] [] y117.Kind y117.N y117.S [] a0.m_.Young a0.m_.Old a0.roots_ a0.pending_ a0.set_.at_)))))))))
theorem Iu {N:Nat}{a0:Qe}{a1:Qc}{r:Qd×Qe}(h:yW N a0 a1=some r):Okc QB 9 [pV B1 0,.agg #[iV a1.Kind,iV a1.N,iV a1.C.Kind,iV a1.C.Shape,iV a1.C.Flags,iV a1.C.Age,W A8 n8 c8,W A9 n9 c9,iV a1.V.Kind,iV a1.V.N,.string a1.V.S]] ([az A8 n8 c8 a1.C.Slots,az A9 n9 c9 a1.C.More,ah B1 56 [W A2 n2 c2,W A3 n3 c3,W A4 n4 c4,W A5 n5 c5,pV B6 0],bY A2 n2 c2 a0.m_.Young,bY A3 n3 c3 a0.m_.Old,bh A4 n4 c4 a0.roots_,bh A5 n5 c5 a0.pending_,ah B6 87 [.map (some M7)],bj cx dW M7 a0.set_.at_]) (fun u post=> ∃A0 n0 c0 A1 n1 c1 A2 n2 c2 A3 n3 c3 A4 n4 c4 A5 n5 c5 A6 n6 c6 M7,u=.agg #[iV r.1.N,iV r.1.E,.bool r.1.Ok,iV r.1.C.Kind,iV r.1.C.Shape,iV r.1.C.Flags,iV r.1.C.Age,W A0 n0 c0,W A1 n1 c1,iV r.1.V.Kind,iV r.1.V.N,.string r.1.V.S,W A2 n2 c2]/\post=[bh A0 n0 c0 r.1.C.Slots,bh A1 n1 c1 r.1.C.More,bh A2 n2 c2 r.1.L,ah B1 56 [W A3 n3 c3,W A4 n4 c4,W A5 n5 c5,W A6 n6 c6,pV B6 0],bY A3 n3 c3 r.2.m_.Young,bY A4 n4 c4 r.2.m_.Old,bh A5 n5 c5 r.2.roots_,bh A6 n6 c6 r.2.pending_,ah B6 87 [.map (some M7)],bj cx dW M7 r.2.set_.at_]):=by
 refine cQ Tryz.func9 ?_;intro B10
 refine gg fun B11=> ?_
 intro B12;refine ae ?_;refine am (fun s L=> ∃p14 p15 p16 p17 p18 p19 p20 p21 p22 p23 p24 p25 p26 p27 p28 p29 p30 p31 A21 n21 c21 A22 n22 c22 A26 n26 c26 A27 n27 c27 A28 n28 c28 A29 n29 c29 A30 n30 c30 M31,bP N p14 p15 p16 p17 p18 p19 p20 p21 p22 p23 p24 p25 p26 p27 p28 p29 p30 p31=some r/\s=[(4,pV B11 0),(5,pV B12 0)]/\L=[ah B11 39 [iV 0,iV 0,.bool false,iV 0,iV 0,iV 0,iV 0,W none 0 0,W none 0 0,iV 0,iV 0,.string (⟨#[]⟩),W none 0 0],bh A21 n21 c21 p21,bh A22 n22 c22 p22,bh A26 n26 c26 p26,ah B12 39 [iV p14,iV p15,.bool p16,iV p17,iV p18,iV p19,iV p20,W A21 n21 c21,W A22 n22 c22,iV p23,iV p24,.string p25,W A26 n26 c26],bY A27 n27 c27 p27,bY A28 n28 c28 p28,bh A29 n29 c29 p29,bh A30 n30 c30 p30,ah B1 56 [W A27 n27 c27,W A28 n28 c28,W A29 n29 c29,W A30 n30 c30,pV B6 0],bj cx dW M31 p31,ah B6 87 [.map (some M31)]]) ?_ ?_
 ·refine ew h ?_ ?_<;>intro h
  ·refine ae ?_;obtain ⟨y33,k,h⟩:=aa h;refine gD (oC (oP k)) ?_;rintro _ _ ⟨_,⟨A34,n34,c34,A35,n35,c35,A36,n36,c36,A37,n37,c37,M38,rfl,rfl⟩,rfl⟩;refine ae ?_;exact ⟨_,_,⟨y33.1,y33.2.1,false,0,0,0,0,[],[],0,0,⟨#[]⟩,[],y33.2.2.m_.Young,y33.2.2.m_.Old,y33.2.2.roots_,y33.2.2.pending_,y33.2.2.set_.at_,none,0,0,none,0,0,none,0,0,A34,n34,c34,A35,n35,c35,A36,n36,c36,A37,n37,c37,M38,h,J,J⟩,sA,(aD ak 37 _).trans ((aD ak 37 _).trans ((aD ak 37 _).trans (cS [11,2,1,0,10,4,5,6,7,3,9,8] 15)))⟩
  refine ew h ?_ ?_<;>intro h
  ·refine ae ?_;obtain ⟨y43,k,h⟩:=aa h;refine gD (oC (AN k)) ?_;rintro _ _ ⟨_,⟨A44,n44,c44,A45,n45,c45,A46,n46,c46,A47,n47,c47,M48,rfl,rfl⟩,rfl⟩;refine ae ?_;exact ⟨_,_,⟨0,y43.1,false,0,0,0,0,[],[],0,0,⟨#[]⟩,[],y43.2.m_.Young,y43.2.m_.Old,y43.2.roots_,y43.2.pending_,y43.2.set_.at_,none,0,0,none,0,0,none,0,0,A44,n44,c44,A45,n45,c45,A46,n46,c46,A47,n47,c47,M48,h,J,J⟩,sA,(aD ak 37 _).trans ((aD ak 37 _).trans ((aD ak 37 _).trans (cS [11,2,1,0,10,4,5,6,7,3,9,8] 15)))⟩
  refine ew h ?_ ?_<;>intro h
  ·refine ae ?_;obtain ⟨y53,k,h⟩:=aa h;refine gD (oC (sX k)) ?_;rintro _ _ ⟨_,⟨A54,n54,c54,A55,n55,c55,A56,n56,c56,A57,n57,c57,M58,rfl,rfl⟩,rfl⟩;refine ae ?_;exact ⟨_,_,⟨y53.1,0,false,0,0,0,0,[],[],0,0,⟨#[]⟩,[],y53.2.m_.Young,y53.2.m_.Old,y53.2.roots_,y53.2.pending_,y53.2.set_.at_,none,0,0,none,0,0,none,0,0,A54,n54,c54,A55,n55,c55,A56,n56,c56,A57,n57,c57,M58,h,J,J⟩,sA,(aD ak 37 _).trans ((aD ak 37 _).trans ((aD ak 37 _).trans (cS [11,2,1,0,10,4,5,6,7,3,9,8] 15)))⟩
  refine ew h ?_ ?_<;>intro h
  ·refine ae ?_;obtain ⟨y63,k,h⟩:=aa h;refine gD (oC (wW k)) ?_;rintro _ _ ⟨_,⟨A64,n64,c64,A65,n65,c65,A66,n66,c66,A67,n67,c67,M68,rfl,rfl⟩,rfl⟩;refine ae ?_;exact ⟨_,_,⟨0,0,y63.1,0,0,0,0,[],[],0,0,⟨#[]⟩,[],y63.2.m_.Young,y63.2.m_.Old,y63.2.roots_,y63.2.pending_,y63.2.set_.at_,none,0,0,none,0,0,none,0,0,A64,n64,c64,A65,n65,c65,A66,n66,c66,A67,n67,c67,M68,h,J,J⟩,sA,(aD ak 37 _).trans ((aD ak 37 _).trans ((aD ak 37 _).trans (cS [11,2,1,0,10,4,5,6,7,3,9,8] 15)))⟩
  refine ew h ?_ ?_<;>intro h
  ·refine ae ?_;obtain ⟨y73,k,h⟩:=aa h;refine gD (oC (uv k)) ?_;rintro _ _ ⟨_,⟨A74,n74,c74,A75,n75,c75,A76,n76,c76,A77,n77,c77,M78,rfl,rfl⟩,rfl⟩;refine ae ?_;exact ⟨_,_,⟨0,0,false,0,0,0,0,[],[],0,0,⟨#[]⟩,[],y73.m_.Young,y73.m_.Old,y73.roots_,y73.pending_,y73.set_.at_,none,0,0,none,0,0,none,0,0,A74,n74,c74,A75,n75,c75,A76,n76,c76,A77,n77,c77,M78,h,J,J⟩,sA,(aD ak 37 _).trans ((aD ak 37 _).trans ((aD ak 37 _).trans (cS [11,2,1,0,10,4,5,6,7,3,9,8] 15)))⟩
  refine ew h ?_ ?_<;>intro h
  ·refine ae ?_;obtain ⟨y83,k,h⟩:=aa h;refine gD (oC (nM k)) ?_;rintro _ _ ⟨_,⟨A84,n84,c84,A85,n85,c85,A86,n86,c86,A87,n87,c87,M88,rfl,rfl⟩,rfl⟩;refine ae ?_;exact ⟨_,_,⟨0,y83.1,false,0,0,0,0,[],[],0,0,⟨#[]⟩,[],y83.2.m_.Young,y83.2.m_.Old,y83.2.roots_,y83.2.pending_,y83.2.set_.at_,none,0,0,none,0,0,none,0,0,A84,n84,c84,A85,n85,c85,A86,n86,c86,A87,n87,c87,M88,h,J,J⟩,sA,(aD ak 37 _).trans ((aD ak 37 _).trans ((aD ak 37 _).trans (cS [11,2,1,0,10,4,5,6,7,3,9,8] 15)))⟩
  refine ew h ?_ ?_<;>intro h
  ·refine ae ?_;obtain ⟨y93,k,h⟩:=aa h;refine gD (oC (rY k)) ?_;rintro _ _ ⟨_,⟨A94,n94,c94,A95,n95,c95,A96,n96,c96,A97,n97,c97,M98,rfl,rfl⟩,rfl⟩;refine ae ?_;exact ⟨_,_,⟨0,y93.1,false,0,0,0,0,[],[],0,0,⟨#[]⟩,[],y93.2.m_.Young,y93.2.m_.Old,y93.2.roots_,y93.2.pending_,y93.2.set_.at_,none,0,0,none,0,0,none,0,0,A94,n94,c94,A95,n95,c95,A96,n96,c96,A97,n97,c97,M98,h,J,J⟩,sA,(aD ak 37 _).trans ((aD ak 37 _).trans ((aD ak 37 _).trans (cS [11,2,1,0,10,4,5,6,7,3,9,8] 15)))⟩
  refine ew h ?_ ?_<;>intro h
  ·refine ae ?_;obtain ⟨y103,k,h⟩:=aa h;refine gD (oC (wY k)) ?_;rintro _ _ ⟨_,⟨A104,n104,c104,A105,n105,c105,A106,n106,c106,A107,n107,c107,A108,n108,c108,M109,rfl,rfl⟩,rfl⟩;refine ae ?_;exact ⟨_,_,⟨0,0,false,0,0,0,0,[],[],0,0,⟨#[]⟩,y103.1,y103.2.m_.Young,y103.2.m_.Old,y103.2.roots_,y103.2.pending_,y103.2.set_.at_,none,0,0,none,0,0,A104,n104,c104,A105,n105,c105,A106,n106,c106,A107,n107,c107,A108,n108,c108,M109,h,J,J⟩,sA,(aD ak 37 _).trans ((aD ak 37 _).trans (cS [11,1,0,2,10,4,5,6,7,3,9,8] 15))⟩
  refine ew h ?_ ?_<;>intro h
  ·refine ae ?_;obtain ⟨y113,k,h⟩:=aa h
   refine BM (oR (vM k)) fun A114 n114 c114 A115 n115 c115=> ?_
   exact ⟨_,_,⟨0,0,y113.2,y113.1.Kind,y113.1.Shape,y113.1.Flags,y113.1.Age,y113.1.Slots,y113.1.More,0,0,⟨#[]⟩,[],a0.m_.Young,a0.m_.Old,a0.roots_,a0.pending_,a0.set_.at_,A114,n114,c114,A115,n115,c115,none,0,0,A2,n2,c2,A3,n3,c3,A4,n4,c4,A5,n5,c5,M7,h,J,J⟩,sA,(aD ak 37 _).trans (cS [4,1,2,0,3,9,10,11,12,8,14,13] 15)⟩
  refine ae ?_;obtain ⟨y117,k,h⟩:=aa h;refine kw (oR (oO k)) ?_;exact ⟨_,_,⟨0,0,false,0,0,0,0,[],[],y117.Kind,y117.N,y117.S,[],a0.m_.Young,a0.m_.Old,a0.roots_,a0.pending_,a0.set_.at_,none,0,0,none,0,0,none,0,0,A2,n2,c2,A3,n3,c3,A4,n4,c4,A5,n5,c5,M7,h,J,J⟩,sA,(aD ak 37 _).trans ((aD ak 37 _).trans ((aD ak 37 _).trans (cS [4,2,1,0,3,9,10,11,12,8,14,13] 15)))⟩
 rintro _ _ ⟨p14,p15,p16,p17,p18,p19,p20,p21,p22,p23,p24,p25,p26,p27,p28,p29,p30,p31,A21,n21,c21,A22,n22,c22,A26,n26,c26,A27,n27,c27,A28,n28,c28,A29,n29,c29,A30,n30,c30,M31,h,rfl,rfl⟩;exact eY
def sT (N:Nat):Option Bool:=
 some true
def oB (N:Nat)(a0:Qr)(a1:Qr):Nat->Int->Option Bool
 |0,_=>none
 |m5+1,p6=>bif decide (p6<(a0.length:Int)) then ((aw a0 p6).bind fun x8=>(aw a1 p6).bind fun x9=>bif !decide (x8=x9) then (some false) else (aZ (in64 (p6+1)) ((oB N a0 a1 m5) (p6+1)))) else (sT N)
def fh (N:Nat)(a0:Qr)(a1:Qr):Option Bool:=
 bif !decide ((a0.length:Int)=(a1.length:Int)) then (some false) else (oB N a0 a1 N 0)
theorem lu {N:Nat}{a0:Qr}{a1:Qr}{r:Bool}(h:fh N a0 a1=some r):Okc QB 12 [W A1 n1 c1,W A2 n2 c2] ([az A1 n1 c1 a0,az A2 n2 c2 a1]) (fun u post=>u=.bool r/\post=[]):=by
 refine cQ Tryz.func12 ?_;refine sZ ?_;refine gH J h ?_ ?_<;>intro h
 ·exact eY
 refine ae ?_;refine am (fun s L=>sT N=some r/\s=[(4,.bool false)]/\L=[]) ?_ ?_
 ·refine ae ?_;refine aH (fun m s L=> ∃p6,oB N a0 a1 m p6=some r/\s=[(0,W A1 n1 c1),(1,W A2 n2 c2),(4,.bool false),(5,iV p6)]/\L=[az A1 n1 c1 a0,az A2 n2 c2 a1]) N _ _ ⟨0,h,J,J⟩ sA (cS [0,1] 2) ?_;rintro (_|m5) _ _ ⟨p6,h,rfl,rfl⟩
  ·exact aj h
  rw [oB.eq_2] at h;refine sZ ?_;refine gH J h ?_ ?_<;>intro h
  ·refine sY ?_;refine ay ?_;refine bm I _ (ab _) ?_;refine ae ?_;obtain ⟨x8,lx8,ux8,hx8,h⟩:=aU h;refine ae ?_;obtain ⟨x9,lx9,ux9,hx9,h⟩:=aU h;refine ae ?_;refine zE 8 J (Ek (x:=x8) (y:=x9) J J) ?_;refine ew h ?_ ?_<;>intro h
   ·exact eY
   refine ae ?_;obtain ⟨q11,h⟩:=ad h;exact lY
  exact jY
 rintro _ _ ⟨h,rfl,rfl⟩;exact eY
theorem xP {r:Bool}: ∀v post,((fun (u:Value) (post:List Chunk)=>u=.bool r/\post=[])) v post-> ∀c∈post,fu c:=by
 rintro _ _ ⟨rfl,rfl⟩;exact ax
def rN (N:Nat)(a0:Ql)(a1:Ql):Option Bool:=
 (bif decide (a0.Kind=a1.Kind) then (some (decide (a0.Shape=a1.Shape))) else (some false)).bind fun b7=>(bif b7 then (some (decide (a0.Flags=a1.Flags))) else (some false)).bind fun b8=>(bif b8 then (some (decide (a0.Age=a1.Age))) else (some false)).bind fun b9=>(bif b9 then ((fh N a0.Slots a1.Slots).bind fun y11=>some y11) else (some false)).bind fun b10=>(bif b10 then ((fh N a0.More a1.More).bind fun y13=>some y13) else (some false)).bind fun b12=>some b12
theorem Bh {N:Nat}{a0:Ql}{a1:Ql}{r:Bool}(h:rN N a0 a1=some r):Okc QB 32 [.agg #[iV a0.Kind,iV a0.Shape,iV a0.Flags,iV a0.Age,W A1 n1 c1,W A2 n2 c2],.agg #[iV a1.Kind,iV a1.Shape,iV a1.Flags,iV a1.Age,W A3 n3 c3,W A4 n4 c4]] ([az A1 n1 c1 a0.Slots,az A2 n2 c2 a0.More,az A3 n3 c3 a1.Slots,az A4 n4 c4 a1.More]) (fun u post=>u=.bool r/\post=[]):=by
 refine cQ Tryz.func32 ?_;intro B5
 refine gg fun B6=> ?_
 refine gS 6 16 10 h ?_;intro b7 h;refine ae ?_;refine gS 6 23 17 h ?_;intro b8 h;refine ae ?_;refine gS 6 30 24 h ?_;intro b9 h;refine ae ?_;obtain ⟨b10,hb10,h⟩:=aa h;refine aQ 6 37 b10 ?_ ?_
 ·clear h;refine aM 31 J (fun g10=> ?_) (fun g10=> ?_)
  ·have h:=aE g10 hb10;refine ae ?_;obtain ⟨y11,k,h⟩:=aa h;refine gU (oR (lu k)) (bx g10 J) ?_;exact gY
  have h:=aF g10 hb10;exact gY
 refine ae ?_;obtain ⟨b12,hb12,h⟩:=aa h;refine aQ 6 44 b12 ?_ ?_
 ·clear h;refine aM 38 J (fun g12=> ?_) (fun g12=> ?_)
  ·have h:=aE g12 hb12;refine ae ?_;obtain ⟨y13,k,h⟩:=aa h;refine gU (oR (lu k)) (bx g12 J) ?_;exact gY
  have h:=aF g12 hb12;exact gY
 exact eY
def uG (N:Nat)(a0:Qd)(a1:Qd):Option Bool:=
 (bif decide (a0.N=a1.N) then (some (decide (a0.E=a1.E))) else (some false)).bind fun b9=>(bif b9 then (some (a0.Ok==a1.Ok)) else (some false)).bind fun b10=>(bif b10 then (some (decide (a0.V=a1.V))) else (some false)).bind fun b11=>(bif b11 then ((rN N a0.C a1.C).bind fun y13=>some y13) else (some false)).bind fun b12=>(bif b12 then ((fh N a0.L a1.L).bind fun y15=>some y15) else (some false)).bind fun b14=>some b14
theorem FO {N:Nat}{a0:Qd}{a1:Qd}{r:Bool}(h:uG N a0 a1=some r):Okc QB 8 [.agg #[iV a0.N,iV a0.E,.bool a0.Ok,iV a0.C.Kind,iV a0.C.Shape,iV a0.C.Flags,iV a0.C.Age,W A1 n1 c1,W A2 n2 c2,iV a0.V.Kind,iV a0.V.N,.string a0.V.S,W A3 n3 c3],.agg #[iV a1.N,iV a1.E,.bool a1.Ok,iV a1.C.Kind,iV a1.C.Shape,iV a1.C.Flags,iV a1.C.Age,W A4 n4 c4,W A5 n5 c5,iV a1.V.Kind,iV a1.V.N,.string a1.V.S,W A6 n6 c6]] ([az A1 n1 c1 a0.C.Slots,az A2 n2 c2 a0.C.More,az A3 n3 c3 a0.L,az A4 n4 c4 a1.C.Slots,az A5 n5 c5 a1.C.More,az A6 n6 c6 a1.L]) (fun u post=>u=.bool r/\post=[]):=by
 refine cQ Tryz.func8 ?_;intro B7
 refine gg fun B8=> ?_
 refine gS 6 16 10 h ?_;intro b9 h;refine ae ?_;obtain ⟨b10,hb10,h⟩:=aa h;refine aQ 6 23 b10 ?_ ?_
 ·clear h;refine aM 17 J (fun g10=> ?_) (fun g10=> ?_)
  ·have h:=aE g10 hb10;refine ae ?_;refine su (Kx J J P6) J (bx g10 J) J ?_;exact gY
  have h:=aF g10 hb10;exact gY
 refine ae ?_;obtain ⟨b11,hb11,h⟩:=aa h;refine aQ 6 30 b11 ?_ ?_
 ·clear h;refine aM 24 J (fun g11=> ?_) (fun g11=> ?_)
  ·have h:=aE g11 hb11;refine ae ?_;refine su (Kw (x:=a0.V) (y:=a1.V) J J) J (bx g11 J) J ?_;exact gY
  have h:=aF g11 hb11;exact gY
 refine ae ?_;obtain ⟨b12,hb12,h⟩:=aa h;refine aQ 6 37 b12 ?_ ?_
 ·clear h;refine aM 31 J (fun g12=> ?_) (fun g12=> ?_)
  ·have h:=aE g12 hb12;refine ae ?_;obtain ⟨y13,k,h⟩:=aa h;refine gU (oR (Bh k)) (bx g12 J) ?_;exact gY
  have h:=aF g12 hb12;exact gY
 refine ae ?_;obtain ⟨b14,hb14,h⟩:=aa h;refine aQ 6 44 b14 ?_ ?_
 ·clear h;refine aM 38 J (fun g14=> ?_) (fun g14=> ?_)
  ·have h:=aE g14 hb14;refine ae ?_;obtain ⟨y15,k,h⟩:=aa h;refine gU (oR (lu k)) (bx g14 J) ?_;exact gY
  have h:=aF g14 hb14;exact gY
 exact eY
theorem Dx {r:Bool}: ∀v post,((fun (u:Value) (post:List Chunk)=>u=.bool r/\post=[])) v post-> ∀c∈post,fu c:=by
 rintro _ _ ⟨rfl,rfl⟩;exact ax
def uu (N:Nat)(a0:Qy)(p3:Qy):Option Qy:=
 some p3
def ij (N:Nat)(a0:Qy):Nat->Qy->Int->Option Qy
 |0,_,_=>none
 |m4+1,p5,p6=>bif decide (p6<(a0.length:Int)) then ((aw a0 p6).bind fun x9=>(dU N x9).bind fun y13=>aZ (bi (p5.length+([y13]:List Ql).length)) (aZ (in64 (p6+1)) ((ij N a0 m4) (p5++([y13]:List Ql)) (p6+1)))) else (uu N a0 p5)
def kP (N:Nat)(a0:Qy):Option Qy:=
 ij N a0 N [] 0
theorem ut {N:Nat}{a0:Qy}{r:Qy}(h:kP N a0=some r):Okc QB 37 [W A1 n1 c1] ([bY A1 n1 c1 a0]) (fun u post=> ∃A500 n500 c500,u=W A500 n500 c500/\post=[bY A500 n500 c500 r,bY A1 n1 c1 a0]):=by
 refine cQ Tryz.func37 ?_;refine am (fun s L=> ∃p3 A3 n3 c3,uu N a0 p3=some r/\s=[(2,W none 0 0),(3,W A3 n3 c3)]/\L=[bY A3 n3 c3 p3,bY A1 n1 c1 a0]) ?_ ?_
 ·refine ae ?_;refine aH (fun m s L=> ∃p5 p6 A5 n5 c5,ij N a0 m p5 p6=some r/\s=[(2,W none 0 0),(3,W A5 n5 c5),(6,W A1 n1 c1),(7,iV (a0.length:Int)),(8,iV p6)]/\L=[bY A5 n5 c5 p5,bY A1 n1 c1 a0]) N _ _ ⟨[],0,none,0,0,h,J,J⟩ sA ((aD bT 35 _).trans (cS [0,1] 2)) ?_;rintro (_|m4) _ _ ⟨p5,p6,A5,n5,c5,h,rfl,rfl⟩
  ·exact aj h
  rw [ij.eq_2] at h;refine ae ?_;refine ay ?_;refine gH J h ?_ ?_<;>intro h
  ·refine sY ?_;obtain ⟨x9,lx9,ux9,hx9,h⟩:=aU h;refine ae ?_;refine gD (rP 1 J ap J hx9 agg35.out J (bR x9)) ?_;rintro u _ ⟨_,_,⟨A10,n10,c10,A11,n11,c11,rfl,rfl⟩,hu,rfl⟩;obtain rfl:u=.agg #[iV x9.Kind,iV x9.Shape,iV x9.Flags,iV x9.Age,W A10 n10 c10,W A11 n11 c11]:=hu
   refine gg fun B12=> ?_
   obtain ⟨y13,k,h⟩:=aa h;refine gD (oR (gG k)) ?_;rintro _ _ ⟨_,⟨A14,n14,c14,A15,n15,c15,rfl,rfl⟩,rfl⟩;refine lp (aY 0 J) ?_;refine lp (aY 1 J) ?_;refine ae ?_;refine gD (aG (R:=bT) (vss:=[[iV y13.Kind,iV y13.Shape,iV y13.Flags,iV y13.Age,W A14 n14 c14,W A15 n15 c15]]) (xs:=[y13]) J (mf _ _ _ _ _ _ _ _ _ _) J J (fun _ _ hr=> .cons (⟨_,_,_,_,_,_,J,hr 0 _ J J,hr 1 _ J J⟩) All2.nil)) ?_;rintro _ _ ⟨A16,n16,c16,rfl,rfl⟩;obtain ⟨q17,h⟩:=ad h
   refine iE (ar 6 0 J J ap J J t9 tt J J q17) fun A18 n18 c18=> ?_
   obtain ⟨q19,h⟩:=ad h;exact lY
  exact jY
 rintro _ _ ⟨p3,A3,n3,c3,h,rfl,rfl⟩;exact eY
def ku (N:Nat)(a0:Qe):Option (Qg×Qe):=
 (aI N a0).bind fun y9=>bif y9 then (some ((⟨[],[]⟩:Qg),a0)) else ((kP N a0.m_.Young).bind fun y13=>(kP N a0.m_.Old).bind fun y15=>some ((⟨y13,y15⟩:Qg),a0))
theorem xT {N:Nat}{a0:Qe}{r:Qg×Qe}(h:ku N a0=some r):Okc QB 10 [pV B1 0] ([ah B1 56 [W A2 n2 c2,W A3 n3 c3,W A4 n4 c4,W A5 n5 c5,pV B6 0],bY A2 n2 c2 a0.m_.Young,bY A3 n3 c3 a0.m_.Old,bh A4 n4 c4 a0.roots_,bh A5 n5 c5 a0.pending_,ah B6 87 [.map (some M7)],bj cx dW M7 a0.set_.at_]) (fun u post=> ∃A0 n0 c0 A1 n1 c1 A2 n2 c2 A3 n3 c3 A4 n4 c4 A5 n5 c5 M6,u=.agg #[W A0 n0 c0,W A1 n1 c1]/\post=[bY A0 n0 c0 r.1.Young,bY A1 n1 c1 r.1.Old,ah B1 56 [W A2 n2 c2,W A3 n3 c3,W A4 n4 c4,W A5 n5 c5,pV B6 0],bY A2 n2 c2 r.2.m_.Young,bY A3 n3 c3 r.2.m_.Old,bh A4 n4 c4 r.2.roots_,bh A5 n5 c5 r.2.pending_,ah B6 87 [.map (some M6)],bj cx dW M6 r.2.set_.at_]):=by
 refine cQ Tryz.func10 ?_;intro B8;refine sY ?_;obtain ⟨y9,k,h⟩:=aa h;refine kw (oR (bL k)) ?_;refine gH J h ?_ ?_<;>intro h
 ·refine ae ?_;obtain rfl:=bw h;exact dt (rs:=[.cell 2 29]) (vs:=[.agg #[W none 0 0,W none 0 0]]) J (.cons (bd 0 J J agg29.out) .nil) J ((aD bT 35 _).trans ((aD bT 35 _).trans (cS [1,0,3,4,5,6,7,8,9] 10))) ⟨_,_,_,_,_,_,_,_,_,_,_,_,_,_,_,_,_,_,_,J,J⟩
 refine ae ?_;refine ay ?_;refine bm I _ (ab _) ?_;refine zE 0 J (ai J) ?_;refine zE 1 J (aX J) ?_;refine zE 2 J (cG J nw) ?_;refine zE 3 J (cG J ny) ?_;refine zR 4 J (aL 1 J J ni J) ?_;refine zE 6 J (ai J) ?_;refine zE 7 J (aX J) ?_;refine zE 8 J (cG J nw) ?_;refine zE 9 J (bB J lC) ?_;refine zR 10 J (aL 1 J J ni J) ?_;obtain ⟨y13,k,h⟩:=aa h;refine zD 5 J (oC (ut k)) ?_;rintro _ _ ⟨_,⟨A14,n14,c14,rfl,rfl⟩,rfl⟩;refine bq (cS [2,3,1,4,5,6,7,8] 9) ?_;obtain ⟨y15,k,h⟩:=aa h;refine zD 11 J (oC (ut k)) ?_;rintro _ _ ⟨_,⟨A16,n16,c16,rfl,rfl⟩,rfl⟩;refine bq (cS [4,5,3,1,6,7,8,9] 10) ?_;refine zE 12 J (dw J (bld_29_0_1 _ _ _ _ _ _).out) ?_;refine lE 13 J I I (aq (us:=[W A14 n14 c14,W A16 n16 c16]) (cs':=[W A14 n14 c14,W A16 n16 c16]) 4 J J J J size29.out J J J) ?_;rintro _ _ rfl;refine bv I ?_;exact eY
def zr (N:Nat):Option Bool:=
 some true
def uS (N:Nat)(a0:Qy)(a1:Qy):Nat->Int->Option Bool
 |0,_=>none
 |m5+1,p6=>bif decide (p6<(a0.length:Int)) then ((aw a0 p6).bind fun x8=>(aw a1 p6).bind fun x12=>(rN N x8 x12).bind fun y16=>bif !y16 then (some false) else (aZ (in64 (p6+1)) ((uS N a0 a1 m5) (p6+1)))) else (zr N)
def qd (N:Nat)(a0:Qy)(a1:Qy):Option Bool:=
 bif !decide ((a0.length:Int)=(a1.length:Int)) then (some false) else (uS N a0 a1 N 0)
theorem zq {N:Nat}{a0:Qy}{a1:Qy}{r:Bool}(h:qd N a0 a1=some r):Okc QB 11 [W A1 n1 c1,W A2 n2 c2] ([aK A1 n1 c1 a0,aK A2 n2 c2 a1]) (fun u post=>u=.bool r/\post=[]):=by
 refine cQ Tryz.func11 ?_;refine sZ ?_;refine gH J h ?_ ?_<;>intro h
 ·exact eY
 refine ae ?_;refine am (fun s L=>zr N=some r/\s=[(4,.bool false)]/\L=[]) ?_ ?_
 ·refine ae ?_;refine aH (fun m s L=> ∃p6,uS N a0 a1 m p6=some r/\s=[(0,W A1 n1 c1),(1,W A2 n2 c2),(4,.bool false),(5,iV p6)]/\L=[aK A1 n1 c1 a0,aK A2 n2 c2 a1]) N _ _ ⟨0,h,J,J⟩ sA (cS [0,1] 2) ?_;rintro (_|m5) _ _ ⟨p6,h,rfl,rfl⟩
  ·exact aj h
  rw [uS.eq_2] at h;refine sZ ?_;refine gH J h ?_ ?_<;>intro h
  ·refine sY ?_;refine ay ?_;refine bm I _ (ab _) ?_;refine zE 0 J (ai J) ?_;refine zE 1 J (ai J) ?_;obtain ⟨x8,lx8,ux8,hx8,h⟩:=aU h;refine zR 2 J (bf 0 J ao J J t9 size35.out lx8 ux8) ?_;refine Hv 0 J hx8 (bR x8) ?_;rintro _ _ ⟨A9,n9,c9,A10,n10,c10,rfl,rfl⟩;refine zR 3 J (eo (us:=[iV x8.Kind,iV x8.Shape,iV x8.Flags,iV x8.Age,W A9 n9 c9,W A10 n10 c10]) 0 J J agg35.out J) ?_;refine zE 4 J (ai J) ?_;refine zE 5 J (ai J) ?_;obtain ⟨x12,lx12,ux12,hx12,h⟩:=aU h;refine zR 6 J (bf 4 J ao J J t9 size35.out lx12 ux12) ?_;refine Hv 4 J hx12 (bR x12) ?_;rintro _ _ ⟨A13,n13,c13,A14,n14,c14,rfl,rfl⟩;refine zR 7 J (eo (us:=[iV x12.Kind,iV x12.Shape,iV x12.Flags,iV x12.Age,W A13 n13 c13,W A14 n14 c14]) 0 J J agg35.out J) ?_;obtain ⟨y16,k,h⟩:=aa h;refine zD 8 J (oR (Bh k)) ?_;rintro _ _ ⟨_,⟨rfl,rfl⟩,rfl⟩;refine ⟨_,ab _,ab _,?_⟩;refine zE 9 J (pp J) ?_;refine bv I ?_;refine ew h ?_ ?_<;>intro h
   ·exact eY
   refine ae ?_;obtain ⟨q18,h⟩:=ad h;exact lY
  exact jY
 rintro _ _ ⟨h,rfl,rfl⟩;exact eY
theorem ww {r:Bool}: ∀v post,((fun (u:Value) (post:List Chunk)=>u=.bool r/\post=[])) v post-> ∀c∈post,fu c:=by
 rintro _ _ ⟨rfl,rfl⟩;exact ax
def lz (N:Nat)(a0:Qe):Option Qr:=
 (aI N a0).bind fun y8=>bif y8 then (some []) else ((cT N a0.roots_).bind fun y11=>some y11)
theorem yK {N:Nat}{a0:Qe}{r:Qr}(h:lz N a0=some r):Okc QB 13 [pV B1 0] ([bu B1 56 [W A2 n2 c2,W A3 n3 c3,W A4 n4 c4,W A5 n5 c5,pV B6 0],aK A2 n2 c2 a0.m_.Young,aK A3 n3 c3 a0.m_.Old,az A4 n4 c4 a0.roots_,az A5 n5 c5 a0.pending_,bu B6 87 [.map (some M7)],nB cx dW M7 a0.set_.at_]) (fun u post=> ∃A0 n0 c0,u=W A0 n0 c0/\post=[bh A0 n0 c0 r]):=by
 refine cQ Tryz.func13 ?_;refine sZ ?_;obtain ⟨y8,k,h⟩:=aa h;refine kw (oR (bL k)) ?_;refine gH J h ?_ ?_<;>intro h
 ·refine ae ?_;obtain rfl:=bw h;exact js J J ((aD ak 37 _).trans (cS [0] 8)) ⟨_,_,_,J,J⟩
 refine ae ?_;obtain ⟨y11,k,h⟩:=aa h
 refine iE (oR (eU k)) fun A12 n12 c12=> ?_
 exact eN
theorem wX {r:Qr}: ∀v post,((fun (u:Value) (post:List Chunk)=> ∃A0 n0 c0,u=W A0 n0 c0/\post=[bh A0 n0 c0 r])) v post-> ∀c∈post,fu c:=by
 rintro _ _ ⟨_,_,_,rfl,rfl⟩;exact hU gr (ax)
def yd (N:Nat):Option Int:=
 some 0
def tx (N:Nat)(kb29:Int->Option Int)(p30:Int)(a0:Qk):Option Int:=
 aZ (in64 (p30+1)) (kb29 (p30+1))
def jh (N:Nat)(kb29:Int->Option Int)(p30:Int)(a0:Qk)(y40:Qq)(y52:Qq):Nat->Int->Option Int
 |0,_=>none
 |m56+1,p57=>bif decide (p57<(((([]:List Int)++y40)++y52).length:Int)) then ((aw ((([]:List Int)++y40)++y52) p57).bind fun x59=>(jF N a0.M x59).bind fun y60=>bif !y60 then (some 50) else (aZ (in64 (p57+1)) ((jh N kb29 p30 a0 y40 y52 m56) (p57+1)))) else (tx N kb29 p30 a0)
def gN (N:Nat)(a0:Qk):Nat->Int->Option Int
 |0,_=>none
 |m29+1,p30=>bif decide (p30<(((([]:List Ql)++a0.M.Young)++a0.M.Old).length:Int)) then ((aw ((([]:List Ql)++a0.M.Young)++a0.M.Old) p30).bind fun x35=>(dN N x35).bind fun y40=>aZ (bi (([]:List Int).length+y40.length)) ((aw ((([]:List Ql)++a0.M.Young)++a0.M.Old) p30).bind fun x47=>(gx N x47).bind fun y52=>aZ (bi ((([]:List Int)++y40).length+y52.length)) (jh N (gN N a0 m29) p30 a0 y40 y52 N 0))) else (yd N)
def mX (N:Nat)(a0:Qk):Option Int:=
 aZ (bi (([]:List Ql).length+a0.M.Young.length)) (aZ (bi ((([]:List Ql)++a0.M.Young).length+a0.M.Old.length)) (gN N a0 N 0))
def kW (N:Nat)(a0:Qk):Nat->Int->Option Int
 |0,_=>none
 |m12+1,p13=>bif decide (p13<(((([]:List Qn)++a0.Roots)++a0.Pending).length:Int)) then ((aw ((([]:List Qn)++a0.Roots)++a0.Pending) p13).bind fun x15=>(bif decide (x15.Kind=7) then (some true) else ((aw ((([]:List Qn)++a0.Roots)++a0.Pending) p13).bind fun x17=>some (decide (x17.Kind=9)))).bind fun b16=>(bif b16 then ((aw ((([]:List Qn)++a0.Roots)++a0.Pending) p13).bind fun x19=>(jF N a0.M x19.N).bind fun y20=>some (!y20)) else (some false)).bind fun b18=>bif b18 then (some 50) else (aZ (in64 (p13+1)) ((kW N a0 m12) (p13+1)))) else (mX N a0)
def sL (N:Nat)(a0:Qk):Option Int:=
 aZ (bi (([]:List Qn).length+a0.Roots.length)) (aZ (bi ((([]:List Qn)++a0.Roots).length+a0.Pending.length)) (kW N a0 N 0))
theorem E2 {N:Nat}{a0:Qk}{r:Int}(h:sL N a0=some r):Okc QB 16 [.agg #[W A1 n1 c1,W A2 n2 c2,W A3 n3 c3,W A4 n4 c4]] ([aK A1 n1 c1 a0.M.Young,aK A2 n2 c2 a0.M.Old,az A3 n3 c3 a0.Roots,az A4 n4 c4 a0.Pending]) (fun u post=>u=iV r/\post=[]):=by
 refine cQ Tryz.func16 ?_;intro B5;refine ae ?_;refine ay ?_;refine bm I _ (ab _) ?_;refine zE 1 J (bB J te) ?_;refine zR 2 J (aL 0 J J dr J) ?_;refine zE 4 J (bB J FA) ?_;refine zR 5 J (aL 0 J J dr J) ?_;refine zD 0 J (aG (R:=ak) (vss:=[]) (xs:=[]) J (kT) J J (fun _ _ hr=>All2.nil)) ?_;rintro _ _ ⟨A6,n6,c6,rfl,rfl⟩;refine bq (cS [1,2,3,4,5] 6) ?_;obtain ⟨q7,h⟩:=ad h;refine zD 3 J (ar 0 4 J J ao J J z9 lF J J q7) ?_;rintro _ _ ⟨A8,n8,c8,rfl,rfl⟩;refine bq (cS [1,2,3,4,5] 6) ?_;obtain ⟨q9,h⟩:=ad h;refine zD 6 J (ar 0 5 J J ao J J z9 lF J J q9) ?_;rintro _ _ ⟨A10,n10,c10,rfl,rfl⟩;refine bq (cS [1,2,3,4,5] 6) ?_;refine zE 7 J (av J) ?_;refine bv I ?_;refine ae ?_;refine am (fun s L=>mX N a0=some r/\s=[(1,pV B5 0),(2,iV 0)]/\L=[aK A1 n1 c1 a0.M.Young,aK A2 n2 c2 a0.M.Old,az A3 n3 c3 a0.Roots,az A4 n4 c4 a0.Pending,ah B5 32 [W A1 n1 c1,W A2 n2 c2,W A3 n3 c3,W A4 n4 c4]]) ?_ ?_
 ·refine ae ?_;refine aH (fun m s L=> ∃p13,kW N a0 m p13=some r/\s=[(1,pV B5 0),(2,iV 0),(3,W A10 n10 c10),(4,iV p13)]/\L=[bh A10 n10 c10 ((([]:List Qn)++a0.Roots)++a0.Pending),aK A1 n1 c1 a0.M.Young,aK A2 n2 c2 a0.M.Old,az A3 n3 c3 a0.Roots,az A4 n4 c4 a0.Pending,ah B5 32 [W A1 n1 c1,W A2 n2 c2,W A3 n3 c3,W A4 n4 c4]]) N _ _ ⟨0,h,J,J⟩ sA (cS [0,2,3,4,5,1] 6) ?_;rintro (_|m12) _ _ ⟨p13,h,rfl,rfl⟩
  ·exact aj h
  rw [kW.eq_2] at h;refine sZ ?_;refine gH J h ?_ ?_<;>intro h
  ·refine sY ?_;refine ay ?_;refine bm I _ (ab _) ?_;refine zE 0 J (ai J) ?_;refine zE 1 J (ai J) ?_;obtain ⟨x15,lx15,ux15,hx15,h⟩:=aU h;refine zR 2 J (bf 0 J ap J J z9 size37.out lx15 ux15) ?_;refine zR 3 J (mO 0 J ap J (bc lx15 ux15) fE) ?_;refine zR 4 J (bF (u:=iV x15.Kind) 0 J ap J hx15 ex (fun _ _ _ h=>by rw [show _=_ from h];rfl)) ?_;refine zE 5 J (Ac J J) ?_;refine zE 6 J (ai J) ?_;obtain ⟨b16,hb16,h⟩:=aa h;refine eM (fun l=>(((((((l.setIfInBounds 7 true).setIfInBounds 8 true).setIfInBounds 9 true).setIfInBounds 10 true).setIfInBounds 11 true).setIfInBounds 12 true).setIfInBounds 13 true)) 11 35 b16 (fun rest=> ?_) ?_
   ·clear h;refine gI 28 J (fun g16=> ?_) (fun g16=> ?_)
    ·have h:=aE g16 hb16;refine bo 7 J I (jb g16 J) J ?_;refine bo 8 J I (jb g16 J) J ?_;refine bo 9 J I (jb g16 J) J ?_;refine bo 10 J I (jb g16 J) J ?_;refine bo 11 J I (jb g16 J) J ?_;refine bo 12 J I (jb g16 J) J ?_;refine zE 13 J (cI g16 J J) ?_;obtain rfl:=bw h;exact di rest (bM J (ag (ag (ag (ag (ag (ag (ag aW J) J) J) J) J) J) J)) (ab _) (ab _)
    have h:=aF g16 hb16;refine cP 7 J I (ai J) (dh g16 J) J ?_;refine cP 8 J I (ai J) (dh g16 J) J ?_;obtain ⟨x17,lx17,ux17,hx17,h⟩:=aU h;refine fb 9 J I (bf 0 J ap J J z9 size37.out lx17 ux17) (dh g16 J) J ?_;refine fb 10 J I (mO 0 J ap J (bc lx17 ux17) fE) (dh g16 J) J ?_;refine fb 11 J I (bF (u:=iV x17.Kind) 0 J ap J hx17 ex (fun _ _ _ h=>by rw [show _=_ from h];rfl)) (dh g16 J) J ?_;refine cP 12 J I (Ac J J) (dh g16 J) J ?_;refine zE 13 J (cJ g16 J J) ?_;obtain rfl:=bw h;exact di rest (bM J (ag (ag (ag (ag (ag (ag (ag aW J) J) J) J) J) J) J)) (ab _) (ab _)
   refine zE 14 J (ai J) ?_;obtain ⟨b18,hb18,h⟩:=aa h;refine eM (fun l=>((((((((((l.setIfInBounds 15 true).setIfInBounds 16 true).setIfInBounds 17 true).setIfInBounds 18 true).setIfInBounds 19 true).setIfInBounds 20 true).setIfInBounds 21 true).setIfInBounds 22 true).setIfInBounds 23 true).setIfInBounds 24 true)) 0 46 b18 (fun rest=> ?_) ?_
   ·clear h;refine gI 36 J (fun g18=> ?_) (fun g18=> ?_)
    ·have h:=aE g18 hb18;refine cP 15 J I (cG J oQ) (bx g18 J) J ?_;refine fb 16 J I (aR (us:=[W A1 n1 c1,W A2 n2 c2]) 5 J J agg29.out J) (bx g18 J) J ?_;refine cP 17 J I (ai J) (bx g18 J) J ?_;refine cP 18 J I (ai J) (bx g18 J) J ?_;obtain ⟨x19,lx19,ux19,hx19,h⟩:=aU h;refine fb 19 J I (bf 0 J ap J J z9 size37.out lx19 ux19) (bx g18 J) J ?_;refine fb 20 J I (mJ 0 J ap J (bc lx19 ux19) kx) (bx g18 J) J ?_;refine fb 21 J I (bF (u:=iV x19.N) 0 J ap J hx19 ex (fun _ _ _ h=>by rw [show _=_ from h];rfl)) (bx g18 J) J ?_;obtain ⟨y20,k,h⟩:=aa h;refine mg 22 J I (oR (nG k)) J (bx g18 J) J ?_;rintro _ _ ⟨_,⟨rfl,rfl⟩,rfl⟩;refine ⟨_,ab _,ab _,?_⟩;refine cP 23 J I (pp J) (bx g18 J) J ?_;refine zE 24 J (cI g18 J J) ?_;obtain rfl:=bw h;exact di rest (bM J (ag (ag (ag (ag (ag (ag (ag (ag (ag (ag aW J) J) J) J) J) J) J) J) J) J)) (ab _) (ab _)
    have h:=aF g18 hb18;refine bo 15 J I (eb g18 J) J ?_;refine bo 16 J I (eb g18 J) J ?_;refine bo 17 J I (eb g18 J) J ?_;refine bo 18 J I (eb g18 J) J ?_;refine bo 19 J I (eb g18 J) J ?_;refine bo 20 J I (eb g18 J) J ?_;refine bo 21 J I (eb g18 J) J ?_;refine bo 22 J I (eb g18 J) J ?_;refine bo 23 J I (eb g18 J) J ?_;refine zE 24 J (cJ g18 J J) ?_;obtain rfl:=bw h;exact di rest (bM J (ag (ag (ag (ag (ag (ag (ag (ag (ag (ag aW J) J) J) J) J) J) J) J) J) J)) (ab _) (ab _)
   refine bv I ?_;refine ew h ?_ ?_<;>intro h
   ·exact eY
   refine ae ?_;obtain ⟨q22,h⟩:=ad h;exact lY
  exact jY
 rintro _ _ ⟨h,rfl,rfl⟩;refine ay ?_;refine bm I _ (ab _) ?_;refine zE 1 J (cG J oQ) ?_;refine zE 2 J (cG J ny) ?_;refine zR 3 J (aL 4 J J ni J) ?_;refine zE 5 J (cG J oQ) ?_;refine zE 6 J (bB J lC) ?_;refine zR 7 J (aL 4 J J ni J) ?_;refine zD 0 J (aG (R:=bT) (vss:=[]) (xs:=[]) J (xh) J J (fun _ _ hr=>All2.nil)) ?_;rintro _ _ ⟨A23,n23,c23,rfl,rfl⟩;refine bq (cS [1,2,3,4,5] 6) ?_;obtain ⟨q24,h⟩:=ad h;refine zD 4 J (ar 0 1 J J ao J J t9 tt J J q24) ?_;rintro _ _ ⟨A25,n25,c25,rfl,rfl⟩;refine bq (cS [1,2,3,4,5] 6) ?_;obtain ⟨q26,h⟩:=ad h;refine zD 8 J (ar 0 2 J J ao J J t9 tt J J q26) ?_;rintro _ _ ⟨A27,n27,c27,rfl,rfl⟩;refine bq (cS [1,2,3,4,5] 6) ?_;refine zE 9 J (av J) ?_;refine bv I ?_;refine ae ?_;refine am (fun s L=>yd N=some r/\s=[(2,iV 0)]/\L=[]) ?_ ?_
 ·refine ae ?_;refine aH (fun m s L=> ∃p30,gN N a0 m p30=some r/\s=[(1,pV B5 0),(2,iV 0),(5,W A27 n27 c27),(6,iV p30)]/\L=[bY A27 n27 c27 ((([]:List Ql)++a0.M.Young)++a0.M.Old),aK A1 n1 c1 a0.M.Young,aK A2 n2 c2 a0.M.Old,az A3 n3 c3 a0.Roots,az A4 n4 c4 a0.Pending,ah B5 32 [W A1 n1 c1,W A2 n2 c2,W A3 n3 c3,W A4 n4 c4]]) N _ _ ⟨0,h,J,J⟩ sA (cS [0,1,2,3,4,5] 6) ?_;rintro (_|m29) _ _ ⟨p30,h,rfl,rfl⟩
  ·exact aj h
  rw [gN.eq_2] at h;refine sZ ?_;refine gH J h ?_ ?_<;>intro h
  ·refine ae ?_;refine am (fun s L=>tx N (gN N a0 m29) p30 a0=some r/\s=[(1,pV B5 0),(2,iV 0),(5,W A27 n27 c27),(6,iV p30)]/\L=[bY A27 n27 c27 ((([]:List Ql)++a0.M.Young)++a0.M.Old),aK A1 n1 c1 a0.M.Young,aK A2 n2 c2 a0.M.Old,az A3 n3 c3 a0.Roots,az A4 n4 c4 a0.Pending,ah B5 32 [W A1 n1 c1,W A2 n2 c2,W A3 n3 c3,W A4 n4 c4]]) ?_ ?_
   ·refine ae ?_;refine ay ?_;obtain ⟨x35,lx35,ux35,hx35,h⟩:=aU h;obtain ⟨y40,hy40,h⟩:=aa h;obtain ⟨q44,h⟩:=ad h;obtain ⟨x47,lx47,ux47,hx47,h⟩:=aU h;refine dB (t:=[(1,pV B5 0),(2,iV 0),(5,W A27 n27 c27),(6,iV p30)]) ?_ fv (ab _)
    refine dF I 11 [] [6,10] [62,63,64,65,66,67,68,69,70,71,72] [[],[],[],[1,2],[3],[4],[0,5],[],[],[7,8],[9]] [aX1 (fun (A34:Option Addr)=> .slice A34 0 0) (fun A34=> []),
aV (W A27 n27 c27),
aV (iV p30),
aV (dj (W A27 n27 c27) p30.toNat 6 0),
aX6 (fun (A38:Option Addr) (n38 c38:Nat) (A39:Option Addr) (n39 c39:Nat)=> .agg #[iV x35.Kind,iV x35.Shape,iV x35.Flags,iV x35.Age,W A38 n38 c38,W A39 n39 c39]) (fun A38 n38 c38 A39 n39 c39=> [az A38 n38 c38 x35.Slots,az A39 n39 c39 x35.More]),
aX3 (fun (A42:Option Addr) (n42 c42:Nat)=> W A42 n42 c42) (fun A42 n42 c42=> [bS A42 n42 c42 y40]),
aX3 (fun (A46:Option Addr) (n46 c46:Nat)=> W A46 n46 c46) (fun A46 n46 c46=> [bS A46 n46 c46 (([]:List Int)++y40)]),
aV (W A27 n27 c27),
aV (iV p30),
aV (dj (W A27 n27 c27) p30.toNat 6 0),
aX6 (fun (A50:Option Addr) (n50 c50:Nat) (A51:Option Addr) (n51 c51:Nat)=> .agg #[iV x47.Kind,iV x47.Shape,iV x47.Flags,iV x47.Age,W A50 n50 c50,W A51 n51 c51]) (fun A50 n50 c50 A51 n51 c51=> [az A50 n50 c50 x47.Slots,az A51 n51 c51 x47.More])] [] (ab _) (fj) I rfl rfl ?_ ?_ ?_
    ·exact fi
    ·refine ac J ?_ ?_
     ·refine gj (rP 0 J ap J hx47 agg35.out J (bR x47)) J ?_;rintro u _ ⟨_,_,⟨A48,n48,c48,A49,n49,c49,rfl,rfl⟩,hu,rfl⟩;obtain rfl:u=.agg #[iV x47.Kind,iV x47.Shape,iV x47.Flags,iV x47.Age,W A48 n48 c48,W A49 n49 c49]:=hu;exact BN A48 n48 c48 A49 n49 c49 (ab _)
     refine ac J ?_ ?_
     ·exact cB (bf 0 J ap J J t9 size35.out lx47 ux47) J (aP J (ab _))
     refine ac J ?_ ?_
     ·exact bN (ai J) J (aP J (ab _))
     refine ac J ?_ ?_
     ·exact bN (ai J) J (aP J (ab _))
     refine ac J ?_ ?_
     ·intro A34 A42 n42 c42;refine LY (BV (da .i64) 3 A34 _) ?_;refine gj (ar 0 1 J J ap J J Ex uE J J q44) J ?_;rintro _ _ ⟨A45,n45,c45,rfl,rfl⟩;exact pv A45 n45 c45 (ab _)
     refine ac J ?_ ?_
     ·intro A38 n38 c38 A39 n39 c39;refine gj (oR (gy hy40)) J ?_;rintro _ _ ⟨_,⟨A41,n41,c41,rfl,rfl⟩,rfl⟩;exact pv A41 n41 c41 (ab _)
     refine ac J ?_ ?_
     ·refine gj (rP 0 J ap J hx35 agg35.out J (bR x35)) J ?_;rintro u _ ⟨_,_,⟨A36,n36,c36,A37,n37,c37,rfl,rfl⟩,hu,rfl⟩;obtain rfl:u=.agg #[iV x35.Kind,iV x35.Shape,iV x35.Flags,iV x35.Age,W A36 n36 c36,W A37 n37 c37]:=hu;exact BN A36 n36 c36 A37 n37 c37 (ab _)
     refine ac J ?_ ?_
     ·exact cB (bf 0 J ap J J t9 size35.out lx35 ux35) J (aP J (ab _))
     refine ac J ?_ ?_
     ·exact bN (ai J) J (aP J (ab _))
     refine ac J ?_ ?_
     ·exact bN (ai J) J (aP J (ab _))
     refine ac J ?_ ?_
     ·refine gj (vb J (uz)) J ?_;rintro _ _ ⟨A33,rfl,rfl⟩;exact FC A33 (ab _)
     exact cp
    intro A46 n46 c46 A50 n50 c50 A51 n51 c51;refine gu (t:=[(68,W A46 n46 c46),(72,.agg #[iV x47.Kind,iV x47.Shape,iV x47.Flags,iV x47.Age,W A50 n50 c50,W A51 n51 c51]),(1,pV B5 0),(2,iV 0),(5,W A27 n27 c27),(6,iV p30)]) (L':=[bS A46 n46 c46 (([]:List Int)++y40),az A50 n50 c50 x47.Slots,az A51 n51 c51 x47.More,bY A27 n27 c27 ((([]:List Ql)++a0.M.Young)++a0.M.Old),aK A1 n1 c1 a0.M.Young,aK A2 n2 c2 a0.M.Old,az A3 n3 c3 a0.Roots,az A4 n4 c4 a0.Pending,ah B5 32 [W A1 n1 c1,W A2 n2 c2,W A3 n3 c3,W A4 n4 c4]]) ?_ fv (ab _);obtain ⟨y52,k,h⟩:=aa h;refine jt 11 J I (oR (ne k)) J J J ?_;rintro _ _ ⟨_,⟨A53,n53,c53,rfl,rfl⟩,rfl⟩;obtain ⟨q54,h⟩:=ad h;refine jt 12 J I (ar 1 0 J J ap J J Ex uE J J q54) J J J ?_;rintro _ _ ⟨A55,n55,c55,rfl,rfl⟩;refine rc 13 J I (av J) J J J ?_;refine ft I ?_;refine ae ?_;refine aH (fun m s L=> ∃p57,jh N (gN N a0 m29) p30 a0 y40 y52 m p57=some r/\s=[(1,pV B5 0),(2,iV 0),(5,W A27 n27 c27),(6,iV p30),(7,W A55 n55 c55),(8,iV p57)]/\L=[bY A27 n27 c27 ((([]:List Ql)++a0.M.Young)++a0.M.Old),bS A55 n55 c55 ((([]:List Int)++y40)++y52),aK A1 n1 c1 a0.M.Young,aK A2 n2 c2 a0.M.Old,az A3 n3 c3 a0.Roots,az A4 n4 c4 a0.Pending,ah B5 32 [W A1 n1 c1,W A2 n2 c2,W A3 n3 c3,W A4 n4 c4]]) N _ _ ⟨0,h,J,J⟩ sA (cS [4,1,5,6,7,8,9] 10) ?_;rintro (_|m56) _ _ ⟨p57,h,rfl,rfl⟩
    ·exact aj h
    rw [jh.eq_2] at h;refine sZ ?_;refine gH J h ?_ ?_<;>intro h
    ·refine sY ?_;refine ay ?_;refine bm I _ (ab _) ?_;refine ae ?_;obtain ⟨x59,lx59,ux59,hx59,h⟩:=aU h;refine ae ?_;obtain ⟨y60,k,h⟩:=aa h;refine zD 6 J (oR (nG k)) ?_;rintro _ _ ⟨_,⟨rfl,rfl⟩,rfl⟩;refine ⟨_,ab _,ab _,?_⟩;refine ew h ?_ ?_<;>intro h
     ·exact eY
     refine ae ?_;obtain ⟨q62,h⟩:=ad h;exact lY
    exact jY
   rintro _ _ ⟨h,rfl,rfl⟩;refine ae ?_;obtain ⟨q63,h⟩:=ad h;exact lY
  exact jY
 rintro _ _ ⟨h,rfl,rfl⟩;exact eY
theorem Cw {r:Int}: ∀v post,((fun (u:Value) (post:List Chunk)=>u=iV r/\post=[])) v post-> ∀c∈post,fu c:=by
 rintro _ _ ⟨rfl,rfl⟩;exact ax
def lq (N:Nat)(p15:Qy)(p16:Qy)(p17:Qr)(p18:Qr)(p19:Qy)(p20:Qy)(p21:Qr)(p22:Qr)(p23:Qz):Option Bool:=
 (ku N (⟨(⟨p15,p16⟩:Qg),p17,p18,(⟨p23⟩:Qo)⟩:Qe)).bind fun y106=>(qd N y106.1.Young p19).bind fun y115=>(bif y115 then ((qd N y106.1.Old p20).bind fun y117=>some y117) else (some false)).bind fun b116=>(bif b116 then ((lz N y106.2).bind fun y119=>(fh N y119 p21).bind fun y121=>some y121) else (some false)).bind fun b118=>(bif b118 then (aZ (in64 ((y106.1.Young.length:Int)+(y106.1.Old.length:Int))) ((iM N y106.2).bind fun y124=>some (decide (y124=(y106.1.Young.length:Int)+(y106.1.Old.length:Int))))) else (some false)).bind fun b122=>(bif b122 then ((f0 N y106.2).bind fun y126=>(sL N (⟨(⟨p19,p20⟩:Qg),p21,p22⟩:Qk)).bind fun y127=>some (decide (y126=y127))) else (some false)).bind fun b125=>(bif b125 then ((sB N).bind fun y129=>some y129) else (some false)).bind fun b128=>some b128
def fY (N:Nat)(a0:List Qc):Nat->Int->Qy->Qy->Qr->Qr->Qy->Qy->Qr->Qr->Qz->Option Bool
 |0,_,_,_,_,_,_,_,_,_,_=>none
 |m24+1,p25,p26,p27,p28,p29,p30,p31,p32,p33,p34=>bif decide (p25<(a0.length:Int)) then ((aw a0 p25).bind fun x41=>(zi N (⟨(⟨p30,p31⟩:Qg),p32,p33⟩:Qk) x41).bind fun y47=>(aw a0 p25).bind fun x90=>(yW N (⟨(⟨p26,p27⟩:Qg),p28,p29,(⟨p34⟩:Qo)⟩:Qe) x90).bind fun y94=>(uG N y94.1 y47.2).bind fun y103=>bif !y103 then (some false) else (aZ (in64 (p25+1)) ((fY N a0 m24) (p25+1) y94.2.m_.Young y94.2.m_.Old y94.2.roots_ y94.2.pending_ y47.1.M.Young y47.1.M.Old y47.1.Roots y47.1.Pending y94.2.set_.at_))) else (lq N p26 p27 p28 p29 p30 p31 p32 p33 p34)
def nm (N:Nat)(a0:List Qc):Option Bool:=
 (vo N).bind fun y2=>(sx N a0).bind fun y10=>bif !y10 then ((sB N).bind fun y12=>some y12) else (fY N a0 N 0 y2.m_.Young y2.m_.Old y2.roots_ y2.pending_ [] [] [] [] y2.set_.at_)
theorem Aq {N:Nat}{a0:List Qc}{r:Bool}(h:nm N a0=some r):Okc QB 3 [W A1 n1 c1] ([o5 E1 (W A1 n1 c1) a0]) (fun u post=>u=.bool r/\post=[]):=by
 refine rQ Tryz.func3 J J ?_;simp only [jr];refine Y ?_;obtain ⟨y2,k,h⟩:=aa h;refine gD (gz (Bn k) call4.out J (ce [] [] [0] 1 J)) ?_;rintro _ _ ⟨_,⟨B3,A4,n4,c4,A5,n5,c5,A6,n6,c6,A7,n7,c7,B8,M9,rfl,rfl⟩,rfl⟩;refine Y ?_;refine ay ?_;refine Y ?_;refine gE (pq J P0) ?_;refine Y ?_;obtain ⟨y10,k,h⟩:=aa h;refine gV (ba (ER k) call5.out J (hU (aJ (i:=7) J J) ax) Cc) ?_;refine Y ?_;refine gH J h ?_ ?_<;>intro h
 ·refine Y ?_;refine gE (En J P0) ?_;refine Y ?_;obtain ⟨y12,k,h⟩:=aa h;refine gV (ba (yX k) call6.out J (ax) vW) ?_;refine Y ?_;obtain rfl:=bw h;exact js J J (cS [] 8) ⟨J,J⟩
 refine Y ?_
 refine gB (ci zero32.out J) fun B13=> ?_
 refine Y ?_;refine am (fun s L=> ∃p15 p16 p17 p18 p19 p20 p21 p22 p23 A15 n15 c15 A16 n16 c16 A17 n17 c17 A18 n18 c18 A19 n19 c19 A20 n20 c20 A21 n21 c21 A22 n22 c22 M23,lq N p15 p16 p17 p18 p19 p20 p21 p22 p23=some r/\s=[(2,.bool false),(3,pV B3 0),(4,pV B13 0)]/\L=[bY A15 n15 c15 p15,bY A16 n16 c16 p16,bh A17 n17 c17 p17,bh A18 n18 c18 p18,ah B3 56 [W A15 n15 c15,W A16 n16 c16,W A17 n17 c17,W A18 n18 c18,pV B8 0],aK A19 n19 c19 p19,aK A20 n20 c20 p20,az A21 n21 c21 p21,az A22 n22 c22 p22,ah B13 32 [W A19 n19 c19,W A20 n20 c20,W A21 n21 c21,W A22 n22 c22],bj cx dW M23 p23,ah B8 87 [.map (some M23)]]) ?_ ?_
 ·refine Y ?_;refine aH (fun m s L=> ∃p25 p26 p27 p28 p29 p30 p31 p32 p33 p34 A26 n26 c26 A27 n27 c27 A28 n28 c28 A29 n29 c29 A30 n30 c30 A31 n31 c31 A32 n32 c32 A33 n33 c33 M34,fY N a0 m p25 p26 p27 p28 p29 p30 p31 p32 p33 p34=some r/\s=[(0,W A1 n1 c1),(2,.bool false),(3,pV B3 0),(4,pV B13 0),(5,iV p25)]/\L=[o5 E1 (W A1 n1 c1) a0,bY A26 n26 c26 p26,bY A27 n27 c27 p27,bh A28 n28 c28 p28,bh A29 n29 c29 p29,ah B3 56 [W A26 n26 c26,W A27 n27 c27,W A28 n28 c28,W A29 n29 c29,pV B8 0],aK A30 n30 c30 p30,aK A31 n31 c31 p31,az A32 n32 c32 p32,az A33 n33 c33 p33,ah B13 32 [W A30 n30 c30,W A31 n31 c31,W A32 n32 c32,W A33 n33 c33],bj cx dW M34 p34,ah B8 87 [.map (some M34)]]) N _ _ ⟨0,y2.m_.Young,y2.m_.Old,y2.roots_,y2.pending_,[],[],[],[],y2.set_.at_,A4,n4,c4,A5,n5,c5,A6,n6,c6,A7,n7,c7,none,0,0,none,0,0,none,0,0,none,0,0,M9,h,J,J⟩ sA ((cq bT _).trans ((cq bT _).trans ((cq ak _).trans ((cq ak _).trans (cS [12,6,7,8,9,5,3,2,1,0,4,11,10] 13))))) ?_;rintro (_|m24) _ _ ⟨p25,p26,p27,p28,p29,p30,p31,p32,p33,p34,A26,n26,c26,A27,n27,c27,A28,n28,c28,A29,n29,c29,A30,n30,c30,A31,n31,c31,A32,n32,c32,A33,n33,c33,M34,h,rfl,rfl⟩
  ·exact aj h
  rw [fY.eq_2] at h;refine ay ?_;refine Y ?_;refine gR (cC 0 J ao J t5) ?_;refine Y ?_;refine gH J h ?_ ?_<;>intro h
  ·refine Y ?_;refine ay ?_;refine Y ?_
   refine gB (ci zero39.out J) fun B40=> ?_
   refine Y ?_;refine ay ?_;obtain ⟨x41,lx41,ux41,hx41,h⟩:=aU h;obtain ⟨y47,hy47,h⟩:=aa h;refine dB (t:=[(0,W A1 n1 c1),(2,.bool false),(3,pV B3 0),(4,pV B13 0),(5,iV p25),(6,pV B40 0)]) ?_ fv (ab _)
   refine dF I 9 [8] [7,8] [28,29,30,31,32,33,27,34,35] [[],[],[],[1,2],[3],[0,4],[5],[6],[6]] [aV (.agg #[W A30 n30 c30,W A31 n31 c31,W A32 n32 c32,W A33 n33 c33]),
aV (W A1 n1 c1),
aV (iV p25),
aV (dj (W A1 n1 c1) p25.toNat 11 0),
aX6 (fun (A45:Option Addr) (n45 c45:Nat) (A46:Option Addr) (n46 c46:Nat)=> .agg #[iV x41.Kind,iV x41.N,iV x41.C.Kind,iV x41.C.Shape,iV x41.C.Flags,iV x41.C.Age,W A45 n45 c45,W A46 n46 c46,iV x41.V.Kind,iV x41.V.N,.string x41.V.S]) (fun A45 n45 c45 A46 n46 c46=> [az A45 n45 c45 x41.C.Slots,az A46 n46 c46 x41.C.More]),
aX21 (fun (A55:Option Addr) (n55 c55:Nat) (A56:Option Addr) (n56 c56:Nat) (A57:Option Addr) (n57 c57:Nat) (A58:Option Addr) (n58 c58:Nat) (A59:Option Addr) (n59 c59:Nat) (A60:Option Addr) (n60 c60:Nat) (A61:Option Addr) (n61 c61:Nat)=> .tuple #[.agg #[W A55 n55 c55,W A56 n56 c56,W A57 n57 c57,W A58 n58 c58],.agg #[iV y47.2.N,iV y47.2.E,.bool y47.2.Ok,iV y47.2.C.Kind,iV y47.2.C.Shape,iV y47.2.C.Flags,iV y47.2.C.Age,W A59 n59 c59,W A60 n60 c60,iV y47.2.V.Kind,iV y47.2.V.N,.string y47.2.V.S,W A61 n61 c61]]) (fun A55 n55 c55 A56 n56 c56 A57 n57 c57 A58 n58 c58 A59 n59 c59 A60 n60 c60 A61 n61 c61=> [aK A55 n55 c55 y47.1.M.Young,aK A56 n56 c56 y47.1.M.Old,az A57 n57 c57 y47.1.Roots,az A58 n58 c58 y47.1.Pending,az A59 n59 c59 y47.2.C.Slots,az A60 n60 c60 y47.2.C.More,az A61 n61 c61 y47.2.L]),
aX21 (fun (A62:Option Addr) (n62 c62:Nat) (A63:Option Addr) (n63 c63:Nat) (A64:Option Addr) (n64 c64:Nat) (A65:Option Addr) (n65 c65:Nat) (A66:Option Addr) (n66 c66:Nat) (A67:Option Addr) (n67 c67:Nat) (A68:Option Addr) (n68 c68:Nat)=> .tuple #[.agg #[W A62 n62 c62,W A63 n63 c63,W A64 n64 c64,W A65 n65 c65],.agg #[iV y47.2.N,iV y47.2.E,.bool y47.2.Ok,iV y47.2.C.Kind,iV y47.2.C.Shape,iV y47.2.C.Flags,iV y47.2.C.Age,W A66 n66 c66,W A67 n67 c67,iV y47.2.V.Kind,iV y47.2.V.N,.string y47.2.V.S,W A68 n68 c68]]) (fun A62 n62 c62 A63 n63 c63 A64 n64 c64 A65 n65 c65 A66 n66 c66 A67 n67 c67 A68 n68 c68=> [aK A62 n62 c62 y47.1.M.Young,aK A63 n63 c63 y47.1.M.Old,az A64 n64 c64 y47.1.Roots,az A65 n65 c65 y47.1.Pending,az A66 n66 c66 y47.2.C.Slots,az A67 n67 c67 y47.2.C.More,az A68 n68 c68 y47.2.L]),
aX12 (fun (A76:Option Addr) (n76 c76:Nat) (A77:Option Addr) (n77 c77:Nat) (A78:Option Addr) (n78 c78:Nat) (A79:Option Addr) (n79 c79:Nat)=> .agg #[W A76 n76 c76,W A77 n77 c77,W A78 n78 c78,W A79 n79 c79]) (fun A76 n76 c76 A77 n77 c77 A78 n78 c78 A79 n79 c79=> [aK A76 n76 c76 y47.1.M.Young,aK A77 n77 c77 y47.1.M.Old,az A78 n78 c78 y47.1.Roots,az A79 n79 c79 y47.1.Pending]),
aX9 (fun (A84:Option Addr) (n84 c84:Nat) (A85:Option Addr) (n85 c85:Nat) (A86:Option Addr) (n86 c86:Nat)=> .agg #[iV y47.2.N,iV y47.2.E,.bool y47.2.Ok,iV y47.2.C.Kind,iV y47.2.C.Shape,iV y47.2.C.Flags,iV y47.2.C.Age,W A84 n84 c84,W A85 n85 c85,iV y47.2.V.Kind,iV y47.2.V.N,.string y47.2.V.S,W A86 n86 c86]) (fun A84 n84 c84 A85 n85 c85 A86 n86 c86=> [az A84 n84 c84 y47.2.C.Slots,az A85 n85 c85 y47.2.C.More,az A86 n86 c86 y47.2.L])] [] (ab _) (uY rfl fj) I rfl rfl ?_ ?_ ?_
   ·refine uX J ?_ ?_
    ·intro A62 n62 c62 A63 n63 c63 A64 n64 c64 A65 n65 c65 A66 n66 c66 A67 n67 c67 A68 n68 c68;exact Dt (au J J) J (LN A66 n66 c66 A67 n67 c67 A68 n68 c68 ((fc 4 J J).trans ((fc 6 J J).trans ((fc 8 J J).trans (cS [2,1,0,3,4,5,6,7,8,9,10,11,12,13,14,15,16,17,18,19,20,21,22,23] 24)))))
    exact fi
   ·refine ac J ?_ ?_
    ·intro A62 n62 c62 A63 n63 c63 A64 n64 c64 A65 n65 c65 A66 n66 c66 A67 n67 c67 A68 n68 c68;exact bN (au J J) J (LN A66 n66 c66 A67 n67 c67 A68 n68 c68 ((fc 4 J J).trans ((fc 6 J J).trans ((fc 8 J J).trans (cS [2,1,0,3,4,5,6,7,8,9,10,11,12,13,14,15,16,17,18,19,20,21,22,23] 24)))))
    refine ac J ?_ ?_
    ·intro A62 n62 c62 A63 n63 c63 A64 n64 c64 A65 n65 c65 A66 n66 c66 A67 n67 c67 A68 n68 c68;exact bN (au J J) J (Mu A62 n62 c62 A63 n63 c63 A64 n64 c64 A65 n65 c65 ((fc 0 J J).trans ((fc 2 J J).trans ((fc 4 J J).trans ((fc 6 J J).trans (cS [3,2,1,0,4,5,6,7,8,9,10,11,12,13,14,15,16,17,18,19,20,21,22,23,24] 25))))))
    refine ac J ?_ ?_
    ·intro A55 n55 c55 A56 n56 c56 A57 n57 c57 A58 n58 c58 A59 n59 c59 A60 n60 c60 A61 n61 c61;exact bN (ai J) J (Ms A55 n55 c55 A56 n56 c56 A57 n57 c57 A58 n58 c58 A59 n59 c59 A60 n60 c60 A61 n61 c61 ((fc 0 J J).trans ((fc 2 J J).trans ((fc 4 J J).trans ((fc 6 J J).trans ((fc 8 J J).trans ((fc 10 J J).trans ((fc 12 J J).trans (cS [6,5,4,3,2,1,0,7,8,9,10,11,12,13,14,15,16,17,18,19,20,21,22,23,24,25,26,27] 28)))))))))
    refine ac J ?_ ?_
    ·intro A45 n45 c45 A46 n46 c46;refine gj (gz (IN hy47) call7.out J (ce [9,10,11,12,0,1] [] [0,1,2,3,4,5,6,7,8,9,10,11,12,13,14,15] 16 J)) J ?_;rintro _ _ ⟨_,⟨A48,n48,c48,A49,n49,c49,A50,n50,c50,A51,n51,c51,A52,n52,c52,A53,n53,c53,A54,n54,c54,rfl,rfl⟩,rfl⟩;exact Ms A48 n48 c48 A49 n49 c49 A50 n50 c50 A51 n51 c51 A52 n52 c52 A53 n53 c53 A54 n54 c54 (ab _)
    refine ac J ?_ ?_
    ·refine NO 1 J hx41 (zC x41) ?_;rintro _ _ ⟨A42,n42,c42,A43,n43,c43,rfl,rfl⟩;exact cB (eo (us:=[iV x41.Kind,iV x41.N,iV x41.C.Kind,iV x41.C.Shape,iV x41.C.Flags,iV x41.C.Age,W A42 n42 c42,W A43 n43 c43,iV x41.V.Kind,iV x41.V.N,.string x41.V.S]) 0 J J agg43.out J) J (BN A42 n42 c42 A43 n43 c43 (cS [1,2,3,4,5,6,7,8,9,10,11,12,13,14,15,16] 17))
    refine ac J ?_ ?_
    ·exact cB (bf 1 J ao J J t5 size43.out lx41 ux41) J (aP J (ab _))
    refine ac J ?_ ?_
    ·exact bN (ai J) J (aP J (ab _))
    refine ac J ?_ ?_
    ·exact bN (ai J) J (aP J (ab _))
    refine ac J ?_ ?_
    ·exact cB (aR (us:=[W A30 n30 c30,W A31 n31 c31,W A32 n32 c32,W A33 n33 c33]) 11 J J agg32.out J) J (aP J (ab _))
    exact cp
   intro A76 n76 c76 A77 n77 c77 A78 n78 c78 A79 n79 c79 A84 n84 c84 A85 n85 c85 A86 n86 c86;refine gu (t:=[(34,.agg #[W A76 n76 c76,W A77 n77 c77,W A78 n78 c78,W A79 n79 c79]),(35,.agg #[iV y47.2.N,iV y47.2.E,.bool y47.2.Ok,iV y47.2.C.Kind,iV y47.2.C.Shape,iV y47.2.C.Flags,iV y47.2.C.Age,W A84 n84 c84,W A85 n85 c85,iV y47.2.V.Kind,iV y47.2.V.N,.string y47.2.V.S,W A86 n86 c86]),(0,W A1 n1 c1),(2,.bool false),(3,pV B3 0),(4,pV B13 0),(5,iV p25),(6,pV B40 0)]) (L':=[aK A76 n76 c76 y47.1.M.Young,aK A77 n77 c77 y47.1.M.Old,az A78 n78 c78 y47.1.Roots,az A79 n79 c79 y47.1.Pending,az A84 n84 c84 y47.2.C.Slots,az A85 n85 c85 y47.2.C.More,az A86 n86 c86 y47.2.L,ah B40 39 [iV 0,iV 0,.bool false,iV 0,iV 0,iV 0,iV 0,W none 0 0,W none 0 0,iV 0,iV 0,.string (⟨#[]⟩),W none 0 0],o5 E1 (W A1 n1 c1) a0,bY A26 n26 c26 p26,bY A27 n27 c27 p27,bh A28 n28 c28 p28,bh A29 n29 c29 p29,ah B3 56 [W A26 n26 c26,W A27 n27 c27,W A28 n28 c28,W A29 n29 c29,pV B8 0],aK A30 n30 c30 p30,aK A31 n31 c31 p31,az A32 n32 c32 p32,az A33 n33 c33 p33,ah B13 32 [W A30 n30 c30,W A31 n31 c31,W A32 n32 c32,W A33 n33 c33],bj cx dW M34 p34,ah B8 87 [.map (some M34)]]) ?_ fv (ab _)
   refine o7 9 J I (aq (us:=[W A76 n76 c76,W A77 n77 c77,W A78 n78 c78,W A79 n79 c79]) (cs':=[W A76 n76 c76,W A77 n77 c77,W A78 n78 c78,W A79 n79 c79]) 18 J J J J size32.out J J J) J J ?_;rintro _ _ rfl;refine o7 10 J I (aq (us:=[iV y47.2.N,iV y47.2.E,.bool y47.2.Ok,iV y47.2.C.Kind,iV y47.2.C.Shape,iV y47.2.C.Flags,iV y47.2.C.Age,W A84 n84 c84,W A85 n85 c85,iV y47.2.V.Kind,iV y47.2.V.N,.string y47.2.V.S,W A86 n86 c86]) (cs':=[iV y47.2.N,iV y47.2.E,.bool y47.2.Ok,iV y47.2.C.Kind,iV y47.2.C.Shape,iV y47.2.C.Flags,iV y47.2.C.Age,W A84 n84 c84,W A85 n85 c85,iV y47.2.V.Kind,iV y47.2.V.N,.string y47.2.V.S,W A86 n86 c86]) 7 J J J J size39.out J J J) J J ?_;rintro _ _ rfl;refine sU ?_;refine ft I ?_;refine wF ?_;refine ay ?_
   refine bm I ([aK A76 n76 c76 y47.1.M.Young,aK A77 n77 c77 y47.1.M.Old,az A78 n78 c78 y47.1.Roots,az A79 n79 c79 y47.1.Pending,az A84 n84 c84 y47.2.C.Slots,az A85 n85 c85 y47.2.C.More,az A86 n86 c86 y47.2.L,ah B40 39 [iV y47.2.N,iV y47.2.E,.bool y47.2.Ok,iV y47.2.C.Kind,iV y47.2.C.Shape,iV y47.2.C.Flags,iV y47.2.C.Age,W A84 n84 c84,W A85 n85 c85,iV y47.2.V.Kind,iV y47.2.V.N,.string y47.2.V.S,W A86 n86 c86],o5 E1 (W A1 n1 c1) a0,aK A30 n30 c30 p30,az A33 n33 c33 p33,ah B13 32 [W A76 n76 c76,W A77 n77 c77,W A78 n78 c78,W A79 n79 c79]]) (cS [0,1,2,3,4,5,6,7,8,14,17,18] 21) ?_;refine zE 0 J (ai J) ?_;refine zE 1 J (ai J) ?_;refine zE 2 J (ai J) ?_;obtain ⟨x90,lx90,ux90,hx90,h⟩:=aU h;refine zR 3 J (bf 8 J ao J J t5 size43.out lx90 ux90) ?_;refine Hv 8 J hx90 (zC x90) ?_;rintro _ _ ⟨A91,n91,c91,A92,n92,c92,rfl,rfl⟩;refine zR 4 J (eo (us:=[iV x90.Kind,iV x90.N,iV x90.C.Kind,iV x90.C.Shape,iV x90.C.Flags,iV x90.C.Age,W A91 n91 c91,W A92 n92 c92,iV x90.V.Kind,iV x90.V.N,.string x90.V.S]) 0 J J agg43.out J) ?_;refine zR 6 J (aR (us:=[iV y47.2.N,iV y47.2.E,.bool y47.2.Ok,iV y47.2.C.Kind,iV y47.2.C.Shape,iV y47.2.C.Flags,iV y47.2.C.Age,W A84 n84 c84,W A85 n85 c85,iV y47.2.V.Kind,iV y47.2.V.N,.string y47.2.V.S,W A86 n86 c86]) 10 J J agg39.out J) ?_;obtain ⟨y94,k,h⟩:=aa h
   refine zD 5 J (gz (Iu k) call9.out J (ce [1,2] [16,12,13,14,15,23,22] [0,1,2,3,4,5,6,7,8,9,10,11,17,18,19,20,21] 24 J)) ?_;rintro _ _ ⟨_,⟨A95,n95,c95,A96,n96,c96,A97,n97,c97,A98,n98,c98,A99,n99,c99,A100,n100,c100,A101,n101,c101,M102,rfl,rfl⟩,rfl⟩;refine bq (cS [10,11,12,13,14,15,16,17,18,19,20,21,22,25,26] 27) ?_;refine cn ?_;obtain ⟨y103,k,h⟩:=aa h;refine zD 7 J (ba (FO k) call8.out J (hU (cM (i:=0) J) (hU (cM (i:=1) J) (hU (cM (i:=2) J) (hU (aJ (i:=17) J J) (hU (aJ (i:=18) J J) (hU (aJ (i:=19) J J) ax)))))) Dx) ?_;rintro _ _ ⟨_,⟨rfl,rfl⟩,rfl⟩;refine bq (cS [10,11,12,13,14,15,16,17,18,19,20,21,22,25,26] 27) ?_;refine zE 8 J (pp J) ?_;refine bv I ?_;refine wF ?_;refine gH J h ?_ ?_<;>intro h
   ·refine Y ?_;obtain rfl:=bw h;exact js J J (cS [] 27) ⟨J,J⟩
   refine Y ?_;obtain ⟨q105,h⟩:=ad h;refine gE (cr J J q105.1 q105.2) ?_;refine Y ?_;exact ⟨m24,_,_,Qu _,⟨p25+1,y94.2.m_.Young,y94.2.m_.Old,y94.2.roots_,y94.2.pending_,y47.1.M.Young,y47.1.M.Old,y47.1.Roots,y47.1.Pending,y94.2.set_.at_,A98,n98,c98,A99,n99,c99,A100,n100,c100,A101,n101,c101,A76,n76,c76,A77,n77,c77,A78,n78,c78,A79,n79,c79,M102,h,J,J⟩,sA,cS [21,4,5,6,7,3,13,14,15,16,26,9,8] 27⟩
  refine Y ?_;exact ⟨_,_,⟨p26,p27,p28,p29,p30,p31,p32,p33,p34,A26,n26,c26,A27,n27,c27,A28,n28,c28,A29,n29,c29,A30,n30,c30,A31,n31,c31,A32,n32,c32,A33,n33,c33,M34,h,J,J⟩,sA,cS [1,2,3,4,5,6,7,8,9,10,11,12] 13⟩
 rintro _ _ ⟨p15,p16,p17,p18,p19,p20,p21,p22,p23,A15,n15,c15,A16,n16,c16,A17,n17,c17,A18,n18,c18,A19,n19,c19,A20,n20,c20,A21,n21,c21,A22,n22,c22,M23,h,rfl,rfl⟩;refine Y ?_;obtain ⟨y106,k,h⟩:=aa h;refine gD (gz (xT k) call10.out J (ce [] [4,0,1,2,3,11,10] [5,6,7,8,9] 12 J)) ?_;rintro _ _ ⟨_,⟨A107,n107,c107,A108,n108,c108,A109,n109,c109,A110,n110,c110,A111,n111,c111,A112,n112,c112,M113,rfl,rfl⟩,rfl⟩
 refine gB (ci zero29.out J) fun B114=> ?_
 refine gW (aq (us:=[W A107 n107 c107,W A108 n108 c108]) (cs':=[W A107 n107 c107,W A108 n108 c108]) 0 J J J J size29.out J J J) ?_;refine Y ?_;refine ay ?_;refine bm I _ (ab _) ?_;refine zE 0 J (cG J ny) ?_;refine zR 1 J (aL 0 J J ni J) ?_;refine zE 2 J (cG J oQ) ?_;refine zE 3 J (cG J ny) ?_;refine zR 4 J (aL 14 J J ni J) ?_;obtain ⟨y115,k,h⟩:=aa h;refine zD 5 J (ba (zq k) call11.out J (hU (cM (i:=1) J) (hU (aJ (i:=10) J J) ax)) ww) ?_;rintro _ _ ⟨_,⟨rfl,rfl⟩,rfl⟩;refine ⟨_,ab _,ab _,?_⟩;refine zE 6 J (ai J) ?_;obtain ⟨b116,hb116,h⟩:=aa h;refine eM (fun l=>(((((((l.setIfInBounds 7 true).setIfInBounds 8 true).setIfInBounds 9 true).setIfInBounds 10 true).setIfInBounds 11 true).setIfInBounds 12 true).setIfInBounds 13 true)) 30 60 b116 (fun rest=> ?_) ?_
 ·clear h;refine gI 53 J (fun g116=> ?_) (fun g116=> ?_)
  ·have h:=aE g116 hb116;refine cP 7 J I (bB J lC) (bx g116 J) J ?_;refine fb 8 J I (aL 0 J J ni J) (bx g116 J) J ?_;refine cP 9 J I (cG J oQ) (bx g116 J) J ?_;refine cP 10 J I (bB J lC) (bx g116 J) J ?_;refine fb 11 J I (aL 14 J J ni J) (bx g116 J) J ?_;obtain ⟨y117,k,h⟩:=aa h;refine mg 12 J I (ba (zq k) call11.out J (hU (cM (i:=2) J) (hU (aJ (i:=11) J J) ax)) ww) J (bx g116 J) J ?_;rintro _ _ ⟨_,⟨rfl,rfl⟩,rfl⟩;refine ⟨_,ab _,ab _,?_⟩;refine zE 13 J (cI g116 J J) ?_;obtain rfl:=bw h;exact di rest (bM J (ag (ag (ag (ag (ag (ag (ag aW J) J) J) J) J) J) J)) (ab _) (ab _)
  have h:=aF g116 hb116;refine bo 7 J I (eb g116 J) J ?_;refine bo 8 J I (eb g116 J) J ?_;refine bo 9 J I (eb g116 J) J ?_;refine bo 10 J I (eb g116 J) J ?_;refine bo 11 J I (eb g116 J) J ?_;refine bo 12 J I (eb g116 J) J ?_;refine zE 13 J (cJ g116 J J) ?_;obtain rfl:=bw h;exact di rest (bM J (ag (ag (ag (ag (ag (ag (ag aW J) J) J) J) J) J) J)) (ab _) (ab _)
 refine zE 14 J (ai J) ?_;obtain ⟨b118,hb118,h⟩:=aa h;refine eM (fun l=>((((((l.setIfInBounds 15 true).setIfInBounds 17 true).setIfInBounds 18 true).setIfInBounds 16 true).setIfInBounds 19 true).setIfInBounds 20 true)) 23 67 b118 (fun rest=> ?_) ?_
 ·clear h;refine gI 61 J (fun g118=> ?_) (fun g118=> ?_)
  ·have h:=aE g118 hb118;refine cP 15 J I (ai J) (bx g118 J) J ?_;refine cP 17 J I (bB J te) (bx g118 J) J ?_;refine fb 18 J I (aL 14 J J dr J) (bx g118 J) J ?_;obtain ⟨y119,k,h⟩:=aa h;refine mg 16 J I (ba (yK k) call13.out J (hU (rW (i:=3) J) (hU (cM (i:=4) J) (hU (cM (i:=5) J) (hU (cM (i:=6) J) (hU (cM (i:=7) J) (hU (rW (i:=8) J) (hU (zQ (i:=9) J) ax))))))) wX) J (bx g118 J) J ?_;rintro _ _ ⟨_,⟨A120,n120,c120,rfl,rfl⟩,rfl⟩;refine bq (cS [1,2,3,4,5,6,7,8,9,10,11,12,13,14,15] 16) ?_;obtain ⟨y121,k,h⟩:=aa h;refine mg 19 J I (ba (lu k) call12.out J (hU (cM (i:=0) J) (hU (aJ (i:=13) J J) ax)) xP) J (bx g118 J) J ?_;rintro _ _ ⟨_,⟨rfl,rfl⟩,rfl⟩;refine bq (cS [1,2,3,4,5,6,7,8,9,10,11,12,13,14,15] 16) ?_;refine zE 20 J (cI g118 J J) ?_;obtain rfl:=bw h;exact di rest (bM J (ag (ag (ag (ag (ag (ag aW J) J) J) J) J) J)) (cS [1,2,3,4,5,6,7,8,9,10,11,12,13,14,15] 16) (ab _)
  have h:=aF g118 hb118;refine bo 15 J I (eb g118 J) J ?_;refine bo 17 J I (eb g118 J) J ?_;refine bo 18 J I (eb g118 J) J ?_;refine bo 16 J I (eb g118 J) J ?_;refine bo 19 J I (eb g118 J) J ?_;refine zE 20 J (cJ g118 J J) ?_;obtain rfl:=bw h;exact di rest (bM J (ag (ag (ag (ag (ag (ag aW J) J) J) J) J) J)) (ab _) (ab _)
 refine zE 21 J (ai J) ?_;obtain ⟨b122,hb122,h⟩:=aa h;refine eM (fun l=>(((((((((((l.setIfInBounds 22 true).setIfInBounds 24 true).setIfInBounds 25 true).setIfInBounds 26 true).setIfInBounds 27 true).setIfInBounds 28 true).setIfInBounds 29 true).setIfInBounds 30 true).setIfInBounds 23 true).setIfInBounds 31 true).setIfInBounds 32 true)) 11 79 b122 (fun rest=> ?_) ?_
 ·clear h;refine gI 68 J (fun g122=> ?_) (fun g122=> ?_)
  ·have h:=aE g122 hb122;refine cP 22 J I (ai J) (bx g122 J) J ?_;refine cP 24 J I (cG J ny) (bx g122 J) J ?_;refine fb 25 J I (aL 0 J J ni J) (bx g122 J) J ?_;refine fb 26 J I (cC 1 J ap J t9) (bx g122 J) J ?_;refine cP 27 J I (bB J lC) (bx g122 J) J ?_;refine fb 28 J I (aL 0 J J ni J) (bx g122 J) J ?_;refine fb 29 J I (cC 2 J ap J t9) (bx g122 J) J ?_;obtain ⟨q123,h⟩:=ad h;refine cP 30 J I (cr J J q123.1 q123.2) (bx g122 J) J ?_;obtain ⟨y124,k,h⟩:=aa h;refine mg 23 J I (ba (pk k) call14.out J (hU (rW (i:=3) J) (hU (cM (i:=4) J) (hU (cM (i:=5) J) (hU (cM (i:=6) J) (hU (cM (i:=7) J) (hU (rW (i:=8) J) (hU (zQ (i:=9) J) ax))))))) yL) J (bx g122 J) J ?_;rintro _ _ ⟨_,⟨rfl,rfl⟩,rfl⟩;refine ⟨_,ab _,ab _,?_⟩;refine cP 31 J I (Ac J J) (bx g122 J) J ?_;refine zE 32 J (cI g122 J J) ?_;obtain rfl:=bw h;exact di rest (bM J (ag (ag (ag (ag (ag (ag (ag (ag (ag (ag (ag aW J) J) J) J) J) J) J) J) J) J) J)) (ab _) (ab _)
  have h:=aF g122 hb122;refine bo 22 J I (eb g122 J) J ?_;refine bo 24 J I (eb g122 J) J ?_;refine bo 25 J I (eb g122 J) J ?_;refine bo 26 J I (eb g122 J) J ?_;refine bo 27 J I (eb g122 J) J ?_;refine bo 28 J I (eb g122 J) J ?_;refine bo 29 J I (eb g122 J) J ?_;refine bo 30 J I (eb g122 J) J ?_;refine bo 23 J I (eb g122 J) J ?_;refine bo 31 J I (eb g122 J) J ?_;refine zE 32 J (cJ g122 J J) ?_;obtain rfl:=bw h;exact di rest (bM J (ag (ag (ag (ag (ag (ag (ag (ag (ag (ag (ag aW J) J) J) J) J) J) J) J) J) J) J)) (ab _) (ab _)
 refine zE 33 J (ai J) ?_;obtain ⟨b125,hb125,h⟩:=aa h;refine eM (fun l=>((((((l.setIfInBounds 34 true).setIfInBounds 36 true).setIfInBounds 35 true).setIfInBounds 37 true).setIfInBounds 38 true).setIfInBounds 39 true)) 4 86 b125 (fun rest=> ?_) ?_
 ·clear h;refine gI 80 J (fun g125=> ?_) (fun g125=> ?_)
  ·have h:=aE g125 hb125;refine cP 34 J I (ai J) (bx g125 J) J ?_;refine fb 36 J I (aR (us:=[W A19 n19 c19,W A20 n20 c20,W A21 n21 c21,W A22 n22 c22]) 14 J J agg32.out J) (bx g125 J) J ?_;obtain ⟨y126,k,h⟩:=aa h;refine mg 35 J I (ba (rZ k) call15.out J (hU (rW (i:=3) J) (hU (cM (i:=4) J) (hU (cM (i:=5) J) (hU (cM (i:=6) J) (hU (cM (i:=7) J) (hU (rW (i:=8) J) (hU (zQ (i:=9) J) ax))))))) wZ) J (bx g125 J) J ?_;rintro _ _ ⟨_,⟨rfl,rfl⟩,rfl⟩;refine ⟨_,ab _,ab _,?_⟩;obtain ⟨y127,k,h⟩:=aa h;refine mg 37 J I (ba (E2 k) call16.out J (hU (aJ (i:=10) J J) (hU (aJ (i:=11) J J) (hU (aJ (i:=12) J J) (hU (aJ (i:=13) J J) ax)))) Cw) J (bx g125 J) J ?_;rintro _ _ ⟨_,⟨rfl,rfl⟩,rfl⟩;refine ⟨_,ab _,ab _,?_⟩;refine cP 38 J I (Ac J J) (bx g125 J) J ?_;refine zE 39 J (cI g125 J J) ?_;obtain rfl:=bw h;exact di rest (bM J (ag (ag (ag (ag (ag (ag aW J) J) J) J) J) J)) (ab _) (ab _)
  have h:=aF g125 hb125;refine bo 34 J I (eb g125 J) J ?_;refine bo 36 J I (eb g125 J) J ?_;refine bo 35 J I (eb g125 J) J ?_;refine bo 37 J I (eb g125 J) J ?_;refine bo 38 J I (eb g125 J) J ?_;refine zE 39 J (cJ g125 J J) ?_;obtain rfl:=bw h;exact di rest (bM J (ag (ag (ag (ag (ag (ag aW J) J) J) J) J) J)) (ab _) (ab _)
 refine zE 40 J (ai J) ?_;obtain ⟨b128,hb128,h⟩:=aa h;refine eM (fun l=>((l.setIfInBounds 41 true).setIfInBounds 42 true)) 1 89 b128 (fun rest=> ?_) ?_
 ·clear h;refine gI 87 J (fun g128=> ?_) (fun g128=> ?_)
  ·have h:=aE g128 hb128;obtain ⟨y129,k,h⟩:=aa h;refine mg 41 J I (ba (yX k) call6.out J (ax) vW) J (bx g128 J) J ?_;rintro _ _ ⟨_,⟨rfl,rfl⟩,rfl⟩;refine ⟨_,ab _,ab _,?_⟩;refine zE 42 J (cI g128 J J) ?_;obtain rfl:=bw h;exact di rest (bM J (ag (ag aW J) J)) (ab _) (ab _)
  have h:=aF g128 hb128;refine bo 41 J I (eb g128 J) J ?_;refine zE 42 J (cJ g128 J J) ?_;obtain rfl:=bw h;exact di rest (bM J (ag (ag aW J) J)) (ab _) (ab _)
 refine zE 43 J (av J) ?_;refine bv I ?_;refine Y ?_;obtain rfl:=bw h;exact js J J (cS [] 15) ⟨J,J⟩
end
section
variable {A1 A2 A3 A4 A5 A6 A8 A9:Option Addr} {B1 B6 M7 c1 c2 c3 c4 c5 c6 c8 c9 n1 n2 n3 n4 n5 n6 n8 n9:Nat}
open Go.RowKit
set_option maxRecDepth 20000
structure Qj where
 a_:Qg
 b_:Qg
 x_:Qq
 y_:Qq
 from_:QA
 to_:QA
 deriving DecidableEq,Inhabited
structure Qi where
 M:Qg
 Order:Qq
 deriving DecidableEq,Inhabited
structure Qf where
 e0:Qr
 e1:Qr
 deriving DecidableEq,Inhabited
end
end Go.Proofs.YthepenpebkjdfaaGreat
