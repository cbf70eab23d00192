/- Merged texts: part 7. No conditions of their own. -/
import Derived.Test.YthepenpebkjdfaaGreatG6
set_option maxHeartbeats 4000000
namespace Go.Proofs.YthepenpebkjdfaaGreat
variable {A1 A2 A3 A4:Option Addr} {c1 c2 c3 c4 n1 n2 n3 n4:Nat}
open Go.RowKit Asn
set_option maxRecDepth 20000
def Bd (N:Nat):Option Bool:=
 some true
def oy (N:Nat)(kb10:Int->Option Bool)(p11:Int)(a0:Qg)(p16:Int)(p17:Int)(p18:Int)(p19:Int)(p20:Qr)(p21:Qr):Option Bool:=
 (cy N (⟨p16,p17,p18,p19,p20,p21⟩:Ql)).bind fun y32=>(bif !y32 then (some true) else ((dN N (⟨p16,p17,p18,p19,p20,p21⟩:Ql)).bind fun y34=>(lQ N a0 y34).bind fun y36=>some (!y36))).bind fun b33=>(bif b33 then (some true) else ((gx N (⟨p16,p17,p18,p19,p20,p21⟩:Ql)).bind fun y38=>(lQ N a0 y38).bind fun y40=>some (!y40))).bind fun b37=>bif b37 then (some false) else (aZ (in64 (p11+1)) (kb10 (p11+1)))
def km (N:Nat)(a0:Qg):Nat->Int->Option Bool
 |0,_=>none
 |m10+1,p11=>aZ (in64 ((a0.Young.length:Int)+(a0.Old.length:Int))) (bif decide (p11<(a0.Young.length:Int)+(a0.Old.length:Int)) then (bif decide (p11<(a0.Young.length:Int)) then ((aw a0.Young p11).bind fun x23=>oy N (km N a0 m10) p11 a0 x23.Kind x23.Shape x23.Flags x23.Age x23.Slots x23.More) else (aZ (in64 (p11 - (a0.Young.length:Int))) ((aw a0.Old (p11 - (a0.Young.length:Int))).bind fun x28=>oy N (km N a0 m10) p11 a0 x28.Kind x28.Shape x28.Flags x28.Age x28.Slots x28.More))) else (Bd N))
def uR (N:Nat)(a0:Qg)(a1:Qr):Option Bool:=
 (pZ N a1).bind fun y5=>(lQ N a0 y5).bind fun y7=>bif !y7 then (some false) else (km N a0 N 0)
theorem FZ {N:Nat}{a0:Qg}{a1:Qr}{r:Bool}(h:uR N a0 a1=some r):Okc QB 159 [.agg #[W A1 n1 c1,W A2 n2 c2],W A3 n3 c3] ([aK A1 n1 c1 a0.Young,aK A2 n2 c2 a0.Old,az A3 n3 c3 a1]) (fun u post=>u=.bool r/\post=[]):=by
 refine rQ Tryz.func159 J J ?_;simp only [jr];refine Y ?_
 refine gB (nH J J) fun B4=> ?_
 refine Y ?_;refine ay ?_;refine ay ?_;refine bm I _ (ab _) ?_;refine zR 0 J (aR (us:=[W A1 n1 c1,W A2 n2 c2]) 0 J J agg29.out J) ?_;refine zE 1 J (ai J) ?_;obtain ⟨y5,k,h⟩:=aa h;refine zD 2 J (ba (zn k) call186.out J (hU (aJ (i:=3) J J) ax) wr) ?_;rintro _ _ ⟨_,⟨A6,n6,c6,rfl,rfl⟩,rfl⟩;refine bq (cS [1,2,3,4] 5) ?_;obtain ⟨y7,k,h⟩:=aa h;refine zD 3 J (ba (qQ k) call160.out J (hU (aJ (i:=2) J J) (hU (aJ (i:=3) J J) (hU (cM (i:=0) J) ax))) rI) ?_;rintro _ _ ⟨_,⟨rfl,rfl⟩,rfl⟩;refine bq (cS [1,2,3,4] 5) ?_;refine zE 4 J (pp J) ?_;refine bv I ?_;refine wF ?_;refine gH J h ?_ ?_<;>intro h
 ·refine Y ?_;obtain rfl:=bw h;exact js J J (cS [] 5) ⟨J,J⟩
 refine Y ?_;refine am (fun s L=>Bd N=some r/\s=[(4,.bool false)]/\L=[]) ?_ ?_
 ·refine Y ?_;refine aH (fun m s L=> ∃p11,km N a0 m p11=some r/\s=[(2,pV B4 0),(4,.bool false),(5,iV p11)]/\L=[aK A1 n1 c1 a0.Young,aK A2 n2 c2 a0.Old,ah B4 29 [W A1 n1 c1,W A2 n2 c2]]) N _ _ ⟨0,h,J,J⟩ sA (cS [2,3,1] 5) ?_;rintro (_|m10) _ _ ⟨p11,h,rfl,rfl⟩
  ·exact aj h
  rw [km.eq_2] at h;refine ay ?_;refine Y ?_;refine gR (cC 0 J ao J t9) ?_;refine Y ?_;refine gR (cC 1 J ao J t9) ?_;obtain ⟨q12,h⟩:=ad h;refine gE (cr J J q12.1 q12.2) ?_;refine Y ?_;refine gH J h ?_ ?_<;>intro h
  ·refine Y ?_;refine ay ?_;refine Y ?_;refine gE (dw J bld_35_.out) ?_
   refine gB (ci zero35.out J) fun B14=> ?_
   refine gW (aq (us:=[iV 0,iV 0,iV 0,iV 0,W none 0 0,W none 0 0]) (cs':=[iV 0,iV 0,iV 0,iV 0,W none 0 0,W none 0 0]) 0 J J J J size35.out J J J) ?_;refine Y ?_;refine am (fun s L=> ∃p16 p17 p18 p19 p20 p21 A20 n20 c20 A21 n21 c21,oy N (km N a0 m10) p11 a0 p16 p17 p18 p19 p20 p21=some r/\s=[(2,pV B4 0),(4,.bool false),(5,iV p11),(6,pV B14 0)]/\L=[aK A1 n1 c1 a0.Young,aK A2 n2 c2 a0.Old,ah B4 29 [W A1 n1 c1,W A2 n2 c2],az A20 n20 c20 p20,az A21 n21 c21 p21,ah B14 35 [iV p16,iV p17,iV p18,iV p19,W A20 n20 c20,W A21 n21 c21]]) ?_ ?_
   ·refine Y ?_;refine gR (cC 1 J ao J t9) ?_;refine Y ?_;refine gH J h ?_ ?_<;>intro h
    ·refine Y ?_;obtain ⟨x23,lx23,ux23,hx23,h⟩:=aU h;refine gR (bf 1 J ao J J t9 size35.out lx23 ux23) ?_;refine mL 1 J hx23 (bR x23) ?_;rintro _ _ ⟨A24,n24,c24,A25,n25,c25,rfl,rfl⟩;refine gR (eo (us:=[iV x23.Kind,iV x23.Shape,iV x23.Flags,iV x23.Age,W A24 n24 c24,W A25 n25 c25]) 0 J J agg35.out J) ?_;refine gW (aq (us:=[iV x23.Kind,iV x23.Shape,iV x23.Flags,iV x23.Age,W A24 n24 c24,W A25 n25 c25]) (cs':=[iV x23.Kind,iV x23.Shape,iV x23.Flags,iV x23.Age,W A24 n24 c24,W A25 n25 c25]) 3 J J J J size35.out J J J) ?_;refine Y ?_;exact ⟨_,_,⟨x23.Kind,x23.Shape,x23.Flags,x23.Age,x23.Slots,x23.More,A24,n24,c24,A25,n25,c25,h,J,J⟩,sA,cS [4,5,6,1,2,3] 7⟩
    refine Y ?_;refine gR (cC 1 J ao J t9) ?_;obtain ⟨q27,h⟩:=ad h;refine gE (tL J J q27.1 q27.2) ?_;obtain ⟨x28,lx28,ux28,hx28,h⟩:=aU h;refine gR (bf 2 J ao J J t9 size35.out lx28 ux28) ?_;refine mL 2 J hx28 (bR x28) ?_;rintro _ _ ⟨A29,n29,c29,A30,n30,c30,rfl,rfl⟩;refine gR (eo (us:=[iV x28.Kind,iV x28.Shape,iV x28.Flags,iV x28.Age,W A29 n29 c29,W A30 n30 c30]) 0 J J agg35.out J) ?_;refine gW (aq (us:=[iV x28.Kind,iV x28.Shape,iV x28.Flags,iV x28.Age,W A29 n29 c29,W A30 n30 c30]) (cs':=[iV x28.Kind,iV x28.Shape,iV x28.Flags,iV x28.Age,W A29 n29 c29,W A30 n30 c30]) 3 J J J J size35.out J J J) ?_;refine eh ?_;refine Y ?_;exact ⟨_,_,⟨x28.Kind,x28.Shape,x28.Flags,x28.Age,x28.Slots,x28.More,A29,n29,c29,A30,n30,c30,h,J,J⟩,sA,cS [4,5,6,1,2,3] 7⟩
   rintro _ _ ⟨p16,p17,p18,p19,p20,p21,A20,n20,c20,A21,n21,c21,h,rfl,rfl⟩;refine ay ?_;refine bm I _ (ab _) ?_;refine zR 0 J (aR (us:=[iV p16,iV p17,iV p18,iV p19,W A20 n20 c20,W A21 n21 c21]) 5 J J agg35.out J) ?_;obtain ⟨y32,k,h⟩:=aa h;refine zD 1 J (ba (mw k) call58.out J (hU (aJ (i:=3) J J) (hU (aJ (i:=4) J J) ax)) wB) ?_;rintro _ _ ⟨_,⟨rfl,rfl⟩,rfl⟩;refine ⟨_,ab _,ab _,?_⟩;refine zE 2 J (pp J) ?_;refine zE 3 J (ai J) ?_;obtain ⟨b33,hb33,h⟩:=aa h;refine eM (fun l=>((((((l.setIfInBounds 4 true).setIfInBounds 5 true).setIfInBounds 6 true).setIfInBounds 7 true).setIfInBounds 8 true).setIfInBounds 9 true)) 7 52 b33 (fun rest=> ?_) ?_
   ·clear h;refine gI 46 J (fun g33=> ?_) (fun g33=> ?_)
    ·have h:=aE g33 hb33;refine bo 4 J I (jb g33 J) J ?_;refine bo 5 J I (jb g33 J) J ?_;refine bo 6 J I (jb g33 J) J ?_;refine bo 7 J I (jb g33 J) J ?_;refine bo 8 J I (jb g33 J) J ?_;refine zE 9 J (cI g33 J J) ?_;obtain rfl:=bw h;exact di rest (bM J (ag (ag (ag (ag (ag (ag aW J) J) J) J) J) J)) (ab _) (ab _)
    have h:=aF g33 hb33;refine fb 4 J I (aR (us:=[W A1 n1 c1,W A2 n2 c2]) 2 J J agg29.out J) (dh g33 J) J ?_;refine fb 5 J I (aR (us:=[iV p16,iV p17,iV p18,iV p19,W A20 n20 c20,W A21 n21 c21]) 5 J J agg35.out J) (dh g33 J) J ?_;obtain ⟨y34,k,h⟩:=aa h;refine mg 6 J I (ba (gy k) call47.out J (hU (aJ (i:=3) J J) (hU (aJ (i:=4) J J) ax)) jG) J (dh g33 J) J ?_;rintro _ _ ⟨_,⟨A35,n35,c35,rfl,rfl⟩,rfl⟩;refine bq (cS [1,2,3,4,5,6] 7) ?_;obtain ⟨y36,k,h⟩:=aa h;refine mg 7 J I (ba (qQ k) call160.out J (hU (aJ (i:=1) J J) (hU (aJ (i:=2) J J) (hU (cM (i:=0) J) ax))) rI) J (dh g33 J) J ?_;rintro _ _ ⟨_,⟨rfl,rfl⟩,rfl⟩;refine bq (cS [1,2,3,4,5,6] 7) ?_;refine cP 8 J I (pp J) (dh g33 J) J ?_;refine zE 9 J (cJ g33 J J) ?_;obtain rfl:=bw h;exact di rest (bM J (ag (ag (ag (ag (ag (ag aW J) J) J) J) J) J)) (cS [1,2,3,4,5,6] 7) (ab _)
   refine zE 10 J (ai J) ?_;obtain ⟨b37,hb37,h⟩:=aa h;refine eM (fun l=>((((((l.setIfInBounds 11 true).setIfInBounds 12 true).setIfInBounds 13 true).setIfInBounds 14 true).setIfInBounds 15 true).setIfInBounds 16 true)) 0 59 b37 (fun rest=> ?_) ?_
   ·clear h;refine gI 53 J (fun g37=> ?_) (fun g37=> ?_)
    ·have h:=aE g37 hb37;refine bo 11 J I (jb g37 J) J ?_;refine bo 12 J I (jb g37 J) J ?_;refine bo 13 J I (jb g37 J) J ?_;refine bo 14 J I (jb g37 J) J ?_;refine bo 15 J I (jb g37 J) J ?_;refine zE 16 J (cI g37 J J) ?_;obtain rfl:=bw h;exact di rest (bM J (ag (ag (ag (ag (ag (ag aW J) J) J) J) J) J)) (ab _) (ab _)
    have h:=aF g37 hb37;refine fb 11 J I (aR (us:=[W A1 n1 c1,W A2 n2 c2]) 2 J J agg29.out J) (dh g37 J) J ?_;refine fb 12 J I (aR (us:=[iV p16,iV p17,iV p18,iV p19,W A20 n20 c20,W A21 n21 c21]) 5 J J agg35.out J) (dh g37 J) J ?_;obtain ⟨y38,k,h⟩:=aa h;refine mg 13 J I (ba (ne k) call48.out J (hU (aJ (i:=3) J J) (hU (aJ (i:=4) J J) ax)) qD) J (dh g37 J) J ?_;rintro _ _ ⟨_,⟨A39,n39,c39,rfl,rfl⟩,rfl⟩;refine bq (cS [1,2,3,4,5,6] 7) ?_;obtain ⟨y40,k,h⟩:=aa h;refine mg 14 J I (ba (qQ k) call160.out J (hU (aJ (i:=1) J J) (hU (aJ (i:=2) J J) (hU (cM (i:=0) J) ax))) rI) J (dh g37 J) J ?_;rintro _ _ ⟨_,⟨rfl,rfl⟩,rfl⟩;refine bq (cS [1,2,3,4,5,6] 7) ?_;refine cP 15 J I (pp J) (dh g37 J) J ?_;refine zE 16 J (cJ g37 J J) ?_;obtain rfl:=bw h;exact di rest (bM J (ag (ag (ag (ag (ag (ag aW J) J) J) J) J) J)) (cS [1,2,3,4,5,6] 7) (ab _)
   refine bv I ?_;refine wF ?_;refine gH J h ?_ ?_<;>intro h
   ·refine Y ?_;obtain rfl:=bw h;exact js J J (cS [] 6) ⟨J,J⟩
   refine Y ?_;obtain ⟨q42,h⟩:=ad h;refine gE (cr J J q42.1 q42.2) ?_;refine Y ?_;exact ⟨m10,_,_,Qu _,⟨p11+1,h,J,J⟩,sA,cS [0,1,2] 6⟩
  refine Y ?_;exact ⟨_,_,⟨h,J,J⟩,sA,cS [] 3⟩
 rintro _ _ ⟨h,rfl,rfl⟩;refine Y ?_;obtain rfl:=bw h;exact js J J (cS [] 0) ⟨J,J⟩
def zl (N:Nat):Option Bool:=
 some false
def kk (N:Nat)(a0:Qq):Nat->Int->Option Bool
 |0,_=>none
 |m3+1,p4=>bif decide (p4<(a0.length:Int)) then ((aw a0 p4).bind fun x6=>(jW N x6).bind fun y7=>bif y7 then (some true) else (aZ (in64 (p4+1)) ((kk N a0 m3) (p4+1)))) else (zl N)
def pY (N:Nat)(a0:Qq):Option Bool:=
 kk N a0 N 0
theorem zk {N:Nat}{a0:Qq}{r:Bool}(h:pY N a0=some r):Okc QB 162 [W A1 n1 c1] ([bV A1 n1 c1 a0]) (fun u post=>u=.bool r/\post=[]):=by
 refine cQ Tryz.func162 ?_;refine am (fun s L=>zl N=some r/\s=[(2,.bool false)]/\L=[]) ?_ ?_
 ·refine ae ?_;refine aH (fun m s L=> ∃p4,kk N a0 m p4=some r/\s=[(0,W A1 n1 c1),(2,.bool false),(3,iV p4)]/\L=[bV A1 n1 c1 a0]) N _ _ ⟨0,h,J,J⟩ sA (cS [0] 1) ?_;rintro (_|m3) _ _ ⟨p4,h,rfl,rfl⟩
  ·exact aj h
  rw [kk.eq_2] at h;refine sZ ?_;refine gH J h ?_ ?_<;>intro h
  ·refine sY ?_;obtain ⟨x6,lx6,ux6,hx6,h⟩:=aU h;refine ae ?_;obtain ⟨y7,k,h⟩:=aa h;refine kw (oR (mo k)) ?_;refine gH J h ?_ ?_<;>intro h
   ·exact eY
   refine ae ?_;obtain ⟨q9,h⟩:=ad h;exact lY
  exact jY
 rintro _ _ ⟨h,rfl,rfl⟩;exact eY
def DY (N:Nat):Option Bool:=
 some false
def xB (N:Nat)(a0:Int)(a1:Qq):Nat->Int->Option Bool
 |0,_=>none
 |m3+1,p4=>bif decide (p4<(a1.length:Int)) then ((aw a1 p4).bind fun x6=>bif decide (x6=a0) then (some true) else (aZ (in64 (p4+1)) ((xB N a0 a1 m3) (p4+1)))) else (DY N)
def qi (N:Nat)(a0:Int)(a1:Qq):Option Bool:=
 xB N a0 a1 N 0
theorem rk {N:Nat}{a0:Int}{a1:Qq}{r:Bool}(h:qi N a0 a1=some r):Okc QB 110 [iV a0,W A1 n1 c1] ([bV A1 n1 c1 a1]) (fun u post=>u=.bool r/\post=[]):=by
 refine cQ Tryz.func110 ?_;refine am (fun s L=>DY N=some r/\s=[(4,.bool false)]/\L=[]) ?_ ?_
 ·refine ae ?_;refine aH (fun m s L=> ∃p4,xB N a0 a1 m p4=some r/\s=[(0,iV a0),(1,W A1 n1 c1),(4,.bool false),(5,iV p4)]/\L=[bV A1 n1 c1 a1]) N _ _ ⟨0,h,J,J⟩ sA (cS [0] 1) ?_;rintro (_|m3) _ _ ⟨p4,h,rfl,rfl⟩
  ·exact aj h
  rw [xB.eq_2] at h;refine sZ ?_;refine gH J h ?_ ?_<;>intro h
  ·refine sY ?_;obtain ⟨x6,lx6,ux6,hx6,h⟩:=aU h;refine ew h ?_ ?_<;>intro h
   ·exact eY
   refine ae ?_;obtain ⟨q8,h⟩:=ad h;exact lY
  exact jY
 rintro _ _ ⟨h,rfl,rfl⟩;exact eY
theorem Bf {r:Bool}: ∀v post,((fun (u:Value) (post:List Chunk)=>u=.bool r/\post=[])) v post-> ∀c∈post,fu c:=by
 rintro _ _ ⟨rfl,rfl⟩;exact ax
def Bb (N:Nat):Option Bool:=
 some true
def sQ (N:Nat)(a2:Qq)(a0:Qg):Nat->Int->Option Bool
 |0,_=>none
 |m24+1,p25=>bif decide (p25<(a0.Old.length:Int)) then ((aw a0.Old p25).bind fun x27=>(dN N x27).bind fun y32=>(pY N y32).bind fun y34=>(bif y34 then (some true) else ((gx N x27).bind fun y36=>(pY N y36).bind fun y38=>some y38)).bind fun b35=>(bif b35 then (aZ (in64 (2*p25)) (aZ (in64 ((2*p25)+2)) ((qi N ((2*p25)+2) a2).bind fun y42=>some (!y42)))) else (some false)).bind fun b39=>bif b39 then (some false) else (aZ (in64 (p25+1)) ((sQ N a2 a0 m24) (p25+1)))) else (Bb N)
def sR (N:Nat)(a2:Qq)(a0:Qg):Option Bool:=
 sQ N a2 a0 N 0
def qa (N:Nat)(a2:Qq)(a0:Qg):Nat->Int->Option Bool
 |0,_=>none
 |m11+1,p12=>bif decide (p12<(a2.length:Int)) then ((aw a2 p12).bind fun x14=>(jW N x14).bind fun y15=>(bif y15 then (some true) else ((bif decide (0<p12) then ((aw a2 p12).bind fun x18=>aZ (in64 (p12 - 1)) ((aw a2 (p12 - 1)).bind fun x20=>some (decide (x18<=x20)))) else (some false)).bind fun b17=>some b17)).bind fun b16=>bif b16 then (some false) else (aZ (in64 (p12+1)) ((qa N a2 a0 m11) (p12+1)))) else (sR N a2 a0)
def uf (N:Nat)(a0:Qg)(a1:Qr)(a2:Qq):Option Bool:=
 (uR N a0 a1).bind fun y6=>(bif !y6 then (some true) else ((lQ N a0 a2).bind fun y8=>some (!y8))).bind fun b7=>bif b7 then (some false) else (qa N a2 a0 N 0)
theorem CA {N:Nat}{a0:Qg}{a1:Qr}{a2:Qq}{r:Bool}(h:uf N a0 a1 a2=some r):Okc QB 106 [.agg #[W A1 n1 c1,W A2 n2 c2],W A3 n3 c3,W A4 n4 c4] ([aK A1 n1 c1 a0.Young,aK A2 n2 c2 a0.Old,az A3 n3 c3 a1,bV A4 n4 c4 a2]) (fun u post=>u=.bool r/\post=[]):=by
 refine cQ Tryz.func106 ?_;intro B5;refine sY ?_;obtain ⟨y6,k,h⟩:=aa h;refine kw (oR (FZ k)) ?_;obtain ⟨b7,hb7,h⟩:=aa h;refine aQ 5 19 b7 ?_ ?_
 ·clear h;refine aM 14 J (fun g7=> ?_) (fun g7=> ?_)
  ·have h:=aE g7 hb7;exact gY
  have h:=aF g7 hb7;refine ae ?_;obtain ⟨y8,k,h⟩:=aa h;refine gU (oR (qQ k)) (dh g7 J) ?_;exact gY
 refine ew h ?_ ?_<;>intro h
 ·exact eY
 refine ae ?_;refine am (fun s L=>sR N a2 a0=some r/\s=[(2,W A4 n4 c4),(3,pV B5 0),(6,.bool false)]/\L=[bV A4 n4 c4 a2,aK A1 n1 c1 a0.Young,aK A2 n2 c2 a0.Old,ah B5 29 [W A1 n1 c1,W A2 n2 c2]]) ?_ ?_
 ·refine ae ?_;refine aH (fun m s L=> ∃p12,qa N a2 a0 m p12=some r/\s=[(2,W A4 n4 c4),(3,pV B5 0),(6,.bool false),(7,iV p12)]/\L=[bV A4 n4 c4 a2,aK A1 n1 c1 a0.Young,aK A2 n2 c2 a0.Old,ah B5 29 [W A1 n1 c1,W A2 n2 c2]]) N _ _ ⟨0,h,J,J⟩ sA (cS [4,1,2,0] 5) ?_;rintro (_|m11) _ _ ⟨p12,h,rfl,rfl⟩
  ·exact aj h
  rw [qa.eq_2] at h;refine sZ ?_;refine gH J h ?_ ?_<;>intro h
  ·refine sY ?_;refine ay ?_;refine bm I _ (ab _) ?_;refine zE 0 J (ai J) ?_;refine zE 1 J (ai J) ?_;obtain ⟨x14,lx14,ux14,hx14,h⟩:=aU h;refine zR 2 J (bf 0 J ao J J Ex size3.out lx14 ux14) ?_;refine zR 3 J (bF (u:=iV x14) 0 J ao J hx14 ex (fun _ _ _ h=>by rw [show _=_ from h];rfl)) ?_;obtain ⟨y15,k,h⟩:=aa h;refine zD 4 J (oR (mo k)) ?_;rintro _ _ ⟨_,⟨rfl,rfl⟩,rfl⟩;refine ⟨_,ab _,ab _,?_⟩;refine zE 5 J (ai J) ?_;obtain ⟨b16,hb16,h⟩:=aa h;refine eM (fun l=>(((((((((((((((l.setIfInBounds 6 true).setIfInBounds 7 true).setIfInBounds 8 true).setIfInBounds 9 true).setIfInBounds 10 true).setIfInBounds 11 true).setIfInBounds 12 true).setIfInBounds 13 true).setIfInBounds 14 true).setIfInBounds 15 true).setIfInBounds 16 true).setIfInBounds 17 true).setIfInBounds 18 true).setIfInBounds 19 true).setIfInBounds 20 true)) 0 46 b16 (fun rest=> ?_) ?_
   ·clear h;refine gI 31 J (fun g16=> ?_) (fun g16=> ?_)
    ·have h:=aE g16 hb16;refine bo 6 J I (jb g16 J) J ?_;refine bo 7 J I (jb g16 J) J ?_;refine bo 8 J I (jb g16 J) J ?_;refine zU 9 J ?_;refine zU 10 J ?_;refine zU 11 J ?_;refine zU 12 J ?_;refine zU 13 J ?_;refine zU 14 J ?_;refine zU 15 J ?_;refine zU 16 J ?_;refine zU 17 J ?_;refine zU 18 J ?_;refine bo 19 J I (jb g16 J) J ?_;refine zE 20 J (cI g16 J J) ?_;obtain rfl:=bw h;exact di rest (bM J (ag (ag (ag (ag (ag (ag (ag (ag (ag (ag (ag (ag (ag (ag (ag aW J) J) J) J) J) J) J) J) J) J) J) J) J) J) J)) (ab _) (ab _)
    have h:=aF g16 hb16;refine cP 6 J I (ai J) (dh g16 J) J ?_;refine cP 7 J I (Ie J J) (dh g16 J) J ?_;refine cP 8 J I (ai J) (dh g16 J) J ?_;obtain ⟨b17,hb17,h⟩:=aa h;refine eM (fun l=>(((((((((((l.setIfInBounds 9 true).setIfInBounds 10 true).setIfInBounds 11 true).setIfInBounds 12 true).setIfInBounds 13 true).setIfInBounds 14 true).setIfInBounds 15 true).setIfInBounds 16 true).setIfInBounds 17 true).setIfInBounds 18 true).setIfInBounds 19 true)) 1 45 b17 (fun rest=> ?_) ?_
    ·clear h;refine gI 34 J (fun g17=> ?_) (fun g17=> ?_)
     ·have h:=aE g17 hb17;refine cP 9 J I (ai J) (bx g17 J) J ?_;refine cP 10 J I (ai J) (bx g17 J) J ?_;obtain ⟨x18,lx18,ux18,hx18,h⟩:=aU h;refine fb 11 J I (bf 0 J ao J J Ex size3.out lx18 ux18) (bx g17 J) J ?_;refine fb 12 J I (bF (u:=iV x18) 0 J ao J hx18 ex (fun _ _ _ h=>by rw [show _=_ from h];rfl)) (bx g17 J) J ?_;refine cP 13 J I (ai J) (bx g17 J) J ?_;refine cP 14 J I (ai J) (bx g17 J) J ?_;obtain ⟨q19,h⟩:=ad h;refine cP 15 J I (tL J J q19.1 q19.2) (bx g17 J) J ?_;obtain ⟨x20,lx20,ux20,hx20,h⟩:=aU h;refine fb 16 J I (bf 0 J ao J J Ex size3.out lx20 ux20) (bx g17 J) J ?_;refine fb 17 J I (bF (u:=iV x20) 0 J ao J hx20 ex (fun _ _ _ h=>by rw [show _=_ from h];rfl)) (bx g17 J) J ?_;refine cP 18 J I (Mm J J) (bx g17 J) J ?_;refine cP 19 J I (cI g17 J J) (dh g16 J) J ?_;obtain rfl:=bw h;exact di rest (bM J (ag (ag (ag (ag (ag (ag (ag (ag (ag (ag (ag aW J) J) J) J) J) J) J) J) J) J) J)) (ab _) (ab _)
     have h:=aF g17 hb17;refine bo 9 J I (eb g17 J) J ?_;refine bo 10 J I (eb g17 J) J ?_;refine bo 11 J I (eb g17 J) J ?_;refine bo 12 J I (eb g17 J) J ?_;refine bo 13 J I (eb g17 J) J ?_;refine bo 14 J I (eb g17 J) J ?_;refine bo 15 J I (eb g17 J) J ?_;refine bo 16 J I (eb g17 J) J ?_;refine bo 17 J I (eb g17 J) J ?_;refine bo 18 J I (eb g17 J) J ?_;refine cP 19 J I (cJ g17 J J) (dh g16 J) J ?_;obtain rfl:=bw h;exact di rest (bM J (ag (ag (ag (ag (ag (ag (ag (ag (ag (ag (ag aW J) J) J) J) J) J) J) J) J) J) J)) (ab _) (ab _)
    refine zE 20 J (cJ g16 J J) ?_;obtain rfl:=bw h;exact di rest (bM J (ag (ag (ag (ag (ag aW J) J) J) J) J)) (ab _) (ab _)
   refine bv I ?_;refine ew h ?_ ?_<;>intro h
   ·exact eY
   refine ae ?_;obtain ⟨q22,h⟩:=ad h;exact lY
  exact jY
 rintro _ _ ⟨h,rfl,rfl⟩;refine am (fun s L=>Bb N=some r/\s=[(6,.bool false)]/\L=[]) ?_ ?_
 ·refine ae ?_;refine aH (fun m s L=> ∃p25,sQ N a2 a0 m p25=some r/\s=[(2,W A4 n4 c4),(3,pV B5 0),(6,.bool false),(8,iV p25)]/\L=[bV A4 n4 c4 a2,aK A1 n1 c1 a0.Young,aK A2 n2 c2 a0.Old,ah B5 29 [W A1 n1 c1,W A2 n2 c2]]) N _ _ ⟨0,h,J,J⟩ sA (cS [0,1,2,3] 4) ?_;rintro (_|m24) _ _ ⟨p25,h,rfl,rfl⟩
  ·exact aj h
  rw [sQ.eq_2] at h;refine sZ ?_;refine gH J h ?_ ?_<;>intro h
  ·refine sY ?_;obtain ⟨x27,lx27,ux27,hx27,h⟩:=aU h;refine ae ?_;refine mL 2 J hx27 (bR x27) ?_;rintro _ _ ⟨A28,n28,c28,A29,n29,c29,rfl,rfl⟩;refine zX (eo (us:=[iV x27.Kind,iV x27.Shape,iV x27.Flags,iV x27.Age,W A28 n28 c28,W A29 n29 c29]) 0 J J agg35.out J) ?_;intro B31;refine ae ?_;obtain ⟨y32,k,h⟩:=aa h;refine gD (oR (gy k)) ?_;rintro _ _ ⟨_,⟨A33,n33,c33,rfl,rfl⟩,rfl⟩;obtain ⟨y34,k,h⟩:=aa h;refine kw (oR (zk k)) ?_;obtain ⟨b35,hb35,h⟩:=aa h;refine aQ 4 66 b35 ?_ ?_
   ·clear h;refine aM 62 J (fun g35=> ?_) (fun g35=> ?_)
    ·have h:=aE g35 hb35;exact gY
    have h:=aF g35 hb35;refine ae ?_;obtain ⟨y36,k,h⟩:=aa h;refine BA (oR (ne k)) J (dh g35 J) J ?_;rintro _ _ ⟨_,⟨A37,n37,c37,rfl,rfl⟩,rfl⟩;obtain ⟨y38,k,h⟩:=aa h;refine gU (oR (zk k)) (dh g35 J) ?_;exact gY
   refine ae ?_;obtain ⟨b39,hb39,h⟩:=aa h;refine aQ 7 74 b39 ?_ ?_
   ·clear h;refine aM 67 J (fun g39=> ?_) (fun g39=> ?_)
    ·have h:=aE g39 hb39;refine ae ?_;obtain ⟨q40,h⟩:=ad h;refine su (kA J J q40.1 q40.2) J (bx g39 J) J ?_;obtain ⟨q41,h⟩:=ad h;refine ae ?_;obtain ⟨y42,k,h⟩:=aa h;refine gU (oR (rk k)) (bx g39 J) ?_;exact gY
    have h:=aF g39 hb39;exact gY
   refine ew h ?_ ?_<;>intro h
   ·exact eY
   refine ae ?_;obtain ⟨q44,h⟩:=ad h;exact lY
  exact jY
 rintro _ _ ⟨h,rfl,rfl⟩;exact eY
theorem E7 {r:Bool}: ∀v post,((fun (u:Value) (post:List Chunk)=>u=.bool r/\post=[])) v post-> ∀c∈post,fu c:=by
 rintro _ _ ⟨rfl,rfl⟩;exact ax
def wo (N:Nat)(p4:Qq):Option Qq:=
 some p4
def pX (N:Nat)(kb5:Qq->Int->Option Qq)(p7:Int)(a1:Qq)(p10:Qq):Option Qq:=
 aZ (in64 (p7+1)) (kb5 p10 (p7+1))
def gP (N:Nat)(a1:Qq):Nat->Qq->Int->Option Qq
 |0,_,_=>none
 |m5+1,p6,p7=>bif decide (p7<(a1.length:Int)) then ((aw a1 p7).bind fun x11=>(jW N x11).bind fun y12=>(bif y12 then ((aw a1 p7).bind fun x14=>(qi N x14 p6).bind fun y15=>some (!y15)) else (some false)).bind fun b13=>bif b13 then ((aw a1 p7).bind fun x17=>aZ (bi (p6.length+([x17]:List Int).length)) (pX N (gP N a1 m5) p7 a1 (p6++([x17]:List Int)))) else (pX N (gP N a1 m5) p7 a1 p6)) else (wo N p6)
def lP (N:Nat)(a0:Qq)(a1:Qq):Option Qq:=
 gP N a1 N a0 0
theorem wn {N:Nat}{a0:Qq}{a1:Qq}{r:Qq}(h:lP N a0 a1=some r):Okc QB 187 [W A1 n1 c1,W A2 n2 c2] ([bV A2 n2 c2 a1,bS A1 n1 c1 a0]) (fun u post=> ∃A0 n0 c0,u=W A0 n0 c0/\post=[bS A0 n0 c0 r]):=by
 refine rQ Tryz.func187 J J ?_;simp only [jr];refine Y ?_;refine am (fun s L=> ∃p4 A4 n4 c4,wo N p4=some r/\s=[(0,W A4 n4 c4),(4,W none 0 0)]/\L=[bS A4 n4 c4 p4]) ?_ ?_
 ·refine Y ?_;refine aH (fun m s L=> ∃p6 p7 A6 n6 c6,gP N a1 m p6 p7=some r/\s=[(0,W A6 n6 c6),(1,W A2 n2 c2),(4,W none 0 0),(5,iV p7)]/\L=[bS A6 n6 c6 p6,bV A2 n2 c2 a1]) N _ _ ⟨a0,0,A1,n1,c1,h,J,J⟩ sA (cS [1,0] 2) ?_;rintro (_|m5) _ _ ⟨p6,p7,A6,n6,c6,h,rfl,rfl⟩
  ·exact aj h
  rw [gP.eq_2] at h;refine ay ?_;refine Y ?_;refine gR (cC 1 J ao J Ex) ?_;refine Y ?_;refine gH J h ?_ ?_<;>intro h
  ·refine Y ?_;refine am (fun s L=> ∃p10 A10 n10 c10,pX N (gP N a1 m5) p7 a1 p10=some r/\s=[(0,W A10 n10 c10),(1,W A2 n2 c2),(4,W none 0 0),(5,iV p7)]/\L=[bS A10 n10 c10 p10,bV A2 n2 c2 a1]) ?_ ?_
   ·refine Y ?_;obtain ⟨x11,lx11,ux11,hx11,h⟩:=aU h;refine gR (bf 1 J ao J J Ex size3.out lx11 ux11) ?_;refine gR (bF (u:=iV x11) 1 J ao J hx11 ex (fun _ _ _ h=>by rw [show _=_ from h];rfl)) ?_;obtain ⟨y12,k,h⟩:=aa h;refine gV (ba (mo k) call161.out J (ax) rJ) ?_;refine Y ?_;obtain ⟨b13,hb13,h⟩:=aa h;refine aQ 8 25 b13 ?_ ?_
    ·clear h;refine aM 17 J (fun g13=> ?_) (fun g13=> ?_)
     ·have h:=aE g13 hb13;refine Y ?_;obtain ⟨x14,lx14,ux14,hx14,h⟩:=aU h;refine mH (bf 1 J ao J J Ex size3.out lx14 ux14) J (bx g13 J) J ?_;refine mH (bF (u:=iV x14) 1 J ao J hx14 ex (fun _ _ _ h=>by rw [show _=_ from h];rfl)) J (bx g13 J) J ?_;refine Y ?_;obtain ⟨y15,k,h⟩:=aa h;refine gU (ba (rk k) call110.out J (hU (cM (i:=0) J) ax) Bf) (bx g13 J) ?_;refine Y ?_;obtain rfl:=bw h;exact cH sA (cS [0,1] 2)
     have h:=aF g13 hb13;refine Y ?_;obtain rfl:=bw h;exact cH sA (cS [0,1] 2)
    refine Y ?_;refine gH J h ?_ ?_<;>intro h
    ·refine Y ?_;obtain ⟨x17,lx17,ux17,hx17,h⟩:=aU h;refine gR (bf 1 J ao J J Ex size3.out lx17 ux17) ?_;refine gR (bF (u:=iV x17) 1 J ao J hx17 ex (fun _ _ _ h=>by rw [show _=_ from h];rfl)) ?_;refine gD (aG (R:=(da .i64)) (vss:=[[iV x17]]) (xs:=[x17]) J (dp _) J J (fun _ _ hr=> .cons J All2.nil)) ?_;rintro _ _ ⟨A18,n18,c18,rfl,rfl⟩;obtain ⟨q19,h⟩:=ad h;refine gD (ar 1 0 J J ap J J Ex uE J J q19) ?_;rintro _ _ ⟨A20,n20,c20,rfl,rfl⟩;refine Y ?_;exact ⟨_,_,⟨p6++([x17]:List Int),A20,n20,c20,h,J,J⟩,sA,cS [1,2] 3⟩
    refine Y ?_;exact ⟨_,_,⟨p6,A6,n6,c6,h,J,J⟩,sA,cS [0,1] 2⟩
   rintro _ _ ⟨p10,A10,n10,c10,h,rfl,rfl⟩;refine Y ?_;obtain ⟨q21,h⟩:=ad h;refine gE (cr J J q21.1 q21.2) ?_;refine Y ?_;exact ⟨m5,_,_,Qu _,⟨p10,p7+1,A10,n10,c10,h,J,J⟩,sA,cS [0,1] 2⟩
  refine Y ?_;exact ⟨_,_,⟨p6,A6,n6,c6,h,J,J⟩,sA,cS [0] 2⟩
 rintro _ _ ⟨p4,A4,n4,c4,h,rfl,rfl⟩;refine Y ?_;obtain rfl:=bw h;exact js J J (cS [0] 1) ⟨_,_,_,J,J⟩
theorem DC {N:Nat}{V:Value}{K:Nat}{a0:Qq}{a1:Qq}{r:Qq}(h:lP N a0 a1=some r):Okc QB 187 [W A1 n1 c1,W A2 n2 c2] ([bV A2 n2 c2 a1,ga (da .i64) 3 (W A1 n1 c1) a0 V K]) (fun u post=> ∃A0 n0 c0,u=W A0 n0 c0/\post=[ga (da .i64) 3 (W A0 n0 c0) r V K]):=by
 refine rQ Tryz.func187 J J ?_;simp only [jr];refine Y ?_;refine am (fun s L=> ∃p4 A4 n4 c4,wo N p4=some r/\s=[(0,W A4 n4 c4),(4,W none 0 0)]/\L=[ga (da .i64) 3 (W A4 n4 c4) p4 V K]) ?_ ?_
 ·refine Y ?_;refine aH (fun m s L=> ∃p6 p7 A6 n6 c6,gP N a1 m p6 p7=some r/\s=[(0,W A6 n6 c6),(1,W A2 n2 c2),(4,W none 0 0),(5,iV p7)]/\L=[ga (da .i64) 3 (W A6 n6 c6) p6 V K,bV A2 n2 c2 a1]) N _ _ ⟨a0,0,A1,n1,c1,h,J,J⟩ sA (cS [1,0] 2) ?_;rintro (_|m5) _ _ ⟨p6,p7,A6,n6,c6,h,rfl,rfl⟩
  ·exact aj h
  rw [gP.eq_2] at h;refine ay ?_;refine Y ?_;refine gR (cC 1 J ao J Ex) ?_;refine Y ?_;refine gH J h ?_ ?_<;>intro h
  ·refine Y ?_;refine am (fun s L=> ∃p10 A10 n10 c10,pX N (gP N a1 m5) p7 a1 p10=some r/\s=[(0,W A10 n10 c10),(1,W A2 n2 c2),(4,W none 0 0),(5,iV p7)]/\L=[ga (da .i64) 3 (W A10 n10 c10) p10 V K,bV A2 n2 c2 a1]) ?_ ?_
   ·refine Y ?_;obtain ⟨x11,lx11,ux11,hx11,h⟩:=aU h;refine gR (bf 1 J ao J J Ex size3.out lx11 ux11) ?_;refine gR (bF (u:=iV x11) 1 J ao J hx11 ex (fun _ _ _ h=>by rw [show _=_ from h];rfl)) ?_;obtain ⟨y12,k,h⟩:=aa h;refine gV (ba (mo k) call161.out J (ax) rJ) ?_;refine Y ?_;obtain ⟨b13,hb13,h⟩:=aa h;refine aQ 8 25 b13 ?_ ?_
    ·clear h;refine aM 17 J (fun g13=> ?_) (fun g13=> ?_)
     ·have h:=aE g13 hb13;refine Y ?_;obtain ⟨x14,lx14,ux14,hx14,h⟩:=aU h;refine mH (bf 1 J ao J J Ex size3.out lx14 ux14) J (bx g13 J) J ?_;refine mH (bF (u:=iV x14) 1 J ao J hx14 ex (fun _ _ _ h=>by rw [show _=_ from h];rfl)) J (bx g13 J) J ?_;refine Y ?_;obtain ⟨y15,k,h⟩:=aa h;refine gU (ba (rk k) call110.out J (hU (Ec (i:=0) J) ax) Bf) (bx g13 J) ?_;refine Y ?_;obtain rfl:=bw h;exact cH sA (cS [0,1] 2)
     have h:=aF g13 hb13;refine Y ?_;obtain rfl:=bw h;exact cH sA (cS [0,1] 2)
    refine Y ?_;refine gH J h ?_ ?_<;>intro h
    ·refine Y ?_;obtain ⟨x17,lx17,ux17,hx17,h⟩:=aU h;refine gR (bf 1 J ao J J Ex size3.out lx17 ux17) ?_;refine gR (bF (u:=iV x17) 1 J ao J hx17 ex (fun _ _ _ h=>by rw [show _=_ from h];rfl)) ?_;refine gD (aG (R:=(da .i64)) (vss:=[[iV x17]]) (xs:=[x17]) J (dp _) J J (fun _ _ hr=> .cons J All2.nil)) ?_;rintro _ _ ⟨A18,n18,c18,rfl,rfl⟩;obtain ⟨q19,h⟩:=ad h;refine gD (CR 1 0 J J ap J J Ex uE J J q19) ?_;rintro _ _ ⟨A20,n20,c20,rfl,rfl⟩;refine Y ?_;exact ⟨_,_,⟨p6++([x17]:List Int),A20,n20,c20,h,J,J⟩,sA,cS [1,2] 3⟩
    refine Y ?_;exact ⟨_,_,⟨p6,A6,n6,c6,h,J,J⟩,sA,cS [0,1] 2⟩
   rintro _ _ ⟨p10,A10,n10,c10,h,rfl,rfl⟩;refine Y ?_;obtain ⟨q21,h⟩:=ad h;refine gE (cr J J q21.1 q21.2) ?_;refine Y ?_;exact ⟨m5,_,_,Qu _,⟨p10,p7+1,A10,n10,c10,h,J,J⟩,sA,cS [0,1] 2⟩
  refine Y ?_;exact ⟨_,_,⟨p6,A6,n6,c6,h,J,J⟩,sA,cS [0] 2⟩
 rintro _ _ ⟨p4,A4,n4,c4,h,rfl,rfl⟩;refine Y ?_;obtain rfl:=bw h;exact js J J (cS [0] 1) ⟨_,_,_,J,J⟩
def qb (N:Nat)(a0:Qg)(a1:Int):Option Ql:=
 (ug N a0 a1).bind fun y5=>bif !y5 then (some (⟨0,0,0,0,[],[]⟩:Ql)) else ((jW N a1).bind fun y9=>bif y9 then (aZ (in64 (a1.tdiv 2)) ((aw a0.Young (a1.tdiv 2)).bind fun x12=>some x12)) else (aZ (in64 (a1.tdiv 2)) (aZ (in64 ((a1.tdiv 2) - 1)) ((aw a0.Old ((a1.tdiv 2) - 1)).bind fun x18=>some x18))))
theorem uh {N:Nat}{a0:Qg}{a1:Int}{r:Ql}(h:qb N a0 a1=some r):Okc QB 113 [.agg #[W A1 n1 c1,W A2 n2 c2],iV a1] ([aK A1 n1 c1 a0.Young,aK A2 n2 c2 a0.Old]) (fun u post=> ∃A0 n0 c0 A1 n1 c1,u=.agg #[iV r.Kind,iV r.Shape,iV r.Flags,iV r.Age,W A0 n0 c0,W A1 n1 c1]/\post=[az A0 n0 c0 r.Slots,az A1 n1 c1 r.More]):=by
 refine rQ Tryz.func113 J J ?_;simp only [jr];refine Y ?_
 refine gB (nH J J) fun B3=> ?_
 refine gB (ci zero35.out J) fun B4=> ?_
 refine Y ?_;refine ay ?_;refine Y ?_;refine gR (aR (us:=[W A1 n1 c1,W A2 n2 c2]) 1 J J agg29.out J) ?_;refine Y ?_;obtain ⟨y5,k,h⟩:=aa h;refine gV (ba (CB k) call166.out J (hU (aJ (i:=2) J J) (hU (aJ (i:=3) J J) ax)) E8) ?_;refine Y ?_;refine gH J h ?_ ?_<;>intro h
 ·refine Y ?_;refine gE (dw J bld_35_.out) ?_;refine gW (aq (us:=[iV 0,iV 0,iV 0,iV 0,W none 0 0,W none 0 0]) (cs':=[iV 0,iV 0,iV 0,iV 0,W none 0 0,W none 0 0]) 0 J J J J size35.out J J J) ?_;refine Y ?_;obtain rfl:=bw h;exact dt (rs:=[.cell 4 35]) (vs:=[.agg #[iV 0,iV 0,iV 0,iV 0,W none 0 0,W none 0 0]]) J (.cons (bd 0 J J agg35.out) .nil) J ((cq ak _).trans ((cq ak _).trans (cS [1,0] 6))) ⟨_,_,_,_,_,_,J,J⟩
 refine Y ?_;refine ay ?_;refine Y ?_;obtain ⟨y9,k,h⟩:=aa h;refine gV (ba (mo k) call161.out J (ax) rJ) ?_;refine Y ?_;refine gH J h ?_ ?_<;>intro h
 ·refine Y ?_;obtain ⟨q11,h⟩:=ad h;refine gE (kz J J (by decide) q11.1 q11.2) ?_;obtain ⟨x12,lx12,ux12,hx12,h⟩:=aU h;refine gR (bf 2 J ao J J t9 size35.out lx12 ux12) ?_;refine mL 2 J hx12 (bR x12) ?_;rintro _ _ ⟨A13,n13,c13,A14,n14,c14,rfl,rfl⟩;refine gR (eo (us:=[iV x12.Kind,iV x12.Shape,iV x12.Flags,iV x12.Age,W A13 n13 c13,W A14 n14 c14]) 0 J J agg35.out J) ?_;refine gW (aq (us:=[iV x12.Kind,iV x12.Shape,iV x12.Flags,iV x12.Age,W A13 n13 c13,W A14 n14 c14]) (cs':=[iV x12.Kind,iV x12.Shape,iV x12.Flags,iV x12.Age,W A13 n13 c13,W A14 n14 c14]) 3 J J J J size35.out J J J) ?_;refine Y ?_;obtain rfl:=bw h;exact dt (rs:=[.cell 4 35]) (vs:=[.agg #[iV x12.Kind,iV x12.Shape,iV x12.Flags,iV x12.Age,W A13 n13 c13,W A14 n14 c14]]) J (.cons (bd 3 J J agg35.out) .nil) J (cS [1,2] 7) ⟨_,_,_,_,_,_,J,J⟩
 refine Y ?_;obtain ⟨q16,h⟩:=ad h;refine gE (kz J J (by decide) q16.1 q16.2) ?_;obtain ⟨q17,h⟩:=ad h;refine gE (tL J J q17.1 q17.2) ?_;obtain ⟨x18,lx18,ux18,hx18,h⟩:=aU h;refine gR (bf 3 J ao J J t9 size35.out lx18 ux18) ?_;refine mL 3 J hx18 (bR x18) ?_;rintro _ _ ⟨A19,n19,c19,A20,n20,c20,rfl,rfl⟩;refine gR (eo (us:=[iV x18.Kind,iV x18.Shape,iV x18.Flags,iV x18.Age,W A19 n19 c19,W A20 n20 c20]) 0 J J agg35.out J) ?_;refine gW (aq (us:=[iV x18.Kind,iV x18.Shape,iV x18.Flags,iV x18.Age,W A19 n19 c19,W A20 n20 c20]) (cs':=[iV x18.Kind,iV x18.Shape,iV x18.Flags,iV x18.Age,W A19 n19 c19,W A20 n20 c20]) 3 J J J J size35.out J J J) ?_;refine eh ?_;refine Y ?_;obtain rfl:=bw h;exact dt (rs:=[.cell 4 35]) (vs:=[.agg #[iV x18.Kind,iV x18.Shape,iV x18.Flags,iV x18.Age,W A19 n19 c19,W A20 n20 c20]]) J (.cons (bd 3 J J agg35.out) .nil) J (cS [1,2] 7) ⟨_,_,_,_,_,_,J,J⟩
def ws (N:Nat)(a1:Qq)(p6:Qq):Option Qq:=
 aZ (bi (p6.length+a1.length)) (some (p6++a1))
def nQ (N:Nat)(a1:Qq)(a0:Qg):Nat->Qq->Int->Option Qq
 |0,_,_=>none
 |m7+1,p8,p9=>bif decide (p9<(a0.Old.length:Int)) then (aZ (in64 (2*p9)) (aZ (in64 ((2*p9)+2)) (aZ (bi (p8.length+([(2*p9)+2]:List Int).length)) (aZ (in64 (p9+1)) ((nQ N a1 a0 m7) (p8++([(2*p9)+2]:List Int)) (p9+1)))))) else (ws N a1 p8)
def rL (N:Nat)(a0:Qg)(a1:Qq):Option Qq:=
 nQ N a1 a0 N [] 0
theorem Bc {N:Nat}{a0:Qg}{a1:Qq}{r:Qq}(h:rL N a0 a1=some r):Okc QB 108 [.agg #[W A1 n1 c1,W A2 n2 c2],W A3 n3 c3] ([aK A1 n1 c1 a0.Young,aK A2 n2 c2 a0.Old,bV A3 n3 c3 a1]) (fun u post=> ∃A0 n0 c0,u=W A0 n0 c0/\post=[bS A0 n0 c0 r]):=by
 refine cQ Tryz.func108 ?_;intro B4;refine ae ?_;refine am (fun s L=> ∃p6 A6 n6 c6,ws N a1 p6=some r/\s=[(1,W A3 n3 c3),(4,W none 0 0),(5,W A6 n6 c6)]/\L=[bV A3 n3 c3 a1,bS A6 n6 c6 p6]) ?_ ?_
 ·refine ae ?_;refine aH (fun m s L=> ∃p8 p9 A8 n8 c8,nQ N a1 a0 m p8 p9=some r/\s=[(1,W A3 n3 c3),(2,pV B4 0),(4,W none 0 0),(5,W A8 n8 c8),(6,iV p9)]/\L=[bV A3 n3 c3 a1,bS A8 n8 c8 p8,aK A1 n1 c1 a0.Young,aK A2 n2 c2 a0.Old,ah B4 29 [W A1 n1 c1,W A2 n2 c2]]) N _ _ ⟨[],0,none,0,0,h,J,J⟩ sA ((aD (da .i64) 3 _).trans (cS [4,0,2,3,1] 5)) ?_;rintro (_|m7) _ _ ⟨p8,p9,A8,n8,c8,h,rfl,rfl⟩
  ·exact aj h
  rw [nQ.eq_2] at h;refine sZ ?_;refine gH J h ?_ ?_<;>intro h
  ·refine sY ?_;obtain ⟨q12,h⟩:=ad h;refine gE (kA J J q12.1 q12.2) ?_;obtain ⟨q13,h⟩:=ad h;refine ae ?_;refine gD (aG (R:=(da .i64)) (vss:=[[iV ((2*p9)+2)]]) (xs:=[(2*p9)+2]) J (dp _) J J (fun _ _ hr=> .cons J All2.nil)) ?_;rintro _ _ ⟨A14,n14,c14,rfl,rfl⟩;obtain ⟨q15,h⟩:=ad h
   refine iE (ar 2 0 J J ap J J Ex uE J J q15) fun A16 n16 c16=> ?_
   obtain ⟨q17,h⟩:=ad h;exact lY
  exact jY
 rintro _ _ ⟨p6,A6,n6,c6,h,rfl,rfl⟩;refine ae ?_;obtain ⟨q18,h⟩:=ad h
 refine iE (ar 1 0 J J ao J J Ex uE J J q18) fun A19 n19 c19=> ?_
 exact eN
theorem DE {r:Qq}: ∀v post,((fun (u:Value) (post:List Chunk)=> ∃A0 n0 c0,u=W A0 n0 c0/\post=[bS A0 n0 c0 r])) v post-> ∀c∈post,fu c:=by
 rintro _ _ ⟨_,_,_,rfl,rfl⟩;exact hU gr (ax)
def wy (N:Nat)(a0:Ql):Option Bool:=
 (bif decide (a0.Kind=8) then ((cy N a0).bind fun y5=>some y5) else (some false)).bind fun b4=>some b4
theorem DX {N:Nat}{a0:Ql}{r:Bool}(h:wy N a0=some r):Okc QB 169 [.agg #[iV a0.Kind,iV a0.Shape,iV a0.Flags,iV a0.Age,W A1 n1 c1,W A2 n2 c2]] ([az A1 n1 c1 a0.Slots,az A2 n2 c2 a0.More]) (fun u post=>u=.bool r/\post=[]):=by
 refine cQ Tryz.func169 ?_;intro B3;refine ae ?_;obtain ⟨b4,hb4,h⟩:=aa h;refine aQ 3 9 b4 ?_ ?_
 ·clear h;refine aM 6 J (fun g4=> ?_) (fun g4=> ?_)
  ·have h:=aE g4 hb4;refine ae ?_;obtain ⟨y5,k,h⟩:=aa h;refine gU (oR (mw k)) (bx g4 J) ?_;exact gY
  have h:=aF g4 hb4;exact gY
 exact eY
def uU (N:Nat)(p6:Qq):Option Qq:=
 some p6
def pF (N:Nat)(kb7:Qq->Int->Option Qq)(p9:Int)(a1:Qq)(a0:Ql)(p15:Qq):Option Qq:=
 aZ (in64 (p9+2)) (kb7 p15 (p9+2))
def mu (N:Nat)(a1:Qq)(a0:Ql):Nat->Qq->Int->Option Qq
 |0,_,_=>none
 |m7+1,p8,p9=>(wy N a0).bind fun y11=>(bif y11 then (some (decide (p9<(a0.More.length:Int)))) else (some false)).bind fun b12=>bif b12 then (aZ (in64 (p9+1)) ((aw a0.More (p9+1)).bind fun x17=>(aw a0.More p9).bind fun x19=>(qi N x19.N a1).bind fun y20=>(bif y20 then ((bif decide (x17.Kind=7) then (some true) else (some (decide (x17.Kind=9)))).bind fun b22=>some b22) else (some false)).bind fun b21=>bif b21 then (aZ (bi (p8.length+([x17.N]:List Int).length)) (pF N (mu N a1 a0 m7) p9 a1 a0 (p8++([x17.N]:List Int)))) else (pF N (mu N a1 a0 m7) p9 a1 a0 p8))) else (uU N p8)
def qh (N:Nat)(a0:Ql)(a1:Qq):Option Qq:=
 mu N a1 a0 N [] 0
theorem zw {N:Nat}{a0:Ql}{a1:Qq}{r:Qq}(h:qh N a0 a1=some r):Okc QB 188 [.agg #[iV a0.Kind,iV a0.Shape,iV a0.Flags,iV a0.Age,W A1 n1 c1,W A2 n2 c2],W A3 n3 c3] ([az A1 n1 c1 a0.Slots,az A2 n2 c2 a0.More,bV A3 n3 c3 a1]) (fun u post=> ∃A0 n0 c0,u=W A0 n0 c0/\post=[bS A0 n0 c0 r]):=by
 refine cQ Tryz.func188 ?_;intro B4;refine ae ?_;refine am (fun s L=> ∃p6 A6 n6 c6,uU N p6=some r/\s=[(4,W none 0 0),(5,W A6 n6 c6)]/\L=[bS A6 n6 c6 p6]) ?_ ?_
 ·refine ae ?_;refine aH (fun m s L=> ∃p8 p9 A8 n8 c8,mu N a1 a0 m p8 p9=some r/\s=[(1,W A3 n3 c3),(2,pV B4 0),(4,W none 0 0),(5,W A8 n8 c8),(6,iV p9)]/\L=[bV A3 n3 c3 a1,bS A8 n8 c8 p8,az A1 n1 c1 a0.Slots,az A2 n2 c2 a0.More,ah B4 35 [iV a0.Kind,iV a0.Shape,iV a0.Flags,iV a0.Age,W A1 n1 c1,W A2 n2 c2]]) N _ _ ⟨[],0,none,0,0,h,J,J⟩ sA ((aD (da .i64) 3 _).trans (cS [4,0,2,3,1] 5)) ?_;rintro (_|m7) _ _ ⟨p8,p9,A8,n8,c8,h,rfl,rfl⟩
  ·exact aj h
  rw [mu.eq_2] at h;refine sZ ?_;obtain ⟨y11,k,h⟩:=aa h;refine kw (oR (DX k)) ?_;refine gS 6 16 10 h ?_;intro b12 h;refine ew h ?_ ?_<;>intro h
  ·refine ae ?_;refine am (fun s L=> ∃p15 A15 n15 c15,pF N (mu N a1 a0 m7) p9 a1 a0 p15=some r/\s=[(1,W A3 n3 c3),(2,pV B4 0),(4,W none 0 0),(5,W A15 n15 c15),(6,iV p9)]/\L=[bV A3 n3 c3 a1,bS A15 n15 c15 p15,az A1 n1 c1 a0.Slots,az A2 n2 c2 a0.More,ah B4 35 [iV a0.Kind,iV a0.Shape,iV a0.Flags,iV a0.Age,W A1 n1 c1,W A2 n2 c2]]) ?_ ?_
   ·refine ae ?_;obtain ⟨q16,h⟩:=ad h;refine ae ?_;obtain ⟨x17,lx17,ux17,hx17,h⟩:=aU h
    refine gg fun B18=> ?_
    obtain ⟨x19,lx19,ux19,hx19,h⟩:=aU h;refine ae ?_;refine zX (mJ 4 J ao J (bc lx19 ux19) kx) ?_;obtain ⟨y20,k,h⟩:=aa h;refine kw (oR (rk k)) ?_;obtain ⟨b21,hb21,h⟩:=aa h;refine aQ 9 42 b21 ?_ ?_
    ·clear h;refine aM 33 J (fun g21=> ?_) (fun g21=> ?_)
     ·have h:=aE g21 hb21;refine ae ?_;refine gS 4 41 37 h ?_;intro b22 h;exact gY
     have h:=aF g21 hb21;exact gY
    refine ew h ?_ ?_<;>intro h
    ·refine ae ?_;refine gD (aG (R:=(da .i64)) (vss:=[[iV x17.N]]) (xs:=[x17.N]) J (dp _) J J (fun _ _ hr=> .cons J All2.nil)) ?_;rintro _ _ ⟨A24,n24,c24,rfl,rfl⟩;obtain ⟨q25,h⟩:=ad h
     refine iE (ar 3 0 J J ap J J Ex uE J J q25) fun A26 n26 c26=> ?_
     exact jN
    exact jY
   rintro _ _ ⟨p15,A15,n15,c15,h,rfl,rfl⟩;refine ae ?_;obtain ⟨q27,h⟩:=ad h;exact lY
  exact jY
 rintro _ _ ⟨p6,A6,n6,c6,h,rfl,rfl⟩;exact eY
theorem CH {r:Qq}: ∀v post,((fun (u:Value) (post:List Chunk)=> ∃A0 n0 c0,u=W A0 n0 c0/\post=[bS A0 n0 c0 r])) v post-> ∀c∈post,fu c:=by
 rintro _ _ ⟨_,_,_,rfl,rfl⟩;exact hU gr (ax)
def uP (N:Nat)(kb29:Qq->Int->Option Qq)(p34:Int)(a2:Qq)(p33:Qq)(a0:Qg)(p51:Qq):Option Qq:=
 bif decide ((p51.length:Int)=((List.take p33.length p51).length:Int)) then (some (List.take p33.length p51)) else (kb29 p51 p34)
def ov (N:Nat)(kb29:Qq->Int->Option Qq)(kb52:Qq->Int->Option Qq)(p34:Int)(p54:Int)(a2:Qq)(y48:Qq)(p53:Qq)(p33:Qq)(a0:Qg)(p58:Int):Option Qq:=
 (qb N a0 p58).bind fun y63=>(qh N y63 y48).bind fun y66=>(lP N p53 y66).bind fun y68=>aZ (in64 (p54+1)) (kb52 y68 (p54+1))
def gw (N:Nat)(kb29:Qq->Int->Option Qq)(p34:Int)(a2:Qq)(y48:Qq)(p33:Qq)(a0:Qg):Nat->Qq->Int->Option Qq
 |0,_,_=>none
 |m52+1,p53,p54=>aZ (in64 ((a2.length:Int)+((List.take p33.length p53).length:Int))) (bif decide (p54<(a2.length:Int)+((List.take p33.length p53).length:Int)) then (bif decide (p54<(a2.length:Int)) then ((aw a2 p54).bind fun x60=>ov N kb29 (gw N kb29 p34 a2 y48 p33 a0 m52) p34 p54 a2 y48 p53 p33 a0 x60) else (aZ (in64 (p54 - (a2.length:Int))) ((aw (List.take p33.length p53) (p54 - (a2.length:Int))).bind fun x62=>ov N kb29 (gw N kb29 p34 a2 y48 p33 a0 m52) p34 p54 a2 y48 p53 p33 a0 x62))) else (uP N kb29 p34 a2 p33 a0 p53))
def ox (N:Nat)(kb29:Qq->Int->Option Qq)(a2:Qq)(a0:Qg)(p33:Qq)(p34:Int):Option Qq:=
 (rL N a0 p33).bind fun y48=>gw N kb29 p34 a2 y48 p33 a0 N p33 0
def mq (N:Nat)(kb29:Qq->Int->Option Qq)(a2:Qq)(a0:Qg):Nat->Qq->Int->Option Qq
 |0,_,_=>none
 |m35+1,p36,p37=>bif decide (p37<(p36.length:Int)) then ((aw p36 p37).bind fun x39=>(qb N a0 x39).bind fun y40=>(dN N y40).bind fun y43=>(lP N p36 y43).bind fun y45=>aZ (in64 (p37+1)) ((mq N kb29 a2 a0 m35) y45 (p37+1))) else (ox N kb29 a2 a0 p36 p37)
def d8 (N:Nat)(a2:Qq)(a0:Qg):Nat->Qq->Int->Option Qq
 |0,_,_=>none
 |m29+1,p30,p31=>mq N (d8 N a2 a0 m29) a2 a0 N p30 p31
def uQ (N:Nat)(a2:Qq)(a0:Qg)(p15:Qq):Option Qq:=
 d8 N a2 a0 N p15 0
def kl (N:Nat)(a2:Qq)(a0:Qg):Nat->Qq->Int->Option Qq
 |0,_,_=>none
 |m16+1,p17,p18=>bif decide (p18<(a2.length:Int)) then ((aw a2 p18).bind fun x20=>(qb N a0 x20).bind fun y21=>(dN N y21).bind fun y24=>(lP N p17 y24).bind fun y26=>aZ (in64 (p18+1)) ((kl N a2 a0 m16) y26 (p18+1))) else (uQ N a2 a0 p17)
def rK (N:Nat)(a0:Qg)(a1:Qr)(a2:Qq):Option Qq:=
 (uf N a0 a1 a2).bind fun y6=>bif !y6 then (some []) else ((pZ N a1).bind fun y9=>(lP N ([]:List Int) y9).bind fun y12=>kl N a2 a0 N y12 0)
theorem FY {N:Nat}{a0:Qg}{a1:Qr}{a2:Qq}{r:Qq}(h:rK N a0 a1 a2=some r):Okc QB 163 [.agg #[W A1 n1 c1,W A2 n2 c2],W A3 n3 c3,W A4 n4 c4] ([aK A1 n1 c1 a0.Young,aK A2 n2 c2 a0.Old,az A3 n3 c3 a1,bV A4 n4 c4 a2]) (fun u post=> ∃A0 n0 c0,u=W A0 n0 c0/\post=[bV A0 n0 c0 r]):=by
 refine rQ Tryz.func163 J J ?_;simp only [jr];refine Y ?_
 refine gB (nH J J) fun B5=> ?_
 refine Y ?_;refine ay ?_;refine Y ?_;refine gR (aR (us:=[W A1 n1 c1,W A2 n2 c2]) 0 J J agg29.out J) ?_;refine Y ?_;obtain ⟨y6,k,h⟩:=aa h;refine gV (ba (CA k) call106.out J (hU (aJ (i:=1) J J) (hU (aJ (i:=2) J J) (hU (aJ (i:=3) J J) (hU (aJ (i:=4) J J) ax)))) E7) ?_;refine Y ?_;refine gH J h ?_ ?_<;>intro h
 ·refine Y ?_;obtain rfl:=bw h;exact js J J ((cq (da .i64) _).trans (cS [0] 6)) ⟨_,_,_,J,J⟩
 refine Y ?_;obtain ⟨y9,k,h⟩:=aa h;refine gD (ba (zn k) call186.out J (hU (aJ (i:=3) J J) ax) wr) ?_;rintro _ _ ⟨_,⟨A10,n10,c10,rfl,rfl⟩,rfl⟩;refine lp (aD (da .i64) 3 _) ?_;refine lp (aY 1 J) ?_;obtain ⟨y12,k,h⟩:=aa h;refine gD (gz (wn k) call187.out J (ce [1] [0] [1,2,3,4,5,6] 7 J)) ?_;rintro _ _ ⟨_,⟨A13,n13,c13,rfl,rfl⟩,rfl⟩;refine Y ?_;refine am (fun s L=> ∃p15 A15 n15 c15,uQ N a2 a0 p15=some r/\s=[(2,W A4 n4 c4),(3,pV B5 0),(6,W none 0 0),(7,W A15 n15 c15)]/\L=[bV A4 n4 c4 a2,bS A15 n15 c15 p15,aK A1 n1 c1 a0.Young,aK A2 n2 c2 a0.Old,ah B5 29 [W A1 n1 c1,W A2 n2 c2]]) ?_ ?_
 ·refine Y ?_;refine aH (fun m s L=> ∃p17 p18 A17 n17 c17,kl N a2 a0 m p17 p18=some r/\s=[(2,W A4 n4 c4),(3,pV B5 0),(6,W none 0 0),(7,W A17 n17 c17),(8,iV p18)]/\L=[bV A4 n4 c4 a2,bS A17 n17 c17 p17,aK A1 n1 c1 a0.Young,aK A2 n2 c2 a0.Old,ah B5 29 [W A1 n1 c1,W A2 n2 c2]]) N _ _ ⟨y12,0,A13,n13,c13,h,J,J⟩ sA (cS [6,0,3,4,2] 7) ?_;rintro (_|m16) _ _ ⟨p17,p18,A17,n17,c17,h,rfl,rfl⟩
  ·exact aj h
  rw [kl.eq_2] at h;refine ay ?_;refine Y ?_;refine gR (cC 0 J ao J Ex) ?_;refine Y ?_;refine gH J h ?_ ?_<;>intro h
  ·refine Y ?_;refine ay ?_;refine nA ?_;refine bm I ([bV A4 n4 c4 a2,aK A1 n1 c1 a0.Young,aK A2 n2 c2 a0.Old,ah B5 29 [W A1 n1 c1,W A2 n2 c2]]) (cS [0,2,3,4] 5) ?_;refine zE 0 J (ai J) ?_;refine zR 1 J (aR (us:=[W A1 n1 c1,W A2 n2 c2]) 3 J J agg29.out J) ?_;refine zE 2 J (ai J) ?_;refine zE 3 J (ai J) ?_;obtain ⟨x20,lx20,ux20,hx20,h⟩:=aU h;refine zR 4 J (bf 0 J ao J J Ex size3.out lx20 ux20) ?_;refine zR 5 J (bF (u:=iV x20) 0 J ao J hx20 ex (fun _ _ _ h=>by rw [show _=_ from h];rfl)) ?_;obtain ⟨y21,k,h⟩:=aa h;refine zD 6 J (gz (uh k) call113.out J (ce [2,3] [] [0,1,2,3,4] 5 J)) ?_;rintro _ _ ⟨_,⟨A22,n22,c22,A23,n23,c23,rfl,rfl⟩,rfl⟩;refine ⟨_,cS [0,1,2,4,5,6] 7,(cv_tl).trans (cv_tl),?_⟩;obtain ⟨y24,k,h⟩:=aa h;refine zD 7 J (ba (gy k) call47.out J (hU (aJ (i:=0) J J) (hU (aJ (i:=1) J J) ax)) jG) ?_;rintro _ _ ⟨_,⟨A25,n25,c25,rfl,rfl⟩,rfl⟩;refine bq (cS [1,2,3,5,6,7] 8) ?_;refine vP (aY 0 J) (cS [1,2,3,5,6,7] 8) ?_;obtain ⟨y26,k,h⟩:=aa h;refine zD 8 J (gz (wn k) call187.out J (ce [0] [4] [0,1,2,3,5,6,7] 8 J)) ?_;rintro _ _ ⟨_,⟨A27,n27,c27,rfl,rfl⟩,rfl⟩;refine bq (cS [2,3,4,5,6,7] 8) ?_;refine zE 9 J (av J) ?_;refine bv I ?_;refine Y ?_;obtain ⟨q28,h⟩:=ad h;refine gE (cr J J q28.1 q28.2) ?_;refine Y ?_;exact ⟨m16,_,_,Qu _,⟨y26,p18+1,A27,n27,c27,h,J,J⟩,sA,cS [4,0,5,6,7] 8⟩
  refine Y ?_;exact ⟨_,_,⟨p17,A17,n17,c17,h,J,J⟩,sA,cS [0,1,2,3,4] 5⟩
 rintro _ _ ⟨p15,A15,n15,c15,h,rfl,rfl⟩;refine Y ?_;refine aH (fun m s L=> ∃p30 p31 A30 n30 c30,d8 N a2 a0 m p30 p31=some r/\s=[(2,W A4 n4 c4),(3,pV B5 0),(6,W none 0 0),(7,W A30 n30 c30),(9,iV p31)]/\L=[bV A4 n4 c4 a2,bS A30 n30 c30 p30,aK A1 n1 c1 a0.Young,aK A2 n2 c2 a0.Old,ah B5 29 [W A1 n1 c1,W A2 n2 c2]]) N _ _ ⟨p15,0,A15,n15,c15,h,J,J⟩ sA (cS [0,1,2,3,4] 5) ?_;rintro (_|m29) _ _ ⟨p30,p31,A30,n30,c30,h,rfl,rfl⟩
 ·exact aj h
 rw [d8.eq_2] at h;refine nA ?_;refine am (fun s L=> ∃p33 p34 A33 n33 c33,ox N (d8 N a2 a0 m29) a2 a0 p33 p34=some r/\s=[(2,W A4 n4 c4),(3,pV B5 0),(6,W none 0 0),(7,W A33 n33 c33),(9,iV p34)]/\L=[bV A4 n4 c4 a2,bS A33 n33 c33 p33,aK A1 n1 c1 a0.Young,aK A2 n2 c2 a0.Old,ah B5 29 [W A1 n1 c1,W A2 n2 c2]]) ?_ ?_
 ·refine nA ?_;refine aH (fun m s L=> ∃p36 p37 A36 n36 c36,mq N (d8 N a2 a0 m29) a2 a0 m p36 p37=some r/\s=[(2,W A4 n4 c4),(3,pV B5 0),(6,W none 0 0),(7,W A36 n36 c36),(9,iV p37)]/\L=[bV A4 n4 c4 a2,bS A36 n36 c36 p36,aK A1 n1 c1 a0.Young,aK A2 n2 c2 a0.Old,ah B5 29 [W A1 n1 c1,W A2 n2 c2]]) N _ _ ⟨p30,p31,A30,n30,c30,h,J,J⟩ sA (cS [0,1,2,3,4] 5) ?_;rintro (_|m35) _ _ ⟨p36,p37,A36,n36,c36,h,rfl,rfl⟩
  ·exact aj h
  rw [mq.eq_2] at h;refine ay ?_;refine Y ?_;refine gR (cC 1 J ap J Ex) ?_;refine Y ?_;refine gH J h ?_ ?_<;>intro h
  ·refine Y ?_;refine ay ?_;obtain ⟨x39,lx39,ux39,hx39,h⟩:=aU h;refine dB (t:=[(2,W A4 n4 c4),(3,pV B5 0),(6,W none 0 0),(7,W A36 n36 c36),(9,iV p37)]) ?_ fv (ab _)
   refine dF I 6 [0] [0,1,5] [41,42,43,44,45,46] [[],[],[],[],[2,3],[4]] [aV (W A36 n36 c36),
aV (.agg #[W A1 n1 c1,W A2 n2 c2]),
aV (W A36 n36 c36),
aV (iV p37),
aV (dj (W A36 n36 c36) p37.toNat 1 0),
aV (iV x39)] [] (ab _) (uY rfl fj) I rfl rfl ?_ ?_ ?_
   ·refine uX J ?_ ?_
    ·exact Dt (ai J) J (aP J (ab _))
    exact fi
   ·refine ac J ?_ ?_
    ·exact cB (bF (u:=iV x39) 1 J ap J hx39 ex (fun _ _ _ h=>by rw [show _=_ from h];rfl)) J (aP J (ab _))
    refine ac J ?_ ?_
    ·exact cB (bf 1 J ap J J Ex size3.out lx39 ux39) J (aP J (ab _))
    refine ac J ?_ ?_
    ·exact bN (ai J) J (aP J (ab _))
    refine ac J ?_ ?_
    ·exact bN (ai J) J (aP J (ab _))
    refine ac J ?_ ?_
    ·exact cB (aR (us:=[W A1 n1 c1,W A2 n2 c2]) 4 J J agg29.out J) J (aP J (ab _))
    refine ac J ?_ ?_
    ·exact bN (ai J) J (aP J (ab _))
    exact cp
   refine gu (t:=[(41,W A36 n36 c36),(42,.agg #[W A1 n1 c1,W A2 n2 c2]),(46,iV x39),(2,W A4 n4 c4),(3,pV B5 0),(6,W none 0 0),(7,W A36 n36 c36),(9,iV p37)]) (L':=[bV A4 n4 c4 a2,bS A36 n36 c36 p36,aK A1 n1 c1 a0.Young,aK A2 n2 c2 a0.Old,ah B5 29 [W A1 n1 c1,W A2 n2 c2]]) ?_ fv (ab _);obtain ⟨y40,k,h⟩:=aa h;refine jt 6 J I (gz (uh k) call113.out J (ce [2,3] [] [0,1,2,3,4] 5 J)) J J J ?_;rintro _ _ ⟨_,⟨A41,n41,c41,A42,n42,c42,rfl,rfl⟩,rfl⟩;refine sU ?_;obtain ⟨y43,k,h⟩:=aa h;refine jt 7 J I (ba (gy k) call47.out J (hU (aJ (i:=0) J J) (hU (aJ (i:=1) J J) ax)) jG) J J J ?_;rintro _ _ ⟨_,⟨A44,n44,c44,rfl,rfl⟩,rfl⟩;refine gu ?_ aW (aY 0 J);obtain ⟨y45,k,h⟩:=aa h;refine jt 8 J I (gz (wn k) call187.out J (ce [0] [4] [0,1,2,3,5,6,7] 8 J)) J J J ?_;rintro _ _ ⟨_,⟨A46,n46,c46,rfl,rfl⟩,rfl⟩;refine rc 9 J I (av J) J J J ?_;refine ft I ?_;refine Y ?_;obtain ⟨q47,h⟩:=ad h;refine gE (cr J J q47.1 q47.2) ?_;refine Y ?_;exact ⟨m35,_,_,Qu _,⟨y45,p37+1,A46,n46,c46,h,J,J⟩,sA,cS [4,0,5,6,7] 8⟩
  refine Y ?_;exact ⟨_,_,⟨p36,p37,A36,n36,c36,h,J,J⟩,sA,cS [0,1,2,3,4] 5⟩
 rintro _ _ ⟨p33,p34,A33,n33,c33,h,rfl,rfl⟩;refine Y ?_;refine gR (aR (us:=[W A1 n1 c1,W A2 n2 c2]) 4 J J agg29.out J) ?_;refine Y ?_;obtain ⟨y48,k,h⟩:=aa h;refine gD (ba (Bc k) call108.out J (hU (aJ (i:=2) J J) (hU (aJ (i:=3) J J) (hU (cM (i:=1) J) ax))) DE) ?_;rintro _ _ ⟨_,⟨A49,n49,c49,rfl,rfl⟩,rfl⟩;refine Ny ?_;refine It ?_;refine wF ?_;refine ay ?_;refine dB ?_ aW (KE 2 J);refine Md ?_;refine Y ?_;refine am (fun s L=> ∃p51 A51 n51 c51,uP N (d8 N a2 a0 m29) p34 a2 p33 a0 p51=some r/\s=[(2,W A4 n4 c4),(3,pV B5 0),(6,W none 0 0),(7,W A33 n33 c33),(9,iV p34),(11,W A51 n51 c51)]/\L=[bV A4 n4 c4 a2,ga (da .i64) 3 (W A51 n51 c51) p51 (W A33 n33 c33) p33.length,aK A1 n1 c1 a0.Young,aK A2 n2 c2 a0.Old,ah B5 29 [W A1 n1 c1,W A2 n2 c2]]) ?_ ?_
 ·refine Y ?_;refine aH (fun m s L=> ∃p53 p54 A53 n53 c53,gw N (d8 N a2 a0 m29) p34 a2 y48 p33 a0 m p53 p54=some r/\s=[(2,W A4 n4 c4),(3,pV B5 0),(6,W none 0 0),(7,W A33 n33 c33),(9,iV p34),(10,W A49 n49 c49),(11,W A53 n53 c53),(12,iV p54)]/\L=[bV A4 n4 c4 a2,bS A49 n49 c49 y48,ga (da .i64) 3 (W A53 n53 c53) p53 (W A33 n33 c33) p33.length,aK A1 n1 c1 a0.Young,aK A2 n2 c2 a0.Old,ah B5 29 [W A1 n1 c1,W A2 n2 c2]]) N _ _ ⟨p33,0,A33,n33,c33,h,J,J⟩ sA (cS [1,0,2,3,4,5] 6) ?_;rintro (_|m52) _ _ ⟨p53,p54,A53,n53,c53,h,rfl,rfl⟩
  ·exact aj h
  rw [gw.eq_2] at h;refine ay ?_;refine Y ?_;refine gR (cC 0 J ao J Ex) ?_;refine Y ?_;refine gR (cC 2 J sc J Ex) ?_;obtain ⟨q55,h⟩:=ad h;refine gE (cr J J q55.1 q55.2) ?_;refine Y ?_;refine gH J h ?_ ?_<;>intro h
  ·refine Y ?_;refine ay ?_;refine Y ?_;refine am (fun s L=> ∃p58,ov N (d8 N a2 a0 m29) (gw N (d8 N a2 a0 m29) p34 a2 y48 p33 a0 m52) p34 p54 a2 y48 p53 p33 a0 p58=some r/\s=[(2,W A4 n4 c4),(3,pV B5 0),(6,W none 0 0),(7,W A33 n33 c33),(9,iV p34),(10,W A49 n49 c49),(11,W A53 n53 c53),(12,iV p54),(13,iV p58)]/\L=[bV A4 n4 c4 a2,bS A49 n49 c49 y48,ga (da .i64) 3 (W A53 n53 c53) p53 (W A33 n33 c33) p33.length,aK A1 n1 c1 a0.Young,aK A2 n2 c2 a0.Old,ah B5 29 [W A1 n1 c1,W A2 n2 c2]]) ?_ ?_
   ·refine Y ?_;refine gR (cC 0 J ao J Ex) ?_;refine Y ?_;refine gH J h ?_ ?_<;>intro h
    ·refine Y ?_;obtain ⟨x60,lx60,ux60,hx60,h⟩:=aU h;refine gR (bf 0 J ao J J Ex size3.out lx60 ux60) ?_;refine gR (bF (u:=iV x60) 0 J ao J hx60 ex (fun _ _ _ h=>by rw [show _=_ from h];rfl)) ?_;refine Y ?_;exact ⟨_,_,⟨x60,h,J,J⟩,sA,cS [0,1,2,3,4,5] 6⟩
    refine Y ?_;refine gR (cC 0 J ao J Ex) ?_;obtain ⟨q61,h⟩:=ad h;refine gE (tL J J q61.1 q61.2) ?_;obtain ⟨x62,lx62,ux62,hx62,h⟩:=aU h;refine gR (bf 2 J sc J J Ex size3.out lx62 ux62) ?_;refine gR (bF (u:=iV x62) 2 J sc J hx62 ex (fun _ _ _ h=>by rw [show _=_ from h];rfl)) ?_;refine Y ?_;exact ⟨_,_,⟨x62,h,J,J⟩,sA,cS [0,1,2,3,4,5] 6⟩
   rintro _ _ ⟨p58,h,rfl,rfl⟩;refine Y ?_;refine gR (aR (us:=[W A1 n1 c1,W A2 n2 c2]) 5 J J agg29.out J) ?_;refine Y ?_;obtain ⟨y63,k,h⟩:=aa h;refine gD (gz (uh k) call113.out J (ce [3,4] [] [0,1,2,3,4,5] 6 J)) ?_;rintro _ _ ⟨_,⟨A64,n64,c64,A65,n65,c65,rfl,rfl⟩,rfl⟩;refine Y ?_;obtain ⟨y66,k,h⟩:=aa h;refine gD (ba (zw k) call188.out J (hU (aJ (i:=0) J J) (hU (aJ (i:=1) J J) (hU (cM (i:=3) J) ax))) CH) ?_;rintro _ _ ⟨_,⟨A67,n67,c67,rfl,rfl⟩,rfl⟩;refine lp (aY 0 J) ?_;obtain ⟨y68,k,h⟩:=aa h;refine gD (gz (DC k) call187.out J (ce [0] [5] [0,1,2,3,4,6,7,8] 9 J)) ?_;rintro _ _ ⟨_,⟨A69,n69,c69,rfl,rfl⟩,rfl⟩;refine eh ?_;refine Y ?_;obtain ⟨q70,h⟩:=ad h;refine gE (cr J J q70.1 q70.2) ?_;refine Y ?_;exact ⟨m52,_,_,Qu _,⟨y68,p54+1,A69,n69,c69,h,J,J⟩,sA,cS [4,5,0,6,7,8] 9⟩
  refine Y ?_;exact ⟨_,_,⟨p53,A53,n53,c53,h,J,J⟩,sA,cS [0,2,3,4,5] 6⟩
 rintro _ _ ⟨p51,A51,n51,c51,h,rfl,rfl⟩;refine ay ?_;refine Y ?_;refine gR (cC 1 J Di J Ex) ?_;refine Y ?_;refine gR (cC 1 J sc J Ex) ?_;refine Y ?_;refine gH J h ?_ ?_<;>intro h
 ·refine ay ?_;refine dB ?_ aW (KC 1 J);refine Y ?_;obtain rfl:=bw h;exact js J J (cS [1] 5) ⟨_,_,_,J,J⟩
 refine Y ?_;exact ⟨m29,_,_,Qu _,⟨p51,p34,A51,n51,c51,h,J,J⟩,sA,(EA 1 J).trans (cS [0,1,2,3,4] 5)⟩
def yh (N:Nat)(y6:Qq)(p9:Qq):Option (Qq×Qq):=
 some (y6,p9)
def ou (N:Nat)(kb10:Qq->Int->Int->Int->Option (Qq×Qq))(p14:Int)(y6:Qq)(a0:Qg)(p18:Qq)(p19:Int)(p20:Int):Option (Qq×Qq):=
 aZ (in64 (p14+1)) (kb10 p18 p19 p20 (p14+1))
def fK (N:Nat)(y6:Qq)(a0:Qg):Nat->Qq->Int->Int->Int->Option (Qq×Qq)
 |0,_,_,_,_=>none
 |m10+1,p11,p12,p13,p14=>bif decide (p14<(y6.length:Int)) then ((aw y6 p14).bind fun x21=>(qb N a0 x21).bind fun y22=>bif decide (y22.Age=0) then (aZ (in64 (2*p12)) (aZ (in64 ((2*p12)+1)) (aZ (bi (p11.length+([(2*p12)+1]:List Int).length)) (aZ (in64 (p12+1)) (ou N (fK N y6 a0 m10) p14 y6 a0 (p11++([(2*p12)+1]:List Int)) (p12+1) p13))))) else (aZ (in64 (2*p13)) (aZ (in64 ((2*p13)+2)) (aZ (bi (p11.length+([(2*p13)+2]:List Int).length)) (aZ (in64 (p13+1)) (ou N (fK N y6 a0 m10) p14 y6 a0 (p11++([(2*p13)+2]:List Int)) p12 (p13+1))))))) else (yh N y6 p11)
def qS (N:Nat)(a0:Qg)(a1:Qr)(a2:Qq):Option (Qq×Qq):=
 (rK N a0 a1 a2).bind fun y6=>fK N y6 a0 N [] 0 (a0.Old.length:Int) 0
theorem DD {N:Nat}{a0:Qg}{a1:Qr}{a2:Qq}{r:Qq×Qq}(h:qS N a0 a1 a2=some r):Okc QB 107 [.agg #[W A1 n1 c1,W A2 n2 c2],W A3 n3 c3,W A4 n4 c4] ([aK A1 n1 c1 a0.Young,aK A2 n2 c2 a0.Old,az A3 n3 c3 a1,bV A4 n4 c4 a2]) (fun u post=> ∃A0 n0 c0 A1 n1 c1,u=.tuple #[W A0 n0 c0,W A1 n1 c1]/\post=[bV A0 n0 c0 r.1,bS A1 n1 c1 r.2]):=by
 refine cQ Tryz.func107 ?_;intro B5;refine ae ?_;obtain ⟨y6,k,h⟩:=aa h
 refine iE (oC (FY k)) fun A7 n7 c7=> ?_
 refine ay ?_;refine bm I _ (ab _) ?_;refine ae ?_;refine am (fun s L=> ∃p9 A9 n9 c9,yh N y6 p9=some r/\s=[(6,W none 0 0),(7,W none 0 0),(8,W A7 n7 c7),(9,W A9 n9 c9)]/\L=[bV A7 n7 c7 y6,bS A9 n9 c9 p9]) ?_ ?_
 ·refine ae ?_;refine aH (fun m s L=> ∃p11 p12 p13 p14 A11 n11 c11,fK N y6 a0 m p11 p12 p13 p14=some r/\s=[(3,pV B5 0),(6,W none 0 0),(7,W none 0 0),(8,W A7 n7 c7),(9,W A11 n11 c11),(10,iV p12),(11,iV p13),(12,iV p14)]/\L=[bV A7 n7 c7 y6,bS A11 n11 c11 p11,aK A1 n1 c1 a0.Young,aK A2 n2 c2 a0.Old,ah B5 29 [W A1 n1 c1,W A2 n2 c2]]) N _ _ ⟨[],0,(a0.Old.length:Int),0,none,0,0,h,J,J⟩ sA ((aD (da .i64) 3 _).trans (cS [1,0,3,4,2] 7)) ?_;rintro (_|m10) _ _ ⟨p11,p12,p13,p14,A11,n11,c11,h,rfl,rfl⟩
  ·exact aj h
  rw [fK.eq_2] at h;refine sZ ?_;refine gH J h ?_ ?_<;>intro h
  ·refine ae ?_;refine am (fun s L=> ∃p18 p19 p20 A18 n18 c18,ou N (fK N y6 a0 m10) p14 y6 a0 p18 p19 p20=some r/\s=[(3,pV B5 0),(6,W none 0 0),(7,W none 0 0),(8,W A7 n7 c7),(9,W A18 n18 c18),(10,iV p19),(11,iV p20),(12,iV p14)]/\L=[bV A7 n7 c7 y6,bS A18 n18 c18 p18,aK A1 n1 c1 a0.Young,aK A2 n2 c2 a0.Old,ah B5 29 [W A1 n1 c1,W A2 n2 c2]]) ?_ ?_
   ·refine ae ?_;refine ay ?_;refine bm I _ (ab _) ?_;refine ae ?_;obtain ⟨x21,lx21,ux21,hx21,h⟩:=aU h;refine ae ?_;obtain ⟨y22,k,h⟩:=aa h;refine zD 5 J (oC (uh k)) ?_;rintro _ _ ⟨_,⟨A23,n23,c23,A24,n24,c24,rfl,rfl⟩,rfl⟩;refine ⟨_,ab _,(cv_tl).trans (cv_tl),?_⟩;refine zE 6 J (uy J (Gt _ _ _ _ _ _ _ _ _ _)) ?_;refine ew h ?_ ?_<;>intro h
    ·refine ae ?_;obtain ⟨q26,h⟩:=ad h;refine gE (kA J J q26.1 q26.2) ?_;obtain ⟨q27,h⟩:=ad h;refine ae ?_;refine gD (aG (R:=(da .i64)) (vss:=[[iV ((2*p12)+1)]]) (xs:=[(2*p12)+1]) J (dp _) J J (fun _ _ hr=> .cons J All2.nil)) ?_;rintro _ _ ⟨A28,n28,c28,rfl,rfl⟩;obtain ⟨q29,h⟩:=ad h
     refine iE (ar 4 0 J J ap J J Ex uE J J q29) fun A30 n30 c30=> ?_
     obtain ⟨q31,h⟩:=ad h;exact jY
    refine ae ?_;obtain ⟨q32,h⟩:=ad h;refine gE (kA J J q32.1 q32.2) ?_;obtain ⟨q33,h⟩:=ad h;refine ae ?_;refine gD (aG (R:=(da .i64)) (vss:=[[iV ((2*p13)+2)]]) (xs:=[(2*p13)+2]) J (dp _) J J (fun _ _ hr=> .cons J All2.nil)) ?_;rintro _ _ ⟨A34,n34,c34,rfl,rfl⟩;obtain ⟨q35,h⟩:=ad h
    refine iE (ar 4 0 J J ap J J Ex uE J J q35) fun A36 n36 c36=> ?_
    obtain ⟨q37,h⟩:=ad h;exact jY
   rintro _ _ ⟨p18,p19,p20,A18,n18,c18,h,rfl,rfl⟩;refine ae ?_;obtain ⟨q38,h⟩:=ad h;exact lY
  exact jY
 rintro _ _ ⟨p9,A9,n9,c9,h,rfl,rfl⟩;exact eY
def uO (N:Nat)(a0:Qn):Option Qn:=
 some a0
def qT (N:Nat)(a1:Qq)(a2:Qq)(a0:Qn):Nat->Int->Option Qn
 |0,_=>none
 |m6+1,p7=>(bif decide (p7<(a1.length:Int)) then ((bif decide (a0.Kind=7) then (some true) else (some (decide (a0.Kind=9)))).bind fun b9=>some b9) else (some false)).bind fun b8=>bif b8 then ((aw a1 p7).bind fun x11=>bif decide (x11=a0.N) then ((aw a2 p7).bind fun x13=>some (⟨a0.Kind,x13,a0.S⟩:Qn)) else (aZ (in64 (p7+1)) ((qT N a1 a2 a0 m6) (p7+1)))) else (uO N a0)
def sP (N:Nat)(a0:Qn)(a1:Qq)(a2:Qq):Option Qn:=
 qT N a1 a2 a0 N 0
theorem E6 {N:Nat}{a0:Qn}{a1:Qq}{a2:Qq}{r:Qn}(h:sP N a0 a1 a2=some r):Okc QB 164 [(bD a0),W A1 n1 c1,W A2 n2 c2] ([bV A1 n1 c1 a1,bV A2 n2 c2 a2]) (fun u post=>u=(bD r)/\post=[]):=by
 refine cQ Tryz.func164 ?_;intro B3
 refine gg fun B4=> ?_
 refine am (fun s L=>uO N a0=some r/\s=[(3,pV B3 0),(6,pV B4 0)]/\L=[ah B3 37 (be a0),ah B4 37 [iV 0,iV 0,.string (⟨#[]⟩)]]) ?_ ?_
 ·refine ae ?_;refine aH (fun m s L=> ∃p7,qT N a1 a2 a0 m p7=some r/\s=[(1,W A1 n1 c1),(2,W A2 n2 c2),(3,pV B3 0),(6,pV B4 0),(7,iV p7)]/\L=[bV A1 n1 c1 a1,bV A2 n2 c2 a2,ah B3 37 (be a0),ah B4 37 [iV 0,iV 0,.string (⟨#[]⟩)]]) N _ _ ⟨0,h,J,J⟩ sA (cS [2,3,1,0] 4) ?_;rintro (_|m6) _ _ ⟨p7,h,rfl,rfl⟩
  ·exact aj h
  rw [qT.eq_2] at h;refine sZ ?_;obtain ⟨b8,hb8,h⟩:=aa h;refine aQ 9 21 b8 ?_ ?_
  ·clear h;refine aM 12 J (fun g8=> ?_) (fun g8=> ?_)
   ·have h:=aE g8 hb8;refine ae ?_;refine gS 4 20 16 h ?_;intro b9 h;exact gY
   have h:=aF g8 hb8;exact gY
  refine ew h ?_ ?_<;>intro h
  ·refine sY ?_;refine ay ?_;refine bm I _ (ab _) ?_;refine ae ?_;obtain ⟨x11,lx11,ux11,hx11,h⟩:=aU h;refine ew h ?_ ?_<;>intro h
   ·refine ae ?_;obtain ⟨x13,lx13,ux13,hx13,h⟩:=aU h;exact eY
   refine ae ?_;obtain ⟨q14,h⟩:=ad h;exact lY
  exact jY
 rintro _ _ ⟨h,rfl,rfl⟩;exact eY
def CE (N:Nat)(p5:Qr):Option Qr:=
 some p5
def pe (N:Nat)(a0:Qr)(a1:Qq)(a2:Qq):Nat->Qr->Int->Option Qr
 |0,_,_=>none
 |m6+1,p7,p8=>bif decide (p8<(a0.length:Int)) then ((aw a0 p8).bind fun x11=>(sP N x11 a1 a2).bind fun y12=>aZ (bi (p7.length+([y12]:List Qn).length)) (aZ (in64 (p8+1)) ((pe N a0 a1 a2 m6) (p7++([y12]:List Qn)) (p8+1)))) else (CE N p7)
def ui (N:Nat)(a0:Qr)(a1:Qq)(a2:Qq):Option Qr:=
 pe N a0 a1 a2 N [] 0
theorem CD {N:Nat}{a0:Qr}{a1:Qq}{a2:Qq}{r:Qr}(h:ui N a0 a1 a2=some r):Okc QB 109 [W A1 n1 c1,W A2 n2 c2,W A3 n3 c3] ([az A1 n1 c1 a0,bV A2 n2 c2 a1,bV A3 n3 c3 a2]) (fun u post=> ∃A0 n0 c0,u=W A0 n0 c0/\post=[bh A0 n0 c0 r]):=by
 refine cQ Tryz.func109 ?_;refine am (fun s L=> ∃p5 A5 n5 c5,CE N p5=some r/\s=[(6,W none 0 0),(7,W A5 n5 c5)]/\L=[bh A5 n5 c5 p5]) ?_ ?_
 ·refine ae ?_;refine aH (fun m s L=> ∃p7 p8 A7 n7 c7,pe N a0 a1 a2 m p7 p8=some r/\s=[(0,W A1 n1 c1),(1,W A2 n2 c2),(2,W A3 n3 c3),(6,W none 0 0),(7,W A7 n7 c7),(8,iV p8)]/\L=[az A1 n1 c1 a0,bV A2 n2 c2 a1,bV A3 n3 c3 a2,bh A7 n7 c7 p7]) N _ _ ⟨[],0,none,0,0,h,J,J⟩ sA ((aD ak 37 _).trans (cS [1,2,3,0] 4)) ?_;rintro (_|m6) _ _ ⟨p7,p8,A7,n7,c7,h,rfl,rfl⟩
  ·exact aj h
  rw [pe.eq_2] at h;refine sZ ?_;refine gH J h ?_ ?_<;>intro h
  ·refine sY ?_;obtain ⟨x11,lx11,ux11,hx11,h⟩:=aU h;refine ae ?_;obtain ⟨y12,k,h⟩:=aa h;refine gV (oR (E6 k)) ?_;refine gD (aG (R:=ak) (vss:=[(be y12)]) (xs:=[y12]) J (oX _ _ _) J J (fun _ _ hr=> .cons J All2.nil)) ?_;rintro _ _ ⟨A13,n13,c13,rfl,rfl⟩;obtain ⟨q14,h⟩:=ad h
   refine iE (ar 4 0 J J ap J J z9 lF J J q14) fun A15 n15 c15=> ?_
   obtain ⟨q16,h⟩:=ad h;exact lY
  exact jY
 rintro _ _ ⟨p5,A5,n5,c5,h,rfl,rfl⟩;exact eY
def qX (N:Nat)(a0:Ql):Option Ql:=
 aZ (bi (([]:List Qn).length+a0.Slots.length)) (aZ (bi (([]:List Qn).length+a0.More.length)) (some (⟨a0.Kind,a0.Shape,a0.Flags,a0.Age,([]:List Qn)++a0.Slots,([]:List Qn)++a0.More⟩:Ql)))
theorem DH {N:Nat}{a0:Ql}{r:Ql}(h:qX N a0=some r):Okc QB 192 [.agg #[iV a0.Kind,iV a0.Shape,iV a0.Flags,iV a0.Age,W A1 n1 c1,W A2 n2 c2]] ([az A1 n1 c1 a0.Slots,az A2 n2 c2 a0.More]) (fun u post=> ∃A0 n0 c0 A1 n1 c1,u=.agg #[iV r.Kind,iV r.Shape,iV r.Flags,iV r.Age,W A0 n0 c0,W A1 n1 c1]/\post=[bh A0 n0 c0 r.Slots,bh A1 n1 c1 r.More]):=by
 refine cQ Tryz.func192 ?_;intro B3
 refine gg fun B4=> ?_
 intro B5;refine ae ?_;refine lp (aD ak 37 _) ?_;obtain ⟨q7,h⟩:=ad h
 refine iE (ar 0 4 J J ao J J z9 lF J J q7) fun A8 n8 c8=> ?_
 refine lp (aD ak 37 _) ?_;obtain ⟨q10,h⟩:=ad h
 refine iE (ar 0 6 J J ao J J z9 lF J J q10) fun A11 n11 c11=> ?_
 exact eN
def qC (N:Nat)(y6:Ql)(p11:Qr):Option Ql:=
 some (⟨y6.Kind,y6.Shape,y6.Flags,y6.Age,y6.Slots,p11⟩:Ql)
def nr (N:Nat)(kb12:Int->Qr->Option Ql)(p13:Int)(a1:List Bool)(a0:Ql)(y6:Ql)(p18:Qr):Option Ql:=
 aZ (in64 (p13+1)) (kb12 (p13+1) p18)
def gh (N:Nat)(a1:List Bool)(a0:Ql)(y6:Ql):Nat->Int->Qr->Option Ql
 |0,_,_=>none
 |m12+1,p13,p14=>bif decide (p13<(a1.length:Int)) then ((aw a1 p13).bind fun x19=>bif x19 then (aZ (in64 (2*p13)) ((aw a0.More (2*p13)).bind fun x22=>aZ (in64 (2*p13)) (aZ (in64 ((2*p13)+1)) ((aw a0.More ((2*p13)+1)).bind fun x25=>aZ (bi (p14.length+([x22,x25]:List Qn).length)) (nr N (gh N a1 a0 y6 m12) p13 a1 a0 y6 (p14++([x22,x25]:List Qn))))))) else (nr N (gh N a1 a0 y6 m12) p13 a1 a0 y6 p14)) else (qC N y6 p14)
def tD (N:Nat)(a0:Ql)(a1:List Bool):Option Ql:=
 (qX N a0).bind fun y6=>gh N a1 a0 y6 N 0 []
theorem CG {N:Nat}{a0:Ql}{a1:List Bool}{r:Ql}(h:tD N a0 a1=some r):Okc QB 170 [.agg #[iV a0.Kind,iV a0.Shape,iV a0.Flags,iV a0.Age,W A1 n1 c1,W A2 n2 c2],W A3 n3 c3] ([az A1 n1 c1 a0.Slots,az A2 n2 c2 a0.More,o5 zh (W A3 n3 c3) a1]) (fun u post=> ∃A0 n0 c0 A1 n1 c1,u=.agg #[iV r.Kind,iV r.Shape,iV r.Flags,iV r.Age,W A0 n0 c0,W A1 n1 c1]/\post=[bh A0 n0 c0 r.Slots,bh A1 n1 c1 r.More]):=by
 refine cQ Tryz.func170 ?_;intro B4
 refine gg fun B5=> ?_
 obtain ⟨y6,k,h⟩:=aa h
 refine BM (oR (DH k)) fun A7 n7 c7 A8 n8 c8=> ?_
 intro B9;refine ae ?_;refine am (fun s L=> ∃p11 A11 n11 c11,qC N y6 p11=some r/\s=[(4,pV B5 0),(5,pV B9 0)]/\L=[ah B5 35 [iV 0,iV 0,iV 0,iV 0,W none 0 0,W none 0 0],bh A7 n7 c7 y6.Slots,bh A11 n11 c11 p11,ah B9 35 [iV y6.Kind,iV y6.Shape,iV y6.Flags,iV y6.Age,W A7 n7 c7,W A11 n11 c11]]) ?_ ?_
 ·refine ae ?_;refine aH (fun m s L=> ∃p13 p14 A14 n14 c14,gh N a1 a0 y6 m p13 p14=some r/\s=[(1,W A3 n3 c3),(2,pV B4 0),(4,pV B5 0),(5,pV B9 0),(6,iV p13)]/\L=[o5 zh (W A3 n3 c3) a1,az A1 n1 c1 a0.Slots,az A2 n2 c2 a0.More,ah B4 35 [iV a0.Kind,iV a0.Shape,iV a0.Flags,iV a0.Age,W A1 n1 c1,W A2 n2 c2],ah B5 35 [iV 0,iV 0,iV 0,iV 0,W none 0 0,W none 0 0],bh A7 n7 c7 y6.Slots,bh A14 n14 c14 p14,ah B9 35 [iV y6.Kind,iV y6.Shape,iV y6.Flags,iV y6.Age,W A7 n7 c7,W A14 n14 c14]]) N _ _ ⟨0,[],none,0,0,h,J,J⟩ sA ((aD ak 37 _).trans (cS [8,6,7,5,4,2,0,1] 9)) ?_;rintro (_|m12) _ _ ⟨p13,p14,A14,n14,c14,h,rfl,rfl⟩
  ·exact aj h
  rw [gh.eq_2] at h;refine sZ ?_;refine gH J h ?_ ?_<;>intro h
  ·refine ae ?_;refine am (fun s L=> ∃p18 A18 n18 c18,nr N (gh N a1 a0 y6 m12) p13 a1 a0 y6 p18=some r/\s=[(1,W A3 n3 c3),(2,pV B4 0),(4,pV B5 0),(5,pV B9 0),(6,iV p13)]/\L=[o5 zh (W A3 n3 c3) a1,az A1 n1 c1 a0.Slots,az A2 n2 c2 a0.More,ah B4 35 [iV a0.Kind,iV a0.Shape,iV a0.Flags,iV a0.Age,W A1 n1 c1,W A2 n2 c2],ah B5 35 [iV 0,iV 0,iV 0,iV 0,W none 0 0,W none 0 0],bh A7 n7 c7 y6.Slots,bh A18 n18 c18 p18,ah B9 35 [iV y6.Kind,iV y6.Shape,iV y6.Flags,iV y6.Age,W A7 n7 c7,W A18 n18 c18]]) ?_ ?_
   ·refine ae ?_;obtain ⟨x19,lx19,ux19,hx19,h⟩:=aU h;refine ew h ?_ ?_<;>intro h
    ·obtain ⟨q21,h⟩:=ad h;obtain ⟨x22,lx22,ux22,hx22,h⟩:=aU h;obtain ⟨q23,h⟩:=ad h;obtain ⟨q24,h⟩:=ad h;obtain ⟨x25,lx25,ux25,hx25,h⟩:=aU h;refine dB (t:=[(1,W A3 n3 c3),(2,pV B4 0),(4,pV B5 0),(5,pV B9 0),(6,iV p13)]) ?_ fv (ab _)
     refine dF I 16 [] [1,15] [20,21,22,23,24,25,26,27,28,29,30,31,32,33,34,35] [[],[0],[],[2],[],[4],[3,5],[6],[],[8],[],[10],[11],[9,12],[13],[7,14]] [aV (pV B9 5),
 aV (W A14 n14 c14),
 aV (pV B4 5),
 aV (W A2 n2 c2),
 aV (iV p13),
 aV (iV (2*p13)),
 aV (dj (W A2 n2 c2) ((2*p13).toNat) 3 0),
 aV ((bD x22)),
 aV (pV B4 5),
 aV (W A2 n2 c2),
 aV (iV p13),
 aV (iV (2*p13)),
 aV (iV ((2*p13)+1)),
 aV (dj (W A2 n2 c2) (((2*p13)+1).toNat) 3 0),
 aV ((bD x25)),
 aX3 (fun (A27:Option Addr) (n27 c27:Nat)=> W A27 n27 c27) (fun A27 n27 c27=> [bh A27 n27 c27 ([x22,x25]:List Qn)])] [] (ab _) (fj) I rfl rfl ?_ ?_ ?_
     ·exact fi
     ·refine ac J ?_ ?_
      ·refine gj (aG (R:=ak) (vss:=[(be x22),(be x25)]) (xs:=[x22,x25]) J (GM _ _ _ _ _ _) J J (fun _ _ hr=> .cons J (.cons J All2.nil))) J ?_;rintro _ _ ⟨A26,n26,c26,rfl,rfl⟩;exact pv A26 n26 c26 (ab _)
      refine ac J ?_ ?_
      ·exact cB (dm (us:=be x25) 2 J ao J hx25 agg37.out (fun _ _ _ h=>by rw [show _=_ from h];rfl)) J (aP J (ab _))
      refine ac J ?_ ?_
      ·exact cB (bf 2 J ao J J z9 size37.out lx25 ux25) J (aP J (ab _))
      refine ac J ?_ ?_
      ·exact bN (cr J J q24.1 q24.2) J (aP J (ab _))
      refine ac J ?_ ?_
      ·exact bN (kA J J q23.1 q23.2) J (aP J (ab _))
      refine ac J ?_ ?_
      ·exact bN (ai J) J (aP J (ab _))
      refine ac J ?_ ?_
      ·exact cB (aL 3 J J dr J) J (aP J (ab _))
      refine ac J ?_ ?_
      ·exact bN (bB J dT) J (aP J (ab _))
      refine ac J ?_ ?_
      ·exact cB (dm (us:=be x22) 2 J ao J hx22 agg37.out (fun _ _ _ h=>by rw [show _=_ from h];rfl)) J (aP J (ab _))
      refine ac J ?_ ?_
      ·exact cB (bf 2 J ao J J z9 size37.out lx22 ux22) J (aP J (ab _))
      refine ac J ?_ ?_
      ·exact bN (kA J J q21.1 q21.2) J (aP J (ab _))
      refine ac J ?_ ?_
      ·exact bN (ai J) J (aP J (ab _))
      refine ac J ?_ ?_
      ·exact cB (aL 3 J J dr J) J (aP J (ab _))
      refine ac J ?_ ?_
      ·exact bN (bB J dT) J (aP J (ab _))
      refine ac J ?_ ?_
      ·exact cB (aL 7 J J dr J) J (aP J (ab _))
      refine ac J ?_ ?_
      ·exact bN (bB J dT) J (aP J (ab _))
      exact cp
     intro A27 n27 c27;refine gu (t:=[(21,W A14 n14 c14),(35,W A27 n27 c27),(1,W A3 n3 c3),(2,pV B4 0),(4,pV B5 0),(5,pV B9 0),(6,iV p13)]) (L':=[bh A27 n27 c27 ([x22,x25]:List Qn),o5 zh (W A3 n3 c3) a1,az A1 n1 c1 a0.Slots,az A2 n2 c2 a0.More,ah B4 35 [iV a0.Kind,iV a0.Shape,iV a0.Flags,iV a0.Age,W A1 n1 c1,W A2 n2 c2],ah B5 35 [iV 0,iV 0,iV 0,iV 0,W none 0 0,W none 0 0],bh A7 n7 c7 y6.Slots,bh A14 n14 c14 p14,ah B9 35 [iV y6.Kind,iV y6.Shape,iV y6.Flags,iV y6.Age,W A7 n7 c7,W A14 n14 c14]]) ?_ fv (ab _);obtain ⟨q28,h⟩:=ad h;refine jt 16 J I (ar 7 0 J J ap J J z9 lF J J q28) J J J ?_;rintro _ _ ⟨A29,n29,c29,rfl,rfl⟩;refine sU ?_;refine rc 17 J I (bB J dT) J J J ?_;refine o7 18 J I (aq (us:=[W A29 n29 c29]) (cs':=[iV y6.Kind,iV y6.Shape,iV y6.Flags,iV y6.Age,W A7 n7 c7,W A29 n29 c29]) 8 J J J J size30.out J J J) J J ?_;rintro _ _ rfl;refine ft I ?_;exact jY
    exact jY
   rintro _ _ ⟨p18,A18,n18,c18,h,rfl,rfl⟩;refine ae ?_;obtain ⟨q30,h⟩:=ad h;exact lY
  exact jY
 rintro _ _ ⟨p11,A11,n11,c11,h,rfl,rfl⟩;exact eY
def pG (N:Nat)(a0:Ql)(p11:List Bool):Option Ql:=
 (tD N a0 p11).bind fun y23=>some y23
def nc (N:Nat)(a1:Qq)(a0:Ql):Nat->(List Bool)->Int->Option Ql
 |0,_,_=>none
 |m12+1,p13,p14=>bif decide (p14<(a0.More.length:Int)) then ((aw a0.More p14).bind fun x17=>(qi N x17.N a1).bind fun y18=>aZ (bi (p13.length+([y18]:List Bool).length)) (aZ (in64 (p14+2)) ((nc N a1 a0 m12) (p13++([y18]:List Bool)) (p14+2)))) else (pG N a0 p13)
def qj (N:Nat)(a0:Ql)(a1:Qq):Option Ql:=
 (wy N a0).bind fun y6=>bif !y6 then (some (⟨0,0,0,0,[],[]⟩:Ql)) else (nc N a1 a0 N [] 0)
theorem zx {N:Nat}{a0:Ql}{a1:Qq}{r:Ql}(h:qj N a0 a1=some r):Okc QB 118 [.agg #[iV a0.Kind,iV a0.Shape,iV a0.Flags,iV a0.Age,W A1 n1 c1,W A2 n2 c2],W A3 n3 c3] ([az A1 n1 c1 a0.Slots,az A2 n2 c2 a0.More,bV A3 n3 c3 a1]) (fun u post=> ∃A0 n0 c0 A1 n1 c1,u=.agg #[iV r.Kind,iV r.Shape,iV r.Flags,iV r.Age,W A0 n0 c0,W A1 n1 c1]/\post=[bh A0 n0 c0 r.Slots,bh A1 n1 c1 r.More]):=by
 refine cQ Tryz.func118 ?_;intro B4
 refine gg fun B5=> ?_
 refine sZ ?_;obtain ⟨y6,k,h⟩:=aa h;refine kw (oR (DX k)) ?_;refine gH J h ?_ ?_<;>intro h
 ·refine ae ?_;obtain rfl:=bw h;exact dt (rs:=[.cell 4 35]) (vs:=[.agg #[iV 0,iV 0,iV 0,iV 0,W none 0 0,W none 0 0]]) J (.cons (bd 0 J J agg35.out) .nil) J ((aD ak 37 _).trans ((aD ak 37 _).trans (cS [1,0] 7))) ⟨_,_,_,_,_,_,J,J⟩
 refine ae ?_;refine am (fun s L=> ∃p11 A11 n11 c11,pG N a0 p11=some r/\s=[(2,pV B4 0),(4,pV B5 0),(5,W A11 n11 c11)]/\L=[eu zh 4 (W A11 n11 c11) p11,az A1 n1 c1 a0.Slots,az A2 n2 c2 a0.More,ah B4 35 [iV a0.Kind,iV a0.Shape,iV a0.Flags,iV a0.Age,W A1 n1 c1,W A2 n2 c2],ah B5 35 [iV 0,iV 0,iV 0,iV 0,W none 0 0,W none 0 0]]) ?_ ?_
 ·refine ae ?_;refine aH (fun m s L=> ∃p13 p14 A13 n13 c13,nc N a1 a0 m p13 p14=some r/\s=[(1,W A3 n3 c3),(2,pV B4 0),(4,pV B5 0),(5,W A13 n13 c13),(6,iV p14)]/\L=[bV A3 n3 c3 a1,eu zh 4 (W A13 n13 c13) p13,az A1 n1 c1 a0.Slots,az A2 n2 c2 a0.More,ah B4 35 [iV a0.Kind,iV a0.Shape,iV a0.Flags,iV a0.Age,W A1 n1 c1,W A2 n2 c2],ah B5 35 [iV 0,iV 0,iV 0,iV 0,W none 0 0,W none 0 0]]) N _ _ ⟨[],0,none,0,0,h,J,J⟩ sA ((aD zh 4 _).trans (cS [5,0,3,4,2,1] 6)) ?_;rintro (_|m12) _ _ ⟨p13,p14,A13,n13,c13,h,rfl,rfl⟩
  ·exact aj h
  rw [nc.eq_2] at h;refine sZ ?_;refine gH J h ?_ ?_<;>intro h
  ·refine sY ?_;obtain ⟨x17,lx17,ux17,hx17,h⟩:=aU h;refine ae ?_;refine zX (mJ 3 J ao J (bc lx17 ux17) kx) ?_;obtain ⟨y18,k,h⟩:=aa h;refine gV (oR (rk k)) ?_;refine gD (aG (R:=zh) (vss:=[[.bool y18]]) (xs:=[y18]) J (Jp _) J J (fun _ _ hr=> .cons J All2.nil)) ?_;rintro _ _ ⟨A19,n19,c19,rfl,rfl⟩;obtain ⟨q20,h⟩:=ad h
   refine iE (ar 2 0 J J ap J J Tryz.underlying171 OU J J q20) fun A21 n21 c21=> ?_
   obtain ⟨q22,h⟩:=ad h;exact lY
  exact jY
 rintro _ _ ⟨p11,A11,n11,c11,h,rfl,rfl⟩;refine ae ?_;obtain ⟨y23,k,h⟩:=aa h
 refine BM (oR (CG k)) fun A24 n24 c24 A25 n25 c25=> ?_
 exact eN
def zt (N:Nat)(a0:Ql):Option Bool:=
 (bif decide (a0.Kind=10) then ((cy N a0).bind fun y5=>some y5) else (some false)).bind fun b4=>some b4
theorem IQ {N:Nat}{a0:Ql}{r:Bool}(h:zt N a0=some r):Okc QB 171 [.agg #[iV a0.Kind,iV a0.Shape,iV a0.Flags,iV a0.Age,W A1 n1 c1,W A2 n2 c2]] ([az A1 n1 c1 a0.Slots,az A2 n2 c2 a0.More]) (fun u post=>u=.bool r/\post=[]):=by
 refine cQ Tryz.func171 ?_;intro B3;refine ae ?_;obtain ⟨b4,hb4,h⟩:=aa h;refine aQ 3 9 b4 ?_ ?_
 ·clear h;refine aM 6 J (fun g4=> ?_) (fun g4=> ?_)
  ·have h:=aE g4 hb4;refine ae ?_;obtain ⟨y5,k,h⟩:=aa h;refine gU (oR (mw k)) (bx g4 J) ?_;exact gY
  have h:=aF g4 hb4;exact gY
 exact eY
theorem F2 {r:Bool}: ∀v post,((fun (u:Value) (post:List Chunk)=>u=.bool r/\post=[])) v post-> ∀c∈post,fu c:=by
 rintro _ _ ⟨rfl,rfl⟩;exact ax
end Go.Proofs.YthepenpebkjdfaaGreat
namespace Go.Proofs.YthepenpebkjdfaaGreat
variable {A1 A2 A3 A4:Option Addr} {c1 c2 c3 c4 n1 n2 n3 n4:Nat}
open Go.RowKit Asn
set_option maxRecDepth 20000
def uT (N:Nat):Option Bool:=
 some false
def qW (N:Nat)(a1:Int)(a0:Qq):Nat->Int->Option Bool
 |0,_=>none
 |m3+1,p4=>bif decide (p4<(a0.length:Int)) then ((aw a0 p4).bind fun x6=>bif decide (x6=a1) then (some true) else (aZ (in64 (p4+1)) ((qW N a1 a0 m3) (p4+1)))) else (uT N)
def qf (N:Nat)(a0:Qq)(a1:Int):Option Bool:=
 qW N a1 a0 N 0
theorem zu {N:Nat}{a0:Qq}{a1:Int}{r:Bool}(h:qf N a0 a1=some r):Okc QB 172 [W A1 n1 c1,iV a1] ([bV A1 n1 c1 a0]) (fun u post=>u=.bool r/\post=[]):=by
 refine cQ Tryz.func172 ?_;refine am (fun s L=>uT N=some r/\s=[(4,.bool false)]/\L=[]) ?_ ?_
 ·refine ae ?_;refine aH (fun m s L=> ∃p4,qW N a1 a0 m p4=some r/\s=[(0,W A1 n1 c1),(1,iV a1),(4,.bool false),(5,iV p4)]/\L=[bV A1 n1 c1 a0]) N _ _ ⟨0,h,J,J⟩ sA (cS [0] 1) ?_;rintro (_|m3) _ _ ⟨p4,h,rfl,rfl⟩
  ·exact aj h
  rw [qW.eq_2] at h;refine sZ ?_;refine gH J h ?_ ?_<;>intro h
  ·refine sY ?_;obtain ⟨x6,lx6,ux6,hx6,h⟩:=aU h;refine ew h ?_ ?_<;>intro h
   ·exact eY
   refine ae ?_;obtain ⟨q8,h⟩:=ad h;exact lY
  exact jY
 rintro _ _ ⟨h,rfl,rfl⟩;exact eY
theorem wx {r:Bool}: ∀v post,((fun (u:Value) (post:List Chunk)=>u=.bool r/\post=[])) v post-> ∀c∈post,fu c:=by
 rintro _ _ ⟨rfl,rfl⟩;exact ax
def yD (N:Nat)(a0:Ql)(a1:Qr):Option Ql:=
 aZ (bi (([]:List Qn).length+a0.Slots.length)) (some (⟨a0.Kind,a0.Shape,a0.Flags,a0.Age,([]:List Qn)++a0.Slots,a1⟩:Ql))
theorem F1 {N:Nat}{a0:Ql}{a1:Qr}{r:Ql}(h:yD N a0 a1=some r):Okc QB 173 [.agg #[iV a0.Kind,iV a0.Shape,iV a0.Flags,iV a0.Age,W A1 n1 c1,W A2 n2 c2],W A3 n3 c3] ([az A1 n1 c1 a0.Slots,az A2 n2 c2 a0.More,az A3 n3 c3 a1]) (fun u post=> ∃A0 n0 c0 A1 n1 c1,u=.agg #[iV r.Kind,iV r.Shape,iV r.Flags,iV r.Age,W A0 n0 c0,W A1 n1 c1]/\post=[az A0 n0 c0 r.Slots,az A1 n1 c1 r.More]):=by
 refine cQ Tryz.func173 ?_;intro B4
 refine gg fun B5=> ?_
 refine ay ?_;refine bm I _ (ab _) ?_;refine zE 0 J (cG J Ia) ?_;refine zR 1 J (aL 1 J J ex J) ?_;refine zE 2 J (bB J H9) ?_;refine zR 3 J (aL 1 J J ex J) ?_;refine zE 4 J (bB J H8) ?_;refine zR 5 J (aL 1 J J ex J) ?_;refine zE 6 J (bB J td) ?_;refine zR 7 J (aL 1 J J ex J) ?_;refine zE 9 J (bB J pO) ?_;refine zR 10 J (aL 1 J J dr J) ?_;refine zE 12 J (ai J) ?_;refine zD 8 J (aG (R:=ak) (vss:=[]) (xs:=[]) J (kT) J J (fun _ _ hr=>All2.nil)) ?_;rintro _ _ ⟨A6,n6,c6,rfl,rfl⟩;refine bq (cS [1,2,3,4,5] 6) ?_;obtain ⟨q7,h⟩:=ad h;refine zD 11 J (ar 0 3 J J ao J J z9 lF J J q7) ?_;rintro _ _ ⟨A8,n8,c8,rfl,rfl⟩;refine bq (cS [1,2,3,4,5] 6) ?_;refine zE 13 J (dw J (bld_35_0_1_2_3_4_5 _ _ _ _ _ _ _ _ _ _).out) ?_;refine lE 14 J I I (aq (us:=[iV a0.Kind,iV a0.Shape,iV a0.Flags,iV a0.Age,W A8 n8 c8,W A3 n3 c3]) (cs':=[iV a0.Kind,iV a0.Shape,iV a0.Flags,iV a0.Age,W A8 n8 c8,W A3 n3 c3]) 1 J J J J size35.out J J J) ?_;rintro _ _ rfl;refine bv I ?_;refine ae ?_;obtain rfl:=bw h;exact dt (rs:=[.cell 4 35]) (vs:=[.agg #[iV a0.Kind,iV a0.Shape,iV a0.Flags,iV a0.Age,W A8 n8 c8,W A3 n3 c3]]) J (.cons (bd 1 J J agg35.out) .nil) J ((aY 0 J).trans (cS [0,5] 6)) ⟨_,_,_,_,_,_,J,J⟩
def pE (N:Nat)(a0:Ql)(p14:Qr)(p15:Qr):Option (Ql×Qr):=
 (yD N a0 p14).bind fun y55=>some (y55,p15)
def pD (N:Nat)(kb16:Qr->Qr->Int->Option (Ql×Qr))(p19:Int)(a1:Qq)(a0:Ql)(p23:Qr)(p24:Qr):Option (Ql×Qr):=
 aZ (in64 (p19+4)) (kb16 p23 p24 (p19+4))
def pC (N:Nat)(kb16:Qr->Qr->Int->Option (Ql×Qr))(p19:Int)(a1:Qq)(p17:Qr)(p18:Qr)(a0:Ql)(p40:Int)(p41:Int)(p42:ByteArray):Option (Ql×Qr):=
 (aw a0.More p19).bind fun x46=>aZ (in64 (p19+1)) ((aw a0.More (p19+1)).bind fun x48=>aZ (in64 (p19+3)) ((aw a0.More (p19+3)).bind fun x50=>aZ (bi (p17.length+([x46,x48,(⟨p40,p41,p42⟩:Qn),x50]:List Qn).length)) (pD N kb16 p19 a1 a0 (p17++([x46,x48,(⟨p40,p41,p42⟩:Qn),x50]:List Qn)) p18)))
def fw (N:Nat)(a1:Qq)(a0:Ql):Nat->Qr->Qr->Int->Option (Ql×Qr)
 |0,_,_,_=>none
 |m16+1,p17,p18,p19=>bif decide (p19<(a0.More.length:Int)) then ((aw a0.More p19).bind fun x25=>(qf N a1 x25.N).bind fun y26=>bif !y26 then ((aw a0.More 0).bind fun x28=>aZ (in64 (p19+1)) ((aw a0.More (p19+1)).bind fun x30=>aZ (in64 (p19+3)) ((aw a0.More (p19+3)).bind fun x32=>aZ (bi (p18.length+([x28,x30,x32]:List Qn).length)) (pD N (fw N a1 a0 m16) p19 a1 a0 p17 (p18++([x28,x30,x32]:List Qn)))))) else (aZ (in64 (p19+2)) ((aw a0.More (p19+2)).bind fun x37=>(bif decide (x37.Kind=7) then ((qf N a1 x37.N).bind fun y44=>some (!y44)) else (some false)).bind fun b43=>bif b43 then (pC N (fw N a1 a0 m16) p19 a1 p17 p18 a0 0 0 (⟨#[]⟩)) else (pC N (fw N a1 a0 m16) p19 a1 p17 p18 a0 x37.Kind x37.N x37.S)))) else (pE N a0 p17 p18)
def qg (N:Nat)(a0:Ql)(a1:Qq):Option (Ql×Qr):=
 (zt N a0).bind fun y6=>bif !y6 then (some ((⟨0,0,0,0,[],[]⟩:Ql),[])) else ((aw a0.More 0).bind fun x11=>fw N a1 a0 N ([x11]:List Qn) [] 1)
theorem zv {N:Nat}{a0:Ql}{a1:Qq}{r:Ql×Qr}(h:qg N a0 a1=some r):Okc QB 119 [.agg #[iV a0.Kind,iV a0.Shape,iV a0.Flags,iV a0.Age,W A1 n1 c1,W A2 n2 c2],W A3 n3 c3] ([az A1 n1 c1 a0.Slots,az A2 n2 c2 a0.More,bV A3 n3 c3 a1]) (fun u post=> ∃A0 n0 c0 A1 n1 c1 A2 n2 c2,u=.tuple #[.agg #[iV r.1.Kind,iV r.1.Shape,iV r.1.Flags,iV r.1.Age,W A0 n0 c0,W A1 n1 c1],W A2 n2 c2]/\post=[az A0 n0 c0 r.1.Slots,az A1 n1 c1 r.1.More,bh A2 n2 c2 r.2]):=by
 refine rQ Tryz.func119 J J ?_;simp only [jr];refine Y ?_
 refine gB (nH J J) fun B4=> ?_
 refine gB (ci zero35.out J) fun B5=> ?_
 refine Y ?_;refine ay ?_;refine Y ?_;refine gR (aR (us:=[iV a0.Kind,iV a0.Shape,iV a0.Flags,iV a0.Age,W A1 n1 c1,W A2 n2 c2]) 1 J J agg35.out J) ?_;obtain ⟨y6,k,h⟩:=aa h;refine gV (ba (IQ k) call171.out J (hU (aJ (i:=2) J J) (hU (aJ (i:=3) J J) ax)) F2) ?_;refine Y ?_;refine gH J h ?_ ?_<;>intro h
 ·refine Y ?_;refine gE (dw J bld_35_.out) ?_;refine gW (aq (us:=[iV 0,iV 0,iV 0,iV 0,W none 0 0,W none 0 0]) (cs':=[iV 0,iV 0,iV 0,iV 0,W none 0 0,W none 0 0]) 0 J J J J size35.out J J J) ?_;refine Y ?_;obtain rfl:=bw h;exact dt (rs:=[.cell 4 35,.tmp 5]) (vs:=[.agg #[iV 0,iV 0,iV 0,iV 0,W none 0 0,W none 0 0],W none 0 0]) J (.cons (bd 0 J J agg35.out) (.cons (iu J) .nil)) J ((cq ak _).trans ((cq ak _).trans ((aD ak 37 _).trans (cS [2,1,0] 8)))) ⟨_,_,_,_,_,_,_,_,_,J,J⟩
 refine Y ?_;obtain ⟨x11,lx11,ux11,hx11,h⟩:=aU h;refine gR (bf 3 J ao J J z9 size37.out lx11 ux11) ?_;refine gR (dm (us:=be x11) 3 J ao J hx11 agg37.out (fun _ _ _ h=>by rw [show _=_ from h];rfl)) ?_;refine gD (aG (R:=ak) (vss:=[(be x11)]) (xs:=[x11]) J (oX _ _ _) J J (fun _ _ hr=> .cons J All2.nil)) ?_;rintro _ _ ⟨A12,n12,c12,rfl,rfl⟩;refine Y ?_;refine am (fun s L=> ∃p14 p15 A14 n14 c14 A15 n15 c15,pE N a0 p14 p15=some r/\s=[(2,pV B4 0),(4,pV B5 0),(5,W none 0 0),(6,W A14 n14 c14),(7,W A15 n15 c15)]/\L=[bh A14 n14 c14 p14,bh A15 n15 c15 p15,az A1 n1 c1 a0.Slots,az A2 n2 c2 a0.More,ah B4 35 [iV a0.Kind,iV a0.Shape,iV a0.Flags,iV a0.Age,W A1 n1 c1,W A2 n2 c2],ah B5 35 [iV 0,iV 0,iV 0,iV 0,W none 0 0,W none 0 0]]) ?_ ?_
 ·refine Y ?_;refine aH (fun m s L=> ∃p17 p18 p19 A17 n17 c17 A18 n18 c18,fw N a1 a0 m p17 p18 p19=some r/\s=[(1,W A3 n3 c3),(2,pV B4 0),(4,pV B5 0),(5,W none 0 0),(6,W A17 n17 c17),(7,W A18 n18 c18),(8,iV p19)]/\L=[bV A3 n3 c3 a1,bh A17 n17 c17 p17,bh A18 n18 c18 p18,az A1 n1 c1 a0.Slots,az A2 n2 c2 a0.More,ah B4 35 [iV a0.Kind,iV a0.Shape,iV a0.Flags,iV a0.Age,W A1 n1 c1,W A2 n2 c2],ah B5 35 [iV 0,iV 0,iV 0,iV 0,W none 0 0,W none 0 0]]) N _ _ ⟨([x11]:List Qn),[],1,A12,n12,c12,none,0,0,h,J,J⟩ sA ((aD ak 37 _).trans (cS [6,1,0,4,5,3,2] 7)) ?_;rintro (_|m16) _ _ ⟨p17,p18,p19,A17,n17,c17,A18,n18,c18,h,rfl,rfl⟩
  ·exact aj h
  rw [fw.eq_2] at h;refine ay ?_;refine Y ?_;refine gR (cC 4 J ao J z9) ?_;refine Y ?_;refine gH J h ?_ ?_<;>intro h
  ·refine Y ?_;refine am (fun s L=> ∃p23 p24 A23 n23 c23 A24 n24 c24,pD N (fw N a1 a0 m16) p19 a1 a0 p23 p24=some r/\s=[(1,W A3 n3 c3),(2,pV B4 0),(4,pV B5 0),(5,W none 0 0),(6,W A23 n23 c23),(7,W A24 n24 c24),(8,iV p19)]/\L=[bV A3 n3 c3 a1,bh A23 n23 c23 p23,bh A24 n24 c24 p24,az A1 n1 c1 a0.Slots,az A2 n2 c2 a0.More,ah B4 35 [iV a0.Kind,iV a0.Shape,iV a0.Flags,iV a0.Age,W A1 n1 c1,W A2 n2 c2],ah B5 35 [iV 0,iV 0,iV 0,iV 0,W none 0 0,W none 0 0]]) ?_ ?_
   ·refine nA ?_;refine ay ?_;refine Y ?_;obtain ⟨x25,lx25,ux25,hx25,h⟩:=aU h;refine gR (bf 4 J ao J J z9 size37.out lx25 ux25) ?_;refine gR (mJ 4 J ao J (bc lx25 ux25) kx) ?_;refine gR (bF (u:=iV x25.N) 4 J ao J hx25 ex (fun _ _ _ h=>by rw [show _=_ from h];rfl)) ?_;obtain ⟨y26,k,h⟩:=aa h;refine gV (ba (zu k) call172.out J (hU (aJ (i:=0) J J) ax) wx) ?_;refine Y ?_;refine gH J h ?_ ?_<;>intro h
    ·refine ay ?_;refine bm I ([bV A3 n3 c3 a1,bh A17 n17 c17 p17,az A1 n1 c1 a0.Slots,az A2 n2 c2 a0.More,ah B4 35 [iV a0.Kind,iV a0.Shape,iV a0.Flags,iV a0.Age,W A1 n1 c1,W A2 n2 c2],ah B5 35 [iV 0,iV 0,iV 0,iV 0,W none 0 0,W none 0 0]]) (cS [0,1,3,4,5,6] 7) ?_;refine zE 0 J (ai J) ?_;refine zE 1 J (bB J dT) ?_;refine zR 2 J (aL 4 J J dr J) ?_;obtain ⟨x28,lx28,ux28,hx28,h⟩:=aU h;refine zR 3 J (bf 3 J ao J J z9 size37.out lx28 ux28) ?_;refine zR 4 J (dm (us:=be x28) 3 J ao J hx28 agg37.out (fun _ _ _ h=>by rw [show _=_ from h];rfl)) ?_;refine zE 5 J (bB J dT) ?_;refine zR 6 J (aL 4 J J dr J) ?_;refine zE 7 J (ai J) ?_;obtain ⟨q29,h⟩:=ad h;refine zE 8 J (cr J J q29.1 q29.2) ?_;obtain ⟨x30,lx30,ux30,hx30,h⟩:=aU h;refine zR 9 J (bf 3 J ao J J z9 size37.out lx30 ux30) ?_;refine zR 10 J (dm (us:=be x30) 3 J ao J hx30 agg37.out (fun _ _ _ h=>by rw [show _=_ from h];rfl)) ?_;refine zE 11 J (bB J dT) ?_;refine zR 12 J (aL 4 J J dr J) ?_;refine zE 13 J (ai J) ?_;obtain ⟨q31,h⟩:=ad h;refine zE 14 J (cr J J q31.1 q31.2) ?_;obtain ⟨x32,lx32,ux32,hx32,h⟩:=aU h;refine zR 15 J (bf 3 J ao J J z9 size37.out lx32 ux32) ?_;refine zR 16 J (dm (us:=be x32) 3 J ao J hx32 agg37.out (fun _ _ _ h=>by rw [show _=_ from h];rfl)) ?_
     refine zD 17 J (aG (R:=ak) (vss:=[(be x28),(be x30),(be x32)]) (xs:=[x28,x30,x32]) J (GL _ _ _ _ _ _ _ _ _) J J (fun _ _ hr=> .cons J (.cons J (.cons J All2.nil)))) ?_;rintro _ _ ⟨A33,n33,c33,rfl,rfl⟩;refine bq (cS [1,2,4,5,6,7] 8) ?_;obtain ⟨q34,h⟩:=ad h;refine zD 18 J (ar 3 0 J J ap J J z9 lF J J q34) ?_;rintro _ _ ⟨A35,n35,c35,rfl,rfl⟩;refine bq (cS [1,2,4,5,6,7] 8) ?_;refine zE 19 J (av J) ?_;refine bv I ?_;refine Y ?_;exact ⟨_,_,⟨p17,p18++([x28,x30,x32]:List Qn),A17,n17,c17,A35,n35,c35,h,J,J⟩,sA,cS [1,2,3,4,5,6,7] 8⟩
    refine Y ?_;obtain ⟨q36,h⟩:=ad h;refine gE (cr J J q36.1 q36.2) ?_;obtain ⟨x37,lx37,ux37,hx37,h⟩:=aU h;refine gR (bf 4 J ao J J z9 size37.out lx37 ux37) ?_;refine gR (dm (us:=be x37) 4 J ao J hx37 agg37.out (fun _ _ _ h=>by rw [show _=_ from h];rfl)) ?_
    refine gB (ci zero37.out J) fun B38=> ?_
    refine gW (aq (us:=be x37) (cs':=be x37) 0 J J J J size37.out J J J) ?_;refine Y ?_;refine am (fun s L=> ∃p40 p41 p42,pC N (fw N a1 a0 m16) p19 a1 p17 p18 a0 p40 p41 p42=some r/\s=[(1,W A3 n3 c3),(2,pV B4 0),(4,pV B5 0),(5,W none 0 0),(6,W A17 n17 c17),(7,W A18 n18 c18),(8,iV p19),(9,pV B38 0)]/\L=[bV A3 n3 c3 a1,bh A17 n17 c17 p17,bh A18 n18 c18 p18,az A1 n1 c1 a0.Slots,az A2 n2 c2 a0.More,ah B4 35 [iV a0.Kind,iV a0.Shape,iV a0.Flags,iV a0.Age,W A1 n1 c1,W A2 n2 c2],ah B5 35 [iV 0,iV 0,iV 0,iV 0,W none 0 0,W none 0 0],ah B38 37 [iV p40,iV p41,.string p42]]) ?_ ?_
    ·refine Y ?_;obtain ⟨b43,hb43,h⟩:=aa h;refine aQ 6 69 b43 ?_ ?_
     ·clear h;refine aM 63 J (fun g43=> ?_) (fun g43=> ?_)
      ·have h:=aE g43 hb43;refine Y ?_;obtain ⟨y44,k,h⟩:=aa h;refine gU (ba (zu k) call172.out J (hU (aJ (i:=1) J J) ax) wx) (bx g43 J) ?_;refine Y ?_;obtain rfl:=bw h;exact cH sA (cS [0,1,2,3,4,5,6,7] 8)
      have h:=aF g43 hb43;refine Y ?_;obtain rfl:=bw h;exact cH sA (cS [0,1,2,3,4,5,6,7] 8)
     refine Y ?_;refine gH J h ?_ ?_<;>intro h
     ·refine oZ ?_;refine gE (dw J bld_37_.out) ?_;refine gW (aq (us:=[iV 0,iV 0,.string (⟨#[]⟩)]) (cs':=[iV 0,iV 0,.string (⟨#[]⟩)]) 0 J J J J size37.out J J J) ?_;refine eh ?_;refine Y ?_;exact ⟨_,_,⟨0,0,⟨#[]⟩,h,J,J⟩,sA,cS [1,2,3,4,5,6,7,0] 8⟩
     refine Y ?_;exact ⟨_,_,⟨x37.Kind,x37.N,x37.S,h,J,J⟩,sA,cS [1,2,3,4,5,6,7,0] 8⟩
    rintro _ _ ⟨p40,p41,p42,h,rfl,rfl⟩;refine bm I ([bV A3 n3 c3 a1,bh A18 n18 c18 p18,az A1 n1 c1 a0.Slots,az A2 n2 c2 a0.More,ah B4 35 [iV a0.Kind,iV a0.Shape,iV a0.Flags,iV a0.Age,W A1 n1 c1,W A2 n2 c2],ah B5 35 [iV 0,iV 0,iV 0,iV 0,W none 0 0,W none 0 0],ah B38 37 [iV p40,iV p41,.string p42]]) (cS [0,2,3,4,5,6,7] 8) ?_;refine zE 0 J (ai J) ?_;refine zE 1 J (bB J dT) ?_;refine zR 2 J (aL 4 J J dr J) ?_;refine zE 3 J (ai J) ?_;obtain ⟨x46,lx46,ux46,hx46,h⟩:=aU h;refine zR 4 J (bf 3 J ao J J z9 size37.out lx46 ux46) ?_;refine zR 5 J (dm (us:=be x46) 3 J ao J hx46 agg37.out (fun _ _ _ h=>by rw [show _=_ from h];rfl)) ?_;refine zE 6 J (bB J dT) ?_;refine zR 7 J (aL 4 J J dr J) ?_;refine zE 8 J (ai J) ?_;obtain ⟨q47,h⟩:=ad h;refine zE 9 J (cr J J q47.1 q47.2) ?_;obtain ⟨x48,lx48,ux48,hx48,h⟩:=aU h;refine zR 10 J (bf 3 J ao J J z9 size37.out lx48 ux48) ?_;refine zR 11 J (dm (us:=be x48) 3 J ao J hx48 agg37.out (fun _ _ _ h=>by rw [show _=_ from h];rfl)) ?_;refine zR 12 J (aR (us:=[iV p40,iV p41,.string p42]) 6 J J agg37.out J) ?_;refine zE 13 J (bB J dT) ?_;refine zR 14 J (aL 4 J J dr J) ?_;refine zE 15 J (ai J) ?_;obtain ⟨q49,h⟩:=ad h;refine zE 16 J (cr J J q49.1 q49.2) ?_;obtain ⟨x50,lx50,ux50,hx50,h⟩:=aU h;refine zR 17 J (bf 3 J ao J J z9 size37.out lx50 ux50) ?_
    refine zR 18 J (dm (us:=be x50) 3 J ao J hx50 agg37.out (fun _ _ _ h=>by rw [show _=_ from h];rfl)) ?_;refine zD 19 J (aG (R:=ak) (vss:=[(be x46),(be x48),[iV p40,iV p41,.string p42],(be x50)]) (xs:=[x46,x48,(⟨p40,p41,p42⟩:Qn),x50]) J (GK _ _ _ _ _ _ _ _ _ _ _ _) J J (fun _ _ hr=> .cons J (.cons J (.cons J (.cons J All2.nil))))) ?_;rintro _ _ ⟨A51,n51,c51,rfl,rfl⟩;refine bq (cS [1,3,4,5,6,7,8] 9) ?_;obtain ⟨q52,h⟩:=ad h;refine zD 20 J (ar 2 0 J J ap J J z9 lF J J q52) ?_;rintro _ _ ⟨A53,n53,c53,rfl,rfl⟩;refine bq (cS [1,3,4,5,6,7,8] 9) ?_;refine zE 21 J (av J) ?_;refine bv I ?_;refine Y ?_;exact ⟨_,_,⟨p17++([x46,x48,(⟨p40,p41,p42⟩:Qn),x50]:List Qn),p18,A53,n53,c53,A18,n18,c18,h,J,J⟩,sA,cS [1,2,3,4,5,6,7] 9⟩
   rintro _ _ ⟨p23,p24,A23,n23,c23,A24,n24,c24,h,rfl,rfl⟩;refine Y ?_;obtain ⟨q54,h⟩:=ad h;refine gE (cr J J q54.1 q54.2) ?_;refine Y ?_;exact ⟨m16,_,_,Qu _,⟨p23,p24,p19+4,A23,n23,c23,A24,n24,c24,h,J,J⟩,sA,cS [0,1,2,3,4,5,6] 7⟩
  refine Y ?_;exact ⟨_,_,⟨p17,p18,A17,n17,c17,A18,n18,c18,h,J,J⟩,sA,cS [1,2,3,4,5,6] 7⟩
 rintro _ _ ⟨p14,p15,A14,n14,c14,A15,n15,c15,h,rfl,rfl⟩;refine Y ?_;refine gR (aR (us:=[iV a0.Kind,iV a0.Shape,iV a0.Flags,iV a0.Age,W A1 n1 c1,W A2 n2 c2]) 4 J J agg35.out J) ?_;refine Y ?_;obtain ⟨y55,k,h⟩:=aa h;refine lp (aY 0 J) ?_;refine gD (gz (F1 k) call173.out J (ce [2,3,0] [] [0,1,2,3,4,5] 6 J)) ?_;rintro _ _ ⟨_,⟨A56,n56,c56,A57,n57,c57,rfl,rfl⟩,rfl⟩;refine Y ?_;refine gW (aq (us:=[iV y55.Kind,iV y55.Shape,iV y55.Flags,iV y55.Age,W A56 n56 c56,W A57 n57 c57]) (cs':=[iV y55.Kind,iV y55.Shape,iV y55.Flags,iV y55.Age,W A56 n56 c56,W A57 n57 c57]) 7 J J J J size35.out J J J) ?_;refine eh ?_;refine Y ?_;obtain rfl:=bw h;exact dt (rs:=[.cell 4 35,.tmp 5]) (vs:=[.agg #[iV y55.Kind,iV y55.Shape,iV y55.Flags,iV y55.Age,W A56 n56 c56,W A57 n57 c57],W A15 n15 c15]) J (.cons (bd 7 J J agg35.out) (.cons (iu J) .nil)) J (cS [0,1,3] 8) ⟨_,_,_,_,_,_,_,_,_,J,J⟩
def nb (N:Nat)(a0:Ql)(a1:Qq):Option (Ql×Qr):=
 bif decide (a0.Kind=8) then ((qj N a0 a1).bind fun y7=>some (y7,[])) else (bif decide (a0.Kind=10) then ((qg N a0 a1).bind fun y12=>some (y12.1,y12.2)) else (some (a0,[])))
theorem wq {N:Nat}{a0:Ql}{a1:Qq}{r:Ql×Qr}(h:nb N a0 a1=some r):Okc QB 111 [.agg #[iV a0.Kind,iV a0.Shape,iV a0.Flags,iV a0.Age,W A1 n1 c1,W A2 n2 c2],W A3 n3 c3] ([az A1 n1 c1 a0.Slots,az A2 n2 c2 a0.More,bV A3 n3 c3 a1]) (fun u post=> ∃A0 n0 c0 A1 n1 c1 A2 n2 c2,u=.tuple #[.agg #[iV r.1.Kind,iV r.1.Shape,iV r.1.Flags,iV r.1.Age,W A0 n0 c0,W A1 n1 c1],W A2 n2 c2]/\post=[az A0 n0 c0 r.1.Slots,az A1 n1 c1 r.1.More,bh A2 n2 c2 r.2]):=by
 refine cQ Tryz.func111 ?_;intro B4
 refine gg fun B5=> ?_
 refine sZ ?_;refine gH J h ?_ ?_<;>intro h
 ·refine ae ?_;obtain ⟨y7,k,h⟩:=aa h
  refine BM (oR (zx k)) fun A8 n8 c8 A9 n9 c9=> ?_
  obtain rfl:=bw h;exact dt (rs:=[.cell 4 35,.tmp 5]) (vs:=[.agg #[iV y7.Kind,iV y7.Shape,iV y7.Flags,iV y7.Age,W A8 n8 c8,W A9 n9 c9],W none 0 0]) J (.cons (bd 2 J J agg35.out) (.cons (iu J) .nil)) J ((aY 0 J).trans ((aY 1 J).trans ((aD ak 37 _).trans (cS [1,2,0] 8)))) ⟨_,_,_,_,_,_,_,_,_,J,J⟩
 refine sY ?_;refine gH J h ?_ ?_<;>intro h
 ·refine ae ?_;obtain ⟨y12,k,h⟩:=aa h
  refine MX (oC (zv k)) fun A13 n13 c13 A14 n14 c14 A15 n15 c15=> ?_
  exact eN
 refine ae ?_;obtain rfl:=bw h;exact dt (rs:=[.cell 4 35,.tmp 5]) (vs:=[.agg #[iV a0.Kind,iV a0.Shape,iV a0.Flags,iV a0.Age,W A1 n1 c1,W A2 n2 c2],W none 0 0]) J (.cons (bd 0 J J agg35.out) (.cons (iu J) .nil)) J ((aD ak 37 _).trans (cS [3,4,0] 6)) ⟨_,_,_,_,_,_,_,_,_,J,J⟩
def qY (N:Nat)(a0:Qn):Option Qn:=
 some a0
def tG (N:Nat)(kb8:Int->Option Qn)(p9:Int)(a1:Qq)(a2:Qq)(a0:Qn)(p14:Int):Option Qn:=
 some (⟨a0.Kind,p14,a0.S⟩:Qn)
def iW (N:Nat)(a1:Qq)(a2:Qq)(a0:Qn):Nat->Int->Option Qn
 |0,_=>none
 |m8+1,p9=>bif decide (p9<(a1.length:Int)) then ((aw a1 p9).bind fun x11=>bif decide (x11=a0.N) then (bif decide (p9<(a2.length:Int)) then ((aw a2 p9).bind fun x16=>tG N (iW N a1 a2 a0 m8) p9 a1 a2 a0 x16) else (tG N (iW N a1 a2 a0 m8) p9 a1 a2 a0 a0.N)) else (aZ (in64 (p9+1)) ((iW N a1 a2 a0 m8) (p9+1)))) else (qY N a0)
def lU (N:Nat)(a0:Qn)(a1:Qq)(a2:Qq):Option Qn:=
 (pi N a0).bind fun y5=>bif !y5 then (some a0) else (iW N a1 a2 a0 N 0)
theorem zy {N:Nat}{a0:Qn}{a1:Qq}{a2:Qq}{r:Qn}(h:lU N a0 a1 a2=some r):Okc QB 165 [(bD a0),W A1 n1 c1,W A2 n2 c2] ([bV A1 n1 c1 a1,bV A2 n2 c2 a2]) (fun u post=>u=(bD r)/\post=[]):=by
 refine cQ Tryz.func165 ?_;intro B3
 refine gg fun B4=> ?_
 refine sZ ?_;obtain ⟨y5,k,h⟩:=aa h;refine kw (oR (uV k)) ?_;refine gH J h ?_ ?_<;>intro h
 ·exact eY
 refine ae ?_;refine am (fun s L=>qY N a0=some r/\s=[(3,pV B3 0),(6,pV B4 0)]/\L=[ah B3 37 (be a0),ah B4 37 [iV 0,iV 0,.string (⟨#[]⟩)]]) ?_ ?_
 ·refine ae ?_;refine aH (fun m s L=> ∃p9,iW N a1 a2 a0 m p9=some r/\s=[(1,W A1 n1 c1),(2,W A2 n2 c2),(3,pV B3 0),(6,pV B4 0),(7,iV p9)]/\L=[bV A1 n1 c1 a1,bV A2 n2 c2 a2,ah B3 37 (be a0),ah B4 37 [iV 0,iV 0,.string (⟨#[]⟩)]]) N _ _ ⟨0,h,J,J⟩ sA (cS [2,3,1,0] 4) ?_;rintro (_|m8) _ _ ⟨p9,h,rfl,rfl⟩
  ·exact aj h
  rw [iW.eq_2] at h;refine sZ ?_;refine gH J h ?_ ?_<;>intro h
  ·refine sY ?_;refine ay ?_;refine bm I _ (ab _) ?_;refine ae ?_;obtain ⟨x11,lx11,ux11,hx11,h⟩:=aU h;refine ew h ?_ ?_<;>intro h
   ·refine am (fun s L=> ∃p14,tG N (iW N a1 a2 a0 m8) p9 a1 a2 a0 p14=some r/\s=[(1,W A1 n1 c1),(2,W A2 n2 c2),(3,pV B3 0),(6,pV B4 0),(7,iV p9)]/\L=[bV A1 n1 c1 a1,bV A2 n2 c2 a2,ah B3 37 [iV a0.Kind,iV p14,.string a0.S],ah B4 37 [iV 0,iV 0,.string (⟨#[]⟩)]]) ?_ ?_
    ·refine ew h ?_ ?_<;>intro h
     ·refine ae ?_;obtain ⟨x16,lx16,ux16,hx16,h⟩:=aU h;exact jY
     exact jY
    rintro _ _ ⟨p14,h,rfl,rfl⟩;exact eY
   refine ae ?_;obtain ⟨q17,h⟩:=ad h;exact lY
  exact jY
 rintro _ _ ⟨h,rfl,rfl⟩;exact eY
def pH (N:Nat)(p9:Qr)(a0:Ql)(p23:Qr):Option Ql:=
 some (⟨a0.Kind,a0.Shape,a0.Flags,a0.Age,p9,p23⟩:Ql)
def fz (N:Nat)(a1:Qq)(a2:Qq)(a0:Ql)(p9:Qr):Nat->Int->Qr->Option Ql
 |0,_,_=>none
 |m24+1,p25,p26=>bif decide (p25<(a0.More.length:Int)) then ((aw a0.More p25).bind fun x29=>(lU N x29 a1 a2).bind fun y30=>aZ (bi (p26.length+([y30]:List Qn).length)) (aZ (in64 (p25+1)) ((fz N a1 a2 a0 p9 m24) (p25+1) (p26++([y30]:List Qn))))) else (pH N p9 a0 p26)
def mx (N:Nat)(a1:Qq)(a2:Qq)(a0:Ql)(p9:Qr):Option Ql:=
 fz N a1 a2 a0 p9 N 0 []
def fA (N:Nat)(a1:Qq)(a2:Qq)(a0:Ql):Nat->Int->Qr->Option Ql
 |0,_,_=>none
 |m10+1,p11,p12=>bif decide (p11<(a0.Slots.length:Int)) then ((aw a0.Slots p11).bind fun x15=>(lU N x15 a1 a2).bind fun y16=>aZ (bi (p12.length+([y16]:List Qn).length)) (aZ (in64 (p11+1)) ((fA N a1 a2 a0 m10) (p11+1) (p12++([y16]:List Qn))))) else (mx N a1 a2 a0 p12)
def fL (N:Nat)(a0:Ql)(a1:Qq)(a2:Qq):Option Ql:=
 fA N a1 a2 a0 N 0 []
theorem qZ {N:Nat}{a0:Ql}{a1:Qq}{a2:Qq}{r:Ql}(h:fL N a0 a1 a2=some r):Okc QB 112 [.agg #[iV a0.Kind,iV a0.Shape,iV a0.Flags,iV a0.Age,W A1 n1 c1,W A2 n2 c2],W A3 n3 c3,W A4 n4 c4] ([az A1 n1 c1 a0.Slots,az A2 n2 c2 a0.More,bV A3 n3 c3 a1,bV A4 n4 c4 a2]) (fun u post=> ∃A0 n0 c0 A1 n1 c1,u=.agg #[iV r.Kind,iV r.Shape,iV r.Flags,iV r.Age,W A0 n0 c0,W A1 n1 c1]/\post=[bh A0 n0 c0 r.Slots,bh A1 n1 c1 r.More]):=by
 refine cQ Tryz.func112 ?_;intro B5
 refine gg fun B6=> ?_
 intro B7;refine ae ?_;refine am (fun s L=> ∃p9 A9 n9 c9,mx N a1 a2 a0 p9=some r/\s=[(1,W A3 n3 c3),(2,W A4 n4 c4),(3,pV B5 0),(6,pV B6 0),(7,pV B7 0)]/\L=[bV A3 n3 c3 a1,bV A4 n4 c4 a2,az A1 n1 c1 a0.Slots,az A2 n2 c2 a0.More,ah B5 35 [iV a0.Kind,iV a0.Shape,iV a0.Flags,iV a0.Age,W A1 n1 c1,W A2 n2 c2],ah B6 35 [iV 0,iV 0,iV 0,iV 0,W none 0 0,W none 0 0],bh A9 n9 c9 p9,ah B7 35 [iV a0.Kind,iV a0.Shape,iV a0.Flags,iV a0.Age,W A9 n9 c9,W none 0 0]]) ?_ ?_
 ·refine ae ?_;refine aH (fun m s L=> ∃p11 p12 A12 n12 c12,fA N a1 a2 a0 m p11 p12=some r/\s=[(1,W A3 n3 c3),(2,W A4 n4 c4),(3,pV B5 0),(6,pV B6 0),(7,pV B7 0),(8,iV p11)]/\L=[bV A3 n3 c3 a1,bV A4 n4 c4 a2,az A1 n1 c1 a0.Slots,az A2 n2 c2 a0.More,ah B5 35 [iV a0.Kind,iV a0.Shape,iV a0.Flags,iV a0.Age,W A1 n1 c1,W A2 n2 c2],ah B6 35 [iV 0,iV 0,iV 0,iV 0,W none 0 0,W none 0 0],bh A12 n12 c12 p12,ah B7 35 [iV a0.Kind,iV a0.Shape,iV a0.Flags,iV a0.Age,W A12 n12 c12,W none 0 0]]) N _ _ ⟨0,[],none,0,0,h,J,J⟩ sA ((aD ak 37 _).trans (cS [6,7,4,5,3,2,0,1] 8)) ?_;rintro (_|m10) _ _ ⟨p11,p12,A12,n12,c12,h,rfl,rfl⟩
  ·exact aj h
  rw [fA.eq_2] at h;refine sZ ?_;refine gH J h ?_ ?_<;>intro h
  ·refine sY ?_;obtain ⟨x15,lx15,ux15,hx15,h⟩:=aU h;obtain ⟨y16,hy16,h⟩:=aa h;refine dB (t:=[(1,W A3 n3 c3),(2,W A4 n4 c4),(3,pV B5 0),(6,pV B6 0),(7,pV B7 0),(8,iV p11)]) ?_ fv (ab _)
   refine dF I 11 [] [1,10] [26,27,28,29,30,31,32,33,34,35,36] [[],[0],[],[2],[],[3,4],[5],[],[],[6,7,8],[9]] [aV (pV B7 4),
 aV (W A12 n12 c12),
 aV (pV B5 4),
 aV (W A1 n1 c1),
 aV (iV p11),
 aV (dj (W A1 n1 c1) p11.toNat 3 0),
 aV ((bD x15)),
 aV (W A3 n3 c3),
 aV (W A4 n4 c4),
 aV ((bD y16)),
 aX3 (fun (A18:Option Addr) (n18 c18:Nat)=> W A18 n18 c18) (fun A18 n18 c18=> [bh A18 n18 c18 ([y16]:List Qn)])] [] (ab _) (fj) I rfl rfl ?_ ?_ ?_
   ·exact fi
   ·refine ac J ?_ ?_
    ·refine gj (aG (R:=ak) (vss:=[(be y16)]) (xs:=[y16]) J (oX _ _ _) J J (fun _ _ hr=> .cons J All2.nil)) J ?_;rintro _ _ ⟨A17,n17,c17,rfl,rfl⟩;exact pv A17 n17 c17 (ab _)
    refine ac J ?_ ?_
    ·refine gj (oR (zy hy16)) J ?_;rintro _ _ ⟨_,⟨rfl,rfl⟩,rfl⟩;exact aP J (ab _)
    refine ac J ?_ ?_
    ·exact bN (ai J) J (aP J (ab _))
    refine ac J ?_ ?_
    ·exact bN (ai J) J (aP J (ab _))
    refine ac J ?_ ?_
    ·exact cB (dm (us:=be x15) 2 J ao J hx15 agg37.out (fun _ _ _ h=>by rw [show _=_ from h];rfl)) J (aP J (ab _))
    refine ac J ?_ ?_
    ·exact cB (bf 2 J ao J J z9 size37.out lx15 ux15) J (aP J (ab _))
    refine ac J ?_ ?_
    ·exact bN (ai J) J (aP J (ab _))
    refine ac J ?_ ?_
    ·exact cB (aL 4 J J dr J) J (aP J (ab _))
    refine ac J ?_ ?_
    ·exact bN (bB J pO) J (aP J (ab _))
    refine ac J ?_ ?_
    ·exact cB (aL 7 J J dr J) J (aP J (ab _))
    refine ac J ?_ ?_
    ·exact bN (bB J pO) J (aP J (ab _))
    exact cp
   intro A18 n18 c18;refine gu (t:=[(27,W A12 n12 c12),(36,W A18 n18 c18),(1,W A3 n3 c3),(2,W A4 n4 c4),(3,pV B5 0),(6,pV B6 0),(7,pV B7 0),(8,iV p11)]) (L':=[bh A18 n18 c18 ([y16]:List Qn),bV A3 n3 c3 a1,bV A4 n4 c4 a2,az A1 n1 c1 a0.Slots,az A2 n2 c2 a0.More,ah B5 35 [iV a0.Kind,iV a0.Shape,iV a0.Flags,iV a0.Age,W A1 n1 c1,W A2 n2 c2],ah B6 35 [iV 0,iV 0,iV 0,iV 0,W none 0 0,W none 0 0],bh A12 n12 c12 p12,ah B7 35 [iV a0.Kind,iV a0.Shape,iV a0.Flags,iV a0.Age,W A12 n12 c12,W none 0 0]]) ?_ fv (ab _);obtain ⟨q19,h⟩:=ad h;refine jt 11 J I (ar 7 0 J J ap J J z9 lF J J q19) J J J ?_;rintro _ _ ⟨A20,n20,c20,rfl,rfl⟩;refine rc 12 J I (bB J pO) J J J ?_;refine o7 13 J I (aq (us:=[W A20 n20 c20]) (cs':=[iV a0.Kind,iV a0.Shape,iV a0.Flags,iV a0.Age,W A20 n20 c20,W none 0 0]) 8 J J J J size30.out J J J) J J ?_;rintro _ _ rfl;refine sU ?_;refine ft I ?_;refine ae ?_;obtain ⟨q21,h⟩:=ad h;exact lY
  exact jY
 rintro _ _ ⟨p9,A9,n9,c9,h,rfl,rfl⟩;refine am (fun s L=> ∃p23 A23 n23 c23,pH N p9 a0 p23=some r/\s=[(6,pV B6 0),(7,pV B7 0)]/\L=[ah B6 35 [iV 0,iV 0,iV 0,iV 0,W none 0 0,W none 0 0],bh A9 n9 c9 p9,bh A23 n23 c23 p23,ah B7 35 [iV a0.Kind,iV a0.Shape,iV a0.Flags,iV a0.Age,W A9 n9 c9,W A23 n23 c23]]) ?_ ?_
 ·refine ae ?_;refine aH (fun m s L=> ∃p25 p26 A26 n26 c26,fz N a1 a2 a0 p9 m p25 p26=some r/\s=[(1,W A3 n3 c3),(2,W A4 n4 c4),(3,pV B5 0),(6,pV B6 0),(7,pV B7 0),(9,iV p25)]/\L=[bV A3 n3 c3 a1,bV A4 n4 c4 a2,az A1 n1 c1 a0.Slots,az A2 n2 c2 a0.More,ah B5 35 [iV a0.Kind,iV a0.Shape,iV a0.Flags,iV a0.Age,W A1 n1 c1,W A2 n2 c2],ah B6 35 [iV 0,iV 0,iV 0,iV 0,W none 0 0,W none 0 0],bh A9 n9 c9 p9,bh A26 n26 c26 p26,ah B7 35 [iV a0.Kind,iV a0.Shape,iV a0.Flags,iV a0.Age,W A9 n9 c9,W A26 n26 c26]]) N _ _ ⟨0,[],none,0,0,h,J,J⟩ sA ((aD ak 37 _).trans (cS [1,2,3,4,5,6,7,0,8] 9)) ?_;rintro (_|m24) _ _ ⟨p25,p26,A26,n26,c26,h,rfl,rfl⟩
  ·exact aj h
  rw [fz.eq_2] at h;refine sZ ?_;refine gH J h ?_ ?_<;>intro h
  ·refine sY ?_;obtain ⟨x29,lx29,ux29,hx29,h⟩:=aU h;obtain ⟨y30,hy30,h⟩:=aa h;refine dB (t:=[(1,W A3 n3 c3),(2,W A4 n4 c4),(3,pV B5 0),(6,pV B6 0),(7,pV B7 0),(9,iV p25)]) ?_ fv (ab _)
   refine dF I 11 [] [1,10] [46,47,48,49,50,51,52,53,54,55,56] [[],[0],[],[2],[],[3,4],[5],[],[],[6,7,8],[9]] [aV (pV B7 5),
aV (W A26 n26 c26),
aV (pV B5 5),
aV (W A2 n2 c2),
aV (iV p25),
aV (dj (W A2 n2 c2) p25.toNat 3 0),
aV ((bD x29)),
aV (W A3 n3 c3),
aV (W A4 n4 c4),
aV ((bD y30)),
aX3 (fun (A32:Option Addr) (n32 c32:Nat)=> W A32 n32 c32) (fun A32 n32 c32=> [bh A32 n32 c32 ([y30]:List Qn)])] [] (ab _) (fj) I rfl rfl ?_ ?_ ?_
   ·exact fi
   ·refine ac J ?_ ?_
    ·refine gj (aG (R:=ak) (vss:=[(be y30)]) (xs:=[y30]) J (oX _ _ _) J J (fun _ _ hr=> .cons J All2.nil)) J ?_;rintro _ _ ⟨A31,n31,c31,rfl,rfl⟩;exact pv A31 n31 c31 (ab _)
    refine ac J ?_ ?_
    ·refine gj (oR (zy hy30)) J ?_;rintro _ _ ⟨_,⟨rfl,rfl⟩,rfl⟩;exact aP J (ab _)
    refine ac J ?_ ?_
    ·exact bN (ai J) J (aP J (ab _))
    refine ac J ?_ ?_
    ·exact bN (ai J) J (aP J (ab _))
    refine ac J ?_ ?_
    ·exact cB (dm (us:=be x29) 3 J ao J hx29 agg37.out (fun _ _ _ h=>by rw [show _=_ from h];rfl)) J (aP J (ab _))
    refine ac J ?_ ?_
    ·exact cB (bf 3 J ao J J z9 size37.out lx29 ux29) J (aP J (ab _))
    refine ac J ?_ ?_
    ·exact bN (ai J) J (aP J (ab _))
    refine ac J ?_ ?_
    ·exact cB (aL 4 J J dr J) J (aP J (ab _))
    refine ac J ?_ ?_
    ·exact bN (bB J dT) J (aP J (ab _))
    refine ac J ?_ ?_
    ·exact cB (aL 8 J J dr J) J (aP J (ab _))
    refine ac J ?_ ?_
    ·exact bN (bB J dT) J (aP J (ab _))
    exact cp
   intro A32 n32 c32;refine gu (t:=[(47,W A26 n26 c26),(56,W A32 n32 c32),(1,W A3 n3 c3),(2,W A4 n4 c4),(3,pV B5 0),(6,pV B6 0),(7,pV B7 0),(9,iV p25)]) (L':=[bh A32 n32 c32 ([y30]:List Qn),bV A3 n3 c3 a1,bV A4 n4 c4 a2,az A1 n1 c1 a0.Slots,az A2 n2 c2 a0.More,ah B5 35 [iV a0.Kind,iV a0.Shape,iV a0.Flags,iV a0.Age,W A1 n1 c1,W A2 n2 c2],ah B6 35 [iV 0,iV 0,iV 0,iV 0,W none 0 0,W none 0 0],bh A9 n9 c9 p9,bh A26 n26 c26 p26,ah B7 35 [iV a0.Kind,iV a0.Shape,iV a0.Flags,iV a0.Age,W A9 n9 c9,W A26 n26 c26]]) ?_ fv (ab _);obtain ⟨q33,h⟩:=ad h;refine jt 11 J I (ar 8 0 J J ap J J z9 lF J J q33) J J J ?_;rintro _ _ ⟨A34,n34,c34,rfl,rfl⟩;refine rc 12 J I (bB J dT) J J J ?_;refine o7 13 J I (aq (us:=[W A34 n34 c34]) (cs':=[iV a0.Kind,iV a0.Shape,iV a0.Flags,iV a0.Age,W A9 n9 c9,W A34 n34 c34]) 9 J J J J size30.out J J J) J J ?_;rintro _ _ rfl;refine ft I ?_;refine ae ?_;obtain ⟨q35,h⟩:=ad h;exact lY
  exact jY
 rintro _ _ ⟨p23,A23,n23,c23,h,rfl,rfl⟩;exact eY
theorem CI {r:Ql}: ∀v post,((fun (u:Value) (post:List Chunk)=> ∃A0 n0 c0 A1 n1 c1,u=.agg #[iV r.Kind,iV r.Shape,iV r.Flags,iV r.Age,W A0 n0 c0,W A1 n1 c1]/\post=[bh A0 n0 c0 r.Slots,bh A1 n1 c1 r.More])) v post-> ∀c∈post,fu c:=by
 rintro _ _ ⟨_,_,_,_,_,_,rfl,rfl⟩;exact hU gr (hU gr (ax))
def qA (N:Nat)(y13:Qq×Qq)(y18:Qr)(p68:Qy)(p69:Qy)(p70:Qr):Option Qm:=
 (ui N p70 y13.1 y13.2).bind fun y122=>some (⟨(⟨p68,p69⟩:Qg),y18,y122,0⟩:Qm)
def nq (N:Nat)(kb71:Int->Qy->Qy->Qr->Option Qm)(p72:Int)(y13:Qq×Qq)(p22:Qq)(a0:Qg)(y18:Qr)(p79:Qy)(p80:Qy)(p81:Qr):Option Qm:=
 aZ (in64 (p72+1)) (kb71 (p72+1) p79 p80 p81)
def d9 (N:Nat)(y13:Qq×Qq)(p22:Qq)(a0:Qg)(y18:Qr):Nat->Int->Qy->Qy->Qr->Option Qm
 |0,_,_,_,_=>none
 |m71+1,p72,p73,p74,p75=>bif decide (p72<(y13.1.length:Int)) then ((aw y13.1 p72).bind fun x82=>(qb N a0 x82).bind fun y83=>(nb N y83 p22).bind fun y88=>aZ (bi (p75.length+y88.2.length)) ((fL N y88.1 y13.1 y13.2).bind fun y111=>bif decide (y111.Age=0) then (aZ (bi (p73.length+([(⟨y111.Kind,y111.Shape,y111.Flags,1,y111.Slots,y111.More⟩:Ql)]:List Ql).length)) (nq N (d9 N y13 p22 a0 y18 m71) p72 y13 p22 a0 y18 (p73++([(⟨y111.Kind,y111.Shape,y111.Flags,1,y111.Slots,y111.More⟩:Ql)]:List Ql)) p74 (p75++y88.2))) else (aZ (bi (p74.length+([y111]:List Ql).length)) (nq N (d9 N y13 p22 a0 y18 m71) p72 y13 p22 a0 y18 p73 (p74++([y111]:List Ql)) (p75++y88.2))))) else (qA N y13 y18 p73 p74 p75)
def qB (N:Nat)(y13:Qq×Qq)(a0:Qg)(y18:Qr)(p22:Qq)(p23:Qy)(p24:Qr):Option Qm:=
 d9 N y13 p22 a0 y18 N 0 [] p23 p24
def kK (N:Nat)(kb25:Qq->Int->Qy->Qr->Option Qm)(p27:Int)(a2:Qq)(y13:Qq×Qq)(p26:Qq)(a0:Qg)(p28:Qy)(y18:Qr)(p39:Qr)(p40:Int)(p41:Int)(p42:Int)(p43:Int)(p44:Qr)(p45:Qr):Option Qm:=
 (fL N (⟨p40,p41,p42,p43,p44,p45⟩:Ql) y13.1 y13.2).bind fun y57=>aZ (bi (p28.length+([y57]:List Ql).length)) (aZ (in64 (p27+1)) (kb25 p26 (p27+1) (p28++([y57]:List Ql)) p39))
def eW (N:Nat)(a2:Qq)(y13:Qq×Qq)(a0:Qg)(y18:Qr):Nat->Qq->Int->Qy->Qr->Option Qm
 |0,_,_,_,_=>none
 |m25+1,p26,p27,p28,p29=>bif decide (p27<(a0.Old.length:Int)) then ((aw a0.Old p27).bind fun x33=>aZ (in64 (2*p27)) (aZ (in64 ((2*p27)+2)) ((qi N ((2*p27)+2) a2).bind fun y48=>bif y48 then ((nb N x33 p26).bind fun y50=>aZ (bi (p29.length+y50.2.length)) (kK N (eW N a2 y13 a0 y18 m25) p27 a2 y13 p26 a0 p28 y18 (p29++y50.2) y50.1.Kind y50.1.Shape y50.1.Flags y50.1.Age y50.1.Slots y50.1.More)) else (kK N (eW N a2 y13 a0 y18 m25) p27 a2 y13 p26 a0 p28 y18 p29 x33.Kind x33.Shape x33.Flags x33.Age x33.Slots x33.More)))) else (qB N y13 a0 y18 p26 p28 p29)
def jj (N:Nat)(a0:Qg)(a1:Qr)(a2:Qq):Option Qm:=
 (uf N a0 a1 a2).bind fun y7=>bif !y7 then (some (⟨(⟨[],[]⟩:Qg),[],[],1⟩:Qm)) else ((qS N a0 a1 a2).bind fun y13=>(rL N a0 y13.1).bind fun y16=>(ui N a1 y13.1 y13.2).bind fun y18=>eW N a2 y13 a0 y18 N y16 0 [] [])
theorem CC {N:Nat}{a0:Qg}{a1:Qr}{a2:Qq}{r:Qm}(h:jj N a0 a1 a2=some r):Okc QB 60 [.agg #[W A1 n1 c1,W A2 n2 c2],W A3 n3 c3,W A4 n4 c4] ([aK A1 n1 c1 a0.Young,aK A2 n2 c2 a0.Old,az A3 n3 c3 a1,bV A4 n4 c4 a2]) (fun u post=> ∃A0 n0 c0 A1 n1 c1 A2 n2 c2 A3 n3 c3,u=.agg #[W A0 n0 c0,W A1 n1 c1,W A2 n2 c2,W A3 n3 c3,iV r.Err]/\post=[bY A0 n0 c0 r.M.Young,bY A1 n1 c1 r.M.Old,bh A2 n2 c2 r.Now,bh A3 n3 c3 r.Gone]):=by
 refine cQ Tryz.func60 ?_;intro B5
 refine gg fun B6=> ?_
 refine sZ ?_;obtain ⟨y7,k,h⟩:=aa h;refine kw (oR (CA k)) ?_;refine gH J h ?_ ?_<;>intro h
 ·refine ae ?_;obtain rfl:=bw h;exact dt (rs:=[.cell 6 98]) (vs:=[.agg #[W none 0 0,W none 0 0,W none 0 0,W none 0 0,iV 1]]) J (.cons (bd 0 J J agg98.out) .nil) J ((aD bT 35 _).trans ((aD bT 35 _).trans ((aD ak 37 _).trans ((aD ak 37 _).trans (cS [3,2,1,0] 10))))) ⟨_,_,_,_,_,_,_,_,_,_,_,_,J,J⟩
 refine ae ?_;obtain ⟨y13,k,h⟩:=aa h
 refine BM (oC (DD k)) fun A14 n14 c14 A15 n15 c15=> ?_
 obtain ⟨y16,k,h⟩:=aa h
 refine iE (oR (Bc k)) fun A17 n17 c17=> ?_
 obtain ⟨y18,k,h⟩:=aa h
 refine iE (oR (CD k)) fun A19 n19 c19=> ?_
 intro B20;refine ae ?_;refine am (fun s L=> ∃p22 p23 p24 A22 n22 c22 A23 n23 c23 A24 n24 c24,qB N y13 a0 y18 p22 p23 p24=some r/\s=[(3,pV B5 0),(6,pV B6 0),(7,W A14 n14 c14),(8,W A15 n15 c15),(9,W A22 n22 c22),(10,pV B20 0)]/\L=[bV A14 n14 c14 y13.1,bS A15 n15 c15 y13.2,bV A22 n22 c22 p22,aK A1 n1 c1 a0.Young,aK A2 n2 c2 a0.Old,ah B5 29 [W A1 n1 c1,W A2 n2 c2],ah B6 98 [W none 0 0,W none 0 0,W none 0 0,W none 0 0,iV 0],bY A23 n23 c23 p23,bh A19 n19 c19 y18,bh A24 n24 c24 p24,ah B20 98 [W none 0 0,W A23 n23 c23,W A19 n19 c19,W A24 n24 c24,iV 0]]) ?_ ?_
 ·refine ae ?_;refine aH (fun m s L=> ∃p26 p27 p28 p29 A26 n26 c26 A28 n28 c28 A29 n29 c29,eW N a2 y13 a0 y18 m p26 p27 p28 p29=some r/\s=[(2,W A4 n4 c4),(3,pV B5 0),(6,pV B6 0),(7,W A14 n14 c14),(8,W A15 n15 c15),(9,W A26 n26 c26),(10,pV B20 0),(11,iV p27)]/\L=[bV A4 n4 c4 a2,bV A14 n14 c14 y13.1,bS A15 n15 c15 y13.2,bV A26 n26 c26 p26,aK A1 n1 c1 a0.Young,aK A2 n2 c2 a0.Old,ah B5 29 [W A1 n1 c1,W A2 n2 c2],ah B6 98 [W none 0 0,W none 0 0,W none 0 0,W none 0 0,iV 0],bY A28 n28 c28 p28,bh A19 n19 c19 y18,bh A29 n29 c29 p29,ah B20 98 [W none 0 0,W A28 n28 c28,W A19 n19 c19,W A29 n29 c29,iV 0]]) N _ _ ⟨y16,0,[],[],A17,n17,c17,none,0,0,none,0,0,h,J,J⟩ sA ((aY 2 J).trans ((aD bT 35 _).trans ((aD ak 37 _).trans (cS [12,5,6,4,9,10,8,7,1,3,0,2] 13)))) ?_;rintro (_|m25) _ _ ⟨p26,p27,p28,p29,A26,n26,c26,A28,n28,c28,A29,n29,c29,h,rfl,rfl⟩
  ·exact aj h
  rw [eW.eq_2] at h;refine sZ ?_;refine gH J h ?_ ?_<;>intro h
  ·refine sY ?_;obtain ⟨x33,lx33,ux33,hx33,h⟩:=aU h;refine ae ?_;refine mL 5 J hx33 (bR x33) ?_;rintro _ _ ⟨A34,n34,c34,A35,n35,c35,rfl,rfl⟩;refine zX (eo (us:=[iV x33.Kind,iV x33.Shape,iV x33.Flags,iV x33.Age,W A34 n34 c34,W A35 n35 c35]) 0 J J agg35.out J) ?_;intro B37;refine ae ?_;refine am (fun s L=> ∃p39 p40 p41 p42 p43 p44 p45 A39 n39 c39 A44 n44 c44 A45 n45 c45,kK N (eW N a2 y13 a0 y18 m25) p27 a2 y13 p26 a0 p28 y18 p39 p40 p41 p42 p43 p44 p45=some r/\s=[(2,W A4 n4 c4),(3,pV B5 0),(6,pV B6 0),(7,W A14 n14 c14),(8,W A15 n15 c15),(9,W A26 n26 c26),(10,pV B20 0),(11,iV p27),(12,pV B37 0)]/\L=[bV A4 n4 c4 a2,bV A14 n14 c14 y13.1,bS A15 n15 c15 y13.2,bV A26 n26 c26 p26,aK A1 n1 c1 a0.Young,aK A2 n2 c2 a0.Old,ah B5 29 [W A1 n1 c1,W A2 n2 c2],ah B6 98 [W none 0 0,W none 0 0,W none 0 0,W none 0 0,iV 0],bY A28 n28 c28 p28,bh A19 n19 c19 y18,bh A39 n39 c39 p39,ah B20 98 [W none 0 0,W A28 n28 c28,W A19 n19 c19,W A39 n39 c39,iV 0],az A44 n44 c44 p44,az A45 n45 c45 p45,ah B37 35 [iV p40,iV p41,iV p42,iV p43,W A44 n44 c44,W A45 n45 c45]]) ?_ ?_
   ·refine ae ?_;obtain ⟨q46,h⟩:=ad h;refine gE (kA J J q46.1 q46.2) ?_;obtain ⟨q47,h⟩:=ad h;refine ae ?_;obtain ⟨y48,k,h⟩:=aa h;refine kw (oR (rk k)) ?_;refine gH J h ?_ ?_<;>intro h
    ·refine ae ?_;obtain ⟨y50,k,h⟩:=aa h
     refine MX (oC (wq k)) fun A51 n51 c51 A52 n52 c52 A53 n53 c53=> ?_
     intro B54;refine ae ?_;obtain ⟨q55,h⟩:=ad h
     refine iE (ar 18 3 J J ap J J z9 lF J J q55) fun A56 n56 c56=> ?_
     exact jN
    exact jY
   rintro _ _ ⟨p39,p40,p41,p42,p43,p44,p45,A39,n39,c39,A44,n44,c44,A45,n45,c45,h,rfl,rfl⟩;obtain ⟨y57,hy57,h⟩:=aa h;refine dB (t:=[(2,W A4 n4 c4),(3,pV B5 0),(6,pV B6 0),(7,W A14 n14 c14),(8,W A15 n15 c15),(9,W A26 n26 c26),(10,pV B20 0),(11,iV p27),(12,pV B37 0)]) ?_ fv (ab _)
   refine dF I 8 [] [2,7] [68,69,70,71,72,73,74,75] [[],[0],[1],[],[],[],[3,4,5],[6]] [aV (pV B20 0),
aV (pV B20 1),
aV (W A28 n28 c28),
aV (.agg #[iV p40,iV p41,iV p42,iV p43,W A44 n44 c44,W A45 n45 c45]),
aV (W A14 n14 c14),
aV (W A15 n15 c15),
aX6 (fun (A60:Option Addr) (n60 c60:Nat) (A61:Option Addr) (n61 c61:Nat)=> .agg #[iV y57.Kind,iV y57.Shape,iV y57.Flags,iV y57.Age,W A60 n60 c60,W A61 n61 c61]) (fun A60 n60 c60 A61 n61 c61=> [az A60 n60 c60 y57.Slots,az A61 n61 c61 y57.More]),
aX3 (fun (A63:Option Addr) (n63 c63:Nat)=> W A63 n63 c63) (fun A63 n63 c63=> [bY A63 n63 c63 ([y57]:List Ql)])] [] (ab _) (fj) I rfl rfl ?_ ?_ ?_
   ·exact fi
   ·refine ac J ?_ ?_
    ·intro A60 n60 c60 A61 n61 c61;refine gj (aG (R:=bT) (vss:=[[iV y57.Kind,iV y57.Shape,iV y57.Flags,iV y57.Age,W A60 n60 c60,W A61 n61 c61]]) (xs:=[y57]) J (mf _ _ _ _ _ _ _ _ _ _) J J (fun _ _ hr=> .cons (⟨_,_,_,_,_,_,J,hr 0 _ J J,hr 1 _ J J⟩) All2.nil)) J ?_;rintro _ _ ⟨A62,n62,c62,rfl,rfl⟩;exact pv A62 n62 c62 (ab _)
    refine ac J ?_ ?_
    ·refine gj (oR (qZ hy57)) J ?_;rintro _ _ ⟨_,⟨A58,n58,c58,A59,n59,c59,rfl,rfl⟩,rfl⟩;exact BN A58 n58 c58 A59 n59 c59 ((aY 0 J).trans ((aY 1 J).trans (ab _)))
    refine ac J ?_ ?_
    ·exact bN (ai J) J (aP J (ab _))
    refine ac J ?_ ?_
    ·exact bN (ai J) J (aP J (ab _))
    refine ac J ?_ ?_
    ·exact cB (aR (us:=[iV p40,iV p41,iV p42,iV p43,W A44 n44 c44,W A45 n45 c45]) 14 J J agg35.out J) J (aP J (ab _))
    refine ac J ?_ ?_
    ·exact cB (aL 11 J J ni J) J (aP J (ab _))
    refine ac J ?_ ?_
    ·exact bN (bB J lC) J (aP J (ab _))
    refine ac J ?_ ?_
    ·exact bN (cG J BT) J (aP J (ab _))
    exact cp
   intro A63 n63 c63;refine gu (t:=[(70,W A28 n28 c28),(75,W A63 n63 c63),(2,W A4 n4 c4),(3,pV B5 0),(6,pV B6 0),(7,W A14 n14 c14),(8,W A15 n15 c15),(9,W A26 n26 c26),(10,pV B20 0),(11,iV p27),(12,pV B37 0)]) (L':=[bY A63 n63 c63 ([y57]:List Ql),bV A4 n4 c4 a2,bV A14 n14 c14 y13.1,bS A15 n15 c15 y13.2,bV A26 n26 c26 p26,aK A1 n1 c1 a0.Young,aK A2 n2 c2 a0.Old,ah B5 29 [W A1 n1 c1,W A2 n2 c2],ah B6 98 [W none 0 0,W none 0 0,W none 0 0,W none 0 0,iV 0],bY A28 n28 c28 p28,bh A19 n19 c19 y18,bh A39 n39 c39 p39,ah B20 98 [W none 0 0,W A28 n28 c28,W A19 n19 c19,W A39 n39 c39,iV 0],az A44 n44 c44 p44,az A45 n45 c45 p45,ah B37 35 [iV p40,iV p41,iV p42,iV p43,W A44 n44 c44,W A45 n45 c45]]) ?_ fv (ab _);obtain ⟨q64,h⟩:=ad h;refine jt 8 J I (ar 9 0 J J ap J J t9 tt J J q64) J J J ?_;rintro _ _ ⟨A65,n65,c65,rfl,rfl⟩;refine rc 9 J I (cG J BT) J J J ?_;refine rc 10 J I (bB J lC) J J J ?_;refine o7 11 J I (aq (us:=[W A65 n65 c65]) (cs':=[W none 0 0,W A65 n65 c65,W A19 n19 c19,W A39 n39 c39,iV 0]) 12 J J J J size27.out J J J) J J ?_;rintro _ _ rfl;refine ft I ?_;refine ae ?_;obtain ⟨q66,h⟩:=ad h;exact lY
  exact jY
 rintro _ _ ⟨p22,p23,p24,A22,n22,c22,A23,n23,c23,A24,n24,c24,h,rfl,rfl⟩;refine am (fun s L=> ∃p68 p69 p70 A68 n68 c68 A69 n69 c69 A70 n70 c70,qA N y13 y18 p68 p69 p70=some r/\s=[(6,pV B6 0),(7,W A14 n14 c14),(8,W A15 n15 c15),(10,pV B20 0)]/\L=[bV A14 n14 c14 y13.1,bS A15 n15 c15 y13.2,ah B6 98 [W none 0 0,W none 0 0,W none 0 0,W none 0 0,iV 0],bY A68 n68 c68 p68,bY A69 n69 c69 p69,bh A19 n19 c19 y18,bh A70 n70 c70 p70,ah B20 98 [W A68 n68 c68,W A69 n69 c69,W A19 n19 c19,W A70 n70 c70,iV 0]]) ?_ ?_
 ·refine ae ?_;refine aH (fun m s L=> ∃p72 p73 p74 p75 A73 n73 c73 A74 n74 c74 A75 n75 c75,d9 N y13 p22 a0 y18 m p72 p73 p74 p75=some r/\s=[(3,pV B5 0),(6,pV B6 0),(7,W A14 n14 c14),(8,W A15 n15 c15),(9,W A22 n22 c22),(10,pV B20 0),(15,iV p72)]/\L=[bV A14 n14 c14 y13.1,bS A15 n15 c15 y13.2,bV A22 n22 c22 p22,aK A1 n1 c1 a0.Young,aK A2 n2 c2 a0.Old,ah B5 29 [W A1 n1 c1,W A2 n2 c2],ah B6 98 [W none 0 0,W none 0 0,W none 0 0,W none 0 0,iV 0],bY A73 n73 c73 p73,bY A74 n74 c74 p74,bh A19 n19 c19 y18,bh A75 n75 c75 p75,ah B20 98 [W A73 n73 c73,W A74 n74 c74,W A19 n19 c19,W A75 n75 c75,iV 0]]) N _ _ ⟨0,[],p23,p24,none,0,0,A23,n23,c23,A24,n24,c24,h,J,J⟩ sA ((aD bT 35 _).trans (cS [1,2,3,4,5,6,7,0,8,9,10,11] 12)) ?_;rintro (_|m71) _ _ ⟨p72,p73,p74,p75,A73,n73,c73,A74,n74,c74,A75,n75,c75,h,rfl,rfl⟩
  ·exact aj h
  rw [d9.eq_2] at h;refine sZ ?_;refine gH J h ?_ ?_<;>intro h
  ·refine ae ?_;refine am (fun s L=> ∃p79 p80 p81 A79 n79 c79 A80 n80 c80 A81 n81 c81,nq N (d9 N y13 p22 a0 y18 m71) p72 y13 p22 a0 y18 p79 p80 p81=some r/\s=[(3,pV B5 0),(6,pV B6 0),(7,W A14 n14 c14),(8,W A15 n15 c15),(9,W A22 n22 c22),(10,pV B20 0),(15,iV p72)]/\L=[bV A14 n14 c14 y13.1,bS A15 n15 c15 y13.2,bV A22 n22 c22 p22,aK A1 n1 c1 a0.Young,aK A2 n2 c2 a0.Old,ah B5 29 [W A1 n1 c1,W A2 n2 c2],ah B6 98 [W none 0 0,W none 0 0,W none 0 0,W none 0 0,iV 0],bY A79 n79 c79 p79,bY A80 n80 c80 p80,bh A19 n19 c19 y18,bh A81 n81 c81 p81,ah B20 98 [W A79 n79 c79,W A80 n80 c80,W A19 n19 c19,W A81 n81 c81,iV 0]]) ?_ ?_
   ·refine ae ?_;refine ay ?_;obtain ⟨x82,lx82,ux82,hx82,h⟩:=aU h;obtain ⟨y83,hy83,h⟩:=aa h;obtain ⟨y88,hy88,h⟩:=aa h;refine dB (t:=[(3,pV B5 0),(6,pV B6 0),(7,W A14 n14 c14),(8,W A15 n15 c15),(9,W A22 n22 c22),(10,pV B20 0),(15,iV p72)]) ?_ fv (ab _)
    refine dF I 12 [10] [9,10,11] [86,87,88,89,90,91,92,93,85,94,95,16] [[],[],[],[1,2],[3],[0,4],[],[5,6],[7],[8],[8],[]] [aV (.agg #[W A1 n1 c1,W A2 n2 c2]),
aV (W A14 n14 c14),
aV (iV p72),
aV (dj (W A14 n14 c14) p72.toNat 1 0),
aV (iV x82),
aX6 (fun (A86:Option Addr) (n86 c86:Nat) (A87:Option Addr) (n87 c87:Nat)=> .agg #[iV y83.Kind,iV y83.Shape,iV y83.Flags,iV y83.Age,W A86 n86 c86,W A87 n87 c87]) (fun A86 n86 c86 A87 n87 c87=> [az A86 n86 c86 y83.Slots,az A87 n87 c87 y83.More]),
aV (W A22 n22 c22),
aX9 (fun (A92:Option Addr) (n92 c92:Nat) (A93:Option Addr) (n93 c93:Nat) (A94:Option Addr) (n94 c94:Nat)=> .tuple #[.agg #[iV y88.1.Kind,iV y88.1.Shape,iV y88.1.Flags,iV y88.1.Age,W A92 n92 c92,W A93 n93 c93],W A94 n94 c94]) (fun A92 n92 c92 A93 n93 c93 A94 n94 c94=> [az A92 n92 c92 y88.1.Slots,az A93 n93 c93 y88.1.More,az A94 n94 c94 y88.2]),
aX9 (fun (A95:Option Addr) (n95 c95:Nat) (A96:Option Addr) (n96 c96:Nat) (A97:Option Addr) (n97 c97:Nat)=> .tuple #[.agg #[iV y88.1.Kind,iV y88.1.Shape,iV y88.1.Flags,iV y88.1.Age,W A95 n95 c95,W A96 n96 c96],W A97 n97 c97]) (fun A95 n95 c95 A96 n96 c96 A97 n97 c97=> [az A95 n95 c95 y88.1.Slots,az A96 n96 c96 y88.1.More,az A97 n97 c97 y88.2]),
aX6 (fun (A101:Option Addr) (n101 c101:Nat) (A102:Option Addr) (n102 c102:Nat)=> .agg #[iV y88.1.Kind,iV y88.1.Shape,iV y88.1.Flags,iV y88.1.Age,W A101 n101 c101,W A102 n102 c102]) (fun A101 n101 c101 A102 n102 c102=> [az A101 n101 c101 y88.1.Slots,az A102 n102 c102 y88.1.More]),
aX3 (fun (A105:Option Addr) (n105 c105:Nat)=> W A105 n105 c105) (fun A105 n105 c105=> [az A105 n105 c105 y88.2]),
aX1 (fun (B108:Nat)=>pV B108 0) (fun B108=> [ah B108 35 [iV 0,iV 0,iV 0,iV 0,W none 0 0,W none 0 0]])] [] (ab _) (uY rfl fj) I rfl rfl ?_ ?_ ?_
    ·refine uX J ?_ ?_
     ·intro A95 n95 c95 A96 n96 c96 A97 n97 c97;exact Dt (au J J) J (pv A97 n97 c97 ((fc 2 J J).trans (ab _)))
     exact fi
    ·refine ac J ?_ ?_
     ·refine gj (ci zero35.out J) J ?_;rintro _ _ ⟨B107,rfl,rfl⟩;exact FC B107 (ab _)
     refine ac J ?_ ?_
     ·intro A95 n95 c95 A96 n96 c96 A97 n97 c97;exact bN (au J J) J (pv A97 n97 c97 ((fc 2 J J).trans (ab _)))
     refine ac J ?_ ?_
     ·intro A95 n95 c95 A96 n96 c96 A97 n97 c97;exact bN (au J J) J (BN A95 n95 c95 A96 n96 c96 ((fc 0 J J).trans ((fc 2 J J).trans (cS [1,0,2,3,4,5,6,7,8,9,10,11,12,13,14,15,16] 17))))
     refine ac J ?_ ?_
     ·intro A92 n92 c92 A93 n93 c93 A94 n94 c94;exact bN (ai J) J (LN A92 n92 c92 A93 n93 c93 A94 n94 c94 ((fc 0 J J).trans ((fc 2 J J).trans ((fc 4 J J).trans (cS [2,1,0,3,4,5,6,7,8,9,10,11,12,13,14,15,16,17] 18)))))
     refine ac J ?_ ?_
     ·intro A86 n86 c86 A87 n87 c87;refine gj (oC (wq hy88)) J ?_;rintro _ _ ⟨_,⟨A89,n89,c89,A90,n90,c90,A91,n91,c91,rfl,rfl⟩,rfl⟩;exact LN A89 n89 c89 A90 n90 c90 A91 n91 c91 ((aY 2 J).trans (ab _))
     refine ac J ?_ ?_
     ·exact bN (ai J) J (aP J (ab _))
     refine ac J ?_ ?_
     ·refine gj (oC (uh hy83)) J ?_;rintro _ _ ⟨_,⟨A84,n84,c84,A85,n85,c85,rfl,rfl⟩,rfl⟩;exact BN A84 n84 c84 A85 n85 c85 (ab _)
     refine ac J ?_ ?_
     ·exact cB (bF (u:=iV x82) 0 J ao J hx82 ex (fun _ _ _ h=>by rw [show _=_ from h];rfl)) J (aP J (ab _))
     refine ac J ?_ ?_
     ·exact cB (bf 0 J ao J J Ex size3.out lx82 ux82) J (aP J (ab _))
     refine ac J ?_ ?_
     ·exact bN (ai J) J (aP J (ab _))
     refine ac J ?_ ?_
     ·exact bN (ai J) J (aP J (ab _))
     refine ac J ?_ ?_
     ·exact cB (aR (us:=[W A1 n1 c1,W A2 n2 c2]) 5 J J agg29.out J) J (aP J (ab _))
     exact cp
    intro A101 n101 c101 A102 n102 c102 A105 n105 c105 B108;refine gu (t:=[(94,.agg #[iV y88.1.Kind,iV y88.1.Shape,iV y88.1.Flags,iV y88.1.Age,W A101 n101 c101,W A102 n102 c102]),(95,W A105 n105 c105),(16,pV B108 0),(3,pV B5 0),(6,pV B6 0),(7,W A14 n14 c14),(8,W A15 n15 c15),(9,W A22 n22 c22),(10,pV B20 0),(15,iV p72)]) (L':=[az A101 n101 c101 y88.1.Slots,az A102 n102 c102 y88.1.More,az A105 n105 c105 y88.2,ah B108 35 [iV 0,iV 0,iV 0,iV 0,W none 0 0,W none 0 0],bV A14 n14 c14 y13.1,bS A15 n15 c15 y13.2,bV A22 n22 c22 p22,aK A1 n1 c1 a0.Young,aK A2 n2 c2 a0.Old,ah B5 29 [W A1 n1 c1,W A2 n2 c2],ah B6 98 [W none 0 0,W none 0 0,W none 0 0,W none 0 0,iV 0],bY A73 n73 c73 p73,bY A74 n74 c74 p74,bh A19 n19 c19 y18,bh A75 n75 c75 p75,ah B20 98 [W A73 n73 c73,W A74 n74 c74,W A19 n19 c19,W A75 n75 c75,iV 0]]) ?_ fv (ab _);refine o7 12 J I (aq (us:=[iV y88.1.Kind,iV y88.1.Shape,iV y88.1.Flags,iV y88.1.Age,W A101 n101 c101,W A102 n102 c102]) (cs':=[iV y88.1.Kind,iV y88.1.Shape,iV y88.1.Flags,iV y88.1.Age,W A101 n101 c101,W A102 n102 c102]) 3 J J J J size35.out J J J) J J ?_;rintro _ _ rfl;refine sU ?_;refine rc 13 J I (av J) J J J ?_;refine ft I ?_;refine ae ?_;obtain ⟨q109,h⟩:=ad h
    refine iE (ar 14 2 J J ao J J z9 lF J J q109) fun A110 n110 c110=> ?_
    obtain ⟨y111,k,h⟩:=aa h
    refine BM (oR (qZ k)) fun A112 n112 c112 A113 n113 c113=> ?_
    refine gH J h ?_ ?_<;>intro h
    ·refine ae ?_;refine lp (aY 0 J) ?_;refine lp (aY 1 J) ?_;refine ae ?_;refine gD (aG (R:=bT) (vss:=[[iV y111.Kind,iV y111.Shape,iV y111.Flags,iV 1,W A112 n112 c112,W A113 n113 c113]]) (xs:=[(⟨y111.Kind,y111.Shape,y111.Flags,1,y111.Slots,y111.More⟩:Ql)]) J (mf _ _ _ _ _ _ _ _ _ _) J J (fun _ _ hr=> .cons (⟨_,_,_,_,_,_,J,hr 0 _ J J,hr 1 _ J J⟩) All2.nil)) ?_;rintro _ _ ⟨A115,n115,c115,rfl,rfl⟩;obtain ⟨q116,h⟩:=ad h
     refine iE (ar 14 0 J J ap J J t9 tt J J q116) fun A117 n117 c117=> ?_
     exact jN
    refine ae ?_;refine lp (aY 0 J) ?_;refine ae ?_;refine lp (aY 1 J) ?_;refine gD (aG (R:=bT) (vss:=[[iV y111.Kind,iV y111.Shape,iV y111.Flags,iV y111.Age,W A112 n112 c112,W A113 n113 c113]]) (xs:=[y111]) J (mf _ _ _ _ _ _ _ _ _ _) J J (fun _ _ hr=> .cons (⟨_,_,_,_,_,_,J,hr 0 _ J J,hr 1 _ J J⟩) All2.nil)) ?_;rintro _ _ ⟨A118,n118,c118,rfl,rfl⟩;obtain ⟨q119,h⟩:=ad h
    refine iE (ar 15 0 J J ap J J t9 tt J J q119) fun A120 n120 c120=> ?_
    exact jN
   rintro _ _ ⟨p79,p80,p81,A79,n79,c79,A80,n80,c80,A81,n81,c81,h,rfl,rfl⟩;refine ae ?_;obtain ⟨q121,h⟩:=ad h;exact lY
  exact jY
 rintro _ _ ⟨p68,p69,p70,A68,n68,c68,A69,n69,c69,A70,n70,c70,h,rfl,rfl⟩;refine ae ?_;obtain ⟨y122,k,h⟩:=aa h
 refine iE (oR (CD k)) fun A123 n123 c123=> ?_
 exact eN
def yf (N:Nat):Option Int:=
 some 0
def mY (N:Nat)(p23:Qq)(a0:Qg):Nat->Int->Option Int
 |0,_=>none
 |m44+1,p45=>bif decide (p45<(p23.length:Int)) then ((aw p23 p45).bind fun x47=>(jF N a0 x47).bind fun y48=>bif !y48 then (some 50) else (aZ (in64 (p45+1)) ((mY N p23 a0 m44) (p45+1)))) else (yf N)
def py (N:Nat)(a0:Qg)(p23:Qq):Option Int:=
 mY N p23 a0 N 0
def kX (N:Nat)(a0:Qg):Nat->Qq->Int->Option Int
 |0,_,_=>none
 |m24+1,p25,p26=>bif decide (p26<(((([]:List Ql)++a0.Young)++a0.Old).length:Int)) then ((aw ((([]:List Ql)++a0.Young)++a0.Old) p26).bind fun x28=>(dN N x28).bind fun y31=>aZ (bi (p25.length+y31.length)) ((aw ((([]:List Ql)++a0.Young)++a0.Old) p26).bind fun x35=>(gx N x35).bind fun y38=>aZ (bi ((p25++y31).length+y38.length)) (aZ (in64 (p26+1)) ((kX N a0 m24) ((p25++y31)++y38) (p26+1))))) else (py N a0 p25)
def pz (N:Nat)(a1:Qr)(a0:Qg):Option Int:=
 (dN N (⟨11,0,0,0,[],a1⟩:Ql)).bind fun y20=>kX N a0 N y20 0
def mZ (N:Nat)(a1:Qr)(a0:Qg):Nat->Int->Option Int
 |0,_=>none
 |m11+1,p12=>bif decide (p12<(((([]:List Ql)++a0.Young)++a0.Old).length:Int)) then ((aw ((([]:List Ql)++a0.Young)++a0.Old) p12).bind fun x14=>(cy N x14).bind fun y17=>bif !y17 then (some 51) else (aZ (in64 (p12+1)) ((mZ N a1 a0 m11) (p12+1)))) else (pz N a1 a0)
def sM (N:Nat)(a0:Qg)(a1:Qr):Option Int:=
 aZ (bi (([]:List Ql).length+a0.Young.length)) (aZ (bi ((([]:List Ql)++a0.Young).length+a0.Old.length)) (mZ N a1 a0 N 0))
theorem E3 {N:Nat}{a0:Qg}{a1:Qr}{r:Int}(h:sM N a0 a1=some r):Okc QB 115 [.agg #[W A1 n1 c1,W A2 n2 c2],W A3 n3 c3] ([aK A1 n1 c1 a0.Young,aK A2 n2 c2 a0.Old,az A3 n3 c3 a1]) (fun u post=>u=iV r/\post=[]):=by
 refine rQ Tryz.func115 J J ?_;simp only [jr];refine Y ?_
 refine gB (nH J J) fun B4=> ?_
 refine Y ?_;refine ay ?_;refine bm I _ (ab _) ?_;refine zE 1 J (cG J ny) ?_;refine zR 2 J (aL 0 J J ni J) ?_;refine zE 4 J (bB J lC) ?_;refine zR 5 J (aL 0 J J ni J) ?_;refine zD 0 J (aG (R:=bT) (vss:=[]) (xs:=[]) J (xh) J J (fun _ _ hr=>All2.nil)) ?_;rintro _ _ ⟨A5,n5,c5,rfl,rfl⟩;refine bq (cS [1,2,3,4] 5) ?_;obtain ⟨q6,h⟩:=ad h;refine zD 3 J (ar 0 2 J J ao J J t9 tt J J q6) ?_;rintro _ _ ⟨A7,n7,c7,rfl,rfl⟩;refine bq (cS [1,2,3,4] 5) ?_;obtain ⟨q8,h⟩:=ad h;refine zD 6 J (ar 0 3 J J ao J J t9 tt J J q8) ?_;rintro _ _ ⟨A9,n9,c9,rfl,rfl⟩;refine bq (cS [1,2,3,4] 5) ?_;refine zE 7 J (av J) ?_;refine bv I ?_;refine wF ?_;refine am (fun s L=>pz N a1 a0=some r/\s=[(1,W A3 n3 c3),(2,pV B4 0),(4,iV 0),(5,W A9 n9 c9)]/\L=[az A3 n3 c3 a1,bY A9 n9 c9 ((([]:List Ql)++a0.Young)++a0.Old),aK A1 n1 c1 a0.Young,aK A2 n2 c2 a0.Old,ah B4 29 [W A1 n1 c1,W A2 n2 c2]]) ?_ ?_
 ·refine Y ?_;refine aH (fun m s L=> ∃p12,mZ N a1 a0 m p12=some r/\s=[(1,W A3 n3 c3),(2,pV B4 0),(4,iV 0),(5,W A9 n9 c9),(6,iV p12)]/\L=[az A3 n3 c3 a1,bY A9 n9 c9 ((([]:List Ql)++a0.Young)++a0.Old),aK A1 n1 c1 a0.Young,aK A2 n2 c2 a0.Old,ah B4 29 [W A1 n1 c1,W A2 n2 c2]]) N _ _ ⟨0,h,J,J⟩ sA (cS [4,0,2,3,1] 5) ?_;rintro (_|m11) _ _ ⟨p12,h,rfl,rfl⟩
  ·exact aj h
  rw [mZ.eq_2] at h;refine ay ?_;refine Y ?_;refine gR (cC 1 J ap J t9) ?_;refine Y ?_;refine gH J h ?_ ?_<;>intro h
  ·refine Y ?_;refine ay ?_;refine Y ?_;obtain ⟨x14,lx14,ux14,hx14,h⟩:=aU h;refine gR (bf 1 J ap J J t9 size35.out lx14 ux14) ?_;refine gD (rP 1 J ap J hx14 agg35.out J (bR x14)) ?_;rintro u _ ⟨_,_,⟨A15,n15,c15,A16,n16,c16,rfl,rfl⟩,hu,rfl⟩;obtain rfl:u=.agg #[iV x14.Kind,iV x14.Shape,iV x14.Flags,iV x14.Age,W A15 n15 c15,W A16 n16 c16]:=hu;obtain ⟨y17,k,h⟩:=aa h;refine gV (ba (mw k) call58.out J (hU (aJ (i:=0) J J) (hU (aJ (i:=1) J J) ax)) wB) ?_;refine Y ?_;refine gH J h ?_ ?_<;>intro h
   ·refine Y ?_;obtain rfl:=bw h;exact js J J (cS [] 7) ⟨J,J⟩
   refine Y ?_;obtain ⟨q19,h⟩:=ad h;refine gE (cr J J q19.1 q19.2) ?_;refine Y ?_;exact ⟨m11,_,_,Qu _,⟨p12+1,h,J,J⟩,sA,cS [2,3,4,5,6] 7⟩
  refine Y ?_;exact ⟨_,_,⟨h,J,J⟩,sA,cS [0,1,2,3,4] 5⟩
 rintro _ _ ⟨h,rfl,rfl⟩;refine Y ?_;refine gE (dw J (bld_35_0_5 _ _ _ _).out) ?_;obtain ⟨y20,k,h⟩:=aa h;refine gD (ba (gy k) call47.out J (hU (C3) (hU (aJ (i:=0) J J) ax)) jG) ?_;rintro _ _ ⟨_,⟨A21,n21,c21,rfl,rfl⟩,rfl⟩;refine Y ?_;refine am (fun s L=> ∃p23 A23 n23 c23,py N a0 p23=some r/\s=[(2,pV B4 0),(4,iV 0),(7,W A23 n23 c23)]/\L=[bS A23 n23 c23 p23,aK A1 n1 c1 a0.Young,aK A2 n2 c2 a0.Old,ah B4 29 [W A1 n1 c1,W A2 n2 c2]]) ?_ ?_
 ·refine Y ?_;refine aH (fun m s L=> ∃p25 p26 A25 n25 c25,kX N a0 m p25 p26=some r/\s=[(2,pV B4 0),(4,iV 0),(5,W A9 n9 c9),(7,W A25 n25 c25),(8,iV p26)]/\L=[bY A9 n9 c9 ((([]:List Ql)++a0.Young)++a0.Old),bS A25 n25 c25 p25,aK A1 n1 c1 a0.Young,aK A2 n2 c2 a0.Old,ah B4 29 [W A1 n1 c1,W A2 n2 c2]]) N _ _ ⟨y20,0,A21,n21,c21,h,J,J⟩ sA (cS [2,0,3,4,5] 6) ?_;rintro (_|m24) _ _ ⟨p25,p26,A25,n25,c25,h,rfl,rfl⟩
  ·exact aj h
  rw [kX.eq_2] at h;refine ay ?_;refine Y ?_;refine gR (cC 0 J ap J t9) ?_;refine Y ?_;refine gH J h ?_ ?_<;>intro h
  ·refine Y ?_;refine ay ?_;refine Y ?_;obtain ⟨x28,lx28,ux28,hx28,h⟩:=aU h;refine gR (bf 0 J ap J J t9 size35.out lx28 ux28) ?_;refine gD (rP 0 J ap J hx28 agg35.out J (bR x28)) ?_;rintro u _ ⟨_,_,⟨A29,n29,c29,A30,n30,c30,rfl,rfl⟩,hu,rfl⟩;obtain rfl:u=.agg #[iV x28.Kind,iV x28.Shape,iV x28.Flags,iV x28.Age,W A29 n29 c29,W A30 n30 c30]:=hu;obtain ⟨y31,k,h⟩:=aa h;refine gD (ba (gy k) call47.out J (hU (aJ (i:=0) J J) (hU (aJ (i:=1) J J) ax)) jG) ?_;rintro _ _ ⟨_,⟨A32,n32,c32,rfl,rfl⟩,rfl⟩;obtain ⟨q33,h⟩:=ad h;refine gD (ar 4 0 J J ap J J Ex uE J J q33) ?_;rintro _ _ ⟨A34,n34,c34,rfl,rfl⟩;refine Y ?_;obtain ⟨x35,lx35,ux35,hx35,h⟩:=aU h;refine gR (bf 3 J ap J J t9 size35.out lx35 ux35) ?_;refine gD (rP 3 J ap J hx35 agg35.out J (bR x35)) ?_;rintro u _ ⟨_,_,⟨A36,n36,c36,A37,n37,c37,rfl,rfl⟩,hu,rfl⟩;obtain rfl:u=.agg #[iV x35.Kind,iV x35.Shape,iV x35.Flags,iV x35.Age,W A36 n36 c36,W A37 n37 c37]:=hu;obtain ⟨y38,k,h⟩:=aa h;refine gD (ba (ne k) call48.out J (hU (aJ (i:=0) J J) (hU (aJ (i:=1) J J) ax)) qD) ?_;rintro _ _ ⟨_,⟨A39,n39,c39,rfl,rfl⟩,rfl⟩;obtain ⟨q40,h⟩:=ad h;refine gD (ar 7 0 J J ap J J Ex uE J J q40) ?_;rintro _ _ ⟨A41,n41,c41,rfl,rfl⟩;refine Y ?_;obtain ⟨q42,h⟩:=ad h;refine gE (cr J J q42.1 q42.2) ?_;refine Y ?_
   exact ⟨m24,_,_,Qu _,⟨(p25++y31)++y38,p26+1,A41,n41,c41,h,J,J⟩,sA,cS [6,7,8,9,10] 11⟩
  refine Y ?_;exact ⟨_,_,⟨p25,A25,n25,c25,h,J,J⟩,sA,cS [1,2,3,4] 5⟩
 rintro _ _ ⟨p23,A23,n23,c23,h,rfl,rfl⟩;refine am (fun s L=>yf N=some r/\s=[(4,iV 0)]/\L=[]) ?_ ?_
 ·refine Y ?_;refine aH (fun m s L=> ∃p45,mY N p23 a0 m p45=some r/\s=[(2,pV B4 0),(4,iV 0),(7,W A23 n23 c23),(9,iV p45)]/\L=[bS A23 n23 c23 p23,aK A1 n1 c1 a0.Young,aK A2 n2 c2 a0.Old,ah B4 29 [W A1 n1 c1,W A2 n2 c2]]) N _ _ ⟨0,h,J,J⟩ sA (cS [0,1,2,3] 4) ?_;rintro (_|m44) _ _ ⟨p45,h,rfl,rfl⟩
  ·exact aj h
  rw [mY.eq_2] at h;refine ay ?_;refine Y ?_;refine gR (cC 0 J ap J Ex) ?_;refine Y ?_;refine gH J h ?_ ?_<;>intro h
  ·refine Y ?_;refine ay ?_;refine nA ?_;refine ay ?_;refine bm I _ (ab _) ?_;refine zR 0 J (aR (us:=[W A1 n1 c1,W A2 n2 c2]) 3 J J agg29.out J) ?_;refine zE 1 J (ai J) ?_;refine zE 2 J (ai J) ?_;obtain ⟨x47,lx47,ux47,hx47,h⟩:=aU h;refine zR 3 J (bf 0 J ap J J Ex size3.out lx47 ux47) ?_;refine zR 4 J (bF (u:=iV x47) 0 J ap J hx47 ex (fun _ _ _ h=>by rw [show _=_ from h];rfl)) ?_;obtain ⟨y48,k,h⟩:=aa h;refine zD 5 J (ba (nG k) call30.out J (hU (aJ (i:=1) J J) (hU (aJ (i:=2) J J) ax)) qV) ?_;rintro _ _ ⟨_,⟨rfl,rfl⟩,rfl⟩;refine ⟨_,ab _,ab _,?_⟩;refine zE 6 J (pp J) ?_;refine bv I ?_;refine wF ?_;refine gH J h ?_ ?_<;>intro h
   ·refine Y ?_;obtain rfl:=bw h;exact js J J (cS [] 4) ⟨J,J⟩
   refine Y ?_;obtain ⟨q50,h⟩:=ad h;refine gE (cr J J q50.1 q50.2) ?_;refine Y ?_;exact ⟨m44,_,_,Qu _,⟨p45+1,h,J,J⟩,sA,cS [0,1,2,3] 4⟩
  refine Y ?_;exact ⟨_,_,⟨h,J,J⟩,sA,cS [] 4⟩
 rintro _ _ ⟨h,rfl,rfl⟩;refine Y ?_;obtain rfl:=bw h;exact js J J (cS [] 0) ⟨J,J⟩
def uj (N:Nat)(p4:Qq):Option Qq:=
 some p4
def ms (N:Nat)(kb5:Qq->Int->Option Qq)(p7:Int)(a0:Qr)(p10:Qq):Option Qq:=
 aZ (in64 (p7+1)) (kb5 p10 (p7+1))
def ee (N:Nat)(a0:Qr):Nat->Qq->Int->Option Qq
 |0,_,_=>none
 |m5+1,p6,p7=>bif decide (p7<(a0.length:Int)) then ((aw a0 p7).bind fun x11=>(bif decide (x11.Kind=7) then (some true) else ((aw a0 p7).bind fun x13=>some (decide (x13.Kind=9)))).bind fun b12=>bif b12 then ((aw a0 p7).bind fun x15=>aZ (bi (p6.length+([x15.N]:List Int).length)) (ms N (ee N a0 m5) p7 a0 (p6++([x15.N]:List Int)))) else (ms N (ee N a0 m5) p7 a0 p6)) else (uj N p6)
def kL (N:Nat)(a0:Qr):Option Qq:=
 ee N a0 N ([]:List Int) 0
theorem AC {N:Nat}{a0:Qr}{r:Qq}(h:kL N a0=some r):Okc QB 191 [W A1 n1 c1] ([az A1 n1 c1 a0]) (fun u post=> ∃A0 n0 c0,u=W A0 n0 c0/\post=[bS A0 n0 c0 r]):=by
 refine cQ Tryz.func191 ?_
 refine iE (aG (R:=(da .i64)) (vss:=[]) (xs:=[]) J (uz) J J (fun _ _ hr=>All2.nil)) fun A2 n2 c2=> ?_
 refine am (fun s L=> ∃p4 A4 n4 c4,uj N p4=some r/\s=[(2,W none 0 0),(3,W A4 n4 c4)]/\L=[bS A4 n4 c4 p4]) ?_ ?_
 ·refine ae ?_;refine aH (fun m s L=> ∃p6 p7 A6 n6 c6,ee N a0 m p6 p7=some r/\s=[(0,W A1 n1 c1),(2,W none 0 0),(3,W A6 n6 c6),(4,iV p7)]/\L=[az A1 n1 c1 a0,bS A6 n6 c6 p6]) N _ _ ⟨([]:List Int),0,A2,n2,c2,h,J,J⟩ sA (cS [1,0] 2) ?_;rintro (_|m5) _ _ ⟨p6,p7,A6,n6,c6,h,rfl,rfl⟩
  ·exact aj h
  rw [ee.eq_2] at h;refine sZ ?_;refine gH J h ?_ ?_<;>intro h
  ·refine ae ?_;refine am (fun s L=> ∃p10 A10 n10 c10,ms N (ee N a0 m5) p7 a0 p10=some r/\s=[(0,W A1 n1 c1),(2,W none 0 0),(3,W A10 n10 c10),(4,iV p7)]/\L=[az A1 n1 c1 a0,bS A10 n10 c10 p10]) ?_ ?_
   ·refine ae ?_;obtain ⟨x11,lx11,ux11,hx11,h⟩:=aU h;refine ae ?_;refine zX (mO 0 J ao J (bc lx11 ux11) fE) ?_;obtain ⟨b12,hb12,h⟩:=aa h;refine aQ 7 25 b12 ?_ ?_
    ·clear h;refine aM 18 J (fun g12=> ?_) (fun g12=> ?_)
     ·have h:=aE g12 hb12;exact gY
     have h:=aF g12 hb12;refine ae ?_;obtain ⟨x13,lx13,ux13,hx13,h⟩:=aU h;refine ae ?_;refine mH (mO 0 J ao J (bc lx13 ux13) fE) J (dh g12 J) J ?_;exact gY
    refine ew h ?_ ?_<;>intro h
    ·refine ae ?_;obtain ⟨x15,lx15,ux15,hx15,h⟩:=aU h;refine ae ?_;refine zX (mJ 0 J ao J (bc lx15 ux15) kx) ?_;refine gD (aG (R:=(da .i64)) (vss:=[[iV x15.N]]) (xs:=[x15.N]) J (dp _) J J (fun _ _ hr=> .cons J All2.nil)) ?_;rintro _ _ ⟨A16,n16,c16,rfl,rfl⟩;obtain ⟨q17,h⟩:=ad h
     refine iE (ar 2 0 J J ap J J Ex uE J J q17) fun A18 n18 c18=> ?_
     exact jN
    exact jY
   rintro _ _ ⟨p10,A10,n10,c10,h,rfl,rfl⟩;refine ae ?_;obtain ⟨q19,h⟩:=ad h;exact lY
  exact jY
 rintro _ _ ⟨p4,A4,n4,c4,h,rfl,rfl⟩;exact eY
def DW (N:Nat):Option Bool:=
 some false
def xz (N:Nat)(a1:Int)(a0:Qq):Nat->Int->Option Bool
 |0,_=>none
 |m3+1,p4=>bif decide (p4<(a0.length:Int)) then ((aw a0 p4).bind fun x6=>bif decide (x6=a1) then (some true) else (aZ (in64 (p4+1)) ((xz N a1 a0 m3) (p4+1)))) else (DW N)
def zp (N:Nat)(a0:Qq)(a1:Int):Option Bool:=
 xz N a1 a0 N 0
theorem IP {N:Nat}{a0:Qq}{a1:Int}{r:Bool}(h:zp N a0 a1=some r):Okc QB 208 [W A1 n1 c1,iV a1] ([bV A1 n1 c1 a0]) (fun u post=>u=.bool r/\post=[]):=by
 refine cQ Tryz.func208 ?_;refine am (fun s L=>DW N=some r/\s=[(4,.bool false)]/\L=[]) ?_ ?_
 ·refine ae ?_;refine aH (fun m s L=> ∃p4,xz N a1 a0 m p4=some r/\s=[(0,W A1 n1 c1),(1,iV a1),(4,.bool false),(5,iV p4)]/\L=[bV A1 n1 c1 a0]) N _ _ ⟨0,h,J,J⟩ sA (cS [0] 1) ?_;rintro (_|m3) _ _ ⟨p4,h,rfl,rfl⟩
  ·exact aj h
  rw [xz.eq_2] at h;refine sZ ?_;refine gH J h ?_ ?_<;>intro h
  ·refine sY ?_;obtain ⟨x6,lx6,ux6,hx6,h⟩:=aU h;refine ew h ?_ ?_<;>intro h
   ·exact eY
   refine ae ?_;obtain ⟨q8,h⟩:=ad h;exact lY
  exact jY
 rintro _ _ ⟨h,rfl,rfl⟩;exact eY
theorem F0 {r:Bool}: ∀v post,((fun (u:Value) (post:List Chunk)=>u=.bool r/\post=[])) v post-> ∀c∈post,fu c:=by
 rintro _ _ ⟨rfl,rfl⟩;exact ax
def CF (N:Nat)(p7:Qq):Option Qq:=
 some p7
def sS (N:Nat)(kb8:Qq->Int->Option Qq)(p10:Int)(a2:Qq)(a0:Qg)(p13:Qq):Option Qq:=
 aZ (in64 (p10+1)) (kb8 p13 (p10+1))
def lT (N:Nat)(a2:Qq)(a0:Qg):Nat->Qq->Int->Option Qq
 |0,_,_=>none
 |m8+1,p9,p10=>bif decide (p10<(a2.length:Int)) then ((aw a2 p10).bind fun x14=>(jF N a0 x14).bind fun y15=>(bif y15 then ((aw a2 p10).bind fun x17=>(zp N p9 x17).bind fun y18=>some (!y18)) else (some false)).bind fun b16=>bif b16 then ((aw a2 p10).bind fun x20=>aZ (bi (p9.length+([x20]:List Int).length)) (sS N (lT N a2 a0 m8) p10 a2 a0 (p9++([x20]:List Int)))) else (sS N (lT N a2 a0 m8) p10 a2 a0 p9)) else (CF N p9)
def pf (N:Nat)(a0:Qg)(a1:Qq)(a2:Qq):Option Qq:=
 lT N a2 a0 N a1 0
theorem yC {N:Nat}{a0:Qg}{a1:Qq}{a2:Qq}{r:Qq}(h:pf N a0 a1 a2=some r):Okc QB 190 [.agg #[W A1 n1 c1,W A2 n2 c2],W A3 n3 c3,W A4 n4 c4] ([aK A1 n1 c1 a0.Young,aK A2 n2 c2 a0.Old,bV A4 n4 c4 a2,bS A3 n3 c3 a1]) (fun u post=> ∃A0 n0 c0,u=W A0 n0 c0/\post=[bS A0 n0 c0 r]):=by
 refine rQ Tryz.func190 J J ?_;simp only [jr];refine Y ?_
 refine gB (nH J J) fun B5=> ?_
 refine Y ?_;refine am (fun s L=> ∃p7 A7 n7 c7,CF N p7=some r/\s=[(1,W A7 n7 c7),(6,W none 0 0)]/\L=[bS A7 n7 c7 p7]) ?_ ?_
 ·refine Y ?_;refine aH (fun m s L=> ∃p9 p10 A9 n9 c9,lT N a2 a0 m p9 p10=some r/\s=[(1,W A9 n9 c9),(2,W A4 n4 c4),(3,pV B5 0),(6,W none 0 0),(7,iV p10)]/\L=[bS A9 n9 c9 p9,bV A4 n4 c4 a2,aK A1 n1 c1 a0.Young,aK A2 n2 c2 a0.Old,ah B5 29 [W A1 n1 c1,W A2 n2 c2]]) N _ _ ⟨a1,0,A3,n3,c3,h,J,J⟩ sA (cS [4,3,1,2,0] 5) ?_;rintro (_|m8) _ _ ⟨p9,p10,A9,n9,c9,h,rfl,rfl⟩
  ·exact aj h
  rw [lT.eq_2] at h;refine ay ?_;refine Y ?_;refine gR (cC 1 J ao J Ex) ?_;refine Y ?_;refine gH J h ?_ ?_<;>intro h
  ·refine Y ?_;refine am (fun s L=> ∃p13 A13 n13 c13,sS N (lT N a2 a0 m8) p10 a2 a0 p13=some r/\s=[(1,W A13 n13 c13),(2,W A4 n4 c4),(3,pV B5 0),(6,W none 0 0),(7,iV p10)]/\L=[bS A13 n13 c13 p13,bV A4 n4 c4 a2,aK A1 n1 c1 a0.Young,aK A2 n2 c2 a0.Old,ah B5 29 [W A1 n1 c1,W A2 n2 c2]]) ?_ ?_
   ·refine nA ?_;refine ay ?_;refine bm I _ (ab _) ?_;refine zR 0 J (aR (us:=[W A1 n1 c1,W A2 n2 c2]) 4 J J agg29.out J) ?_;refine zE 1 J (ai J) ?_;refine zE 2 J (ai J) ?_;obtain ⟨x14,lx14,ux14,hx14,h⟩:=aU h;refine zR 3 J (bf 1 J ao J J Ex size3.out lx14 ux14) ?_;refine zR 4 J (bF (u:=iV x14) 1 J ao J hx14 ex (fun _ _ _ h=>by rw [show _=_ from h];rfl)) ?_;obtain ⟨y15,k,h⟩:=aa h;refine zD 5 J (ba (nG k) call30.out J (hU (aJ (i:=2) J J) (hU (aJ (i:=3) J J) ax)) qV) ?_;rintro _ _ ⟨_,⟨rfl,rfl⟩,rfl⟩;refine ⟨_,ab _,ab _,?_⟩;refine zE 6 J (ai J) ?_;obtain ⟨b16,hb16,h⟩:=aa h;refine eM (fun l=>((((((((l.setIfInBounds 7 true).setIfInBounds 8 true).setIfInBounds 9 true).setIfInBounds 10 true).setIfInBounds 11 true).setIfInBounds 12 true).setIfInBounds 13 true).setIfInBounds 14 true)) 0 28 b16 (fun rest=> ?_) ?_
    ·clear h;refine gI 20 J (fun g16=> ?_) (fun g16=> ?_)
     ·have h:=aE g16 hb16;refine cP 7 J I (ai J) (bx g16 J) J ?_;refine cP 8 J I (ai J) (bx g16 J) J ?_;refine cP 9 J I (ai J) (bx g16 J) J ?_;obtain ⟨x17,lx17,ux17,hx17,h⟩:=aU h;refine fb 10 J I (bf 1 J ao J J Ex size3.out lx17 ux17) (bx g16 J) J ?_;refine fb 11 J I (bF (u:=iV x17) 1 J ao J hx17 ex (fun _ _ _ h=>by rw [show _=_ from h];rfl)) (bx g16 J) J ?_;obtain ⟨y18,k,h⟩:=aa h;refine mg 12 J I (ba (IP k) call208.out J (hU (cM (i:=0) J) ax) F0) J (bx g16 J) J ?_;rintro _ _ ⟨_,⟨rfl,rfl⟩,rfl⟩;refine ⟨_,ab _,ab _,?_⟩;refine cP 13 J I (pp J) (bx g16 J) J ?_;refine zE 14 J (cI g16 J J) ?_;obtain rfl:=bw h;exact di rest (bM J (ag (ag (ag (ag (ag (ag (ag (ag aW J) J) J) J) J) J) J) J)) (ab _) (ab _)
     have h:=aF g16 hb16;refine bo 7 J I (eb g16 J) J ?_;refine bo 8 J I (eb g16 J) J ?_;refine bo 9 J I (eb g16 J) J ?_;refine bo 10 J I (eb g16 J) J ?_;refine bo 11 J I (eb g16 J) J ?_;refine bo 12 J I (eb g16 J) J ?_;refine bo 13 J I (eb g16 J) J ?_;refine zE 14 J (cJ g16 J J) ?_;obtain rfl:=bw h;exact di rest (bM J (ag (ag (ag (ag (ag (ag (ag (ag aW J) J) J) J) J) J) J) J)) (ab _) (ab _)
    refine bv I ?_;refine wF ?_;refine gH J h ?_ ?_<;>intro h
    ·refine Y ?_;obtain ⟨x20,lx20,ux20,hx20,h⟩:=aU h;refine gR (bf 1 J ao J J Ex size3.out lx20 ux20) ?_;refine gR (bF (u:=iV x20) 1 J ao J hx20 ex (fun _ _ _ h=>by rw [show _=_ from h];rfl)) ?_;refine gD (aG (R:=(da .i64)) (vss:=[[iV x20]]) (xs:=[x20]) J (dp _) J J (fun _ _ hr=> .cons J All2.nil)) ?_;rintro _ _ ⟨A21,n21,c21,rfl,rfl⟩;obtain ⟨q22,h⟩:=ad h;refine gD (ar 1 0 J J ap J J Ex uE J J q22) ?_;rintro _ _ ⟨A23,n23,c23,rfl,rfl⟩;refine Y ?_;exact ⟨_,_,⟨p9++([x20]:List Int),A23,n23,c23,h,J,J⟩,sA,cS [1,2,3,4,5] 6⟩
    refine Y ?_;exact ⟨_,_,⟨p9,A9,n9,c9,h,J,J⟩,sA,cS [0,1,2,3,4] 5⟩
   rintro _ _ ⟨p13,A13,n13,c13,h,rfl,rfl⟩;refine Y ?_;obtain ⟨q24,h⟩:=ad h;refine gE (cr J J q24.1 q24.2) ?_;refine Y ?_;exact ⟨m8,_,_,Qu _,⟨p13,p10+1,A13,n13,c13,h,J,J⟩,sA,cS [0,1,2,3,4] 5⟩
  refine Y ?_;exact ⟨_,_,⟨p9,A9,n9,c9,h,J,J⟩,sA,cS [0] 5⟩
 rintro _ _ ⟨p7,A7,n7,c7,h,rfl,rfl⟩;refine Y ?_;obtain rfl:=bw h;exact js J J (cS [0] 1) ⟨_,_,_,J,J⟩
def qe (N:Nat)(a0:Qg)(a1:Int):Option Ql:=
 (jF N a0 a1).bind fun y5=>bif !y5 then (some (⟨0,0,0,0,[],[]⟩:Ql)) else (bif decide (a1.tmod 2=1) then (aZ (in64 (a1 - 1)) (aZ (in64 ((a1 - 1).tdiv 2)) ((aw a0.Young ((a1 - 1).tdiv 2)).bind fun x12=>some x12))) else (aZ (in64 (a1 - 2)) (aZ (in64 ((a1 - 2).tdiv 2)) ((aw a0.Old ((a1 - 2).tdiv 2)).bind fun x18=>some x18))))
theorem xA {N:Nat}{a0:Qg}{a1:Int}{r:Ql}(h:qe N a0 a1=some r):Okc QB 31 [.agg #[W A1 n1 c1,W A2 n2 c2],iV a1] ([aK A1 n1 c1 a0.Young,aK A2 n2 c2 a0.Old]) (fun u post=> ∃A0 n0 c0 A1 n1 c1,u=.agg #[iV r.Kind,iV r.Shape,iV r.Flags,iV r.Age,W A0 n0 c0,W A1 n1 c1]/\post=[az A0 n0 c0 r.Slots,az A1 n1 c1 r.More]):=by
 refine rQ Tryz.func31 J J ?_;simp only [jr];refine Y ?_
 refine gB (nH J J) fun B3=> ?_
 refine gB (ci zero35.out J) fun B4=> ?_
 refine Y ?_;refine ay ?_;refine Y ?_;refine gR (aR (us:=[W A1 n1 c1,W A2 n2 c2]) 1 J J agg29.out J) ?_;refine Y ?_;obtain ⟨y5,k,h⟩:=aa h;refine gV (ba (nG k) call30.out J (hU (aJ (i:=2) J J) (hU (aJ (i:=3) J J) ax)) qV) ?_;refine Y ?_;refine gH J h ?_ ?_<;>intro h
 ·refine Y ?_;refine gE (dw J bld_35_.out) ?_;refine gW (aq (us:=[iV 0,iV 0,iV 0,iV 0,W none 0 0,W none 0 0]) (cs':=[iV 0,iV 0,iV 0,iV 0,W none 0 0,W none 0 0]) 0 J J J J size35.out J J J) ?_;refine Y ?_;obtain rfl:=bw h;exact dt (rs:=[.cell 4 35]) (vs:=[.agg #[iV 0,iV 0,iV 0,iV 0,W none 0 0,W none 0 0]]) J (.cons (bd 0 J J agg35.out) .nil) J ((cq ak _).trans ((cq ak _).trans (cS [1,0] 6))) ⟨_,_,_,_,_,_,J,J⟩
 refine Y ?_;refine ay ?_;refine Y ?_;refine gE (ky J J (by decide)) ?_;refine Y ?_;refine gH J h ?_ ?_<;>intro h
 ·refine Y ?_;obtain ⟨q10,h⟩:=ad h;refine gE (tL J J q10.1 q10.2) ?_;obtain ⟨q11,h⟩:=ad h;refine gE (kz J J (by decide) q11.1 q11.2) ?_;obtain ⟨x12,lx12,ux12,hx12,h⟩:=aU h;refine gR (bf 2 J ao J J t9 size35.out lx12 ux12) ?_;refine mL 2 J hx12 (bR x12) ?_;rintro _ _ ⟨A13,n13,c13,A14,n14,c14,rfl,rfl⟩;refine gR (eo (us:=[iV x12.Kind,iV x12.Shape,iV x12.Flags,iV x12.Age,W A13 n13 c13,W A14 n14 c14]) 0 J J agg35.out J) ?_;refine gW (aq (us:=[iV x12.Kind,iV x12.Shape,iV x12.Flags,iV x12.Age,W A13 n13 c13,W A14 n14 c14]) (cs':=[iV x12.Kind,iV x12.Shape,iV x12.Flags,iV x12.Age,W A13 n13 c13,W A14 n14 c14]) 3 J J J J size35.out J J J) ?_;refine Y ?_;obtain rfl:=bw h;exact dt (rs:=[.cell 4 35]) (vs:=[.agg #[iV x12.Kind,iV x12.Shape,iV x12.Flags,iV x12.Age,W A13 n13 c13,W A14 n14 c14]]) J (.cons (bd 3 J J agg35.out) .nil) J (cS [1,2] 7) ⟨_,_,_,_,_,_,J,J⟩
 refine Y ?_;obtain ⟨q16,h⟩:=ad h;refine gE (tL J J q16.1 q16.2) ?_;obtain ⟨q17,h⟩:=ad h;refine gE (kz J J (by decide) q17.1 q17.2) ?_;obtain ⟨x18,lx18,ux18,hx18,h⟩:=aU h;refine gR (bf 3 J ao J J t9 size35.out lx18 ux18) ?_;refine mL 3 J hx18 (bR x18) ?_;rintro _ _ ⟨A19,n19,c19,A20,n20,c20,rfl,rfl⟩;refine gR (eo (us:=[iV x18.Kind,iV x18.Shape,iV x18.Flags,iV x18.Age,W A19 n19 c19,W A20 n20 c20]) 0 J J agg35.out J) ?_;refine gW (aq (us:=[iV x18.Kind,iV x18.Shape,iV x18.Flags,iV x18.Age,W A19 n19 c19,W A20 n20 c20]) (cs':=[iV x18.Kind,iV x18.Shape,iV x18.Flags,iV x18.Age,W A19 n19 c19,W A20 n20 c20]) 3 J J J J size35.out J J J) ?_;refine eh ?_;refine Y ?_;obtain rfl:=bw h;exact dt (rs:=[.cell 4 35]) (vs:=[.agg #[iV x18.Kind,iV x18.Shape,iV x18.Flags,iV x18.Age,W A19 n19 c19,W A20 n20 c20]]) J (.cons (bd 3 J J agg35.out) .nil) J (cS [1,2] 7) ⟨_,_,_,_,_,_,J,J⟩
def wv (N:Nat)(p6:Qq):Option Qq:=
 some p6
def lR (N:Nat)(a0:Qg):Nat->Qq->Int->Option Qq
 |0,_,_=>none
 |m7+1,p8,p9=>bif decide (p9<(p8.length:Int)) then ((aw p8 p9).bind fun x11=>(qe N a0 x11).bind fun y12=>(dN N y12).bind fun y17=>(pf N a0 p8 y17).bind fun y20=>aZ (in64 (p9+1)) ((lR N a0 m7) y20 (p9+1))) else (wv N p8)
def jk (N:Nat)(a0:Qg)(a1:Qq)(a2:Int):Option Qq:=
 lR N a0 N a1 a2
theorem wu {N:Nat}{a0:Qg}{a1:Qq}{a2:Int}{r:Qq}(h:jk N a0 a1 a2=some r):Okc QB 189 [.agg #[W A1 n1 c1,W A2 n2 c2],W A3 n3 c3,iV a2] ([aK A1 n1 c1 a0.Young,aK A2 n2 c2 a0.Old,bS A3 n3 c3 a1]) (fun u post=> ∃A0 n0 c0,u=W A0 n0 c0/\post=[bS A0 n0 c0 r]):=by
 refine cQ Tryz.func189 ?_;intro B4;refine ae ?_;refine am (fun s L=> ∃p6 A6 n6 c6,wv N p6=some r/\s=[(1,W A6 n6 c6),(6,W none 0 0)]/\L=[bS A6 n6 c6 p6]) ?_ ?_
 ·refine ae ?_;refine aH (fun m s L=> ∃p8 p9 A8 n8 c8,lR N a0 m p8 p9=some r/\s=[(1,W A8 n8 c8),(3,pV B4 0),(6,W none 0 0),(7,iV p9)]/\L=[bS A8 n8 c8 p8,aK A1 n1 c1 a0.Young,aK A2 n2 c2 a0.Old,ah B4 29 [W A1 n1 c1,W A2 n2 c2]]) N _ _ ⟨a1,a2,A3,n3,c3,h,J,J⟩ sA (cS [3,1,2,0] 4) ?_;rintro (_|m7) _ _ ⟨p8,p9,A8,n8,c8,h,rfl,rfl⟩
  ·exact aj h
  rw [lR.eq_2] at h;refine sZ ?_;refine gH J h ?_ ?_<;>intro h
  ·refine sY ?_;obtain ⟨x11,lx11,ux11,hx11,h⟩:=aU h;obtain ⟨y12,hy12,h⟩:=aa h;obtain ⟨y17,hy17,h⟩:=aa h;refine dB (t:=[(1,W A8 n8 c8),(3,pV B4 0),(6,W none 0 0),(7,iV p9)]) ?_ fv (ab _)
   refine dF I 9 [] [0,1,8] [15,16,17,18,19,20,21,22,23] [[],[],[],[],[],[3,4],[5],[2,6],[7]] [aV (.agg #[W A1 n1 c1,W A2 n2 c2]),
 aV (W A8 n8 c8),
 aV (.agg #[W A1 n1 c1,W A2 n2 c2]),
 aV (W A8 n8 c8),
 aV (iV p9),
 aV (dj (W A8 n8 c8) p9.toNat 1 0),
 aV (iV x11),
 aX6 (fun (A15:Option Addr) (n15 c15:Nat) (A16:Option Addr) (n16 c16:Nat)=> .agg #[iV y12.Kind,iV y12.Shape,iV y12.Flags,iV y12.Age,W A15 n15 c15,W A16 n16 c16]) (fun A15 n15 c15 A16 n16 c16=> [az A15 n15 c15 y12.Slots,az A16 n16 c16 y12.More]),
 aX3 (fun (A19:Option Addr) (n19 c19:Nat)=> W A19 n19 c19) (fun A19 n19 c19=> [bS A19 n19 c19 y17])] [] (ab _) (fj) I rfl rfl ?_ ?_ ?_
   ·exact fi
   ·refine ac J ?_ ?_
    ·intro A15 n15 c15 A16 n16 c16;refine gj (oR (gy hy17)) J ?_;rintro _ _ ⟨_,⟨A18,n18,c18,rfl,rfl⟩,rfl⟩;exact pv A18 n18 c18 (ab _)
    refine ac J ?_ ?_
    ·refine gj (oC (xA hy12)) J ?_;rintro _ _ ⟨_,⟨A13,n13,c13,A14,n14,c14,rfl,rfl⟩,rfl⟩;exact BN A13 n13 c13 A14 n14 c14 (ab _)
    refine ac J ?_ ?_
    ·exact cB (bF (u:=iV x11) 0 J ap J hx11 ex (fun _ _ _ h=>by rw [show _=_ from h];rfl)) J (aP J (ab _))
    refine ac J ?_ ?_
    ·exact cB (bf 0 J ap J J Ex size3.out lx11 ux11) J (aP J (ab _))
    refine ac J ?_ ?_
    ·exact bN (ai J) J (aP J (ab _))
    refine ac J ?_ ?_
    ·exact bN (ai J) J (aP J (ab _))
    refine ac J ?_ ?_
    ·exact cB (aR (us:=[W A1 n1 c1,W A2 n2 c2]) 3 J J agg29.out J) J (aP J (ab _))
    refine ac J ?_ ?_
    ·exact bN (ai J) J (aP J (ab _))
    refine ac J ?_ ?_
    ·exact cB (aR (us:=[W A1 n1 c1,W A2 n2 c2]) 3 J J agg29.out J) J (aP J (ab _))
    exact cp
   intro A19 n19 c19;refine gu (t:=[(15,.agg #[W A1 n1 c1,W A2 n2 c2]),(16,W A8 n8 c8),(23,W A19 n19 c19),(1,W A8 n8 c8),(3,pV B4 0),(6,W none 0 0),(7,iV p9)]) (L':=[bS A19 n19 c19 y17,bS A8 n8 c8 p8,aK A1 n1 c1 a0.Young,aK A2 n2 c2 a0.Old,ah B4 29 [W A1 n1 c1,W A2 n2 c2]]) ?_ fv (ab _);refine gu ?_ aW (aY 0 J);obtain ⟨y20,k,h⟩:=aa h;refine jt 9 J I (oC (yC k)) J J J ?_;rintro _ _ ⟨_,⟨A21,n21,c21,rfl,rfl⟩,rfl⟩;refine rc 10 J I (av J) J J J ?_;refine ft I ?_;refine ae ?_;obtain ⟨q22,h⟩:=ad h;exact lY
  exact jY
 rintro _ _ ⟨p6,A6,n6,c6,h,rfl,rfl⟩;exact eY
end Go.Proofs.YthepenpebkjdfaaGreat