/- Merged texts: part 5. No conditions of their own. -/
import Derived.Test.YthepenpebkjdfaaGreatG4
set_option maxHeartbeats 4000000
namespace Go.Proofs.YthepenpebkjdfaaGreat
theorem Qb:type_of% Tryz.underlying183:=Tryz.underlying183
variable {A1 A2 A3 A4 A5 A6 A7:Option Addr} {B1 B2 B3 B6 B8 M2 M5 M6 M7 M9 c1 c2 c3 c4 c5 c6 c7 n1 n2 n3 n4 n5 n6 n7:Nat}
open Go.RowKit Asn
set_option maxRecDepth 20000
def oG (N:Nat)(a1:Qr)(y20:Qq)(y13:Qh)(p68:Qr)(p69:Qy)(p70:Qy):Option (Qg×Qr×Qr×Int):=
 (jm N a1 y13.met_ y20).bind fun y104=>(jm N p68 y13.met_ y20).bind fun y106=>some ((⟨p69,p70⟩:Qg),y104,y106,0)
def lw (N:Nat)(kb71:Qr->Int->Qy->Qy->Option (Qg×Qr×Qr×Int))(y13:Qh)(p73:Int)(a1:Qr)(y20:Qq)(p26:Qq)(p79:Qr)(p80:Qy)(p81:Qy):Option (Qg×Qr×Qr×Int):=
 aZ (in64 (p73+1)) (kb71 p79 (p73+1) p80 p81)
def dO (N:Nat)(y13:Qh)(a1:Qr)(y20:Qq)(p26:Qq):Nat->Qr->Int->Qy->Qy->Option (Qg×Qr×Qr×Int)
 |0,_,_,_,_=>none
 |m71+1,p72,p73,p74,p75=>bif decide (p73<(y13.met_.length:Int)) then ((aw y13.met_ p73).bind fun x82=>(cc N y13 x82).bind fun y83=>(jn N y83 p26 p72).bind fun y87=>(fG N y87.1 y13.met_ y20).bind fun y91=>(aw y20 p73).bind fun x94=>(fB N x94).bind fun y95=>bif y95 then (aZ (bi (p74.length+([(⟨y91.Kind,y91.Shape,y91.Flags,1,y91.Slots,y91.More⟩:Ql)]:List Ql).length)) (lw N (dO N y13 a1 y20 p26 m71) y13 p73 a1 y20 p26 y87.2 (p74++([(⟨y91.Kind,y91.Shape,y91.Flags,1,y91.Slots,y91.More⟩:Ql)]:List Ql)) p75)) else (aZ (bi (p75.length+([(⟨y91.Kind,y91.Shape,y91.Flags,1,y91.Slots,y91.More⟩:Ql)]:List Ql).length)) (lw N (dO N y13 a1 y20 p26 m71) y13 p73 a1 y20 p26 y87.2 p74 (p75++([(⟨y91.Kind,y91.Shape,y91.Flags,1,y91.Slots,y91.More⟩:Ql)]:List Ql))))) else (oG N a1 y20 y13 p72 p74 p75)
def oH (N:Nat)(a1:Qr)(y20:Qq)(y13:Qh)(p25:Qr)(p26:Qq)(p27:Qy):Option (Qg×Qr×Qr×Int):=
 dO N y13 a1 y20 p26 N p25 0 [] p27
def i6 (N:Nat)(kb28:Qr->Qq->Int->Qy->Option (Qg×Qr×Qr×Int))(a0:Qg)(p31:Int)(a1:Qr)(a2:Qq)(y20:Qq)(p30:Qq)(p32:Qy)(y13:Qh)(p42:Qr)(p43:Int)(p44:Int)(p45:Int)(p46:Int)(p47:Qr)(p48:Qr):Option (Qg×Qr×Qr×Int):=
 (fG N (⟨p43,p44,p45,p46,p47,p48⟩:Ql) y13.met_ y20).bind fun y57=>aZ (bi (p32.length+([y57]:List Ql).length)) (aZ (in64 (p31+1)) (kb28 p42 p30 (p31+1) (p32++([y57]:List Ql))))
def eF (N:Nat)(a0:Qg)(a1:Qr)(a2:Qq)(y20:Qq)(y13:Qh):Nat->Qr->Qq->Int->Qy->Option (Qg×Qr×Qr×Int)
 |0,_,_,_,_=>none
 |m28+1,p29,p30,p31,p32=>bif decide (p31<(a0.Old.length:Int)) then ((aw a0.Old p31).bind fun x36=>aZ (in64 (2*p31)) (aZ (in64 ((2*p31)+2)) ((dL N a2 ((2*p31)+2)).bind fun y51=>bif y51 then ((jn N x36 p30 p29).bind fun y53=>i6 N (eF N a0 a1 a2 y20 y13 m28) a0 p31 a1 a2 y20 p30 p32 y13 y53.2 y53.1.Kind y53.1.Shape y53.1.Flags y53.1.Age y53.1.Slots y53.1.More) else (i6 N (eF N a0 a1 a2 y20 y13 m28) a0 p31 a1 a2 y20 p30 p32 y13 p29 x36.Kind x36.Shape x36.Flags x36.Age x36.Slots x36.More)))) else (oH N a1 y20 y13 p29 p30 p32)
def iL (N:Nat)(a0:Qg)(a1:Qr)(a2:Qq):Option (Qg×Qr×Qr×Int):=
 (qn N a0 a1 a2).bind fun y7=>bif !y7 then (some ((⟨[],[]⟩:Qg),[],[],1)) else ((nV N a0 a1 a2).bind fun y13=>(fe N y13).bind fun y20=>(eQ N y13).bind fun y22=>eF N a0 a1 a2 y20 y13 N [] y22 0 [])
def mP (N:Nat)(a1:Qr)(y20:Qq)(y13:Qh)(a0:Qg)(p68:Qr)(p69:Qy)(p70:Qy):Option ((Qg×Qr×Qr) ⊕ (Qg×Qr×Qr)):=
 (jm N a1 y13.met_ y20).bind fun y104=>(jm N p68 y13.met_ y20).bind fun y106=>some (.inr ((⟨p69,p70⟩:Qg),y104,y106))
def jx (N:Nat)(kb71:Qr->Int->Qy->Qy->Option ((Qg×Qr×Qr) ⊕ (Qg×Qr×Qr)))(y13:Qh)(p73:Int)(a1:Qr)(y20:Qq)(p26:Qq)(a0:Qg)(p79:Qr)(p80:Qy)(p81:Qy):Option ((Qg×Qr×Qr) ⊕ (Qg×Qr×Qr)):=
 aZ (in64 (p73+1)) (kb71 p79 (p73+1) p80 p81)
def eR (N:Nat)(y13:Qh)(a1:Qr)(y20:Qq)(p26:Qq)(a0:Qg):Nat->Qr->Int->Qy->Qy->Option ((Qg×Qr×Qr) ⊕ (Qg×Qr×Qr))
 |0,_,_,_,_=>none
 |m71+1,p72,p73,p74,p75=>bif decide (p73<(y13.met_.length:Int)) then ((aw y13.met_ p73).bind fun x82=>(cc N y13 x82).bind fun y83=>(jn N y83 p26 p72).bind fun y87=>(fG N y87.1 y13.met_ y20).bind fun y91=>(aw y20 p73).bind fun x94=>(fB N x94).bind fun y95=>bif y95 then (aZ (bi (p74.length+([(⟨y91.Kind,y91.Shape,y91.Flags,1,y91.Slots,y91.More⟩:Ql)]:List Ql).length)) (jx N (eR N y13 a1 y20 p26 a0 m71) y13 p73 a1 y20 p26 a0 y87.2 (p74++([(⟨y91.Kind,y91.Shape,y91.Flags,1,y91.Slots,y91.More⟩:Ql)]:List Ql)) p75)) else (aZ (bi (p75.length+([(⟨y91.Kind,y91.Shape,y91.Flags,1,y91.Slots,y91.More⟩:Ql)]:List Ql).length)) (jx N (eR N y13 a1 y20 p26 a0 m71) y13 p73 a1 y20 p26 a0 y87.2 p74 (p75++([(⟨y91.Kind,y91.Shape,y91.Flags,1,y91.Slots,y91.More⟩:Ql)]:List Ql))))) else (mP N a1 y20 y13 a0 p72 p74 p75)
def mQ (N:Nat)(a1:Qr)(y20:Qq)(y13:Qh)(a0:Qg)(p25:Qr)(p26:Qq)(p27:Qy):Option ((Qg×Qr×Qr) ⊕ (Qg×Qr×Qr)):=
 eR N y13 a1 y20 p26 a0 N p25 0 [] p27
def jy (N:Nat)(kb28:Qr->Qq->Int->Qy->Option ((Qg×Qr×Qr) ⊕ (Qg×Qr×Qr)))(a0:Qg)(p31:Int)(a1:Qr)(a2:Qq)(y20:Qq)(p30:Qq)(p32:Qy)(y13:Qh)(p42:Qr)(p43:Int)(p44:Int)(p45:Int)(p46:Int)(p47:Qr)(p48:Qr):Option ((Qg×Qr×Qr) ⊕ (Qg×Qr×Qr)):=
 (fG N (⟨p43,p44,p45,p46,p47,p48⟩:Ql) y13.met_ y20).bind fun y57=>aZ (bi (p32.length+([y57]:List Ql).length)) (aZ (in64 (p31+1)) (kb28 p42 p30 (p31+1) (p32++([y57]:List Ql))))
def eS (N:Nat)(a0:Qg)(a1:Qr)(a2:Qq)(y20:Qq)(y13:Qh):Nat->Qr->Qq->Int->Qy->Option ((Qg×Qr×Qr) ⊕ (Qg×Qr×Qr))
 |0,_,_,_,_=>none
 |m28+1,p29,p30,p31,p32=>bif decide (p31<(a0.Old.length:Int)) then ((aw a0.Old p31).bind fun x36=>aZ (in64 (2*p31)) (aZ (in64 ((2*p31)+2)) ((dL N a2 ((2*p31)+2)).bind fun y51=>bif y51 then ((jn N x36 p30 p29).bind fun y53=>jy N (eS N a0 a1 a2 y20 y13 m28) a0 p31 a1 a2 y20 p30 p32 y13 y53.2 y53.1.Kind y53.1.Shape y53.1.Flags y53.1.Age y53.1.Slots y53.1.More) else (jy N (eS N a0 a1 a2 y20 y13 m28) a0 p31 a1 a2 y20 p30 p32 y13 p29 x36.Kind x36.Shape x36.Flags x36.Age x36.Slots x36.More)))) else (mQ N a1 y20 y13 a0 p29 p30 p32)
def dP (N:Nat)(a0:Qg)(a1:Qr)(a2:Qq):Option ((Qg×Qr×Qr) ⊕ (Qg×Qr×Qr)):=
 (qn N a0 a1 a2).bind fun y7=>bif !y7 then (some (.inl ((⟨[],[]⟩:Qg),[],[]))) else ((nV N a0 a1 a2).bind fun y13=>(fe N y13).bind fun y20=>(eQ N y13).bind fun y22=>eS N a0 a1 a2 y20 y13 N [] y22 0 [])
theorem rT {N:Nat}{a0:Qg}{a1:Qr}{a2:Qq}{r:((Qg×Qr×Qr) ⊕ (Qg×Qr×Qr))}(h:dP N a0 a1 a2=some r):Okc QB 53 [.agg #[W A1 n1 c1,W A2 n2 c2],W A3 n3 c3,W A4 n4 c4] ([az A3 n3 c3 a1,bV A4 n4 c4 a2,bY A1 n1 c1 a0.Young,bY A2 n2 c2 a0.Old]) (fun u post=>Nx (fun (r:Qg×Qr×Qr)=> ∃A500 n500 c500 A501 n501 c501 A502 n502 c502 A503 n503 c503,u=.tuple #[.agg #[W A500 n500 c500,W A501 n501 c501],W A502 n502 c502,W A503 n503 c503,iV 1]/\post=[bY A500 n500 c500 r.1.Young,bY A501 n501 c501 r.1.Old,bh A502 n502 c502 r.2.1,bh A503 n503 c503 r.2.2,bY A1 n1 c1 a0.Young,bY A2 n2 c2 a0.Old]) (fun (r:Qg×Qr×Qr)=> ∃A500 n500 c500 A501 n501 c501 A502 n502 c502 A503 n503 c503,u=.tuple #[.agg #[W A500 n500 c500,W A501 n501 c501],W A502 n502 c502,W A503 n503 c503,iV 0]/\post=[bY A500 n500 c500 r.1.Young,bY A501 n501 c501 r.1.Old,bh A502 n502 c502 r.2.1,bh A503 n503 c503 r.2.2]) r):=by
 refine cQ Tryz.func53 ?_;intro B5
 refine gg fun B6=> ?_
 refine sZ ?_;obtain ⟨y7,k,h⟩:=aa h;refine kw (oR (Fh k)) ?_;refine gH J h ?_ ?_<;>intro h
 ·refine ae ?_;obtain rfl:=bw h;exact dt (rs:=[.cell 6 29,.tmp 7,.tmp 8,.tmp 9]) (vs:=[.agg #[W none 0 0,W none 0 0],W none 0 0,W none 0 0,iV 1]) J (.cons (bd 0 J J agg29.out) (.cons (iu J) (.cons (iu J) (.cons (iu J) .nil)))) J ((aD bT 35 _).trans ((aD bT 35 _).trans ((aD ak 37 _).trans ((aD ak 37 _).trans (cS [3,2,1,0,8,9] 10))))) ⟨_,_,_,_,_,_,_,_,_,_,_,_,J,J⟩
 refine ae ?_;obtain ⟨y13,hy13,h⟩:=aa h;refine lp (aY 4 J) ?_;refine lp (aY 5 J) ?_;refine ae ?_;refine gD (oC (Fi hy13)) ?_;rintro _ _ ⟨_,⟨B14,A15,n15,c15,A16,n16,c16,A17,n17,c17,A18,n18,c18,M19,rfl,rfl⟩,rfl⟩;refine ae ?_;obtain ⟨y20,k,h⟩:=aa h
 refine iE (oC (vd k)) fun A21 n21 c21=> ?_
 obtain ⟨y22,k,h⟩:=aa h
 refine iE (oR (qm k)) fun A23 n23 c23=> ?_
 refine am (fun s L=> ∃p25 p26 p27 A25 n25 c25 A26 n26 c26 A27 n27 c27,mQ N a1 y20 y13 a0 p25 p26 p27=some r/\s=[(1,W A3 n3 c3),(6,pV B6 0),(7,W none 0 0),(8,W A25 n25 c25),(9,iV 0),(10,pV B14 0),(11,W A21 n21 c21),(12,W A26 n26 c26)]/\L=[az A3 n3 c3 a1,bh A25 n25 c25 p25,bS A21 n21 c21 y20,bV A26 n26 c26 p26,bY A27 n27 c27 p27,ah B6 29 [W none 0 0,W A27 n27 c27],aK A15 n15 c15 y13.m_.Young,aK A16 n16 c16 y13.m_.Old,bV A17 n17 c17 y13.kept_,bS A18 n18 c18 y13.met_,bj cx dW M19 y13.seen_,ah B14 130 [W A15 n15 c15,W A16 n16 c16,W A17 n17 c17,W A18 n18 c18,.map (some M19),iV y13.next_],aK A1 n1 c1 a0.Young,aK A2 n2 c2 a0.Old]) ?_ ?_
 ·refine ae ?_;refine aH (fun m s L=> ∃p29 p30 p31 p32 A29 n29 c29 A30 n30 c30 A32 n32 c32,eS N a0 a1 a2 y20 y13 m p29 p30 p31 p32=some r/\s=[(1,W A3 n3 c3),(2,W A4 n4 c4),(6,pV B6 0),(7,W none 0 0),(8,W A29 n29 c29),(9,iV 0),(10,pV B14 0),(11,W A21 n21 c21),(12,W A30 n30 c30),(33,W A2 n2 c2),(34,iV (a0.Old.length:Int)),(35,iV p31)]/\L=[az A3 n3 c3 a1,bV A4 n4 c4 a2,bh A29 n29 c29 p29,bS A21 n21 c21 y20,bV A30 n30 c30 p30,aK A2 n2 c2 a0.Old,bY A32 n32 c32 p32,ah B6 29 [W none 0 0,W A32 n32 c32],aK A15 n15 c15 y13.m_.Young,aK A16 n16 c16 y13.m_.Old,bV A17 n17 c17 y13.kept_,bS A18 n18 c18 y13.met_,bj cx dW M19 y13.seen_,ah B14 130 [W A15 n15 c15,W A16 n16 c16,W A17 n17 c17,W A18 n18 c18,.map (some M19),iV y13.next_],aK A1 n1 c1 a0.Young]) N _ _ ⟨[],y22,0,[],none,0,0,A23,n23,c23,none,0,0,h,J,J⟩ sA ((aD ak 37 _).trans ((aY 1 J).trans ((aD bT 35 _).trans (cS [12,13,1,3,2,15,0,10,7,8,9,5,6,4,14] 16)))) ?_;rintro (_|m28) _ _ ⟨p29,p30,p31,p32,A29,n29,c29,A30,n30,c30,A32,n32,c32,h,rfl,rfl⟩
  ·exact aj h
  rw [eS.eq_2] at h;refine ae ?_;refine ay ?_;refine gH J h ?_ ?_<;>intro h
  ·refine sY ?_;obtain ⟨x36,lx36,ux36,hx36,h⟩:=aU h;refine ae ?_;refine mL 5 J hx36 (bR x36) ?_;rintro _ _ ⟨A37,n37,c37,A38,n38,c38,rfl,rfl⟩;refine zX (eo (us:=[iV x36.Kind,iV x36.Shape,iV x36.Flags,iV x36.Age,W A37 n37 c37,W A38 n38 c38]) 0 J J agg35.out J) ?_;intro B40;refine ae ?_;refine am (fun s L=> ∃p42 p43 p44 p45 p46 p47 p48 A42 n42 c42 A47 n47 c47 A48 n48 c48,jy N (eS N a0 a1 a2 y20 y13 m28) a0 p31 a1 a2 y20 p30 p32 y13 p42 p43 p44 p45 p46 p47 p48=some r/\s=[(1,W A3 n3 c3),(2,W A4 n4 c4),(6,pV B6 0),(7,W none 0 0),(8,W A42 n42 c42),(9,iV 0),(10,pV B14 0),(11,W A21 n21 c21),(12,W A30 n30 c30),(14,pV B40 0),(33,W A2 n2 c2),(34,iV (a0.Old.length:Int)),(35,iV p31)]/\L=[az A3 n3 c3 a1,bV A4 n4 c4 a2,bh A42 n42 c42 p42,bS A21 n21 c21 y20,bV A30 n30 c30 p30,aK A2 n2 c2 a0.Old,bY A32 n32 c32 p32,ah B6 29 [W none 0 0,W A32 n32 c32],aK A15 n15 c15 y13.m_.Young,aK A16 n16 c16 y13.m_.Old,bV A17 n17 c17 y13.kept_,bS A18 n18 c18 y13.met_,bj cx dW M19 y13.seen_,ah B14 130 [W A15 n15 c15,W A16 n16 c16,W A17 n17 c17,W A18 n18 c18,.map (some M19),iV y13.next_],az A47 n47 c47 p47,az A48 n48 c48 p48,ah B40 35 [iV p43,iV p44,iV p45,iV p46,W A47 n47 c47,W A48 n48 c48],aK A1 n1 c1 a0.Young]) ?_ ?_
   ·refine ae ?_;obtain ⟨q49,h⟩:=ad h;refine gE (kA J J q49.1 q49.2) ?_;obtain ⟨q50,h⟩:=ad h;refine ae ?_;obtain ⟨y51,k,h⟩:=aa h;refine kw (oR (jZ k)) ?_;refine gH J h ?_ ?_<;>intro h
    ·refine ae ?_;obtain ⟨y53,k,h⟩:=aa h
     refine MX (oC (wM k)) fun A54 n54 c54 A55 n55 c55 A56 n56 c56=> ?_
     exact jN
    exact jY
   rintro _ _ ⟨p42,p43,p44,p45,p46,p47,p48,A42,n42,c42,A47,n47,c47,A48,n48,c48,h,rfl,rfl⟩;obtain ⟨y57,hy57,h⟩:=aa h;refine dB (t:=[(1,W A3 n3 c3),(2,W A4 n4 c4),(6,pV B6 0),(7,W none 0 0),(8,W A42 n42 c42),(9,iV 0),(10,pV B14 0),(11,W A21 n21 c21),(12,W A30 n30 c30),(14,pV B40 0),(33,W A2 n2 c2),(34,iV (a0.Old.length:Int)),(35,iV p31)]) ?_ fv (ab _)
   refine dF I 10 [] [1,9] [52,53,54,55,56,57,58,59,60,61] [[],[0],[],[],[3],[4],[5],[],[2,6,7],[8]] [aV (pV B6 1),
aV (W A32 n32 c32),
aV (.agg #[iV p43,iV p44,iV p45,iV p46,W A47 n47 c47,W A48 n48 c48]),
aV (pV B14 0),
aV (pV B14 0),
aV (pV B14 3),
aV (W A18 n18 c18),
aV (W A21 n21 c21),
aX6 (fun (A60:Option Addr) (n60 c60:Nat) (A61:Option Addr) (n61 c61:Nat)=> .agg #[iV y57.Kind,iV y57.Shape,iV y57.Flags,iV y57.Age,W A60 n60 c60,W A61 n61 c61]) (fun A60 n60 c60 A61 n61 c61=> [az A60 n60 c60 y57.Slots,az A61 n61 c61 y57.More]),
aX3 (fun (A63:Option Addr) (n63 c63:Nat)=> W A63 n63 c63) (fun A63 n63 c63=> [bY A63 n63 c63 ([y57]:List Ql)])] [] (ab _) (fj) I rfl rfl ?_ ?_ ?_
   ·exact fi
   ·refine ac J ?_ ?_
    ·intro A60 n60 c60 A61 n61 c61;refine gj (aG (R:=bT) (vss:=[[iV y57.Kind,iV y57.Shape,iV y57.Flags,iV y57.Age,W A60 n60 c60,W A61 n61 c61]]) (xs:=[y57]) J (mf _ _ _ _ _ _ _ _ _ _) J J (fun _ _ hr=> .cons (⟨_,_,_,_,_,_,J,hr 0 _ J J,hr 1 _ J J⟩) All2.nil)) J ?_;rintro _ _ ⟨A62,n62,c62,rfl,rfl⟩;exact pv A62 n62 c62 (ab _)
    refine ac J ?_ ?_
    ·refine gj (oR (tO hy57)) J ?_;rintro _ _ ⟨_,⟨A58,n58,c58,A59,n59,c59,rfl,rfl⟩,rfl⟩;exact BN A58 n58 c58 A59 n59 c59 ((aY 0 J).trans ((aY 1 J).trans (ab _)))
    refine ac J ?_ ?_
    ·exact bN (ai J) J (aP J (ab _))
    refine ac J ?_ ?_
    ·exact cB (aL 13 J J zG J) J (aP J (ab _))
    refine ac J ?_ ?_
    ·exact bN (bB J ux) J (aP J (ab _))
    refine ac J ?_ ?_
    ·exact bN (aX J) J (aP J (ab _))
    refine ac J ?_ ?_
    ·exact bN (ai J) J (aP J (ab _))
    refine ac J ?_ ?_
    ·exact cB (aR (us:=[iV p43,iV p44,iV p45,iV p46,W A47 n47 c47,W A48 n48 c48]) 16 J J agg35.out J) J (aP J (ab _))
    refine ac J ?_ ?_
    ·exact cB (aL 7 J J ni J) J (aP J (ab _))
    refine ac J ?_ ?_
    ·exact bN (bB J lC) J (aP J (ab _))
    exact cp
   intro A63 n63 c63;refine gu (t:=[(53,W A32 n32 c32),(61,W A63 n63 c63),(1,W A3 n3 c3),(2,W A4 n4 c4),(6,pV B6 0),(7,W none 0 0),(8,W A42 n42 c42),(9,iV 0),(10,pV B14 0),(11,W A21 n21 c21),(12,W A30 n30 c30),(14,pV B40 0),(33,W A2 n2 c2),(34,iV (a0.Old.length:Int)),(35,iV p31)]) (L':=[bY A63 n63 c63 ([y57]:List Ql),az A3 n3 c3 a1,bV A4 n4 c4 a2,bh A42 n42 c42 p42,bS A21 n21 c21 y20,bV A30 n30 c30 p30,aK A2 n2 c2 a0.Old,bY A32 n32 c32 p32,ah B6 29 [W none 0 0,W A32 n32 c32],aK A15 n15 c15 y13.m_.Young,aK A16 n16 c16 y13.m_.Old,bV A17 n17 c17 y13.kept_,bS A18 n18 c18 y13.met_,bj cx dW M19 y13.seen_,ah B14 130 [W A15 n15 c15,W A16 n16 c16,W A17 n17 c17,W A18 n18 c18,.map (some M19),iV y13.next_],az A47 n47 c47 p47,az A48 n48 c48 p48,ah B40 35 [iV p43,iV p44,iV p45,iV p46,W A47 n47 c47,W A48 n48 c48],aK A1 n1 c1 a0.Young]) ?_ fv (ab _);obtain ⟨q64,h⟩:=ad h;refine jt 10 J I (ar 7 0 J J ap J J t9 tt J J q64) J J J ?_;rintro _ _ ⟨A65,n65,c65,rfl,rfl⟩;refine sU ?_;refine rc 11 J I (bB J lC) J J J ?_;refine o7 12 J I (aq (us:=[W A65 n65 c65]) (cs':=[W none 0 0,W A65 n65 c65]) 8 J J J J size27.out J J J) J J ?_;rintro _ _ rfl;refine ft I ?_;refine ae ?_;obtain ⟨q66,h⟩:=ad h;exact lY
  exact jY
 rintro _ _ ⟨p25,p26,p27,A25,n25,c25,A26,n26,c26,A27,n27,c27,h,rfl,rfl⟩;refine am (fun s L=> ∃p68 p69 p70 A68 n68 c68 A69 n69 c69 A70 n70 c70,mP N a1 y20 y13 a0 p68 p69 p70=some r/\s=[(1,W A3 n3 c3),(6,pV B6 0),(7,W none 0 0),(8,W A68 n68 c68),(9,iV 0),(10,pV B14 0),(11,W A21 n21 c21)]/\L=[az A3 n3 c3 a1,bh A68 n68 c68 p68,bS A21 n21 c21 y20,bY A69 n69 c69 p69,bY A70 n70 c70 p70,ah B6 29 [W A69 n69 c69,W A70 n70 c70],aK A15 n15 c15 y13.m_.Young,aK A16 n16 c16 y13.m_.Old,bV A17 n17 c17 y13.kept_,bS A18 n18 c18 y13.met_,bj cx dW M19 y13.seen_,ah B14 130 [W A15 n15 c15,W A16 n16 c16,W A17 n17 c17,W A18 n18 c18,.map (some M19),iV y13.next_],aK A1 n1 c1 a0.Young,aK A2 n2 c2 a0.Old]) ?_ ?_
 ·refine ae ?_;refine aH (fun m s L=> ∃p72 p73 p74 p75 A72 n72 c72 A74 n74 c74 A75 n75 c75,eR N y13 a1 y20 p26 a0 m p72 p73 p74 p75=some r/\s=[(1,W A3 n3 c3),(6,pV B6 0),(7,W none 0 0),(8,W A72 n72 c72),(9,iV 0),(10,pV B14 0),(11,W A21 n21 c21),(12,W A26 n26 c26),(68,W A18 n18 c18),(69,iV (y13.met_.length:Int)),(70,iV p73)]/\L=[az A3 n3 c3 a1,bh A72 n72 c72 p72,bS A21 n21 c21 y20,bV A26 n26 c26 p26,bS A18 n18 c18 y13.met_,bY A74 n74 c74 p74,bY A75 n75 c75 p75,ah B6 29 [W A74 n74 c74,W A75 n75 c75],aK A15 n15 c15 y13.m_.Young,aK A16 n16 c16 y13.m_.Old,bV A17 n17 c17 y13.kept_,bj cx dW M19 y13.seen_,ah B14 130 [W A15 n15 c15,W A16 n16 c16,W A17 n17 c17,W A18 n18 c18,.map (some M19),iV y13.next_],aK A1 n1 c1 a0.Young,aK A2 n2 c2 a0.Old]) N _ _ ⟨p25,0,[],p27,A25,n25,c25,none,0,0,A27,n27,c27,h,J,J⟩ sA ((aD bT 35 _).trans (cS [1,2,3,4,10,0,5,6,7,8,9,11,12,13,14] 15)) ?_;rintro (_|m71) _ _ ⟨p72,p73,p74,p75,A72,n72,c72,A74,n74,c74,A75,n75,c75,h,rfl,rfl⟩
  ·exact aj h
  rw [eR.eq_2] at h;refine ae ?_;refine ay ?_;refine gH J h ?_ ?_<;>intro h
  ·refine ae ?_;refine am (fun s L=> ∃p79 p80 p81 A79 n79 c79 A80 n80 c80 A81 n81 c81,jx N (eR N y13 a1 y20 p26 a0 m71) y13 p73 a1 y20 p26 a0 p79 p80 p81=some r/\s=[(1,W A3 n3 c3),(6,pV B6 0),(7,W none 0 0),(8,W A79 n79 c79),(9,iV 0),(10,pV B14 0),(11,W A21 n21 c21),(12,W A26 n26 c26),(68,W A18 n18 c18),(69,iV (y13.met_.length:Int)),(70,iV p73)]/\L=[az A3 n3 c3 a1,bh A79 n79 c79 p79,bS A21 n21 c21 y20,bV A26 n26 c26 p26,bS A18 n18 c18 y13.met_,bY A80 n80 c80 p80,bY A81 n81 c81 p81,ah B6 29 [W A80 n80 c80,W A81 n81 c81],aK A15 n15 c15 y13.m_.Young,aK A16 n16 c16 y13.m_.Old,bV A17 n17 c17 y13.kept_,bj cx dW M19 y13.seen_,ah B14 130 [W A15 n15 c15,W A16 n16 c16,W A17 n17 c17,W A18 n18 c18,.map (some M19),iV y13.next_],aK A1 n1 c1 a0.Young,aK A2 n2 c2 a0.Old]) ?_ ?_
   ·refine ae ?_;obtain ⟨x82,lx82,ux82,hx82,h⟩:=aU h;refine ae ?_;obtain ⟨y83,k,h⟩:=aa h
    refine BM (oC (fN k)) fun A84 n84 c84 A85 n85 c85=> ?_
    intro B86;refine ae ?_;obtain ⟨y87,k,h⟩:=aa h
    refine MX (oC (wM k)) fun A88 n88 c88 A89 n89 c89 A90 n90 c90=> ?_
    refine ay ?_;refine bm I _ (ab _) ?_;refine ae ?_;obtain ⟨y91,k,h⟩:=aa h;refine zD 6 J (oR (tO k)) ?_;rintro _ _ ⟨_,⟨A92,n92,c92,A93,n93,c93,rfl,rfl⟩,rfl⟩;refine bq (cS [2,3,4,5,6,7,8,9,10,11,12,13,14,15,16,17,18,19,20,21] 22) ?_;refine lE 7 J I I (aq (us:=[iV y91.Kind,iV y91.Shape,iV y91.Flags,iV y91.Age,W A92 n92 c92,W A93 n93 c93]) (cs':=[iV y91.Kind,iV y91.Shape,iV y91.Flags,iV y91.Age,W A92 n92 c92,W A93 n93 c93]) 5 J J J J size35.out J J J) ?_;rintro _ _ rfl;refine cn ?_;refine ae ?_;obtain ⟨x94,lx94,ux94,hx94,h⟩:=aU h;refine ae ?_;obtain ⟨y95,k,h⟩:=aa h;refine kw (oR (lV k)) ?_;refine gH J h ?_ ?_<;>intro h
    ·refine ae ?_;refine lp (aY 0 J) ?_;refine lp (aY 1 J) ?_;refine gD (aG (R:=bT) (vss:=[[iV y91.Kind,iV y91.Shape,iV y91.Flags,iV 1,W A92 n92 c92,W A93 n93 c93]]) (xs:=[(⟨y91.Kind,y91.Shape,y91.Flags,1,y91.Slots,y91.More⟩:Ql)]) J (mf _ _ _ _ _ _ _ _ _ _) J J (fun _ _ hr=> .cons (⟨_,_,_,_,_,_,J,hr 0 _ J J,hr 1 _ J J⟩) All2.nil)) ?_;rintro _ _ ⟨A97,n97,c97,rfl,rfl⟩;obtain ⟨q98,h⟩:=ad h
     refine iE (ar 15 0 J J ap J J t9 tt J J q98) fun A99 n99 c99=> ?_
     exact jN
    refine ae ?_;refine lp (aY 0 J) ?_;refine lp (aY 1 J) ?_;refine ae ?_;refine gD (aG (R:=bT) (vss:=[[iV y91.Kind,iV y91.Shape,iV y91.Flags,iV 1,W A92 n92 c92,W A93 n93 c93]]) (xs:=[(⟨y91.Kind,y91.Shape,y91.Flags,1,y91.Slots,y91.More⟩:Ql)]) J (mf _ _ _ _ _ _ _ _ _ _) J J (fun _ _ hr=> .cons (⟨_,_,_,_,_,_,J,hr 0 _ J J,hr 1 _ J J⟩) All2.nil)) ?_;rintro _ _ ⟨A100,n100,c100,rfl,rfl⟩;obtain ⟨q101,h⟩:=ad h
    refine iE (ar 16 0 J J ap J J t9 tt J J q101) fun A102 n102 c102=> ?_
    exact jN
   rintro _ _ ⟨p79,p80,p81,A79,n79,c79,A80,n80,c80,A81,n81,c81,h,rfl,rfl⟩;refine ae ?_;obtain ⟨q103,h⟩:=ad h;exact lY
  exact jY
 rintro _ _ ⟨p68,p69,p70,A68,n68,c68,A69,n69,c69,A70,n70,c70,h,rfl,rfl⟩;refine ay ?_;refine bm I _ (ab _) ?_;refine zR 0 J (aR (us:=[W A69 n69 c69,W A70 n70 c70]) 5 J J agg29.out J) ?_;refine zE 1 J (ai J) ?_;refine zE 2 J (ai J) ?_;refine zE 3 J (aX J) ?_;refine zE 4 J (bB J ux) ?_;refine zR 5 J (aL 11 J J zG J) ?_;refine zE 6 J (ai J) ?_;refine zE 8 J (ai J) ?_;refine zE 9 J (ai J) ?_;refine zE 10 J (aX J) ?_;refine zE 11 J (bB J ux) ?_;refine zR 12 J (aL 11 J J zG J) ?_;refine zE 13 J (ai J) ?_;obtain ⟨y104,k,h⟩:=aa h;refine zD 7 J (oR (wK k)) ?_;rintro _ _ ⟨_,⟨A105,n105,c105,rfl,rfl⟩,rfl⟩;refine bq (cS [1,2,3,4,5,6,7,8,9,10,11,12,13,14] 15) ?_;obtain ⟨y106,k,h⟩:=aa h;refine zD 14 J (oR (wK k)) ?_;rintro _ _ ⟨_,⟨A107,n107,c107,rfl,rfl⟩,rfl⟩;refine bq (cS [2,3,4,5,6,7,8,9,10,11,12,13,14,15] 16) ?_;refine zO 15 J (aq (us:=[W A69 n69 c69,W A70 n70 c70]) (cs':=[W A69 n69 c69,W A70 n70 c70]) 7 J J J J size29.out J J J) ?_;rintro _ _ rfl;refine bq (cS [2,3,4,5,6,7,8,9,10,11,12,13,14,15] 16) ?_;refine cn ?_;refine zE 16 J (av J) ?_;refine zE 17 J (av J) ?_;refine zE 18 J (av J) ?_;refine bv I ?_;exact eY
def mc (N:Nat)(a0:Qr)(a1:Qe):Option ((Qg×Qr×Qr) ⊕ (Qg×Qr×Qr)):=
 (iQ N a1.set_).bind fun y11=>(dP N a1.m_ a0 y11).bind fun y13=>ET y13 (fun y13_0=>some (.inl (y13_0.1,y13_0.2.1,y13_0.2.2))) (fun y13_1=>some (.inr (y13_1.1,y13_1.2.1,y13_1.2.2)))
theorem cN {N:Nat}{a0:Qr}{a1:Qe}{r:((Qg×Qr×Qr) ⊕ (Qg×Qr×Qr))}(h:mc N a0 a1=some r):Okc QB 52 [W A1 n1 c1,pV B2 0] ([az A1 n1 c1 a0,bu B2 23 [pV B3 0],ah B3 56 [W A4 n4 c4,W A5 n5 c5,W A6 n6 c6,W A7 n7 c7,pV B8 0],bY A4 n4 c4 a1.m_.Young,bY A5 n5 c5 a1.m_.Old,bh A6 n6 c6 a1.roots_,bh A7 n7 c7 a1.pending_,ah B8 87 [.map (some M9)],bj cx dW M9 a1.set_.at_]) (fun u post=>Nx (fun (r:Qg×Qr×Qr)=> ∃A500 n500 c500 A501 n501 c501 A502 n502 c502 A503 n503 c503,u=.tuple #[.agg #[W A500 n500 c500,W A501 n501 c501],W A502 n502 c502,W A503 n503 c503,iV 1]/\post=[bY A500 n500 c500 r.1.Young,bY A501 n501 c501 r.1.Old,bh A502 n502 c502 r.2.1,bh A503 n503 c503 r.2.2,bY A4 n4 c4 a1.m_.Young,bY A5 n5 c5 a1.m_.Old,bh A6 n6 c6 a1.roots_,bh A7 n7 c7 a1.pending_,ah B3 56 [W A4 n4 c4,W A5 n5 c5,W A6 n6 c6,W A7 n7 c7,pV B8 0],ah B8 87 [.map (some M9)],bj cx dW M9 a1.set_.at_]) (fun (r:Qg×Qr×Qr)=> ∃A500 n500 c500 A501 n501 c501 A502 n502 c502 A503 n503 c503,u=.tuple #[.agg #[W A500 n500 c500,W A501 n501 c501],W A502 n502 c502,W A503 n503 c503,iV 0]/\post=[bY A500 n500 c500 r.1.Young,bY A501 n501 c501 r.1.Old,bh A502 n502 c502 r.2.1,bh A503 n503 c503 r.2.2,bh A6 n6 c6 a1.roots_,bh A7 n7 c7 a1.pending_,ah B3 56 [W A4 n4 c4,W A5 n5 c5,W A6 n6 c6,W A7 n7 c7,pV B8 0],ah B8 87 [.map (some M9)],bj cx dW M9 a1.set_.at_]) r):=by
 refine cQ Tryz.func52 ?_;intro B10;refine ae ?_;refine ay ?_;refine bm I ([ah B10 29 [W none 0 0,W none 0 0],az A1 n1 c1 a0,bu B2 23 [pV B3 0],ah B3 56 [W A4 n4 c4,W A5 n5 c5,W A6 n6 c6,W A7 n7 c7,pV B8 0],bh A6 n6 c6 a1.roots_,bh A7 n7 c7 a1.pending_,ah B8 87 [.map (some M9)],bj cx dW M9 a1.set_.at_]) (cS [0,1,2,3,6,7,8,9] 10) ?_;refine zR 0 J (lO 2 J J J2 J) ?_;refine zE 1 J (aX J) ?_;refine zE 2 J (cG J nw) ?_;refine zR 3 J (aR (us:=[W A4 n4 c4,W A5 n5 c5]) 3 J J agg29.out J) ?_;refine zE 4 J (ai J) ?_;refine zR 5 J (lO 2 J J J2 J) ?_;refine zE 6 J (aX J) ?_;refine zE 7 J (bB J H6) ?_;refine zR 8 J (aL 3 J J Mk J) ?_;obtain ⟨y11,k,h⟩:=aa h;refine zD 9 J (oR (rC k)) ?_;rintro _ _ ⟨_,⟨A12,n12,c12,rfl,rfl⟩,rfl⟩;refine bq (cS [1,2,3,4,7,8,9,10] 11) ?_;refine vP (aY 0 J) (cS [1,2,3,4,7,8,9,10] 11) ?_;obtain ⟨y13,hy13,h⟩:=aa h;rcases y13 with y13_0|y13_1
 ·replace h:=Jy h;refine zD 10 J (oC (rT hy13)) ?_;rintro _ _ ⟨_,⟨A14,n14,c14,A15,n15,c15,A16,n16,c16,A17,n17,c17,rfl,rfl⟩,rfl⟩;refine bq (cS [7,8,9,10,11,12,13,14] 15) ?_;refine cn ?_;refine zE 11 J (au J J) ?_;refine zE 12 J (au J J) ?_;refine zE 13 J (au J J) ?_;refine zE 14 J (au J J) ?_;refine lE 15 J I I (aq (us:=[W A14 n14 c14,W A15 n15 c15]) (cs':=[W A14 n14 c14,W A15 n15 c15]) 7 J J J J size29.out J J J) ?_;rintro _ _ rfl;refine cn ?_;refine zE 16 J (av J) ?_;refine zE 17 J (av J) ?_;refine zE 18 J (av J) ?_;refine bv I ?_;exact eY
 replace h:=Jx h;refine zD 10 J (oC (rT hy13)) ?_;rintro _ _ ⟨_,⟨A18,n18,c18,A19,n19,c19,A20,n20,c20,A21,n21,c21,rfl,rfl⟩,rfl⟩;refine bq (cS [5,6,7,8,9,10,11,12] 13) ?_;refine zE 11 J (au J J) ?_;refine zE 12 J (au J J) ?_;refine zE 13 J (au J J) ?_;refine zE 14 J (au J J) ?_;refine lE 15 J I I (aq (us:=[W A18 n18 c18,W A19 n19 c19]) (cs':=[W A18 n18 c18,W A19 n19 c19]) 5 J J J J size29.out J J J) ?_;rintro _ _ rfl;refine zE 16 J (av J) ?_;refine zE 17 J (av J) ?_;refine zE 18 J (av J) ?_;refine bv I ?_;exact eY
def ii (N:Nat)(a0:Int)(a1:Qg):Option Bool:=
 (iS N a1 a0).bind fun y4=>some (!y4)
theorem zM {N:Nat}{a0:Int}{a1:Qg}{r:Bool}(h:ii N a0 a1=some r):Okc QB 146 [iV a0,pV B1 0] ([bu B1 29 [W A2 n2 c2,W A3 n3 c3],aK A2 n2 c2 a1.Young,aK A3 n3 c3 a1.Old]) (fun u post=>u=.bool r/\post=[]):=by
 refine cQ Tryz.func146 ?_;obtain ⟨y4,k,h⟩:=aa h;refine kw (oR (kh k)) ?_;exact eN
def qE (N:Nat)(a0:Qg)(p39:Qq):Option Int:=
 (bW N p39 (fun x=>ii N x a0)).bind fun y54=>bif y54 then (some 50) else (some 0)
def nu (N:Nat)(kb40:Qq->Int->Option Int)(a1:Qr)(p42:Int)(a0:Qg)(p45:Qq):Option Int:=
 aZ (in64 (p42+1)) (kb40 p45 (p42+1))
def eX (N:Nat)(a1:Qr)(a0:Qg):Nat->Qq->Int->Option Int
 |0,_,_=>none
 |m40+1,p41,p42=>bif decide (p42<(a1.length:Int)) then ((aw a1 p42).bind fun x46=>(bif decide (x46.Kind=7) then (some true) else (some (decide (x46.Kind=9)))).bind fun b48=>bif b48 then (aZ (bi (p41.length+([x46.N]:List Int).length)) (nu N (eX N a1 a0 m40) a1 p42 a0 (p41++([x46.N]:List Int)))) else (nu N (eX N a1 a0 m40) a1 p42 a0 p41)) else (qE N a0 p41)
def oL (N:Nat)(a1:Qr)(a0:Qg)(p6:Qq):Option Int:=
 eX N a1 a0 N p6 0
def qF (N:Nat)(kb8:Qq->Int->Option Int)(a0:Qg)(p10:Int)(a1:Qr)(p14:Qq):Option Int:=
 aZ (in64 (p10+1)) (kb8 p14 (p10+1))
def kO (N:Nat)(kb8:Qq->Int->Option Int)(a0:Qg)(p10:Int)(x15:Qy)(a1:Qr):Nat->Qq->Int->Option Int
 |0,_,_=>none
 |m17+1,p18,p19=>bif decide (p19<(x15.length:Int)) then ((aw x15 p19).bind fun x21=>(fF N x21).bind fun y26=>bif !y26 then (some 51) else ((fH N x21).bind fun y28=>aZ (bi (p18.length+y28.length)) ((jo N x21).bind fun y32=>aZ (bi ((p18++y28).length+y32.length)) (aZ (in64 (p19+1)) ((kO N kb8 a0 p10 x15 a1 m17) ((p18++y28)++y32) (p19+1)))))) else (qF N kb8 a0 p10 a1 p18)
def lZ (N:Nat)(a0:Qg)(a1:Qr):Nat->Qq->Int->Option Int
 |0,_,_=>none
 |m8+1,p9,p10=>bif decide (p10<(([a0.Young,a0.Old]:List Qy).length:Int)) then ((aw ([a0.Young,a0.Old]:List Qy) p10).bind fun x15=>kO N (lZ N a0 a1 m8) a0 p10 x15 a1 N p9 0) else (oL N a1 a0 p9)
def lf (N:Nat)(a0:Qg)(a1:Qr):Option Int:=
 lZ N a0 a1 N [] 0
theorem CZ {N:Nat}{a0:Qg}{a1:Qr}{r:Int}(h:lf N a0 a1=some r):Okc QB 96 [.agg #[W A1 n1 c1,W A2 n2 c2],W A3 n3 c3] ([aK A1 n1 c1 a0.Young,aK A2 n2 c2 a0.Old,az A3 n3 c3 a1]) (fun u post=>u=iV r/\post=[]):=by
 refine cQ Tryz.func96 ?_;intro B4;refine ae ?_;refine am (fun s L=> ∃p6 A6 n6 c6,oL N a1 a0 p6=some r/\s=[(1,W A3 n3 c3),(2,pV B4 0),(4,iV 0),(5,W A6 n6 c6)]/\L=[az A3 n3 c3 a1,bS A6 n6 c6 p6,aK A1 n1 c1 a0.Young,aK A2 n2 c2 a0.Old,ah B4 29 [W A1 n1 c1,W A2 n2 c2]]) ?_ ?_
 ·refine ae ?_
  refine iE (aG (R:=(Rep.sl bT)) (vss:=[[W A1 n1 c1],[W A2 n2 c2]]) (xs:=[a0.Young,a0.Old]) J (AU _ _ _ _ _ _) J J (fun _ _ hr=> .cons (⟨_,J,hr 1 _ J J⟩) (.cons (⟨_,J,hr 2 _ J J⟩) All2.nil))) fun A7 n7 c7=> ?_
  refine aH (fun m s L=> ∃p9 p10 A9 n9 c9,lZ N a0 a1 m p9 p10=some r/\s=[(1,W A3 n3 c3),(2,pV B4 0),(4,iV 0),(5,W A9 n9 c9),(16,W A7 n7 c7),(17,iV (([a0.Young,a0.Old]:List Qy).length:Int)),(18,iV p10)]/\L=[az A3 n3 c3 a1,bS A9 n9 c9 p9,eu (Rep.sl bT) 27 (W A7 n7 c7) ([a0.Young,a0.Old]:List Qy),aK A1 n1 c1 a0.Young,aK A2 n2 c2 a0.Old,ah B4 29 [W A1 n1 c1,W A2 n2 c2]]) N _ _ ⟨[],0,none,0,0,h,J,J⟩ sA ((aD (da .i64) 3 _).trans (cS [5,0,1,3,4,2] 6)) ?_;rintro (_|m8) _ _ ⟨p9,p10,A9,n9,c9,h,rfl,rfl⟩
  ·exact aj h
  rw [lZ.eq_2] at h;refine ae ?_;refine ay ?_;refine gH J h ?_ ?_<;>intro h
  ·refine ae ?_;refine am (fun s L=> ∃p14 A14 n14 c14,qF N (lZ N a0 a1 m8) a0 p10 a1 p14=some r/\s=[(1,W A3 n3 c3),(2,pV B4 0),(4,iV 0),(5,W A14 n14 c14),(16,W A7 n7 c7),(17,iV (([a0.Young,a0.Old]:List Qy).length:Int)),(18,iV p10)]/\L=[az A3 n3 c3 a1,bS A14 n14 c14 p14,eu (Rep.sl bT) 27 (W A7 n7 c7) ([a0.Young,a0.Old]:List Qy),aK A1 n1 c1 a0.Young,aK A2 n2 c2 a0.Old,ah B4 29 [W A1 n1 c1,W A2 n2 c2]]) ?_ ?_
   ·refine ae ?_;obtain ⟨x15,lx15,ux15,hx15,h⟩:=aU h;refine ae ?_
    refine iE (J0 (R':=bT) (ys:=x15) 2 J ap J hx15 ni (fun _ _ _ h=>by obtain ⟨u,e,k⟩:=h;exact ⟨u,by rw [e];rfl,k⟩)) fun A16 n16 c16=> ?_
    refine aH (fun m s L=> ∃p18 p19 A18 n18 c18,kO N (lZ N a0 a1 m8) a0 p10 x15 a1 m p18 p19=some r/\s=[(1,W A3 n3 c3),(2,pV B4 0),(4,iV 0),(5,W A18 n18 c18),(16,W A7 n7 c7),(17,iV (([a0.Young,a0.Old]:List Qy).length:Int)),(18,iV p10),(22,W A16 n16 c16),(23,iV (x15.length:Int)),(24,iV p19)]/\L=[az A3 n3 c3 a1,bS A18 n18 c18 p18,eu (Rep.sl bT) 27 (W A7 n7 c7) ([a0.Young,a0.Old]:List Qy),aK A16 n16 c16 x15,aK A1 n1 c1 a0.Young,aK A2 n2 c2 a0.Old,ah B4 29 [W A1 n1 c1,W A2 n2 c2]]) N _ _ ⟨p9,0,A9,n9,c9,h,J,J⟩ sA (cS [1,2,3,0,4,5,6] 7) ?_;rintro (_|m17) _ _ ⟨p18,p19,A18,n18,c18,h,rfl,rfl⟩
    ·exact aj h
    rw [kO.eq_2] at h;refine ae ?_;refine ay ?_;refine gH J h ?_ ?_<;>intro h
    ·refine sY ?_;obtain ⟨x21,lx21,ux21,hx21,h⟩:=aU h;refine ae ?_;refine mL 3 J hx21 (bR x21) ?_;rintro _ _ ⟨A22,n22,c22,A23,n23,c23,rfl,rfl⟩;refine zX (eo (us:=[iV x21.Kind,iV x21.Shape,iV x21.Flags,iV x21.Age,W A22 n22 c22,W A23 n23 c23]) 0 J J agg35.out J) ?_;intro B25;refine sY ?_;obtain ⟨y26,k,h⟩:=aa h;refine kw (oR (li k)) ?_;refine gH J h ?_ ?_<;>intro h
     ·exact eY
     refine ae ?_;refine bm I ([ah B25 35 [iV x21.Kind,iV x21.Shape,iV x21.Flags,iV x21.Age,W A22 n22 c22,W A23 n23 c23],EY (dj (W A16 n16 c16) p19.toNat 6 0) [iV x21.Kind,iV x21.Shape,iV x21.Flags,iV x21.Age,W A22 n22 c22,W A23 n23 c23],az A22 n22 c22 x21.Slots,az A23 n23 c23 x21.More,az A3 n3 c3 a1,eu (Rep.sl bT) 27 (W A7 n7 c7) ([a0.Young,a0.Old]:List Qy),aK A16 n16 c16 x15,aK A1 n1 c1 a0.Young,aK A2 n2 c2 a0.Old,ah B4 29 [W A1 n1 c1,W A2 n2 c2]]) (cS [0,1,2,3,4,6,7,8,9,10] 11) ?_;refine zE 0 J (ai J) ?_;refine zR 1 J (aR (us:=[iV x21.Kind,iV x21.Shape,iV x21.Flags,iV x21.Age,W A22 n22 c22,W A23 n23 c23]) 0 J J agg35.out J) ?_;refine zR 4 J (aR (us:=[iV x21.Kind,iV x21.Shape,iV x21.Flags,iV x21.Age,W A22 n22 c22,W A23 n23 c23]) 0 J J agg35.out J) ?_;obtain ⟨y28,k,h⟩:=aa h;refine zD 2 J (oR (jp k)) ?_;rintro _ _ ⟨_,⟨A29,n29,c29,rfl,rfl⟩,rfl⟩;refine bq (cS [1,2,3,4,5,7,8,9,10,11] 12) ?_;obtain ⟨q30,h⟩:=ad h;refine zD 3 J (ar 6 0 J J ap J J Ex uE J J q30) ?_;rintro _ _ ⟨A31,n31,c31,rfl,rfl⟩;refine bq (cS [1,2,3,4,5,7,8,9,10,11] 12) ?_;obtain ⟨y32,k,h⟩:=aa h;refine zD 5 J (oR (oU k)) ?_;rintro _ _ ⟨_,⟨A33,n33,c33,rfl,rfl⟩,rfl⟩;refine bq (cS [2,3,4,5,6,8,9,10,11,12] 13) ?_;obtain ⟨q34,h⟩:=ad h;refine zD 6 J (ar 7 0 J J ap J J Ex uE J J q34) ?_;rintro _ _ ⟨A35,n35,c35,rfl,rfl⟩
     refine bq (cS [2,3,4,5,6,8,9,10,11,12] 13) ?_;refine zE 7 J (av J) ?_;refine bv I ?_;refine ae ?_;obtain ⟨q36,h⟩:=ad h;exact lY
    exact jY
   rintro _ _ ⟨p14,A14,n14,c14,h,rfl,rfl⟩;refine ae ?_;obtain ⟨q37,h⟩:=ad h;exact lY
  exact jY
 rintro _ _ ⟨p6,A6,n6,c6,h,rfl,rfl⟩;refine am (fun s L=> ∃p39 A39 n39 c39,qE N a0 p39=some r/\s=[(2,pV B4 0),(4,iV 0),(5,W A39 n39 c39)]/\L=[bS A39 n39 c39 p39,aK A1 n1 c1 a0.Young,aK A2 n2 c2 a0.Old,ah B4 29 [W A1 n1 c1,W A2 n2 c2]]) ?_ ?_
 ·refine ae ?_;refine aH (fun m s L=> ∃p41 p42 A41 n41 c41,eX N a1 a0 m p41 p42=some r/\s=[(2,pV B4 0),(4,iV 0),(5,W A41 n41 c41),(40,W A3 n3 c3),(41,iV (a1.length:Int)),(42,iV p42)]/\L=[bS A41 n41 c41 p41,az A3 n3 c3 a1,aK A1 n1 c1 a0.Young,aK A2 n2 c2 a0.Old,ah B4 29 [W A1 n1 c1,W A2 n2 c2]]) N _ _ ⟨p6,0,A6,n6,c6,h,J,J⟩ sA (cS [1,0,2,3,4] 5) ?_;rintro (_|m40) _ _ ⟨p41,p42,A41,n41,c41,h,rfl,rfl⟩
  ·exact aj h
  rw [eX.eq_2] at h;refine ae ?_;refine ay ?_;refine gH J h ?_ ?_<;>intro h
  ·refine ae ?_;refine am (fun s L=> ∃p45 A45 n45 c45,nu N (eX N a1 a0 m40) a1 p42 a0 p45=some r/\s=[(2,pV B4 0),(4,iV 0),(5,W A45 n45 c45),(40,W A3 n3 c3),(41,iV (a1.length:Int)),(42,iV p42)]/\L=[bS A45 n45 c45 p45,az A3 n3 c3 a1,aK A1 n1 c1 a0.Young,aK A2 n2 c2 a0.Old,ah B4 29 [W A1 n1 c1,W A2 n2 c2]]) ?_ ?_
   ·refine ae ?_;obtain ⟨x46,lx46,ux46,hx46,h⟩:=aU h
    refine gg fun B47=> ?_
    refine gS 4 53 49 h ?_;intro b48 h;refine ew h ?_ ?_<;>intro h
    ·refine ae ?_;refine gD (aG (R:=(da .i64)) (vss:=[[iV x46.N]]) (xs:=[x46.N]) J (dp _) J J (fun _ _ hr=> .cons J All2.nil)) ?_;rintro _ _ ⟨A50,n50,c50,rfl,rfl⟩;obtain ⟨q51,h⟩:=ad h
     refine iE (ar 2 0 J J ap J J Ex uE J J q51) fun A52 n52 c52=> ?_
     exact jN
    exact jY
   rintro _ _ ⟨p45,A45,n45,c45,h,rfl,rfl⟩;refine ae ?_;obtain ⟨q53,h⟩:=ad h;exact lY
  exact jY
 rintro _ _ ⟨p39,A39,n39,c39,h,rfl,rfl⟩;refine sZ ?_;refine gE (ei J) ?_;obtain ⟨y54,k,h⟩:=aa h;refine kw (oR (dD k ⟨hU J (hU J (hU J ax)),146, #[], #[pV B4 0],J,call146.out,fun _ _ hh=>zM hh⟩)) ?_;refine gH J h ?_ ?_<;>intro h
 ·exact eY
 exact eY
def np (N:Nat)(a0:Qn):Option (Int×Bool):=
 (bif decide (a0.Kind=7) then (some true) else (some (decide (a0.Kind=9)))).bind fun b2=>some (a0.N,b2)
theorem AA {N:Nat}{a0:Qn}{r:Int×Bool}(h:np N a0=some r):Okc QB 205 [(bD a0)] ([]) (fun u post=>u=.tuple #[iV r.1,.bool r.2]/\post=[]):=by
 refine cQ Tryz.func205 ?_;intro B1;refine ae ?_;refine ay ?_;refine bm I _ (ab _) ?_;refine zE 0 J (bB J kx) ?_;refine zR 1 J (aL 0 J J ex J) ?_;refine zE 2 J (cG J fE) ?_;refine zR 3 J (aL 0 J J ex J) ?_;refine zE 4 J (Ac J J) ?_;refine zE 5 J (ai J) ?_;refine zE 10 J (av J) ?_;obtain ⟨b2,hb2,h⟩:=aa h;refine eM (fun l=>((((l.setIfInBounds 6 true).setIfInBounds 7 true).setIfInBounds 8 true).setIfInBounds 9 true)) 1 13 b2 (fun rest=> ?_) ?_
 ·clear h;refine gI 9 J (fun g2=> ?_) (fun g2=> ?_)
  ·have h:=aE g2 hb2;refine bo 6 J I (jb g2 J) J ?_;refine bo 7 J I (jb g2 J) J ?_;refine bo 8 J I (jb g2 J) J ?_;refine zE 9 J (cI g2 J J) ?_;obtain rfl:=bw h;exact di rest (bM J (ag (ag (ag (ag aW J) J) J) J)) (ab _) (ab _)
  have h:=aF g2 hb2;refine cP 6 J I (cG J fE) (dh g2 J) J ?_;refine fb 7 J I (aL 0 J J ex J) (dh g2 J) J ?_;refine cP 8 J I (Ac J J) (dh g2 J) J ?_;refine zE 9 J (cJ g2 J J) ?_;obtain rfl:=bw h;exact di rest (bM J (ag (ag (ag (ag aW J) J) J) J)) (ab _) (ab _)
 refine zE 11 J (av J) ?_;refine bv I ?_;exact eY
def iR (N:Nat)(kb7:Int->Qq->(List (Int×Unit))->Option Qp)(a1:Qq)(p8:Int)(a0:Qp)(p13:Qq)(p14:(List (Int×Unit))):Option Qp:=
 aZ (in64 (p8+1)) (kb7 (p8+1) p13 p14)
def dq (N:Nat)(a1:Qq)(a0:Qp):Nat->Int->Qq->(List (Int×Unit))->Option Qp
 |0,_,_,_=>none
 |m7+1,p8,p9,p10=>bif decide (p8<(a1.length:Int)) then ((aw a1 p8).bind fun x15=>(bif !((lk p10 x15).isSome) then ((iS N a0.m_ x15).bind fun y18=>some y18) else (some false)).bind fun b17=>bif b17 then (aZ (bi (p9.length+([x15]:List Int).length)) (iR N (dq N a1 a0 m7) a1 p8 a0 (p9++([x15]:List Int)) (za p10 x15 ()))) else (iR N (dq N a1 a0 m7) a1 p8 a0 p9 p10)) else (some (⟨a0.m_,p9,p10,a0.done_⟩:Qp))
def d7 (N:Nat)(a0:Qp)(a1:Qq):Option Qp:=
 dq N a1 a0 N 0 a0.all_ a0.met_
theorem uc {N:Nat}{a0:Qp}{a1:Qq}{r:Qp}(h:d7 N a0 a1=some r):Okc QB 206 [pV B1 0,W A6 n6 c6] ([aK A2 n2 c2 a0.m_.Young,aK A3 n3 c3 a0.m_.Old,bV A6 n6 c6 a1,ah B1 185 [W A2 n2 c2,W A3 n3 c3,W A4 n4 c4,.map (some M5),iV a0.done_],bS A4 n4 c4 a0.all_,bj cx Bp M5 a0.met_]) (fun u post=> ∃A0 n0 c0 A1 n1 c1 A2 n2 c2 M3,u=.tuple #[]/\post=[ah B1 185 [W A0 n0 c0,W A1 n1 c1,W A2 n2 c2,.map (some M3),iV r.done_],aK A0 n0 c0 r.m_.Young,aK A1 n1 c1 r.m_.Old,bS A2 n2 c2 r.all_,bj cx Bp M3 r.met_]):=by
 refine cQ Tryz.func206 ?_;refine aH (fun m s L=> ∃p8 p9 p10 A9 n9 c9,dq N a1 a0 m p8 p9 p10=some r/\s=[(0,pV B1 0),(8,W A6 n6 c6),(9,iV (a1.length:Int)),(10,iV p8)]/\L=[bV A6 n6 c6 a1,aK A2 n2 c2 a0.m_.Young,aK A3 n3 c3 a0.m_.Old,bS A9 n9 c9 p9,bj cx Bp M5 p10,ah B1 185 [W A2 n2 c2,W A3 n3 c3,W A9 n9 c9,.map (some M5),iV a0.done_]]) N _ _ ⟨0,a0.all_,a0.met_,A4,n4,c4,h,J,J⟩ sA (cS [2,0,1,4,5,3] 6) ?_;rintro (_|m7) _ _ ⟨p8,p9,p10,A9,n9,c9,h,rfl,rfl⟩
 ·exact aj h
 rw [dq.eq_2] at h;refine ae ?_;refine ay ?_;refine gH J h ?_ ?_<;>intro h
 ·refine ae ?_;refine am (fun s L=> ∃p13 p14 A13 n13 c13,iR N (dq N a1 a0 m7) a1 p8 a0 p13 p14=some r/\s=[(0,pV B1 0),(8,W A6 n6 c6),(9,iV (a1.length:Int)),(10,iV p8)]/\L=[bV A6 n6 c6 a1,aK A2 n2 c2 a0.m_.Young,aK A3 n3 c3 a0.m_.Old,bS A13 n13 c13 p13,bj cx Bp M5 p14,ah B1 185 [W A2 n2 c2,W A3 n3 c3,W A13 n13 c13,.map (some M5),iV a0.done_]]) ?_ ?_
  ·refine ae ?_;obtain ⟨x15,lx15,ux15,hx15,h⟩:=aU h;refine ae ?_;refine zX (ud (a:=x15) (z:=()) 4 J wP J J Qb (dV t0) zero213.out) ?_;intro B16;refine ae ?_;obtain ⟨b17,hb17,h⟩:=aa h;refine aQ 7 32 b17 ?_ ?_
   ·clear h;refine aM 25 J (fun g17=> ?_) (fun g17=> ?_)
    ·have h:=aE g17 hb17;refine ae ?_;obtain ⟨y18,k,h⟩:=aa h;refine gU (oR (kh k)) (bx g17 J) ?_;exact gY
    have h:=aF g17 hb17;exact gY
   refine ew h ?_ ?_<;>intro h
   ·refine ae ?_;refine Fu (i3 (a:=x15) (b:=()) 5 J J J J Qb (dV t0)) ?_;refine gD (aG (R:=(da .i64)) (vss:=[[iV x15]]) (xs:=[x15]) J (dp _) J J (fun _ _ hr=> .cons J All2.nil)) ?_;rintro _ _ ⟨A20,n20,c20,rfl,rfl⟩;obtain ⟨q21,h⟩:=ad h
    refine iE (ar 5 0 J J ap J J Ex uE J J q21) fun A22 n22 c22=> ?_
    exact jN
   exact jY
  rintro _ _ ⟨p13,p14,A13,n13,c13,h,rfl,rfl⟩;refine ae ?_;obtain ⟨q23,h⟩:=ad h;exact lY
 exact eY
theorem yz {N:Nat}{V:Value}{K:Nat}{a0:Qp}{a1:Qq}{r:Qp}(h:d7 N a0 a1=some r):Okc QB 206 [pV B1 0,W A6 n6 c6] ([aK A2 n2 c2 a0.m_.Young,aK A3 n3 c3 a0.m_.Old,bV A6 n6 c6 a1,ah B1 185 [W A2 n2 c2,W A3 n3 c3,W A4 n4 c4,.map (some M5),iV a0.done_],ga (da .i64) 3 (W A4 n4 c4) a0.all_ V K,bj cx Bp M5 a0.met_]) (fun u post=> ∃A0 n0 c0 A1 n1 c1 A2 n2 c2 M3,u=.tuple #[]/\post=[ah B1 185 [W A0 n0 c0,W A1 n1 c1,W A2 n2 c2,.map (some M3),iV r.done_],aK A0 n0 c0 r.m_.Young,aK A1 n1 c1 r.m_.Old,ga (da .i64) 3 (W A2 n2 c2) r.all_ V K,bj cx Bp M3 r.met_]):=by
 refine cQ Tryz.func206 ?_;refine aH (fun m s L=> ∃p8 p9 p10 A9 n9 c9,dq N a1 a0 m p8 p9 p10=some r/\s=[(0,pV B1 0),(8,W A6 n6 c6),(9,iV (a1.length:Int)),(10,iV p8)]/\L=[bV A6 n6 c6 a1,aK A2 n2 c2 a0.m_.Young,aK A3 n3 c3 a0.m_.Old,ga (da .i64) 3 (W A9 n9 c9) p9 V K,bj cx Bp M5 p10,ah B1 185 [W A2 n2 c2,W A3 n3 c3,W A9 n9 c9,.map (some M5),iV a0.done_]]) N _ _ ⟨0,a0.all_,a0.met_,A4,n4,c4,h,J,J⟩ sA (cS [2,0,1,4,5,3] 6) ?_;rintro (_|m7) _ _ ⟨p8,p9,p10,A9,n9,c9,h,rfl,rfl⟩
 ·exact aj h
 rw [dq.eq_2] at h;refine ae ?_;refine ay ?_;refine gH J h ?_ ?_<;>intro h
 ·refine ae ?_;refine am (fun s L=> ∃p13 p14 A13 n13 c13,iR N (dq N a1 a0 m7) a1 p8 a0 p13 p14=some r/\s=[(0,pV B1 0),(8,W A6 n6 c6),(9,iV (a1.length:Int)),(10,iV p8)]/\L=[bV A6 n6 c6 a1,aK A2 n2 c2 a0.m_.Young,aK A3 n3 c3 a0.m_.Old,ga (da .i64) 3 (W A13 n13 c13) p13 V K,bj cx Bp M5 p14,ah B1 185 [W A2 n2 c2,W A3 n3 c3,W A13 n13 c13,.map (some M5),iV a0.done_]]) ?_ ?_
  ·refine ae ?_;obtain ⟨x15,lx15,ux15,hx15,h⟩:=aU h;refine ae ?_;refine zX (ud (a:=x15) (z:=()) 4 J wP J J Qb (dV t0) zero213.out) ?_;intro B16;refine ae ?_;obtain ⟨b17,hb17,h⟩:=aa h;refine aQ 7 32 b17 ?_ ?_
   ·clear h;refine aM 25 J (fun g17=> ?_) (fun g17=> ?_)
    ·have h:=aE g17 hb17;refine ae ?_;obtain ⟨y18,k,h⟩:=aa h;refine gU (oR (kh k)) (bx g17 J) ?_;exact gY
    have h:=aF g17 hb17;exact gY
   refine ew h ?_ ?_<;>intro h
   ·refine ae ?_;refine Fu (i3 (a:=x15) (b:=()) 5 J J J J Qb (dV t0)) ?_;refine gD (aG (R:=(da .i64)) (vss:=[[iV x15]]) (xs:=[x15]) J (dp _) J J (fun _ _ hr=> .cons J All2.nil)) ?_;rintro _ _ ⟨A20,n20,c20,rfl,rfl⟩;obtain ⟨q21,h⟩:=ad h
    refine iE (CR 5 0 J J ap J J Ex uE J J q21) fun A22 n22 c22=> ?_
    exact jN
   exact jY
  rintro _ _ ⟨p13,p14,A13,n13,c13,h,rfl,rfl⟩;refine ae ?_;obtain ⟨q23,h⟩:=ad h;exact lY
 exact eY
def pa (N:Nat)(a0:Qn)(a1:Qp):Option Qp:=
 (np N a0).bind fun y8=>bif y8.2 then ((d7 N a1 ([y8.1]:List Int)).bind fun y11=>some y11) else (some a1)
theorem zg {N:Nat}{a0:Qn}{a1:Qp}{r:Qp}(h:pa N a0 a1=some r):Okc QB 204 [(bD a0),pV B1 0] ([aK A3 n3 c3 a1.m_.Young,aK A4 n4 c4 a1.m_.Old,ah B1 181 [pV B2 0],ah B2 185 [W A3 n3 c3,W A4 n4 c4,W A5 n5 c5,.map (some M6),iV a1.done_],bS A5 n5 c5 a1.all_,bj cx Bp M6 a1.met_]) (fun u post=> ∃A0 n0 c0 A1 n1 c1 A2 n2 c2 M3,u=.tuple #[]/\post=[ah B2 185 [W A0 n0 c0,W A1 n1 c1,W A2 n2 c2,.map (some M3),iV r.done_],aK A0 n0 c0 r.m_.Young,aK A1 n1 c1 r.m_.Old,bS A2 n2 c2 r.all_,bj cx Bp M3 r.met_,ah B1 181 [pV B2 0]]):=by
 refine cQ Tryz.func204 ?_;intro B7;refine ae ?_;obtain ⟨y8,k,h⟩:=aa h;refine kw (oR (AA k)) ?_;refine gH J h ?_ ?_<;>intro h
 ·refine ae ?_;refine gD (aG (R:=(da .i64)) (vss:=[[iV y8.1]]) (xs:=[y8.1]) J (dp _) J J (fun _ _ hr=> .cons J All2.nil)) ?_;rintro _ _ ⟨A10,n10,c10,rfl,rfl⟩;refine lp (aY 0 J) ?_;obtain ⟨y11,k,h⟩:=aa h;refine gD (oC (uc k)) ?_;rintro _ _ ⟨_,⟨A12,n12,c12,A13,n13,c13,A14,n14,c14,M15,rfl,rfl⟩,rfl⟩;exact eY
 exact eY
def ki (N:Nat)(a0:Qg)(a1:Int):Option Ql:=
 (mV N a0 a1).bind fun y5=>bif !y5.2.2 then (some (⟨0,0,0,0,[],[]⟩:Ql)) else ((aw y5.1 y5.2.1).bind fun x10=>(dU N x10).bind fun y14=>some y14)
theorem wj {N:Nat}{a0:Qg}{a1:Int}{r:Ql}(h:ki N a0 a1=some r):Okc QB 99 [.agg #[W A1 n1 c1,W A2 n2 c2],iV a1] ([aK A1 n1 c1 a0.Young,aK A2 n2 c2 a0.Old]) (fun u post=> ∃A0 n0 c0 A1 n1 c1,u=.agg #[iV r.Kind,iV r.Shape,iV r.Flags,iV r.Age,W A0 n0 c0,W A1 n1 c1]/\post=[bh A0 n0 c0 r.Slots,bh A1 n1 c1 r.More]):=by
 refine cQ Tryz.func99 ?_;intro B3
 refine gg fun B4=> ?_
 obtain ⟨y5,k,h⟩:=aa h
 refine iE (oC (wi k)) fun A6 n6 c6=> ?_
 refine sZ ?_;refine gH J h ?_ ?_<;>intro h
 ·refine ae ?_;obtain rfl:=bw h;exact dt (rs:=[.cell 4 35]) (vs:=[.agg #[iV 0,iV 0,iV 0,iV 0,W none 0 0,W none 0 0]]) J (.cons (bd 1 J J agg35.out) .nil) J ((aD ak 37 _).trans ((aD ak 37 _).trans (cS [1,0] 7))) ⟨_,_,_,_,_,_,J,J⟩
 refine ae ?_;obtain ⟨x10,lx10,ux10,hx10,h⟩:=aU h;refine ae ?_;refine mL 0 J hx10 (bR x10) ?_;rintro _ _ ⟨A11,n11,c11,A12,n12,c12,rfl,rfl⟩;refine gR (eo (us:=[iV x10.Kind,iV x10.Shape,iV x10.Flags,iV x10.Age,W A11 n11 c11,W A12 n12 c12]) 0 J J agg35.out J) ?_;obtain ⟨y14,k,h⟩:=aa h
 refine BM (oR (gG k)) fun A15 n15 c15 A16 n16 c16=> ?_
 exact eN
def fJ (N:Nat):Nat->Qy->Qy->Qq->(List (Int×Unit))->Int->Option Qp
 |0,_,_,_,_,_=>none
 |m6+1,p7,p8,p9,p10,p11=>bif decide (p11<(p9.length:Int)) then ((aw p9 p11).bind fun x13=>(ki N (⟨p7,p8⟩:Qg) x13).bind fun y14=>(fH N y14).bind fun y17=>(d7 N (⟨(⟨p7,p8⟩:Qg),p9,p10,p11⟩:Qp) y17).bind fun y19=>aZ (in64 (y19.done_+1)) ((fJ N m6) y19.m_.Young y19.m_.Old y19.all_ y19.met_ (y19.done_+1))) else (some (⟨(⟨p7,p8⟩:Qg),p9,p10,p11⟩:Qp))
def gk (N:Nat)(a0:Qp):Option Qp:=
 fJ N N a0.m_.Young a0.m_.Old a0.all_ a0.met_ a0.done_
theorem pW {N:Nat}{a0:Qp}{r:Qp}(h:gk N a0=some r):Okc QB 183 [pV B1 0] ([aK A2 n2 c2 a0.m_.Young,aK A3 n3 c3 a0.m_.Old,ah B1 185 [W A2 n2 c2,W A3 n3 c3,W A4 n4 c4,.map (some M5),iV a0.done_],bS A4 n4 c4 a0.all_,bj cx Bp M5 a0.met_]) (fun u post=> ∃A0 n0 c0 A1 n1 c1 A2 n2 c2 M3,u=.tuple #[]/\post=[ah B1 185 [W A0 n0 c0,W A1 n1 c1,W A2 n2 c2,.map (some M3),iV r.done_],aK A0 n0 c0 r.m_.Young,aK A1 n1 c1 r.m_.Old,bS A2 n2 c2 r.all_,bj cx Bp M3 r.met_]):=by
 refine cQ Tryz.func183 ?_;refine aH (fun m s L=> ∃p7 p8 p9 p10 p11 A7 n7 c7 A8 n8 c8 A9 n9 c9 M10,fJ N m p7 p8 p9 p10 p11=some r/\s=[(0,pV B1 0)]/\L=[aK A7 n7 c7 p7,aK A8 n8 c8 p8,bS A9 n9 c9 p9,bj cx Bp M10 p10,ah B1 185 [W A7 n7 c7,W A8 n8 c8,W A9 n9 c9,.map (some M10),iV p11]]) N _ _ ⟨a0.m_.Young,a0.m_.Old,a0.all_,a0.met_,a0.done_,A2,n2,c2,A3,n3,c3,A4,n4,c4,M5,h,J,J⟩ sA (cS [0,1,3,4,2] 5) ?_;rintro (_|m6) _ _ ⟨p7,p8,p9,p10,p11,A7,n7,c7,A8,n8,c8,A9,n9,c9,M10,h,rfl,rfl⟩
 ·exact aj h
 rw [fJ.eq_2] at h;refine ay ?_;refine ay ?_;refine bm I _ (ab _) ?_;refine ew h ?_ ?_<;>intro h
 ·refine sY ?_;obtain ⟨x13,lx13,ux13,hx13,h⟩:=aU h;refine dB (t:=[(0,pV B1 0)]) ?_ fv (ab _)
  refine dF I 15 [0] [0,4,14] [19,20,21,22,23,24,25,26,27,28,29,30,31,32,33] [[],[],[1],[2],[3],[],[5],[6],[7],[],[9],[10],[11],[8,12],[13]] [aV (pV B1 0),
 aV (pV B1 0),
 aV (pV B1 0),
 aV (pV B1 0),
 aV (.agg #[W A7 n7 c7,W A8 n8 c8]),
 aV (pV B1 0),
 aV (pV B1 0),
 aV (pV B1 2),
 aV (W A9 n9 c9),
 aV (pV B1 0),
 aV (pV B1 0),
 aV (pV B1 4),
 aV (iV p11),
 aV (dj (W A9 n9 c9) p11.toNat 1 0),
 aV (iV x13)] [] (ab _) (uY rfl fj) I rfl rfl ?_ ?_ ?_
  ·refine uX J ?_ ?_
   ·exact Dt (ai J) J (aP J (ab _))
   exact fi
  ·refine ac J ?_ ?_
   ·exact cB (bF (u:=iV x13) 2 J ap J hx13 ex (fun _ _ _ h=>by rw [show _=_ from h];rfl)) J (aP J (ab _))
   refine ac J ?_ ?_
   ·exact cB (bf 2 J ap J J Ex size3.out lx13 ux13) J (aP J (ab _))
   refine ac J ?_ ?_
   ·exact cB (aL 4 J J ex J) J (aP J (ab _))
   refine ac J ?_ ?_
   ·exact bN (bB J Gx) J (aP J (ab _))
   refine ac J ?_ ?_
   ·exact bN (aX J) J (aP J (ab _))
   refine ac J ?_ ?_
   ·exact bN (ai J) J (aP J (ab _))
   refine ac J ?_ ?_
   ·exact cB (aL 4 J J zG J) J (aP J (ab _))
   refine ac J ?_ ?_
   ·exact bN (bB J Dg) J (aP J (ab _))
   refine ac J ?_ ?_
   ·exact bN (aX J) J (aP J (ab _))
   refine ac J ?_ ?_
   ·exact bN (ai J) J (aP J (ab _))
   refine ac J ?_ ?_
   ·exact cB (aR (us:=[W A7 n7 c7,W A8 n8 c8]) 4 J J agg29.out J) J (aP J (ab _))
   refine ac J ?_ ?_
   ·exact bN (cG J Gy) J (aP J (ab _))
   refine ac J ?_ ?_
   ·exact bN (aX J) J (aP J (ab _))
   refine ac J ?_ ?_
   ·exact bN (ai J) J (aP J (ab _))
   refine ac J ?_ ?_
   ·exact bN (ai J) J (aP J (ab _))
   exact cp
  refine gu (t:=[(19,pV B1 0),(23,.agg #[W A7 n7 c7,W A8 n8 c8]),(33,iV x13),(0,pV B1 0)]) (L':=[aK A7 n7 c7 p7,aK A8 n8 c8 p8,bS A9 n9 c9 p9,bj cx Bp M10 p10,ah B1 185 [W A7 n7 c7,W A8 n8 c8,W A9 n9 c9,.map (some M10),iV p11]]) ?_ fv (ab _);obtain ⟨y14,k,h⟩:=aa h;refine jt 15 J I (oR (wj k)) J J J ?_;rintro _ _ ⟨_,⟨A15,n15,c15,A16,n16,c16,rfl,rfl⟩,rfl⟩;obtain ⟨y17,k,h⟩:=aa h;refine jt 16 J I (oR (jp k)) J J J ?_;rintro _ _ ⟨_,⟨A18,n18,c18,rfl,rfl⟩,rfl⟩;refine gu ?_ aW (aY 0 J);obtain ⟨y19,k,h⟩:=aa h;refine jt 17 J I (oC (uc k)) J J J ?_;rintro _ _ ⟨_,⟨A20,n20,c20,A21,n21,c21,A22,n22,c22,M23,rfl,rfl⟩,rfl⟩;refine ft I ?_;refine ae ?_;obtain ⟨q24,h⟩:=ad h;exact lY
 exact eY
def rD (N:Nat)(p9:Qy)(p10:Qy)(p11:Qq)(p12:(List (Int×Unit)))(p13:Int):Option Qp:=
 (gk N (⟨(⟨p9,p10⟩:Qg),p11,p12,p13⟩:Qp)).bind fun y31=>some y31
def iJ (N:Nat)(a1:Qr):Nat->Int->Qy->Qy->Qq->(List (Int×Unit))->Int->Option Qp
 |0,_,_,_,_,_,_=>none
 |m14+1,p15,p16,p17,p18,p19,p20=>bif decide (p15<(a1.length:Int)) then ((aw a1 p15).bind fun x23=>(pa N x23 (⟨(⟨p16,p17⟩:Qg),p18,p19,p20⟩:Qp)).bind fun y25=>aZ (in64 (p15+1)) ((iJ N a1 m14) (p15+1) y25.m_.Young y25.m_.Old y25.all_ y25.met_ y25.done_)) else (rD N p16 p17 p18 p19 p20)
def mW (N:Nat)(a0:Qg)(a1:Qr):Option Qp:=
 iJ N a1 N 0 a0.Young a0.Old [] ([]:(List (Int×Unit))) 0
theorem Cr {N:Nat}{a0:Qg}{a1:Qr}{r:Qp}(h:mW N a0 a1=some r):Okc QB 181 [.agg #[W A1 n1 c1,W A2 n2 c2],W A3 n3 c3] ([aK A1 n1 c1 a0.Young,aK A2 n2 c2 a0.Old,az A3 n3 c3 a1]) (fun u post=> ∃B0 A1 n1 c1 A2 n2 c2 A3 n3 c3 M4,u=pV B0 0/\post=[ah B0 185 [W A1 n1 c1,W A2 n2 c2,W A3 n3 c3,.map (some M4),iV r.done_],aK A1 n1 c1 r.m_.Young,aK A2 n2 c2 r.m_.Old,bS A3 n3 c3 r.all_,bj cx Bp M4 r.met_]):=by
 refine cQ Tryz.func181 ?_;intro B4;refine ae ?_;refine gD (va (ek:=cx) (ev:=Bp)) ?_;rintro _ _ ⟨M5,rfl,rfl⟩
 refine gg fun B6=> ?_
 intro B7;refine ae ?_;refine lh (ei J) ?_;refine am (fun s L=> ∃p9 p10 p11 p12 p13 A9 n9 c9 A10 n10 c10 A11 n11 c11 M12,rD N p9 p10 p11 p12 p13=some r/\s=[(4,.pointer none),(5,pV B7 0)]/\L=[ah B7 181 [pV B6 0],aK A9 n9 c9 p9,aK A10 n10 c10 p10,bS A11 n11 c11 p11,bj cx Bp M12 p12,ah B6 185 [W A9 n9 c9,W A10 n10 c10,W A11 n11 c11,.map (some M12),iV p13]]) ?_ ?_
 ·refine ae ?_;refine aH (fun m s L=> ∃p15 p16 p17 p18 p19 p20 A16 n16 c16 A17 n17 c17 A18 n18 c18 M19,iJ N a1 m p15 p16 p17 p18 p19 p20=some r/\s=[(4,.pointer none),(5,pV B7 0),(6,.func (.func 204) #[] #[pV B7 0]),(14,W A3 n3 c3),(15,iV (a1.length:Int)),(16,iV p15)]/\L=[az A3 n3 c3 a1,ah B7 181 [pV B6 0],aK A16 n16 c16 p16,aK A17 n17 c17 p17,bS A18 n18 c18 p18,bj cx Bp M19 p19,ah B6 185 [W A16 n16 c16,W A17 n17 c17,W A18 n18 c18,.map (some M19),iV p20]]) N _ _ ⟨0,a0.Young,a0.Old,[],([]:(List (Int×Unit))),0,A1,n1,c1,A2,n2,c2,none,0,0,M5,h,J,J⟩ sA ((aD (da .i64) 3 _).trans (cS [7,1,5,6,0,3,2] 8)) ?_;rintro (_|m14) _ _ ⟨p15,p16,p17,p18,p19,p20,A16,n16,c16,A17,n17,c17,A18,n18,c18,M19,h,rfl,rfl⟩
  ·exact aj h
  rw [iJ.eq_2] at h;refine ae ?_;refine ay ?_;refine gH J h ?_ ?_<;>intro h
  ·refine sY ?_;obtain ⟨x23,lx23,ux23,hx23,h⟩:=aU h
   refine gg fun B24=> ?_
   obtain ⟨y25,k,h⟩:=aa h;refine gD (fM (zg k) call204.out J J J (ce [3,4] [2,7,5,6] [0,1,3,4] 8 J)) ?_;rintro _ _ ⟨_,⟨A26,n26,c26,A27,n27,c27,A28,n28,c28,M29,rfl,rfl⟩,rfl⟩;refine ae ?_;obtain ⟨q30,h⟩:=ad h;exact lY
  exact jY
 rintro _ _ ⟨p9,p10,p11,p12,p13,A9,n9,c9,A10,n10,c10,A11,n11,c11,M12,h,rfl,rfl⟩;refine ae ?_;obtain ⟨y31,k,h⟩:=aa h;refine gD (oC (pW k)) ?_;rintro _ _ ⟨_,⟨A32,n32,c32,A33,n33,c33,A34,n34,c34,M35,rfl,rfl⟩,rfl⟩;exact eY
end Go.Proofs.YthepenpebkjdfaaGreat
namespace Go.Proofs.YthepenpebkjdfaaGreat
variable {A1 A2 A3 A4 A5 A6 A7:Option Addr} {B1 B2 B3 B6 B8 M2 M5 M6 M7 M9 c1 c2 c3 c4 c5 c6 c7 n1 n2 n3 n4 n5 n6 n7:Nat}
open Go.RowKit Asn
set_option maxRecDepth 20000
def sH (N:Nat)(a0:Qp)(p7:Qy)(p8:Qy)(p9:Qq)(p10:(List (Int×Unit)))(p11:Int):Option (Bool×Qp):=
 some (decide ((a0.all_.length:Int)<(p9.length:Int)),(⟨(⟨p7,p8⟩:Qg),p9,p10,p11⟩:Qp))
def kg (N:Nat)(kb13:Int->Qy->Qy->Qq->(List (Int×Unit))->Int->Option (Bool×Qp))(a0:Qp)(p14:Int)(p22:Qy)(p23:Qy)(p24:Qq)(p25:(List (Int×Unit)))(p26:Int):Option (Bool×Qp):=
 aZ (in64 (p14+1)) (kb13 (p14+1) p22 p23 p24 p25 p26)
def dz (N:Nat)(a0:Qp):Nat->Int->Qy->Qy->Qq->(List (Int×Unit))->Int->Option (Bool×Qp)
 |0,_,_,_,_,_,_=>none
 |m13+1,p14,p15,p16,p17,p18,p19=>bif decide (p14<((List.take a0.all_.length a0.all_).length:Int)) then ((aw (List.take a0.all_.length p17) p14).bind fun x27=>(ki N (⟨p15,p16⟩:Qg) x27).bind fun y28=>bif decide (y28.Kind=8) then ((oa N y28 p17).bind fun y33=>(d7 N (⟨(⟨p15,p16⟩:Qg),p17,p18,p19⟩:Qp) y33).bind fun y35=>kg N (dz N a0 m13) a0 p14 y35.m_.Young y35.m_.Old y35.all_ y35.met_ y35.done_) else (kg N (dz N a0 m13) a0 p14 p15 p16 p17 p18 p19)) else (sH N a0 p15 p16 p17 p18 p19)
def jD (N:Nat)(a0:Qp):Option (Bool×Qp):=
 dz N a0 N 0 a0.m_.Young a0.m_.Old a0.all_ a0.met_ a0.done_
theorem zf {N:Nat}{a0:Qp}{r:Bool×Qp}(h:jD N a0=some r):Okc QB 182 [pV B1 0] ([aK A2 n2 c2 a0.m_.Young,aK A3 n3 c3 a0.m_.Old,ah B1 185 [W A2 n2 c2,W A3 n3 c3,W A4 n4 c4,.map (some M5),iV a0.done_],bS A4 n4 c4 a0.all_,bj cx Bp M5 a0.met_]) (fun u post=> ∃A0 n0 c0 A1 n1 c1 A2 n2 c2 M3,u=.bool r.1/\post=[ah B1 185 [W A0 n0 c0,W A1 n1 c1,W A2 n2 c2,.map (some M3),iV r.2.done_],aK A0 n0 c0 r.2.m_.Young,aK A1 n1 c1 r.2.m_.Old,bS A2 n2 c2 r.2.all_,bj cx Bp M3 r.2.met_]):=by
 refine cQ Tryz.func182 ?_;refine am (fun s L=> ∃p7 p8 p9 p10 p11 A7 n7 c7 A8 n8 c8 A9 n9 c9 M10,sH N a0 p7 p8 p9 p10 p11=some r/\s=[(0,pV B1 0),(2,.bool false),(3,iV (a0.all_.length:Int))]/\L=[aK A7 n7 c7 p7,aK A8 n8 c8 p8,bS A9 n9 c9 p9,bj cx Bp M10 p10,ah B1 185 [W A7 n7 c7,W A8 n8 c8,W A9 n9 c9,.map (some M10),iV p11]]) ?_ ?_
 ·refine ae ?_;refine lp (KF 3 J) ?_;refine gD (Lg (n:=a0.all_.length) 3 J J Ex size3.out J J J (Nat.le_refl _)) ?_;rintro _ _ ⟨A12,rfl,rfl⟩;refine zX (cC 3 J sc J Ex) ?_;refine aH (fun m s L=> ∃p14 p15 p16 p17 p18 p19 A15 n15 c15 A16 n16 c16 A17 n17 c17 M18,dz N a0 m p14 p15 p16 p17 p18 p19=some r/\s=[(0,pV B1 0),(2,.bool false),(3,iV (a0.all_.length:Int)),(18,.slice A12 a0.all_.length a0.all_.length),(19,iV ((List.take a0.all_.length a0.all_).length:Int)),(20,iV p14)]/\L=[aK A15 n15 c15 p15,aK A16 n16 c16 p16,ga (da .i64) 3 (W A17 n17 c17) p17 (.slice A12 a0.all_.length a0.all_.length) a0.all_.length,bj cx Bp M18 p18,ah B1 185 [W A15 n15 c15,W A16 n16 c16,W A17 n17 c17,.map (some M18),iV p19]]) N _ _ ⟨0,a0.m_.Young,a0.m_.Old,a0.all_,a0.met_,a0.done_,A2,n2,c2,A3,n3,c3,A4,n4,c4,M5,h,J,J⟩ sA (cS [0,1,3,4,2] 5) ?_;rintro (_|m13) _ _ ⟨p14,p15,p16,p17,p18,p19,A15,n15,c15,A16,n16,c16,A17,n17,c17,M18,h,rfl,rfl⟩
  ·exact aj h
  rw [dz.eq_2] at h;refine ae ?_;refine ay ?_;refine gH J h ?_ ?_<;>intro h
  ·refine ae ?_;refine am (fun s L=> ∃p22 p23 p24 p25 p26 A22 n22 c22 A23 n23 c23 A24 n24 c24 M25,kg N (dz N a0 m13) a0 p14 p22 p23 p24 p25 p26=some r/\s=[(0,pV B1 0),(2,.bool false),(3,iV (a0.all_.length:Int)),(18,.slice A12 a0.all_.length a0.all_.length),(19,iV ((List.take a0.all_.length a0.all_).length:Int)),(20,iV p14)]/\L=[aK A22 n22 c22 p22,aK A23 n23 c23 p23,ga (da .i64) 3 (W A24 n24 c24) p24 (.slice A12 a0.all_.length a0.all_.length) a0.all_.length,bj cx Bp M25 p25,ah B1 185 [W A22 n22 c22,W A23 n23 c23,W A24 n24 c24,.map (some M25),iV p26]]) ?_ ?_
   ·refine ae ?_;obtain ⟨x27,lx27,ux27,hx27,h⟩:=aU h;refine gR (bf 2 J sc J J Ex size3.out lx27 ux27) ?_;refine zX (bF (u:=iV x27) 2 J sc J hx27 ex (fun _ _ _ h=>by rw [show _=_ from h];rfl)) ?_;obtain ⟨y28,k,h⟩:=aa h
    refine BM (oR (wj k)) fun A29 n29 c29 A30 n30 c30=> ?_
    intro B31;refine ew h ?_ ?_<;>intro h
    ·refine dB (t:=[(0,pV B1 0),(2,.bool false),(3,iV (a0.all_.length:Int)),(6,pV B31 0),(18,.slice A12 a0.all_.length a0.all_.length),(19,iV ((List.take a0.all_.length a0.all_).length:Int)),(20,iV p14)]) ?_ fv (ab _)
     refine dF I 6 [0] [0,1,5] [33,34,35,36,37,38] [[],[],[],[2],[3],[4]] [aV (pV B1 0),
 aV (.agg #[iV y28.Kind,iV y28.Shape,iV y28.Flags,iV y28.Age,W A29 n29 c29,W A30 n30 c30]),
 aV (pV B1 0),
 aV (pV B1 0),
 aV (pV B1 2),
 aV (W A17 n17 c17)] [] (ab _) (uY rfl fj) I rfl rfl ?_ ?_ ?_
     ·refine uX J ?_ ?_
      ·exact Dt (ai J) J (aP J (ab _))
      exact fi
     ·refine ac J ?_ ?_
      ·exact cB (aL 7 J J zG J) J (aP J (ab _))
      refine ac J ?_ ?_
      ·exact bN (bB J Dg) J (aP J (ab _))
      refine ac J ?_ ?_
      ·exact bN (aX J) J (aP J (ab _))
      refine ac J ?_ ?_
      ·exact bN (ai J) J (aP J (ab _))
      refine ac J ?_ ?_
      ·exact cB (aR (us:=[iV y28.Kind,iV y28.Shape,iV y28.Flags,iV y28.Age,W A29 n29 c29,W A30 n30 c30]) 0 J J agg35.out J) J (aP J (ab _))
      refine ac J ?_ ?_
      ·exact bN (ai J) J (aP J (ab _))
      exact cp
     refine gu (t:=[(33,pV B1 0),(34,.agg #[iV y28.Kind,iV y28.Shape,iV y28.Flags,iV y28.Age,W A29 n29 c29,W A30 n30 c30]),(38,W A17 n17 c17),(0,pV B1 0),(2,.bool false),(3,iV (a0.all_.length:Int)),(6,pV B31 0),(18,.slice A12 a0.all_.length a0.all_.length),(19,iV ((List.take a0.all_.length a0.all_).length:Int)),(20,iV p14)]) (L':=[ah B31 35 [iV y28.Kind,iV y28.Shape,iV y28.Flags,iV y28.Age,W A29 n29 c29,W A30 n30 c30],bh A29 n29 c29 y28.Slots,bh A30 n30 c30 y28.More,aK A15 n15 c15 p15,aK A16 n16 c16 p16,ga (da .i64) 3 (W A17 n17 c17) p17 (.slice A12 a0.all_.length a0.all_.length) a0.all_.length,bj cx Bp M18 p18,ah B1 185 [W A15 n15 c15,W A16 n16 c16,W A17 n17 c17,.map (some M18),iV p19]]) ?_ fv (ab _);obtain ⟨y33,k,h⟩:=aa h;refine jt 6 J I (ba (xW k) call180.out J (hU (cM (i:=1) J) (hU (cM (i:=2) J) (hU (Ec (i:=5) J) ax))) BB) J J J ?_;rintro _ _ ⟨_,⟨A34,n34,c34,rfl,rfl⟩,rfl⟩;refine gu ?_ aW (aY 0 J);obtain ⟨y35,k,h⟩:=aa h;refine jt 7 J I (oC (yz k)) J J J ?_;rintro _ _ ⟨_,⟨A36,n36,c36,A37,n37,c37,A38,n38,c38,M39,rfl,rfl⟩,rfl⟩;refine ft I ?_;exact jY
    exact jY
   rintro _ _ ⟨p22,p23,p24,p25,p26,A22,n22,c22,A23,n23,c23,A24,n24,c24,M25,h,rfl,rfl⟩;refine ae ?_;obtain ⟨q40,h⟩:=ad h;exact lY
  refine ae ?_;exact ⟨_,_,⟨p15,p16,p17,p18,p19,A15,n15,c15,A16,n16,c16,A17,n17,c17,M18,h,J,J⟩,sA,(EA 2 J).trans (cS [0,1,2,3,4] 5)⟩
 rintro _ _ ⟨p7,p8,p9,p10,p11,A7,n7,c7,A8,n8,c8,A9,n9,c9,M10,h,rfl,rfl⟩;exact eY
def qy (N:Nat)(p12:Qy)(p13:Qy)(p14:Qq)(p15:(List (Int×Unit)))(p16:Int):Option Qq:=
 some p14
def kH (N:Nat):Nat->Qy->Qy->Qq->(List (Int×Unit))->Int->Option Qq
 |0,_,_,_,_,_=>none
 |m17+1,p18,p19,p20,p21,p22=>(jD N (⟨(⟨p18,p19⟩:Qg),p20,p21,p22⟩:Qp)).bind fun y23=>bif y23.1 then ((gk N y23.2).bind fun y29=>(kH N m17) y29.m_.Young y29.m_.Old y29.all_ y29.met_ y29.done_) else (qy N y23.2.m_.Young y23.2.m_.Old y23.2.all_ y23.2.met_ y23.2.done_)
def kV (N:Nat)(a0:Qg)(a1:Qr):Option Qq:=
 (mW N a0 a1).bind fun y5=>kH N N y5.m_.Young y5.m_.Old y5.all_ y5.met_ y5.done_
theorem Cs {N:Nat}{a0:Qg}{a1:Qr}{r:Qq}(h:kV N a0 a1=some r):Okc QB 147 [.agg #[W A1 n1 c1,W A2 n2 c2],W A3 n3 c3] ([aK A1 n1 c1 a0.Young,aK A2 n2 c2 a0.Old,az A3 n3 c3 a1]) (fun u post=> ∃A0 n0 c0,u=W A0 n0 c0/\post=[bS A0 n0 c0 r]):=by
 refine cQ Tryz.func147 ?_;intro B4;refine ae ?_;obtain ⟨y5,k,h⟩:=aa h;refine gD (oC (Cr k)) ?_;rintro _ _ ⟨_,⟨B6,A7,n7,c7,A8,n8,c8,A9,n9,c9,M10,rfl,rfl⟩,rfl⟩;refine ae ?_;refine am (fun s L=> ∃p12 p13 p14 p15 p16 A12 n12 c12 A13 n13 c13 A14 n14 c14 M15,qy N p12 p13 p14 p15 p16=some r/\s=[(4,W none 0 0),(5,pV B6 0)]/\L=[aK A12 n12 c12 p12,aK A13 n13 c13 p13,bS A14 n14 c14 p14,bj cx Bp M15 p15,ah B6 185 [W A12 n12 c12,W A13 n13 c13,W A14 n14 c14,.map (some M15),iV p16]]) ?_ ?_
 ·refine ae ?_;refine aH (fun m s L=> ∃p18 p19 p20 p21 p22 A18 n18 c18 A19 n19 c19 A20 n20 c20 M21,kH N m p18 p19 p20 p21 p22=some r/\s=[(4,W none 0 0),(5,pV B6 0)]/\L=[aK A18 n18 c18 p18,aK A19 n19 c19 p19,bS A20 n20 c20 p20,bj cx Bp M21 p21,ah B6 185 [W A18 n18 c18,W A19 n19 c19,W A20 n20 c20,.map (some M21),iV p22]]) N _ _ ⟨y5.m_.Young,y5.m_.Old,y5.all_,y5.met_,y5.done_,A7,n7,c7,A8,n8,c8,A9,n9,c9,M10,h,J,J⟩ sA (cS [1,2,3,4,0] 9) ?_;rintro (_|m17) _ _ ⟨p18,p19,p20,p21,p22,A18,n18,c18,A19,n19,c19,A20,n20,c20,M21,h,rfl,rfl⟩
  ·exact aj h
  rw [kH.eq_2] at h;refine sZ ?_;obtain ⟨y23,k,h⟩:=aa h;refine gD (oC (zf k)) ?_;rintro _ _ ⟨_,⟨A24,n24,c24,A25,n25,c25,A26,n26,c26,M27,rfl,rfl⟩,rfl⟩;refine ew h ?_ ?_<;>intro h
  ·refine ae ?_;obtain ⟨y29,k,h⟩:=aa h;refine gD (oC (pW k)) ?_;rintro _ _ ⟨_,⟨A30,n30,c30,A31,n31,c31,A32,n32,c32,M33,rfl,rfl⟩,rfl⟩;exact lY
  exact jY
 rintro _ _ ⟨p12,p13,p14,p15,p16,A12,n12,c12,A13,n13,c13,A14,n14,c14,M15,h,rfl,rfl⟩;exact eY
def mn (N:Nat)(a0:Qg)(a1:Qr):Option Qq:=
 (kV N a0 a1).bind fun y5=>(px N y5).bind fun y7=>some y7
theorem DA {N:Nat}{a0:Qg}{a1:Qr}{r:Qq}(h:mn N a0 a1=some r):Okc QB 97 [.agg #[W A1 n1 c1,W A2 n2 c2],W A3 n3 c3] ([aK A1 n1 c1 a0.Young,aK A2 n2 c2 a0.Old,az A3 n3 c3 a1]) (fun u post=> ∃A0 n0 c0,u=W A0 n0 c0/\post=[bS A0 n0 c0 r]):=by
 refine cQ Tryz.func97 ?_;intro B4;refine ae ?_;obtain ⟨y5,k,h⟩:=aa h
 refine iE (oR (Cs k)) fun A6 n6 c6=> ?_
 obtain ⟨y7,k,h⟩:=aa h;refine kw (oC (Ci k)) ?_;exact eN
def oJ (N:Nat){σ:Type}(kb4:Int->Int->σ->Option σ)(fy:(Int×Int)->σ->Option (Bool×σ))(p6:Int)(a1:Qq)(p10:Int)(p11:σ):Option σ:=
 aZ (in64 (p6+1)) (kb4 p10 (p6+1) p11)
def ko (N:Nat){σ:Type}(kb4:Int->Int->σ->Option σ)(kb13:Int->Int->σ->Option σ)(fy:(Int×Int)->σ->Option (Bool×σ))(x12:Int)(p6:Int)(a1:Qq)(p15:Int)(p19:Int)(p20:σ):Option σ:=
 aZ (in64 (p15+1)) (kb13 p19 (p15+1) p20)
def df (N:Nat){σ:Type}(kb4:Int->Int->σ->Option σ)(fy:(Int×Int)->σ->Option (Bool×σ))(x12:Int)(p6:Int)(a1:Qq):Nat->Int->Int->σ->Option σ
 |0,_,_,_=>none
 |m13+1,p14,p15,p16=>bif decide (p15<(a1.length:Int)) then ((aw a1 p15).bind fun x21=>bif !decide (x21.tmod 2=x12) then (ko N kb4 (df N kb4 fy x12 p6 a1 m13) fy x12 p6 a1 p15 p14 p16) else ((fy (p14,x21) p16).bind fun y23=>bif !y23.1 then (some y23.2) else (aZ (in64 (p14+1)) (ko N kb4 (df N kb4 fy x12 p6 a1 m13) fy x12 p6 a1 p15 (p14+1) y23.2)))) else (oJ N kb4 fy p6 a1 p14 p16)
def eG (N:Nat){σ:Type}(fy:(Int×Int)->σ->Option (Bool×σ))(a1:Qq):Nat->Int->Int->σ->Option σ
 |0,_,_,_=>none
 |m4+1,p5,p6,p7=>bif decide (p6<(([0,1]:List Int).length:Int)) then ((aw ([0,1]:List Int) p6).bind fun x12=>df N (eG N fy a1 m4) fy x12 p6 a1 N p5 0 p7) else (some p7)
def fk (N:Nat){σ:Type}(a1:Qq)(fy:(Int×Int)->σ->Option (Bool×σ))(s0:σ):Option σ:=
 eG N fy a1 N 0 0 s0
theorem sV {N:Nat}{σ:Type}{a1:Qq}{fy:(Int×Int)->σ->Option (Bool×σ)}{s0:σ}{r:σ}(h:fk N a1 fy s0=some r){l:Nat}{G:σ->List Chunk}(hY:ts QB l G (fun x=> [iV x.1,iV x.2]) fy):Okc QB 148 [.func (.yield l) #[] #[],pV B1 0] (bu B1 82 [W A2 n2 c2]::bV A2 n2 c2 a1::(G s0)) (fun u post=>u=.tuple #[]/\post=G r):=by
 refine cQ Tryz.func148 ?_
 refine iE (aG (R:=(da .i64)) (vss:=[[iV 0],[iV 1]]) (xs:=[0,1]) J (KN _ _) J J (fun _ _ hr=> .cons J (.cons J All2.nil))) fun A3 n3 c3=> ?_
 refine aH (fun m s L=> ∃p5 p6 p7,eG N fy a1 m p5 p6 p7=some r/\s=[(0,.func (.yield l) #[] #[]),(1,pV B1 0),(3,iV p5),(8,W A3 n3 c3),(9,iV (([0,1]:List Int).length:Int)),(10,iV p6)]/\L=bS A3 n3 c3 ([0,1]:List Int)::bV A2 n2 c2 a1::bu B1 82 [W A2 n2 c2]::(G p7)) N _ _ ⟨0,0,s0,h,J,J⟩ sA (cS [0,2,1] 3) ?_;rintro (_|m4) _ _ ⟨p5,p6,p7,h,rfl,rfl⟩
 ·exact aj h
 rw [eG.eq_2] at h;refine ae ?_;refine ay ?_;refine gH J h ?_ ?_<;>intro h
 ·refine ae ?_;refine am (fun s L=> ∃p10 p11,oJ N (eG N fy a1 m4) fy p6 a1 p10 p11=some r/\s=[(0,.func (.yield l) #[] #[]),(1,pV B1 0),(3,iV p10),(8,W A3 n3 c3),(9,iV (([0,1]:List Int).length:Int)),(10,iV p6)]/\L=bS A3 n3 c3 ([0,1]:List Int)::bV A2 n2 c2 a1::bu B1 82 [W A2 n2 c2]::(G p11)) ?_ ?_
  ·refine ae ?_;obtain ⟨x12,lx12,ux12,hx12,h⟩:=aU h;refine ae ?_;refine aH (fun m s L=> ∃p14 p15 p16,df N (eG N fy a1 m4) fy x12 p6 a1 m p14 p15 p16=some r/\s=[(0,.func (.yield l) #[] #[]),(1,pV B1 0),(3,iV p14),(5,iV x12),(8,W A3 n3 c3),(9,iV (([0,1]:List Int).length:Int)),(10,iV p6),(14,W A2 n2 c2),(15,iV (a1.length:Int)),(16,iV p15)]/\L=bS A3 n3 c3 ([0,1]:List Int)::bV A2 n2 c2 a1::bu B1 82 [W A2 n2 c2]::(G p16)) N _ _ ⟨p5,0,p7,h,J,J⟩ sA (cS [0,1,2] 3) ?_;rintro (_|m13) _ _ ⟨p14,p15,p16,h,rfl,rfl⟩
   ·exact aj h
   rw [df.eq_2] at h;refine ae ?_;refine ay ?_;refine gH J h ?_ ?_<;>intro h
   ·refine ae ?_;refine am (fun s L=> ∃p19 p20,ko N (eG N fy a1 m4) (df N (eG N fy a1 m4) fy x12 p6 a1 m13) fy x12 p6 a1 p15 p19 p20=some r/\s=[(0,.func (.yield l) #[] #[]),(1,pV B1 0),(3,iV p19),(5,iV x12),(8,W A3 n3 c3),(9,iV (([0,1]:List Int).length:Int)),(10,iV p6),(14,W A2 n2 c2),(15,iV (a1.length:Int)),(16,iV p15)]/\L=bS A3 n3 c3 ([0,1]:List Int)::bV A2 n2 c2 a1::bu B1 82 [W A2 n2 c2]::(G p20)) ?_ ?_
    ·refine ae ?_;obtain ⟨x21,lx21,ux21,hx21,h⟩:=aU h;refine sY ?_;refine lh (ky J J (by decide)) ?_;refine gH J h ?_ ?_<;>intro h
     ·exact jY
     refine sY ?_;obtain ⟨y23,k,h⟩:=aa h;refine gD (xE (a:=(p14,x21)) [bS A3 n3 c3 ([0,1]:List Int),bV A2 n2 c2 a1,bu B1 82 [W A2 n2 c2]] hY k J J) ?_;rintro _ _ ⟨rfl,rfl⟩;refine ew h ?_ ?_<;>intro h
     ·exact eY
     refine ae ?_;obtain ⟨q25,h⟩:=ad h;exact jY
    rintro _ _ ⟨p19,p20,h,rfl,rfl⟩;refine ae ?_;obtain ⟨q26,h⟩:=ad h;exact lY
   exact jY
  rintro _ _ ⟨p10,p11,h,rfl,rfl⟩;refine ae ?_;obtain ⟨q27,h⟩:=ad h;exact lY
 exact eY
def ld (N:Nat)(a0:Qq):Option Unit:=
 some ()
theorem wR {N:Nat}{a0:Qq}{r:Unit}(h:ld N a0=some r):Okc QB 98 [W A1 n1 c1] ([bV A1 n1 c1 a0]) (fun u post=> ∃B900,u=.func (.func 148) #[] #[pV B900 0]/\post=[ah B900 82 [W A1 n1 c1]]):=by
 refine cQ Tryz.func98 ?_;intro B2;refine ae ?_;refine lh (ei J) ?_;exact eN
def wS (N:Nat)(p4:Qr):Option Qr:=
 some p4
def ns (N:Nat)(kb5:Qr->Int->Option Qr)(a0:Qr)(p7:Int)(a1:QA)(p6:Qr)(x10:Qn)(p13:Int):Option Qr:=
 aZ (bi (p6.length+([(⟨x10.Kind,p13,x10.S⟩:Qn)]:List Qn).length)) (aZ (in64 (p7+1)) (kb5 (p6++([(⟨x10.Kind,p13,x10.S⟩:Qn)]:List Qn)) (p7+1)))
def fO (N:Nat)(a0:Qr)(a1:QA):Nat->Qr->Int->Option Qr
 |0,_,_=>none
 |m5+1,p6,p7=>bif decide (p7<(a0.length:Int)) then ((aw a0 p7).bind fun x10=>(bif (lk a1 x10.N).isSome then ((bif decide (x10.Kind=7) then (some true) else (some (decide (x10.Kind=9)))).bind fun b15=>some b15) else (some false)).bind fun b14=>bif b14 then (ns N (fO N a0 a1 m5) a0 p7 a1 p6 x10 ((lk a1 x10.N).getD 0)) else (ns N (fO N a0 a1 m5) a0 p7 a1 p6 x10 x10.N)) else (wS N p6)
def dZ (N:Nat)(a0:Qr)(a1:QA):Option Qr:=
 fO N a0 a1 N [] 0
theorem oK {N:Nat}{a0:Qr}{a1:QA}{r:Qr}(h:dZ N a0 a1=some r):Okc QB 102 [W A1 n1 c1,.map (some M2)] ([az A1 n1 c1 a0,nB cx Eo M2 a1]) (fun u post=> ∃A0 n0 c0,u=W A0 n0 c0/\post=[bh A0 n0 c0 r]):=by
 refine rQ Tryz.func102 J J ?_;simp only [jr];refine Y ?_;refine am (fun s L=> ∃p4 A4 n4 c4,wS N p4=some r/\s=[(4,W none 0 0),(5,W A4 n4 c4)]/\L=[bh A4 n4 c4 p4]) ?_ ?_
 ·refine Y ?_;refine gR (cC 0 J ao J z9) ?_;refine Y ?_;refine aH (fun m s L=> ∃p6 p7 A6 n6 c6,fO N a0 a1 m p6 p7=some r/\s=[(1,.map (some M2)),(4,W none 0 0),(5,W A6 n6 c6),(10,W A1 n1 c1),(11,iV (a0.length:Int)),(12,iV p7)]/\L=[nB cx Eo M2 a1,bh A6 n6 c6 p6,az A1 n1 c1 a0]) N _ _ ⟨[],0,none,0,0,h,J,J⟩ sA ((aD ak 37 _).trans (cS [2,0,1] 3)) ?_;rintro (_|m5) _ _ ⟨p6,p7,A6,n6,c6,h,rfl,rfl⟩
  ·exact aj h
  rw [fO.eq_2] at h;refine Y ?_;refine ay ?_;refine gH J h ?_ ?_<;>intro h
  ·refine Y ?_;refine ay ?_;refine Y ?_;obtain ⟨x10,lx10,ux10,hx10,h⟩:=aU h;refine gR (bf 2 J ao J J z9 size37.out lx10 ux10) ?_;refine gR (dm (us:=be x10) 2 J ao J hx10 agg37.out (fun _ _ _ h=>by rw [show _=_ from h];rfl)) ?_
   refine gB (ci zero37.out J) fun B11=> ?_
   refine gW (aq (us:=be x10) (cs':=be x10) 0 J J J J size37.out J J J) ?_;refine Y ?_;refine am (fun s L=> ∃p13,ns N (fO N a0 a1 m5) a0 p7 a1 p6 x10 p13=some r/\s=[(1,.map (some M2)),(4,W none 0 0),(5,W A6 n6 c6),(7,pV B11 0),(10,W A1 n1 c1),(11,iV (a0.length:Int)),(12,iV p7)]/\L=[nB cx Eo M2 a1,bh A6 n6 c6 p6,az A1 n1 c1 a0,ah B11 37 [iV x10.Kind,iV p13,.string x10.S]]) ?_ ?_
   ·refine Y ?_;refine gR (ud (a:=x10.N) (z:=0) 1 J MN J J P9 (dV t0) zero3.out) ?_;refine Y ?_;obtain ⟨b14,hb14,h⟩:=aa h;refine aQ 9 33 b14 ?_ ?_
    ·clear h;refine aM 24 J (fun g14=> ?_) (fun g14=> ?_)
     ·have h:=aE g14 hb14;refine Y ?_;obtain ⟨b15,hb15,h⟩:=aa h;refine aQ 4 32 b15 ?_ ?_
      ·clear h;refine aM 28 J (fun g15=> ?_) (fun g15=> ?_)
       ·have h:=aE g15 hb15;refine Y ?_;obtain rfl:=bw h;exact cH sA (cS [0,1,2,3] 4)
       have h:=aF g15 hb15;refine Y ?_;obtain rfl:=bw h;exact cH sA (cS [0,1,2,3] 4)
      refine Y ?_;obtain rfl:=bw h;exact cH sA (cS [0,1,2,3] 4)
     have h:=aF g14 hb14;refine Y ?_;obtain rfl:=bw h;exact cH sA (cS [0,1,2,3] 4)
    refine Y ?_;refine gH J h ?_ ?_<;>intro h
    ·refine Y ?_;refine gW (aq (us:=[iV ((lk a1 x10.N).getD 0)]) (cs':=[iV x10.Kind,iV ((lk a1 x10.N).getD 0),.string x10.S]) 0 J J J J size3.out J J J) ?_;refine Y ?_;exact ⟨_,_,⟨(lk a1 x10.N).getD 0,h,J,J⟩,sA,cS [1,2,3,0] 4⟩
    refine Y ?_;exact ⟨_,_,⟨x10.N,h,J,J⟩,sA,cS [1,2,3,0] 4⟩
   rintro _ _ ⟨p13,h,rfl,rfl⟩;refine Y ?_;refine gR (aR (us:=[iV x10.Kind,iV p13,.string x10.S]) 3 J J agg37.out J) ?_;refine gD (aG (R:=ak) (vss:=[[iV x10.Kind,iV p13,.string x10.S]]) (xs:=[(⟨x10.Kind,p13,x10.S⟩:Qn)]) J (oX _ _ _) J J (fun _ _ hr=> .cons J All2.nil)) ?_;rintro _ _ ⟨A17,n17,c17,rfl,rfl⟩;obtain ⟨q18,h⟩:=ad h;refine gD (ar 2 0 J J ap J J z9 lF J J q18) ?_;rintro _ _ ⟨A19,n19,c19,rfl,rfl⟩;refine eh ?_;refine Y ?_;obtain ⟨q20,h⟩:=ad h;refine gE (cr J J q20.1 q20.2) ?_;refine Y ?_;exact ⟨m5,_,_,Qu _,⟨p6++([(⟨x10.Kind,p13,x10.S⟩:Qn)]:List Qn),p7+1,A19,n19,c19,h,J,J⟩,sA,cS [1,2,3] 5⟩
  refine Y ?_;exact ⟨_,_,⟨p6,A6,n6,c6,h,J,J⟩,sA,cS [1] 3⟩
 rintro _ _ ⟨p4,A4,n4,c4,h,rfl,rfl⟩;refine Y ?_;obtain rfl:=bw h;exact js J J (cS [0] 1) ⟨_,_,_,J,J⟩
def i7 (N:Nat)(a1:Qr)(a0:Qg)(p28:Qy)(y13:Qq)(y22:Option Exit×QA)(p38:Qr)(p39:Int)(p40:Int)(p41:Int)(p42:Int)(p43:Qr)(p44:Qr):Option (Option Exit×Qy×Qr):=
 (dZ N p43 y22.2).bind fun y56=>(dZ N p44 y22.2).bind fun y59=>aZ (bi (p28.length+([(⟨p39,p40,p41,p42,y56,y59⟩:Ql)]:List Ql).length)) (some (none,(p28++([(⟨p39,p40,p41,p42,y56,y59⟩:Ql)]:List Ql),p38)))
def lx (N:Nat)(a1:Qr)(a0:Qg)(y13:Qq)(y22:Option Exit×QA)(x27:Int×Int):(Qy×Qr)->Option (Option Exit×(Qy×Qr))
 |(p28,p29)=>(ki N a0 x27.2).bind fun y33=>bif decide (y33.Kind=8) then ((mh N y33 y13).bind fun y46=>i7 N a1 a0 p28 y13 y22 p29 y46.Kind y46.Shape y46.Flags y46.Age y46.Slots y46.More) else (bif decide (y33.Kind=10) then ((jL N y33 y13).bind fun y50=>aZ (bi (p29.length+y50.2.length)) (i7 N a1 a0 p28 y13 y22 (p29++y50.2) y50.1.Kind y50.1.Shape y50.1.Flags y50.1.Age y50.1.Slots y50.1.More)) else (i7 N a1 a0 p28 y13 y22 p29 y33.Kind y33.Shape y33.Flags y33.Age y33.Slots y33.More))
def ly (N:Nat)(a1:Qr)(a0:Qg)(y13:Qq)(x20:Int×Int):(QA)->Option (Option Exit×QA)
 |p21=>aZ (in64 (2*x20.1)) (aZ (in64 ((2*x20.1)+2)) (some (none,za p21 x20.2 ((2*x20.1)+2))))
def nv (N:Nat)(a0:Qg)(a1:Qr):Option (Qg×Qr×Qr×Int):=
 (lf N a0 a1).bind fun y7=>bif !decide (y7=0) then (some ((⟨[],[]⟩:Qg),[],[],y7)) else ((mn N a0 a1).bind fun y13=>(ld N y13).bind fun y18=>(fk N y13 (dn (fun x st=>ly N a1 a0 y13 x st)) (none,([]:QA))).bind fun y22=>qM y22.1 ((ld N y13).bind fun y25=>(fk N y13 (dn (fun x st=>lx N a1 a0 y13 y22 x st)) (none,([],[]))).bind fun y30=>qM y30.1 ((dZ N a1 y22.2).bind fun y65=>(dZ N y30.2.2 y22.2).bind fun y67=>some ((⟨[],y30.2.1⟩:Qg),y65,y67,0)) none (fun _=>none)) none (fun _=>none))
def jz (N:Nat)(a1:Qr)(a0:Qg)(p28:Qy)(y13:Qq)(y22:Option Exit×QA)(p38:Qr)(p39:Int)(p40:Int)(p41:Int)(p42:Int)(p43:Qr)(p44:Qr):Option (Option Exit×Qy×Qr):=
 (dZ N p43 y22.2).bind fun y56=>(dZ N p44 y22.2).bind fun y59=>aZ (bi (p28.length+([(⟨p39,p40,p41,p42,y56,y59⟩:Ql)]:List Ql).length)) (some (none,(p28++([(⟨p39,p40,p41,p42,y56,y59⟩:Ql)]:List Ql),p38)))
def jA (N:Nat)(a1:Qr)(a0:Qg)(y13:Qq)(y22:Option Exit×QA)(x27:Int×Int):(Qy×Qr)->Option (Option Exit×(Qy×Qr))
 |(p28,p29)=>(ki N a0 x27.2).bind fun y33=>bif decide (y33.Kind=8) then ((mh N y33 y13).bind fun y46=>jz N a1 a0 p28 y13 y22 p29 y46.Kind y46.Shape y46.Flags y46.Age y46.Slots y46.More) else (bif decide (y33.Kind=10) then ((jL N y33 y13).bind fun y50=>aZ (bi (p29.length+y50.2.length)) (jz N a1 a0 p28 y13 y22 (p29++y50.2) y50.1.Kind y50.1.Shape y50.1.Flags y50.1.Age y50.1.Slots y50.1.More)) else (jz N a1 a0 p28 y13 y22 p29 y33.Kind y33.Shape y33.Flags y33.Age y33.Slots y33.More))
def jB (N:Nat)(a1:Qr)(a0:Qg)(y13:Qq)(x20:Int×Int):(QA)->Option (Option Exit×QA)
 |p21=>aZ (in64 (2*x20.1)) (aZ (in64 ((2*x20.1)+2)) (some (none,za p21 x20.2 ((2*x20.1)+2))))
def du (N:Nat)(a0:Qg)(a1:Qr):Option ((Qg×Qr×Qr×Int) ⊕ (Qg×Qr×Qr)):=
 (lf N a0 a1).bind fun y7=>bif !decide (y7=0) then (some (.inl ((⟨[],[]⟩:Qg),[],[],y7))) else ((mn N a0 a1).bind fun y13=>(ld N y13).bind fun y18=>(fk N y13 (dn (fun x st=>jB N a1 a0 y13 x st)) (none,([]:QA))).bind fun y22=>qM y22.1 ((ld N y13).bind fun y25=>(fk N y13 (dn (fun x st=>jA N a1 a0 y13 y22 x st)) (none,([],[]))).bind fun y30=>qM y30.1 ((dZ N a1 y22.2).bind fun y65=>(dZ N y30.2.2 y22.2).bind fun y67=>some (.inr ((⟨[],y30.2.1⟩:Qg),y65,y67))) none (fun _=>none)) none (fun _=>none))
theorem rV {N:Nat}{a0:Qg}{a1:Qr}{r:((Qg×Qr×Qr×Int) ⊕ (Qg×Qr×Qr))}(h:du N a0 a1=some r):Okc QB 57 [.agg #[W A1 n1 c1,W A2 n2 c2],W A3 n3 c3] ([az A3 n3 c3 a1,bY A1 n1 c1 a0.Young,bY A2 n2 c2 a0.Old]) (fun u post=>Nx (fun (r:Qg×Qr×Qr×Int)=> ∃A500 n500 c500 A501 n501 c501 A502 n502 c502 A503 n503 c503,u=.tuple #[.agg #[W A500 n500 c500,W A501 n501 c501],W A502 n502 c502,W A503 n503 c503,iV r.2.2.2]/\post=[bY A500 n500 c500 r.1.Young,bY A501 n501 c501 r.1.Old,bh A502 n502 c502 r.2.1,bh A503 n503 c503 r.2.2.1,bY A1 n1 c1 a0.Young,bY A2 n2 c2 a0.Old]) (fun (r:Qg×Qr×Qr)=> ∃A500 n500 c500 A501 n501 c501 A502 n502 c502 A503 n503 c503,u=.tuple #[.agg #[W A500 n500 c500,W A501 n501 c501],W A502 n502 c502,W A503 n503 c503,iV 0]/\post=[bY A500 n500 c500 r.1.Young,bY A501 n501 c501 r.1.Old,bh A502 n502 c502 r.2.1,bh A503 n503 c503 r.2.2,bY A1 n1 c1 a0.Young,bY A2 n2 c2 a0.Old]) r):=by
 refine cQ Tryz.func57 ?_;intro B4
 refine gg fun B5=> ?_
 intro B6;refine sY ?_;obtain ⟨y7,k,h⟩:=aa h;refine kw (oR (CZ k)) ?_;refine gH J h ?_ ?_<;>intro h
 ·refine ae ?_;obtain rfl:=bw h;exact dt (rs:=[.cell 4 29,.tmp 5,.cell 6 30,.tmp 7]) (vs:=[.agg #[W none 0 0,W none 0 0],W none 0 0,W none 0 0,iV y7]) J (.cons (bd 1 J J agg29.out) (.cons (iu J) (.cons (EX 0 J J dr) (.cons (iu J) .nil)))) J ((aD bT 35 _).trans ((aD bT 35 _).trans ((aD ak 37 _).trans ((aD ak 37 _).trans (cS [3,2,1,0,8,9] 10))))) ⟨_,_,_,_,_,_,_,_,_,_,_,_,J,J⟩
 refine ae ?_;obtain ⟨y13,k,h⟩:=aa h
 refine iE (oR (DA k)) fun A14 n14 c14=> ?_
 intro B15;refine ae ?_;refine gD (va (ek:=cx) (ev:=Eo)) ?_;rintro _ _ ⟨M16,rfl,rfl⟩
 refine gg fun B17=> ?_
 refine sZ ?_;obtain ⟨y18,k,h⟩:=aa h;refine gD (oR (wR k)) ?_;rintro _ _ ⟨_,⟨B19,rfl,rfl⟩,rfl⟩;refine ae ?_;refine dB ?_ aW (ip 0 J);refine dB ?_ aW (aY 4 J);refine ae ?_;obtain ⟨y22,k,h⟩:=aa h;refine uD (en:=(fun x=> [iV x.1,iV x.2])) (fun x st=>jB N a1 a0 y13 x st) (fun (st:QA) (mz:Unit)=> [az A3 n3 c3 a1,bY A1 n1 c1 a0.Young,bY A2 n2 c2 a0.Old,ah B4 29 [W A1 n1 c1,W A2 n2 c2],ah B5 29 [W none 0 0,W none 0 0],ah B6 30 [W none 0 0],bV A14 n14 c14 y13,ah B15 82 [W A14 n14 c14],bj cx Eo M16 st,ah B17 135 [.map (some M16)]]) [bu B19 82 [W A14 n14 c14],bV A14 n14 c14 y13] (([]:QA)) (()) J J call148.out J (fun _=>J) (fun l G hY=>(sV k hY).mono fun _ _ hh=>hh.2) (ce [0,4] [] [8,9,10,7,6,5,4,3,2,1] 11 J) h ?_ ?_ ?_ ?_
 ·rintro l x20 p21 je sr20 _ h;replace h:jB N a1 a0 y13 x20 p21=some (je,sr20):=h;simp only [Ad,List.zip_cons_cons,List.zip_nil_left,List.zip_nil_right,List.reverse_cons,List.reverse_nil,QH,List.cons_append];refine ae ?_;obtain ⟨q23,h⟩:=ad h;refine gE (kA J J q23.1 q23.2) ?_;obtain ⟨q24,h⟩:=ad h;refine ae ?_;refine Fu (i3 (a:=x20.2) (b:=(2*x20.1)+2) 8 J J J J P9 (dV t0)) ?_;obtain ⟨rfl,rfl⟩:=Prod.mk.inj (Option.some.inj h);exact BP ((cS [0,1,2,3,4,5,6,7,8,9] 10).trans (fU () J))
 ·rintro _ h;refine pS ([az A3 n3 c3 a1,bY A1 n1 c1 a0.Young,bY A2 n2 c2 a0.Old,ah B4 29 [W A1 n1 c1,W A2 n2 c2],ah B5 29 [W none 0 0,W none 0 0],ah B6 30 [W none 0 0],bV A14 n14 c14 y13,ah B15 82 [W A14 n14 c14],bj cx Eo M16 y22.2,ah B17 135 [.map (some M16)]]) J ?_;refine sY ?_;obtain ⟨y25,k,h⟩:=aa h;refine gD (oR (wR k)) ?_;rintro _ _ ⟨_,⟨B26,rfl,rfl⟩,rfl⟩;refine ae ?_;refine dB ?_ aW (ip 0 J);obtain ⟨y30,k,h⟩:=aa h;refine uD (en:=(fun x=> [iV x.1,iV x.2])) (fun x st=>jA N a1 a0 y13 y22 x st) (fun (st:Qy×Qr) (mz:((Option Addr×Nat×Nat)×(Option Addr×Nat×Nat)))=> [az A3 n3 c3 a1,bY A1 n1 c1 a0.Young,bY A2 n2 c2 a0.Old,ah B4 29 [W A1 n1 c1,W A2 n2 c2],eu bT 35 (.slice mz.1.1 mz.1.2.1 mz.1.2.2) st.1,ah B5 29 [W none 0 0,.slice mz.1.1 mz.1.2.1 mz.1.2.2],eu ak 37 (.slice mz.2.1 mz.2.2.1 mz.2.2.2) st.2,ah B6 30 [.slice mz.2.1 mz.2.2.1 mz.2.2.2],bV A14 n14 c14 y13,ah B15 82 [W A14 n14 c14],bj cx Eo M16 y22.2,ah B17 135 [.map (some M16)]]) [bu B26 82 [W A14 n14 c14],bV A14 n14 c14 y13] (([],[])) (((none,0,0),(none,0,0))) J J call148.out J (fun _=>J) (fun l G hY=>(sV k hY).mono fun _ _ hh=>hh.2) ((aD bT 35 _).trans ((aD ak 37 _).trans (ce [2,9] [] [3,4,5,6,1,7,0,8,9,10,11,12] 13 J))) h ?_ ?_ ?_ ?_
  ·rintro l x27 ⟨p28,p29⟩ je sr27 ⟨⟨A28,n28,c28⟩,⟨A29,n29,c29⟩⟩ h;replace h:jA N a1 a0 y13 y22 x27 (p28,p29)=some (je,sr27):=h;simp only [Ad,List.zip_cons_cons,List.zip_nil_left,List.zip_nil_right,List.reverse_cons,List.reverse_nil,QH,List.cons_append];refine ae ?_;obtain ⟨y33,k,h⟩:=aa h
   refine BM (oR (wj k)) fun A34 n34 c34 A35 n35 c35=> ?_
   intro B36;refine ae ?_;refine am (fun s L=> ∃p38 p39 p40 p41 p42 p43 p44 A38 n38 c38 A43 n43 c43 A44 n44 c44,jz N a1 a0 p28 y13 y22 p38 p39 p40 p41 p42 p43 p44=some (je,sr27)/\s=[(1,W A3 n3 c3),(2,pV B4 0),(4,pV B5 0),(5,W none 0 0),(6,pV B6 0),(7,iV 0),(9,pV B15 0),(10,pV B17 0),(15,pV B36 0)]/\L=[az A3 n3 c3 a1,bY A1 n1 c1 a0.Young,bY A2 n2 c2 a0.Old,ah B4 29 [W A1 n1 c1,W A2 n2 c2],bY A28 n28 c28 p28,ah B5 29 [W none 0 0,W A28 n28 c28],bh A38 n38 c38 p38,ah B6 30 [W A38 n38 c38],bV A14 n14 c14 y13,ah B15 82 [W A14 n14 c14],bj cx Eo M16 y22.2,ah B17 135 [.map (some M16)],bh A43 n43 c43 p43,bh A44 n44 c44 p44,ah B36 35 [iV p39,iV p40,iV p41,iV p42,W A43 n43 c43,W A44 n44 c44]]) ?_ ?_
   ·refine ew h ?_ ?_<;>intro h
    ·refine ae ?_;obtain ⟨y46,k,h⟩:=aa h
     refine BM (oR (xX k)) fun A47 n47 c47 A48 n48 c48=> ?_
     exact jN
    refine ew h ?_ ?_<;>intro h
    ·refine ae ?_;obtain ⟨y50,k,h⟩:=aa h
     refine MX (oR (vN k)) fun A51 n51 c51 A52 n52 c52 A53 n53 c53=> ?_
     obtain ⟨q54,h⟩:=ad h
     refine iE (ar 12 2 J J ap J J z9 lF J J q54) fun A55 n55 c55=> ?_
     exact jN
    exact jY
   rintro _ _ ⟨p38,p39,p40,p41,p42,p43,p44,A38,n38,c38,A43,n43,c43,A44,n44,c44,h,rfl,rfl⟩;refine ay ?_;obtain ⟨y56,hy56,h⟩:=aa h;obtain ⟨y59,hy59,h⟩:=aa h;refine dB (t:=[(1,W A3 n3 c3),(2,pV B4 0),(4,pV B5 0),(5,W none 0 0),(6,pV B6 0),(7,iV 0),(9,pV B15 0),(10,pV B17 0),(15,pV B36 0)]) ?_ fv (ab _)
   refine dF I 9 [] [3,7,8] [62,63,64,65,66,67,68,69,70] [[],[0],[],[1,2],[],[4],[],[5,6],[]] [aV (pV B36 4),
aV (W A43 n43 c43),
aV (.map (some M16)),
aX3 (fun (A58:Option Addr) (n58 c58:Nat)=> W A58 n58 c58) (fun A58 n58 c58=> [bh A58 n58 c58 y56]),
aV (pV B36 5),
aV (W A44 n44 c44),
aV (.map (some M16)),
aX3 (fun (A61:Option Addr) (n61 c61:Nat)=> W A61 n61 c61) (fun A61 n61 c61=> [bh A61 n61 c61 y59]),
aV (pV B36 4)] [] (ab _) (fj) I rfl rfl ?_ ?_ ?_
   ·exact fi
   ·refine ac J ?_ ?_
    ·exact bN (bB J pO) J (aP J (ab _))
    refine ac J ?_ ?_
    ·refine gj (oR (oK hy59)) J ?_;rintro _ _ ⟨_,⟨A60,n60,c60,rfl,rfl⟩,rfl⟩;exact pv A60 n60 c60 (ab _)
    refine ac J ?_ ?_
    ·exact cB (aL 11 J J CT J) J (aP J (ab _))
    refine ac J ?_ ?_
    ·exact cB (aL 14 J J dr J) J (aP J (ab _))
    refine ac J ?_ ?_
    ·exact bN (bB J dT) J (aP J (ab _))
    refine ac J ?_ ?_
    ·refine gj (oR (oK hy56)) J ?_;rintro _ _ ⟨_,⟨A57,n57,c57,rfl,rfl⟩,rfl⟩;exact pv A57 n57 c57 (ab _)
    refine ac J ?_ ?_
    ·exact cB (aL 11 J J CT J) J (aP J (ab _))
    refine ac J ?_ ?_
    ·exact cB (aL 14 J J dr J) J (aP J (ab _))
    refine ac J ?_ ?_
    ·exact bN (bB J pO) J (aP J (ab _))
    exact cp
   intro A58 n58 c58 A61 n61 c61;refine gu (t:=[(65,W A58 n58 c58),(69,W A61 n61 c61),(70,pV B36 4),(1,W A3 n3 c3),(2,pV B4 0),(4,pV B5 0),(5,W none 0 0),(6,pV B6 0),(7,iV 0),(9,pV B15 0),(10,pV B17 0),(15,pV B36 0)]) (L':=[bh A58 n58 c58 y56,bh A61 n61 c61 y59,az A3 n3 c3 a1,bY A1 n1 c1 a0.Young,bY A2 n2 c2 a0.Old,ah B4 29 [W A1 n1 c1,W A2 n2 c2],bY A28 n28 c28 p28,ah B5 29 [W none 0 0,W A28 n28 c28],bh A38 n38 c38 p38,ah B6 30 [W A38 n38 c38],bV A14 n14 c14 y13,ah B15 82 [W A14 n14 c14],bj cx Eo M16 y22.2,ah B17 135 [.map (some M16)],bh A43 n43 c43 p43,bh A44 n44 c44 p44,ah B36 35 [iV p39,iV p40,iV p41,iV p42,W A43 n43 c43,W A44 n44 c44]]) ?_ fv (ab _);refine o7 9 J I (aq (us:=[W A58 n58 c58]) (cs':=[iV p39,iV p40,iV p41,iV p42,W A58 n58 c58,W A44 n44 c44]) 16 J J J J size30.out J J J) J J ?_;rintro _ _ rfl;refine rc 10 J I (bB J dT) J J J ?_;refine o7 11 J I (aq (us:=[W A61 n61 c61]) (cs':=[iV p39,iV p40,iV p41,iV p42,W A58 n58 c58,W A61 n61 c61]) 16 J J J J size30.out J J J) J J ?_;rintro _ _ rfl;refine sU ?_;refine ft I ?_;refine ae ?_;refine lp (aY 0 J) ?_;refine lp (aY 1 J) ?_
   refine gD (aG (R:=bT) (vss:=[[iV p39,iV p40,iV p41,iV p42,W A58 n58 c58,W A61 n61 c61]]) (xs:=[(⟨p39,p40,p41,p42,y56,y59⟩:Ql)]) J (mf _ _ _ _ _ _ _ _ _ _) J J (fun _ _ hr=> .cons (⟨_,_,_,_,_,_,J,hr 0 _ J J,hr 1 _ J J⟩) All2.nil)) ?_;rintro _ _ ⟨A62,n62,c62,rfl,rfl⟩;obtain ⟨q63,h⟩:=ad h
   refine iE (ar 7 0 J J ap J J t9 tt J J q63) fun A64 n64 c64=> ?_
   obtain ⟨rfl,rfl⟩:=Prod.mk.inj (Option.some.inj h);exact BP ((cS [3,4,5,6,7,8,9,10,11,12,13,14] 18).trans (fU ((A64,n64,c64),(A38,n38,c38)) J))
  ·rintro ⟨⟨A28,n28,c28⟩,⟨A29,n29,c29⟩⟩ h;refine pS ([az A3 n3 c3 a1,bY A1 n1 c1 a0.Young,bY A2 n2 c2 a0.Old,ah B4 29 [W A1 n1 c1,W A2 n2 c2],bY A28 n28 c28 y30.2.1,ah B5 29 [W none 0 0,W A28 n28 c28],bh A29 n29 c29 y30.2.2,ah B6 30 [W A29 n29 c29],bV A14 n14 c14 y13,ah B15 82 [W A14 n14 c14],bj cx Eo M16 y22.2,ah B17 135 [.map (some M16)]]) J ?_;refine ae ?_;refine ay ?_;refine bm I _ (ab _) ?_;refine zR 0 J (aR (us:=[W none 0 0,W A28 n28 c28]) 5 J J agg29.out J) ?_;refine zE 1 J (ai J) ?_;refine zR 2 J (aL 11 J J CT J) ?_;refine zR 4 J (aL 7 J J dr J) ?_;refine zR 5 J (aL 11 J J CT J) ?_;obtain ⟨y65,k,h⟩:=aa h;refine zD 3 J (oR (oK k)) ?_;rintro _ _ ⟨_,⟨A66,n66,c66,rfl,rfl⟩,rfl⟩;refine bq (cS [1,2,3,4,5,6,7,8,9,10,11,12] 13) ?_;obtain ⟨y67,k,h⟩:=aa h;refine zD 6 J (oR (oK k)) ?_;rintro _ _ ⟨_,⟨A68,n68,c68,rfl,rfl⟩,rfl⟩;refine bq (cS [2,3,4,5,6,7,8,9,10,11,12,13] 14) ?_;refine zO 7 J (aq (us:=[W none 0 0,W A28 n28 c28]) (cs':=[W none 0 0,W A28 n28 c28]) 7 J J J J size29.out J J J) ?_;rintro _ _ rfl;refine bq (cS [2,3,4,5,6,7,8,9,10,11,12,13] 14) ?_;refine zE 8 J (av J) ?_;refine lE 9 J I I (aq (us:=[W A68 n68 c68]) (cs':=[W A68 n68 c68]) 9 J J J J size30.out J J J) ?_;rintro _ _ rfl;refine zE 10 J (av J) ?_;refine bv I ?_;refine ae ?_;obtain rfl:=bw h
   exact dt (rs:=[.cell 4 29,.tmp 5,.cell 6 30,.tmp 7]) (vs:=[.agg #[W none 0 0,W A28 n28 c28],W A66 n66 c66,W A68 n68 c68,iV 0]) J (.cons (bd 7 J J agg29.out) (.cons (iu J) (.cons (EX 9 J J dr) (.cons (iu J) .nil)))) J ((aD bT 35 _).trans (cS [0,7,2,1,4,5] 15)) ⟨_,_,_,_,_,_,_,_,_,_,_,_,J,J⟩
  ·rintro ⟨⟨A28,n28,c28⟩,⟨A29,n29,c29⟩⟩ h;exact aj h
  rintro i ⟨⟨A28,n28,c28⟩,⟨A29,n29,c29⟩⟩ h;exact aj h
 ·rintro _ h;exact aj h
 rintro i _ h;exact aj h
def md (N:Nat)(a0:Qr)(a1:Qe):Option ((Qg×Qr×Qr×Int) ⊕ (Qg×Qr×Qr)):=
 (du N a1.m_ a0).bind fun y11=>ET y11 (fun y11_0=>some (.inl (y11_0.1,y11_0.2.1,y11_0.2.2.1,y11_0.2.2.2))) (fun y11_1=>some (.inr (y11_1.1,y11_1.2.1,y11_1.2.2)))
theorem cO {N:Nat}{a0:Qr}{a1:Qe}{r:((Qg×Qr×Qr×Int) ⊕ (Qg×Qr×Qr))}(h:md N a0 a1=some r):Okc QB 56 [W A1 n1 c1,pV B2 0] ([az A1 n1 c1 a0,bu B2 23 [pV B3 0],ah B3 56 [W A4 n4 c4,W A5 n5 c5,W A6 n6 c6,W A7 n7 c7,pV B8 0],bY A4 n4 c4 a1.m_.Young,bY A5 n5 c5 a1.m_.Old,bh A6 n6 c6 a1.roots_,bh A7 n7 c7 a1.pending_,ah B8 87 [.map (some M9)],bj cx dW M9 a1.set_.at_]) (fun u post=>Nx (fun (r:Qg×Qr×Qr×Int)=> ∃A500 n500 c500 A501 n501 c501 A502 n502 c502 A503 n503 c503,u=.tuple #[.agg #[W A500 n500 c500,W A501 n501 c501],W A502 n502 c502,W A503 n503 c503,iV r.2.2.2]/\post=[bY A500 n500 c500 r.1.Young,bY A501 n501 c501 r.1.Old,bh A502 n502 c502 r.2.1,bh A503 n503 c503 r.2.2.1,bY A4 n4 c4 a1.m_.Young,bY A5 n5 c5 a1.m_.Old,bh A6 n6 c6 a1.roots_,bh A7 n7 c7 a1.pending_,ah B3 56 [W A4 n4 c4,W A5 n5 c5,W A6 n6 c6,W A7 n7 c7,pV B8 0],ah B8 87 [.map (some M9)],bj cx dW M9 a1.set_.at_]) (fun (r:Qg×Qr×Qr)=> ∃A500 n500 c500 A501 n501 c501 A502 n502 c502 A503 n503 c503,u=.tuple #[.agg #[W A500 n500 c500,W A501 n501 c501],W A502 n502 c502,W A503 n503 c503,iV 0]/\post=[bY A500 n500 c500 r.1.Young,bY A501 n501 c501 r.1.Old,bh A502 n502 c502 r.2.1,bh A503 n503 c503 r.2.2,bY A4 n4 c4 a1.m_.Young,bY A5 n5 c5 a1.m_.Old,bh A6 n6 c6 a1.roots_,bh A7 n7 c7 a1.pending_,ah B3 56 [W A4 n4 c4,W A5 n5 c5,W A6 n6 c6,W A7 n7 c7,pV B8 0],ah B8 87 [.map (some M9)],bj cx dW M9 a1.set_.at_]) r):=by
 refine cQ Tryz.func56 ?_;intro B10;refine ae ?_;obtain ⟨y11,hy11,h⟩:=aa h;rcases y11 with y11_0|y11_1
 ·replace h:=Jy h
  refine NH (oC (rV hy11)) fun A12 n12 c12 A13 n13 c13 A14 n14 c14 A15 n15 c15=> ?_
  exact eN
 replace h:=Jx h
 refine NH (oC (rV hy11)) fun A16 n16 c16 A17 n17 c17 A18 n18 c18 A19 n19 c19=> ?_
 exact eN
def gv (N:Nat)(p3:Qr):Option Qr:=
 some p3
def ll (N:Nat)(a1:Int):Option Qr:=
 bif decide (a1<0) then none else (aZ (in64 (0 - 0)) (aZ (in64 (a1 - (0 - 0))) (bif decide (0<a1 - (0 - 0)) then (aZ ((0:Int)<(a1 - (0 - 0))/\(a1 - (0 - 0))<=1099511627776) (gv N ([]:List Qn))) else (gv N []))))
theorem uJ {N:Nat}{a1:Int}{r:Qr}(h:ll N a1=some r):Okc QB 65 [W none 0 0,iV a1] ([]) (fun u post=> ∃A0 n0 c0,u=W A0 n0 c0/\post=[bh A0 n0 c0 r]):=by
 refine cQ Tryz.func65 ?_;refine sZ ?_;refine gH J h ?_ ?_<;>intro h
 ·exact aj h
 refine ae ?_;refine am (fun s L=> ∃p3 A3 n3 c3,gv N p3=some r/\s=[(0,W A3 n3 c3),(4,W none 0 0)]/\L=[bh A3 n3 c3 p3]) ?_ ?_
 ·refine ae ?_;refine lh (xJ J z9) ?_;refine gE (oS J z9) ?_;obtain ⟨q4,h⟩:=ad h;refine ae ?_;obtain ⟨q5,h⟩:=ad h;refine ew h ?_ ?_<;>intro h
  ·refine ae ?_;refine gE (xJ J z9) ?_;refine lh (AQ J z9 size37.out J) ?_;obtain ⟨q7,h⟩:=ad h
   refine iE (yF J J z9 t0 lF J q7.1 q7.2) fun A8 n8 c8=> ?_
   refine gE (oS J z9) ?_
   refine iE (Ff (R:=ak) 0 J J z9 size37.out J J) fun A9 n9 c9=> ?_
   exact jN
  refine ae ?_;exact ⟨_,_,⟨[],none,0,0,h,J,J⟩,sA,(aD ak 37 _).trans (cS [0] 1)⟩
 rintro _ _ ⟨p3,A3,n3,c3,h,rfl,rfl⟩;exact eY
def jC (N:Nat)(p12:Qr):Option Qr:=
 some p12
def ka (N:Nat)(a0_0:Qr)(a0_1:Qr):Option Qr:=
 (ll N ((0+(a0_0.length:Int))+(a0_1.length:Int))).bind fun y9=>aZ (bi (y9.length+a0_0.length)) (aZ (bi ((y9++a0_0).length+a0_1.length)) (jC N ((y9++a0_0)++a0_1)))
def cu (N:Nat)(a0_0:Qr)(a0_1:Qr):Option Qr:=
 aZ (in64 (0+(a0_0.length:Int))) (bif decide (0+(a0_0.length:Int)<0) then none else (aZ (in64 ((0+(a0_0.length:Int))+(a0_1.length:Int))) (bif decide ((0+(a0_0.length:Int))+(a0_1.length:Int)<0) then none else (ka N a0_0 a0_1))))
theorem bQ {N:Nat}{a0_0:Qr}{a0_1:Qr}{r:Qr}(h:cu N a0_0 a0_1=some r):Okc QB 40 [.slice (some ⟨B1,0,none⟩) 2 2] ([bu B1 30 [W A2 n2 c2,W A3 n3 c3],az A2 n2 c2 a0_0,az A3 n3 c3 a0_1]) (fun u post=> ∃A0 n0 c0,u=W A0 n0 c0/\post=[bh A0 n0 c0 r]):=by
 refine cQ Tryz.func40 ?_;refine am (fun s L=>ka N a0_0 a0_1=some r/\s=[(0,.slice (some ⟨B1,0,none⟩) 2 2),(2,W none 0 0),(3,iV ((0+(a0_0.length:Int))+(a0_1.length:Int)))]/\L=[az A2 n2 c2 a0_0,az A3 n3 c3 a0_1,bu B1 30 [W A2 n2 c2,W A3 n3 c3]]) ?_ ?_
 ·refine ae ?_;refine lh (oS J Qa) ?_;refine sq 3 ?_;refine tS ?_;refine ae ?_;refine ay ?_;refine eO J ?_;refine sY ?_;refine lh (nO J J Qa size30.out (by decide) (by decide)) ?_;obtain ⟨q5,h⟩:=ad h;refine ew h ?_ ?_<;>intro h
  ·exact aj h
  refine ae ?_;refine lh (cr J J (by decide) (by decide)) ?_;refine tS ?_;refine ae ?_;refine ay ?_;refine eO J ?_;refine sY ?_;refine lh (nO J J Qa size30.out (by decide) (by decide)) ?_;obtain ⟨q7,h⟩:=ad h;refine ew h ?_ ?_<;>intro h
  ·exact aj h
  refine ae ?_;refine lh (cr J J (by decide) (by decide)) ?_;refine tS ?_;refine ae ?_;refine ay ?_;refine jT J ?_;exact jY
 rintro _ _ ⟨h,rfl,rfl⟩;refine ae ?_;obtain ⟨y9,k,h⟩:=aa h
 refine iE (oR (uJ k)) fun A10 n10 c10=> ?_
 refine am (fun s L=> ∃p12 A12 n12 c12,jC N p12=some r/\s=[(2,W none 0 0),(6,W A12 n12 c12)]/\L=[bh A12 n12 c12 p12]) ?_ ?_
 ·refine ae ?_;refine lh (oS J Qa) ?_;refine sq 3 ?_;refine tS ?_;refine ae ?_;refine ay ?_;refine eO J ?_;refine sY ?_;refine lh (nO J J Qa size30.out (by decide) (by decide)) ?_;obtain ⟨q13,h⟩:=ad h
  refine iE (ar 0 1 J J ao J J z9 lF J J q13) fun A14 n14 c14=> ?_
  refine lh (cr J J (by decide) (by decide)) ?_;refine tS ?_;refine ae ?_;refine ay ?_;refine eO J ?_;refine sY ?_;refine lh (nO J J Qa size30.out (by decide) (by decide)) ?_;obtain ⟨q15,h⟩:=ad h
  refine iE (ar 0 2 J J ao J J z9 lF J J q15) fun A16 n16 c16=> ?_
  refine lh (cr J J (by decide) (by decide)) ?_;refine tS ?_;refine ae ?_;refine ay ?_;refine jT J ?_;exact jY
 rintro _ _ ⟨p12,A12,n12,c12,h,rfl,rfl⟩;exact eY
def nF (N:Nat)(a0:Qo):Option Qo:=
 some (⟨[]⟩:Qo)
theorem xO {N:Nat}{a0:Qo}{r:Qo}(h:nF N a0=some r):Okc QB 135 [pV B1 0] ([ah B1 87 [.map (some M2)],bj cx dW M2 a0.at_]) (fun u post=> ∃M0,u=.tuple #[]/\post=[ah B1 87 [.map (some M0)],bj cx dW M0 r.at_]):=by
 refine cQ Tryz.func135 ?_;refine lh (En J P1) ?_;refine eO J ?_;refine ae ?_;refine Fu (J1 1 J J P7) ?_;exact eN
def ml (N:Nat)(a0:Int):Option Bool:=
 (bif decide (0<a0) then (some (decide (a0.tmod 2=0))) else (some false)).bind fun b1=>some b1
theorem yb {N:Nat}{a0:Int}{r:Bool}(h:ml N a0=some r):Okc QB 73 [iV a0] ([]) (fun u post=>u=.bool r/\post=[]):=by
 refine cQ Tryz.func73 ?_;obtain ⟨b1,hb1,h⟩:=aa h;refine aQ 4 9 b1 ?_ ?_
 ·clear h;refine aM 5 J (fun g1=> ?_) (fun g1=> ?_)
  ·have h:=aE g1 hb1;refine ae ?_;refine su (ky J J (by decide)) J (bx g1 J) J ?_;exact gY
  have h:=aF g1 hb1;exact gY
 exact eY
def lL (N:Nat)(a0:Int):Option Bool:=
 (bif decide (0<a0) then (some (decide (a0.tmod 2=1))) else (some false)).bind fun b1=>some b1
theorem vI {N:Nat}{a0:Int}{r:Bool}(h:lL N a0=some r):Okc QB 126 [iV a0] ([]) (fun u post=>u=.bool r/\post=[]):=by
 refine cQ Tryz.func126 ?_;obtain ⟨b1,hb1,h⟩:=aa h;refine aQ 4 9 b1 ?_ ?_
 ·clear h;refine aM 5 J (fun g1=> ?_) (fun g1=> ?_)
  ·have h:=aE g1 hb1;refine ae ?_;refine su (ky J J (by decide)) J (bx g1 J) J ?_;exact gY
  have h:=aF g1 hb1;exact gY
 exact eY
def lM (N:Nat)(a0:Ql):Option Bool:=
 (fH N a0).bind fun y4=>(bW N y4 (fun x=>lL N x)).bind fun y6=>(bif y6 then (some true) else ((jo N a0).bind fun y8=>(bW N y8 (fun x=>lL N x)).bind fun y10=>some y10)).bind fun b7=>some b7
theorem vJ {N:Nat}{a0:Ql}{r:Bool}(h:lM N a0=some r):Okc QB 75 [.agg #[iV a0.Kind,iV a0.Shape,iV a0.Flags,iV a0.Age,W A1 n1 c1,W A2 n2 c2]] ([az A1 n1 c1 a0.Slots,az A2 n2 c2 a0.More]) (fun u post=>u=.bool r/\post=[]):=by
 refine cQ Tryz.func75 ?_;intro B3;refine ae ?_;obtain ⟨y4,k,h⟩:=aa h;refine gD (oR (jp k)) ?_;rintro _ _ ⟨_,⟨A5,n5,c5,rfl,rfl⟩,rfl⟩;obtain ⟨y6,k,h⟩:=aa h;refine kw (oR (dD k ⟨ax,126, #[], #[],J,call126.out,fun _ _ hh=>vI hh⟩)) ?_;obtain ⟨b7,hb7,h⟩:=aa h;refine aQ 4 10 b7 ?_ ?_
 ·clear h;refine aM 6 J (fun g7=> ?_) (fun g7=> ?_)
  ·have h:=aE g7 hb7;exact gY
  have h:=aF g7 hb7;refine ae ?_;obtain ⟨y8,k,h⟩:=aa h;refine BA (oR (oU k)) J (dh g7 J) J ?_;rintro _ _ ⟨_,⟨A9,n9,c9,rfl,rfl⟩,rfl⟩;obtain ⟨y10,k,h⟩:=aa h;refine gU (oR (dD k ⟨ax,126, #[], #[],J,call126.out,fun _ _ hh=>vI hh⟩)) (dh g7 J) ?_;exact gY
 exact eY
def jw (N:Nat)(a1:Int)(a0:Qo):Option (Bool×Qo):=
 some (true,(⟨za a0.at_ a1 true⟩:Qo))
def dM (N:Nat)(a0:Qo)(a1:Int)(a2:Ql):Option (Bool×Qo):=
 (ml N a1).bind fun y6=>bif !y6 then (some (false,a0)) else ((lM N a2).bind fun y8=>bif !y8 then (some (false,(⟨AS a0.at_ a1⟩:Qo))) else (jw N a1 a0))
theorem nE {N:Nat}{a0:Qo}{a1:Int}{a2:Ql}{r:Bool×Qo}(h:dM N a0 a1 a2=some r):Okc QB 63 [pV B1 0,iV a1,.agg #[iV a2.Kind,iV a2.Shape,iV a2.Flags,iV a2.Age,W A3 n3 c3,W A4 n4 c4]] ([az A3 n3 c3 a2.Slots,az A4 n4 c4 a2.More,ah B1 87 [.map (some M2)],bj cx dW M2 a0.at_]) (fun u post=> ∃M0,u=.bool r.1/\post=[ah B1 87 [.map (some M0)],bj cx dW M0 r.2.at_]):=by
 refine cQ Tryz.func63 ?_;intro B5;refine sY ?_;refine lh (pq J P1) ?_;obtain ⟨y6,k,h⟩:=aa h;refine kw (oR (yb k)) ?_;refine gH J h ?_ ?_<;>intro h
 ·exact eY
 refine sY ?_;obtain ⟨y8,k,h⟩:=aa h;refine kw (oR (vJ k)) ?_;refine gH J h ?_ ?_<;>intro h
 ·refine ae ?_;refine Fu (IV (a:=a1) 4 J J J P7 (dV t0)) ?_;exact eN
 refine ae ?_;refine am (fun s L=>jw N a1 a0=some r/\s=[(0,pV B1 0),(1,iV a1),(6,.bool false)]/\L=[bj cx dW M2 a0.at_,ah B1 87 [.map (some M2)]]) ?_ ?_
 ·refine ae ?_;refine lh (Jk J P7) ?_;refine jT J ?_;exact jY
 rintro _ _ ⟨h,rfl,rfl⟩;refine ae ?_;refine Fu (i3 (a:=a1) (b:=true) 0 J J J J P7 (dV t0)) ?_;exact eN
def eP (N:Nat)(a1:Qg):Nat->Int->Qz->Option Qo
 |0,_,_=>none
 |m8+1,p9,p10=>bif decide (p9<(a1.Old.length:Int)) then ((aw a1.Old p9).bind fun x12=>aZ (in64 (2*p9)) (aZ (in64 ((2*p9)+2)) ((dM N (⟨p10⟩:Qo) ((2*p9)+2) x12).bind fun y19=>aZ (in64 (p9+1)) ((eP N a1 m8) (p9+1) y19.2.at_)))) else (some (⟨p10⟩:Qo))
def dc (N:Nat)(a0:Qo)(a1:Qg):Option Qo:=
 (nF N a0).bind fun y6=>eP N a1 N 0 y6.at_
theorem qL {N:Nat}{a0:Qo}{a1:Qg}{r:Qo}(h:dc N a0 a1=some r):Okc QB 84 [pV B1 0,.agg #[W A3 n3 c3,W A4 n4 c4]] ([aK A3 n3 c3 a1.Young,aK A4 n4 c4 a1.Old,ah B1 87 [.map (some M2)],bj cx dW M2 a0.at_]) (fun u post=> ∃M0,u=.tuple #[]/\post=[ah B1 87 [.map (some M0)],bj cx dW M0 r.at_]):=by
 refine cQ Tryz.func84 ?_;intro B5;refine sY ?_;refine lh (pq J P1) ?_;refine jT J ?_;refine ae ?_;obtain ⟨y6,k,h⟩:=aa h;refine gD (oC (xO k)) ?_;rintro _ _ ⟨_,⟨M7,rfl,rfl⟩,rfl⟩;refine ae ?_;refine aH (fun m s L=> ∃p9 p10 M10,eP N a1 m p9 p10=some r/\s=[(0,pV B1 0),(11,W A4 n4 c4),(12,iV (a1.Old.length:Int)),(13,iV p9)]/\L=[aK A4 n4 c4 a1.Old,bj cx dW M10 p10,ah B1 87 [.map (some M10)]]) N _ _ ⟨0,y6.at_,M7,h,J,J⟩ sA (cS [4,1,0] 5) ?_;rintro (_|m8) _ _ ⟨p9,p10,M10,h,rfl,rfl⟩
 ·exact aj h
 rw [eP.eq_2] at h;refine ae ?_;refine ay ?_;refine gH J h ?_ ?_<;>intro h
 ·refine sY ?_;obtain ⟨x12,lx12,ux12,hx12,h⟩:=aU h;refine ae ?_;refine mL 0 J hx12 (bR x12) ?_;rintro _ _ ⟨A13,n13,c13,A14,n14,c14,rfl,rfl⟩;refine zX (eo (us:=[iV x12.Kind,iV x12.Shape,iV x12.Flags,iV x12.Age,W A13 n13 c13,W A14 n14 c14]) 0 J J agg35.out J) ?_;intro B16;refine ae ?_;obtain ⟨q17,h⟩:=ad h;refine gE (kA J J q17.1 q17.2) ?_;obtain ⟨q18,h⟩:=ad h;refine ae ?_;obtain ⟨y19,k,h⟩:=aa h;refine gD (oC (nE k)) ?_;rintro _ _ ⟨_,⟨M20,rfl,rfl⟩,rfl⟩;refine ae ?_;obtain ⟨q21,h⟩:=ad h;exact lY
 exact eY
theorem oe {r:Qo}{B1:Nat}: ∀v post,((fun (u:Value) (post:List Chunk)=> ∃M0,u=.tuple #[]/\post=[ah B1 87 [.map (some M0)],bj cx dW M0 r.at_])) v post-> ∀c∈post,fu c:=by
 rintro _ _ ⟨_,rfl,rfl⟩;exact hU Dc (hU Jh (ax))
def fR (N:Nat)(a0:Qe)(p13:Qy)(p14:Qy)(p15:Qr)(p16:Qr):Option (Int×Qe):=
 some (1,a0)
def fQ (N:Nat)(p19:Qy)(p20:Qy)(a0:Qe)(p37:Qr)(p38:Qr):Option (Int×Qe):=
 (dc N a0.set_ (⟨p19,p20⟩:Qg)).bind fun y48=>some (0,(⟨(⟨p19,p20⟩:Qg),p37,p38,y48⟩:Qe))
def dQ (N:Nat)(a0:Qe)(p19:Qy)(p20:Qy)(p21:Qr)(p22:Qr):Option (Int×Qe):=
 aZ ((0:Int)<=(a0.roots_.length:Int)/\0<=(a0.roots_.length:Int).toNat/\(a0.roots_.length:Int).toNat<=p21.length) (aZ ((0:Int)<=(a0.roots_.length:Int)/\(a0.roots_.length:Int).toNat<=p21.length/\p21.length<=p21.length) ((cT N ((p21.drop 0).take ((a0.roots_.length:Int).toNat - 0))).bind fun y43=>(cu N ((p21.drop ((a0.roots_.length:Int).toNat)).take (p21.length - (a0.roots_.length:Int).toNat)) p22).bind fun y46=>fQ N p19 p20 a0 y43 y46))
def gC (N:Nat)(a0:Qe):Option (Int×Qe):=
 (aI N a0).bind fun y9=>bif y9 then (some (1,a0)) else ((cu N a0.roots_ a0.pending_).bind fun y24=>(mc N y24 a0).bind fun y26=>ET y26 (fun y26_0=>fR N a0 y26_0.1.Young y26_0.1.Old y26_0.2.1 y26_0.2.2) (fun y26_1=>dQ N a0 y26_1.1.Young y26_1.1.Old y26_1.2.1 y26_1.2.2))
theorem qG {N:Nat}{a0:Qe}{r:Int×Qe}(h:gC N a0=some r):Okc QB 51 [pV B1 0,.func (.func 52) #[] #[pV B8 0]] ([bu B8 23 [pV B1 0],ah B1 56 [W A2 n2 c2,W A3 n3 c3,W A4 n4 c4,W A5 n5 c5,pV B6 0],bY A2 n2 c2 a0.m_.Young,bY A3 n3 c3 a0.m_.Old,bh A4 n4 c4 a0.roots_,bh A5 n5 c5 a0.pending_,ah B6 87 [.map (some M7)],bj cx dW M7 a0.set_.at_]) (fun u post=> ∃A0 n0 c0 A1 n1 c1 A2 n2 c2 A3 n3 c3 M4,u=iV r.1/\post=[ah B1 56 [W A0 n0 c0,W A1 n1 c1,W A2 n2 c2,W A3 n3 c3,pV B6 0],bY A0 n0 c0 r.2.m_.Young,bY A1 n1 c1 r.2.m_.Old,bh A2 n2 c2 r.2.roots_,bh A3 n3 c3 r.2.pending_,ah B6 87 [.map (some M4)],bj cx dW M4 r.2.set_.at_]):=by
 refine cQ Tryz.func51 ?_;refine sZ ?_;obtain ⟨y9,k,h⟩:=aa h;refine kw (oR (bL k)) ?_;refine gH J h ?_ ?_<;>intro h
 ·exact eY
 refine ae ?_;refine am (fun s L=>(∃p13 p14 p15 p16 B12 A13 n13 c13 A14 n14 c14 A15 n15 c15 A16 n16 c16,fR N a0 p13 p14 p15 p16=some r/\s=[(0,pV B1 0),(4,iV 0),(5,pV B12 0),(6,W A15 n15 c15),(7,W A16 n16 c16),(8,iV 1)]/\L=[bY A13 n13 c13 p13,bY A14 n14 c14 p14,ah B12 29 [W A13 n13 c13,W A14 n14 c14],bh A15 n15 c15 p15,bh A16 n16 c16 p16,bY A2 n2 c2 a0.m_.Young,bY A3 n3 c3 a0.m_.Old,bh A4 n4 c4 a0.roots_,bh A5 n5 c5 a0.pending_,ah B1 56 [W A2 n2 c2,W A3 n3 c3,W A4 n4 c4,W A5 n5 c5,pV B6 0],bj cx dW M7 a0.set_.at_,ah B6 87 [.map (some M7)]])\/(∃(p19:Qy) (p20:Qy) (p21:Qr) (p22:Qr) (B18:Nat) (A19:Option Addr) (n19 c19:Nat) (A20:Option Addr) (n20 c20:Nat) (A21:Option Addr) (n21 c21:Nat) (A22:Option Addr) (n22 c22:Nat),dQ N a0 p19 p20 p21 p22=some r/\s=[(0,pV B1 0),(4,iV 0),(5,pV B18 0),(6,W A21 n21 c21),(7,W A22 n22 c22),(8,iV 0)]/\L=[bY A19 n19 c19 p19,bY A20 n20 c20 p20,ah B18 29 [W A19 n19 c19,W A20 n20 c20],bh A21 n21 c21 p21,bh A22 n22 c22 p22,bh A4 n4 c4 a0.roots_,bh A5 n5 c5 a0.pending_,ah B1 56 [W A2 n2 c2,W A3 n3 c3,W A4 n4 c4,W A5 n5 c5,pV B6 0],bj cx dW M7 a0.set_.at_,ah B6 87 [.map (some M7)]])) ?_ ?_
 ·refine bm I ([bu B8 23 [pV B1 0],ah B1 56 [W A2 n2 c2,W A3 n3 c3,W A4 n4 c4,W A5 n5 c5,pV B6 0],bh A4 n4 c4 a0.roots_,bh A5 n5 c5 a0.pending_,ah B6 87 [.map (some M7)],bj cx dW M7 a0.set_.at_]) (cS [0,1,4,5,6,7] 8) ?_;refine zE 0 J (ai J) ?_;refine zE 1 J (ai J) ?_;refine zE 2 J (aX J) ?_;refine zE 3 J (bB J pN) ?_;refine zR 4 J (aL 1 J J dr J) ?_;refine zE 5 J (ai J) ?_;refine zE 6 J (aX J) ?_;refine zE 7 J (bB J tc) ?_;refine zR 8 J (aL 1 J J dr J) ?_;refine xj 9 17 I ?_ ?_
  ·refine fd J (eD (cs:=[W A4 n4 c4,W A5 n5 c5]) J (lj _ _ _ _ _ _)) J J J ?_;rintro _ _ ⟨B23,rfl,rfl⟩;refine bq (cS [1,2,5,6,7,8] 9) ?_;refine xj 10 17 I ?_ ?_
   ·obtain ⟨y24,k,h⟩:=aa h;refine fd J (oR (bQ k)) J J J ?_;rintro _ _ ⟨_,⟨A25,n25,c25,rfl,rfl⟩,rfl⟩;refine bq (cS [2,3,6,7,8,9] 10) ?_;refine xj 11 17 I ?_ ?_
    ·refine HI (aY 0 J) (cS [2,3,6,7,8,9] 10) ?_;refine Me ?_;obtain ⟨y26,hy26,h⟩:=aa h;rcases y26 with y26_0|y26_1
     ·replace h:=Jy h;refine fd J (fM (cN hy26) call52.out J J J (ce [0,2] [3,4,5,6,7,8,9] [0,1,2] 10 J)) J J J ?_;rintro _ _ ⟨_,⟨A27,n27,c27,A28,n28,c28,A29,n29,c29,A30,n30,c30,rfl,rfl⟩,rfl⟩;refine bq (cS [13,8,6,7,9,10] 14) ?_;refine cn ?_;refine zE 12 J (ai J) ?_;refine zE 13 J (au J J) ?_;refine zE 14 J (au J J) ?_;refine zE 15 J (au J J) ?_;refine zE 16 J (au J J) ?_;refine zD 17 J (ci zero29.out J) ?_;rintro _ _ ⟨B31,rfl,rfl⟩;refine bq (cS [14,9,7,8,10,11] 15) ?_;refine zO 18 J (aq (us:=[W A27 n27 c27,W A28 n28 c28]) (cs':=[W A27 n27 c27,W A28 n28 c28]) 0 J J J J size29.out J J J) ?_;rintro _ _ rfl;refine bq (cS [14,9,7,8,10,11] 15) ?_;refine cn ?_;refine zE 19 J (av J) ?_;refine zE 20 J (av J) ?_;refine zE 21 J (av J) ?_;refine bv I ?_;refine ae ?_;exact ⟨_,_,.inl (⟨y26_0.1.Young,y26_0.1.Old,y26_0.2.1,y26_0.2.2,B31,A27,n27,c27,A28,n28,c28,A29,n29,c29,A30,n30,c30,h,J,J⟩),sA,cS [1,2,0,3,4,5,6,7,8,9,11,10] 15⟩
     replace h:=Jx h;refine fd J (fM (cN hy26) call52.out J J J (ce [0,2] [3,4,5,6,7,8,9] [0,1,2] 10 J)) J J J ?_;rintro _ _ ⟨_,⟨A32,n32,c32,A33,n33,c33,A34,n34,c34,A35,n35,c35,rfl,rfl⟩,rfl⟩;refine bq (cS [11,6,4,5,7,8] 12) ?_;refine cn ?_;refine zE 12 J (ai J) ?_;refine zE 13 J (au J J) ?_;refine zE 14 J (au J J) ?_;refine zE 15 J (au J J) ?_;refine zE 16 J (au J J) ?_;refine zD 17 J (ci zero29.out J) ?_;rintro _ _ ⟨B36,rfl,rfl⟩;refine bq (cS [12,7,5,6,8,9] 13) ?_;refine zO 18 J (aq (us:=[W A32 n32 c32,W A33 n33 c33]) (cs':=[W A32 n32 c32,W A33 n33 c33]) 0 J J J J size29.out J J J) ?_;rintro _ _ rfl;refine bq (cS [12,7,5,6,8,9] 13) ?_;refine cn ?_;refine zE 19 J (av J) ?_;refine zE 20 J (av J) ?_;refine zE 21 J (av J) ?_;refine bv I ?_;refine ae ?_;exact ⟨_,_,.inr (⟨y26_1.1.Young,y26_1.1.Old,y26_1.2.1,y26_1.2.2,B36,A32,n32,c32,A33,n33,c33,A34,n34,c34,A35,n35,c35,h,J,J⟩),sA,cS [1,2,0,3,4,5,6,7,9,8] 13⟩
    refine fd J (ci zero29.out J) J J J ?_;rintro _ _ ⟨B26,rfl,rfl⟩;refine bq (cS [3,4,7,8,9,10] 11) ?_;refine vP (aY 1 J) (cS [3,4,7,8,9,10] 11) ?_;refine cn ?_;obtain ⟨y27,hy27,h⟩:=aa h;rcases y27 with y27_0|y27_1
    ·replace h:=Jy h;refine zD 11 J (fM (cN hy27) call52.out J J J (ce [1,3] [4,5,6,7,8,9,10] [0,1,2,3] 11 J)) ?_;rintro _ _ ⟨_,⟨A28,n28,c28,A29,n29,c29,A30,n30,c30,A31,n31,c31,rfl,rfl⟩,rfl⟩;refine bq (cS [14,8,6,7,9,10] 15) ?_;refine cn ?_;refine zE 12 J (ai J) ?_;refine zE 13 J (au J J) ?_;refine zE 14 J (au J J) ?_;refine zE 15 J (au J J) ?_;refine zE 16 J (au J J) ?_;refine zO 18 J (aq (us:=[W A28 n28 c28,W A29 n29 c29]) (cs':=[W A28 n28 c28,W A29 n29 c29]) 11 J J J J size29.out J J J) ?_;rintro _ _ rfl;refine bq (cS [14,8,6,7,9,10] 15) ?_;refine cn ?_;refine zE 19 J (av J) ?_;refine zE 20 J (av J) ?_;refine zE 21 J (av J) ?_;refine bv I ?_;refine ae ?_;exact ⟨_,_,.inl (⟨y27_0.1.Young,y27_0.1.Old,y27_0.2.1,y27_0.2.2,B26,A28,n28,c28,A29,n29,c29,A30,n30,c30,A31,n31,c31,h,J,J⟩),sA,cS [0,1,11,2,3,4,5,6,7,8,10,9] 15⟩
    replace h:=Jx h;refine zD 11 J (fM (cN hy27) call52.out J J J (ce [1,3] [4,5,6,7,8,9,10] [0,1,2,3] 11 J)) ?_;rintro _ _ ⟨_,⟨A32,n32,c32,A33,n33,c33,A34,n34,c34,A35,n35,c35,rfl,rfl⟩,rfl⟩;refine bq (cS [12,6,4,5,7,8] 13) ?_;refine cn ?_;refine zE 12 J (ai J) ?_;refine zE 13 J (au J J) ?_;refine zE 14 J (au J J) ?_;refine zE 15 J (au J J) ?_;refine zE 16 J (au J J) ?_;refine zO 18 J (aq (us:=[W A32 n32 c32,W A33 n33 c33]) (cs':=[W A32 n32 c32,W A33 n33 c33]) 9 J J J J size29.out J J J) ?_;rintro _ _ rfl;refine bq (cS [12,6,4,5,7,8] 13) ?_;refine cn ?_;refine zE 19 J (av J) ?_;refine zE 20 J (av J) ?_;refine zE 21 J (av J) ?_;refine bv I ?_;refine ae ?_;exact ⟨_,_,.inr (⟨y27_1.1.Young,y27_1.1.Old,y27_1.2.1,y27_1.2.2,B26,A32,n32,c32,A33,n33,c33,A34,n34,c34,A35,n35,c35,h,J,J⟩),sA,cS [0,1,9,2,3,4,5,6,8,7] 13⟩
   refine fd J (ci zero29.out J) J J J ?_;rintro _ _ ⟨B24,rfl,rfl⟩;refine bq (cS [2,3,6,7,8,9] 10) ?_;obtain ⟨y25,hy25,h⟩:=aa h;refine zD 10 J (oR (bQ hy25)) ?_;rintro _ _ ⟨_,⟨A26,n26,c26,rfl,rfl⟩,rfl⟩;refine bq (cS [3,4,7,8,9,10] 11) ?_;refine vP (aY 0 J) (cS [3,4,7,8,9,10] 11) ?_;refine cn ?_;obtain ⟨y27,hy27,h⟩:=aa h;rcases y27 with y27_0|y27_1
   ·replace h:=Jy h;refine zD 11 J (fM (cN hy27) call52.out J J J (ce [0,3] [4,5,6,7,8,9,10] [0,1,2,3] 11 J)) ?_;rintro _ _ ⟨_,⟨A28,n28,c28,A29,n29,c29,A30,n30,c30,A31,n31,c31,rfl,rfl⟩,rfl⟩;refine bq (cS [14,8,6,7,9,10] 15) ?_;refine cn ?_;refine zE 12 J (ai J) ?_;refine zE 13 J (au J J) ?_;refine zE 14 J (au J J) ?_;refine zE 15 J (au J J) ?_;refine zE 16 J (au J J) ?_;refine zO 18 J (aq (us:=[W A28 n28 c28,W A29 n29 c29]) (cs':=[W A28 n28 c28,W A29 n29 c29]) 12 J J J J size29.out J J J) ?_;rintro _ _ rfl;refine bq (cS [14,8,6,7,9,10] 15) ?_;refine cn ?_;refine zE 19 J (av J) ?_;refine zE 20 J (av J) ?_;refine zE 21 J (av J) ?_;refine bv I ?_;refine ae ?_;exact ⟨_,_,.inl (⟨y27_0.1.Young,y27_0.1.Old,y27_0.2.1,y27_0.2.2,B24,A28,n28,c28,A29,n29,c29,A30,n30,c30,A31,n31,c31,h,J,J⟩),sA,cS [0,1,12,2,3,4,5,6,7,8,10,9] 15⟩
   replace h:=Jx h;refine zD 11 J (fM (cN hy27) call52.out J J J (ce [0,3] [4,5,6,7,8,9,10] [0,1,2,3] 11 J)) ?_;rintro _ _ ⟨_,⟨A32,n32,c32,A33,n33,c33,A34,n34,c34,A35,n35,c35,rfl,rfl⟩,rfl⟩;refine bq (cS [12,6,4,5,7,8] 13) ?_;refine cn ?_;refine zE 12 J (ai J) ?_;refine zE 13 J (au J J) ?_;refine zE 14 J (au J J) ?_;refine zE 15 J (au J J) ?_;refine zE 16 J (au J J) ?_;refine zO 18 J (aq (us:=[W A32 n32 c32,W A33 n33 c33]) (cs':=[W A32 n32 c32,W A33 n33 c33]) 10 J J J J size29.out J J J) ?_;rintro _ _ rfl;refine bq (cS [12,6,4,5,7,8] 13) ?_;refine cn ?_;refine zE 19 J (av J) ?_;refine zE 20 J (av J) ?_;refine zE 21 J (av J) ?_;refine bv I ?_;refine ae ?_;exact ⟨_,_,.inr (⟨y27_1.1.Young,y27_1.1.Old,y27_1.2.1,y27_1.2.2,B24,A32,n32,c32,A33,n33,c33,A34,n34,c34,A35,n35,c35,h,J,J⟩),sA,cS [0,1,10,2,3,4,5,6,8,7] 13⟩
  refine fd J (ci zero29.out J) J J J ?_;rintro _ _ ⟨B23,rfl,rfl⟩;refine bq (cS [1,2,5,6,7,8] 9) ?_;refine zD 9 J (eD (cs:=[W A4 n4 c4,W A5 n5 c5]) J (lj _ _ _ _ _ _)) ?_;rintro _ _ ⟨B24,rfl,rfl⟩;refine bq (cS [2,3,6,7,8,9] 10) ?_;obtain ⟨y25,hy25,h⟩:=aa h;refine zD 10 J (oR (bQ hy25)) ?_;rintro _ _ ⟨_,⟨A26,n26,c26,rfl,rfl⟩,rfl⟩;refine bq (cS [3,4,7,8,9,10] 11) ?_;refine vP (aY 0 J) (cS [3,4,7,8,9,10] 11) ?_;refine cn ?_;obtain ⟨y27,hy27,h⟩:=aa h;rcases y27 with y27_0|y27_1
  ·replace h:=Jy h;refine zD 11 J (fM (cN hy27) call52.out J J J (ce [0,3] [4,5,6,7,8,9,10] [0,1,2,3] 11 J)) ?_;rintro _ _ ⟨_,⟨A28,n28,c28,A29,n29,c29,A30,n30,c30,A31,n31,c31,rfl,rfl⟩,rfl⟩;refine bq (cS [14,8,6,7,9,10] 15) ?_;refine cn ?_;refine zE 12 J (ai J) ?_;refine zE 13 J (au J J) ?_;refine zE 14 J (au J J) ?_;refine zE 15 J (au J J) ?_;refine zE 16 J (au J J) ?_;refine zO 18 J (aq (us:=[W A28 n28 c28,W A29 n29 c29]) (cs':=[W A28 n28 c28,W A29 n29 c29]) 13 J J J J size29.out J J J) ?_;rintro _ _ rfl;refine bq (cS [14,8,6,7,9,10] 15) ?_;refine cn ?_;refine zE 19 J (av J) ?_;refine zE 20 J (av J) ?_;refine zE 21 J (av J) ?_;refine bv I ?_;refine ae ?_;exact ⟨_,_,.inl (⟨y27_0.1.Young,y27_0.1.Old,y27_0.2.1,y27_0.2.2,B23,A28,n28,c28,A29,n29,c29,A30,n30,c30,A31,n31,c31,h,J,J⟩),sA,cS [0,1,13,2,3,4,5,6,7,8,10,9] 15⟩
  replace h:=Jx h;refine zD 11 J (fM (cN hy27) call52.out J J J (ce [0,3] [4,5,6,7,8,9,10] [0,1,2,3] 11 J)) ?_;rintro _ _ ⟨_,⟨A32,n32,c32,A33,n33,c33,A34,n34,c34,A35,n35,c35,rfl,rfl⟩,rfl⟩;refine bq (cS [12,6,4,5,7,8] 13) ?_;refine cn ?_;refine zE 12 J (ai J) ?_;refine zE 13 J (au J J) ?_;refine zE 14 J (au J J) ?_;refine zE 15 J (au J J) ?_;refine zE 16 J (au J J) ?_;refine zO 18 J (aq (us:=[W A32 n32 c32,W A33 n33 c33]) (cs':=[W A32 n32 c32,W A33 n33 c33]) 11 J J J J size29.out J J J) ?_;rintro _ _ rfl;refine bq (cS [12,6,4,5,7,8] 13) ?_;refine cn ?_;refine zE 19 J (av J) ?_;refine zE 20 J (av J) ?_;refine zE 21 J (av J) ?_;refine bv I ?_;refine ae ?_;exact ⟨_,_,.inr (⟨y27_1.1.Young,y27_1.1.Old,y27_1.2.1,y27_1.2.2,B23,A32,n32,c32,A33,n33,c33,A34,n34,c34,A35,n35,c35,h,J,J⟩),sA,cS [0,1,11,2,3,4,5,6,8,7] 13⟩
 rintro _ _ (⟨p13,p14,p15,p16,B12,A13,n13,c13,A14,n14,c14,A15,n15,c15,A16,n16,c16,h,rfl,rfl⟩|⟨p19,p20,p21,p22,B18,A19,n19,c19,A20,n20,c20,A21,n21,c21,A22,n22,c22,h,rfl,rfl⟩)
 ·refine sZ ?_;refine eO J ?_;exact eY
 refine sZ ?_;refine jT J ?_;refine ae ?_;refine am (fun s L=> ∃p37 p38 A37 n37 c37 A38 n38 c38,fQ N p19 p20 a0 p37 p38=some r/\s=[(0,pV B1 0),(4,iV 0)]/\L=[bY A19 n19 c19 p19,bY A20 n20 c20 p20,bh A37 n37 c37 p37,bh A38 n38 c38 p38,ah B1 56 [W A19 n19 c19,W A20 n20 c20,W A37 n37 c37,W A38 n38 c38,pV B6 0],bj cx dW M7 a0.set_.at_,ah B6 87 [.map (some M7)]]) ?_ ?_
 ·refine dB ?_ aW (aY 3 J);refine ae ?_;refine bm I ([bY A19 n19 c19 p19,bY A20 n20 c20 p20,ah B18 29 [W A19 n19 c19,W A20 n20 c20],az A21 n21 c21 p21,bh A22 n22 c22 p22,bh A4 n4 c4 a0.roots_,bh A5 n5 c5 a0.pending_,bj cx dW M7 a0.set_.at_,ah B6 87 [.map (some M7)]]) (cS [0,1,2,3,4,5,6,8,9] 10) ?_;refine zE 0 J (ai J) ?_;refine zE 1 J (ai J) ?_;refine zE 2 J (ai J) ?_;refine zR 3 J (aR (us:=[W A19 n19 c19,W A20 n20 c20]) 2 J J agg29.out J) ?_;refine zE 4 J (ai J) ?_;refine zE 5 J (ai J) ?_;obtain ⟨q39,h⟩:=ad h;refine Dr 3 J (l:=0) (h:=(a0.roots_.length:Int).toNat) q39.2.1 q39.2.2 ?_;rintro A40 n40 c40 e40;refine zR 6 J (E0 4 J e40 J z9 size37.out J J (by rw [Int.toNat_of_nonneg q39.1];rfl) q39.2.1 q39.2.2) ?_;refine zE 8 J (ai J) ?_;refine zE 9 J (ai J) ?_;obtain ⟨q41,h⟩:=ad h;refine Dr 4 J (l:=(a0.roots_.length:Int).toNat) (h:=p21.length) q41.2.1 q41.2.2 ?_;rintro A42 n42 c42 e42;refine zR 10 J (xy 5 J e42 J z9 size37.out J (by rw [Int.toNat_of_nonneg q41.1];rfl) q41.2.1) ?_;refine zE 11 J (ai J) ?_;refine xj 7 12 I ?_ ?_
  ·obtain ⟨y43,k,h⟩:=aa h;refine fd J (oR (eU k)) J J J ?_;rintro _ _ ⟨_,⟨A44,n44,c44,rfl,rfl⟩,rfl⟩;refine bq (cS [1,2,3,4,5,6,7,8,9,11,12] 13) ?_;refine zD 12 J (eD (cs:=[W A42 n42 c42,W A22 n22 c22]) J (lj _ _ _ _ _ _)) ?_;rintro _ _ ⟨B45,rfl,rfl⟩;refine bq (cS [2,3,4,5,6,7,8,9,10,12,13] 14) ?_;obtain ⟨y46,hy46,h⟩:=aa h;refine zD 13 J (oR (bQ hy46)) ?_;rintro _ _ ⟨_,⟨A47,n47,c47,rfl,rfl⟩,rfl⟩;refine bq (cS [3,4,5,6,7,8,9,10,11,13,14] 15) ?_;refine zE 14 J (aX J) ?_;refine zE 15 J (cG J nw) ?_;refine zO 16 J (aq (us:=[W A19 n19 c19,W A20 n20 c20]) (cs':=[W A19 n19 c19,W A20 n20 c20,W A4 n4 c4,W A5 n5 c5,pV B6 0]) 12 J J J J size29.out J J J) ?_;rintro _ _ rfl;refine bq (cS [3,4,5,6,7,8,9,10,11,13,14] 15) ?_;refine cn ?_;refine zE 17 J (aX J) ?_;refine zE 18 J (bB J pN) ?_;refine zO 19 J (aq (us:=[W A44 n44 c44]) (cs':=[W A19 n19 c19,W A20 n20 c20,W A44 n44 c44,W A5 n5 c5,pV B6 0]) 12 J J J J size30.out J J J) ?_;rintro _ _ rfl;refine bq (cS [3,4,5,6,7,8,9,10,11,13,14] 15) ?_;refine cn ?_;refine zE 20 J (aX J) ?_;refine zE 21 J (bB J tc) ?_;refine zO 22 J (aq (us:=[W A47 n47 c47]) (cs':=[W A19 n19 c19,W A20 n20 c20,W A44 n44 c44,W A47 n47 c47,pV B6 0]) 12 J J J J size30.out J J J) ?_;rintro _ _ rfl;refine bq (cS [3,4,5,6,7,8,9,10,11,13,14] 15) ?_;refine cn ?_;refine bv I ?_;exact jY
  refine fd J (eD (cs:=[W A42 n42 c42,W A22 n22 c22]) J (lj _ _ _ _ _ _)) J J J ?_;rintro _ _ ⟨B43,rfl,rfl⟩;refine bq (cS [1,2,3,4,5,6,7,8,9,11,12] 13) ?_;obtain ⟨y44,k,h⟩:=aa h;refine zD 7 J (oR (eU k)) ?_;rintro _ _ ⟨_,⟨A45,n45,c45,rfl,rfl⟩,rfl⟩;refine bq (cS [2,3,4,5,6,7,8,9,10,12,13] 14) ?_;obtain ⟨y46,hy46,h⟩:=aa h;refine zD 13 J (oR (bQ hy46)) ?_;rintro _ _ ⟨_,⟨A47,n47,c47,rfl,rfl⟩,rfl⟩;refine bq (cS [3,4,5,6,7,8,9,10,11,13,14] 15) ?_;refine zE 14 J (aX J) ?_;refine zE 15 J (cG J nw) ?_;refine zO 16 J (aq (us:=[W A19 n19 c19,W A20 n20 c20]) (cs':=[W A19 n19 c19,W A20 n20 c20,W A4 n4 c4,W A5 n5 c5,pV B6 0]) 12 J J J J size29.out J J J) ?_;rintro _ _ rfl;refine bq (cS [3,4,5,6,7,8,9,10,11,13,14] 15) ?_;refine cn ?_;refine zE 17 J (aX J) ?_;refine zE 18 J (bB J pN) ?_;refine zO 19 J (aq (us:=[W A45 n45 c45]) (cs':=[W A19 n19 c19,W A20 n20 c20,W A45 n45 c45,W A5 n5 c5,pV B6 0]) 12 J J J J size30.out J J J) ?_;rintro _ _ rfl;refine bq (cS [3,4,5,6,7,8,9,10,11,13,14] 15) ?_;refine cn ?_;refine zE 20 J (aX J) ?_;refine zE 21 J (bB J tc) ?_;refine zO 22 J (aq (us:=[W A47 n47 c47]) (cs':=[W A19 n19 c19,W A20 n20 c20,W A45 n45 c45,W A47 n47 c47,pV B6 0]) 12 J J J J size30.out J J J) ?_;rintro _ _ rfl;refine bq (cS [3,4,5,6,7,8,9,10,11,13,14] 15) ?_;refine cn ?_;refine bv I ?_;exact jY
 rintro _ _ ⟨p37,p38,A37,n37,c37,A38,n38,c38,h,rfl,rfl⟩;refine ay ?_;refine bm I ([bY A19 n19 c19 p19,bY A20 n20 c20 p20,bh A37 n37 c37 p37,bh A38 n38 c38 p38,ah B1 56 [W A19 n19 c19,W A20 n20 c20,W A37 n37 c37,W A38 n38 c38,pV B6 0]]) (cS [0,1,2,3,4] 7) ?_;refine ae ?_;obtain ⟨y48,hy48,h⟩:=aa h;refine vP (cS [6,5,0,1,2,3,4] 7) (cS [2,3,4,5,6] 7) ?_;refine cn ?_;refine zD 8 J (F8 2 2 (qL hy48) call84.out J J J J (hU (xG (i:=2) J J) (hU (xG (i:=3) J J) ax)) oe) ?_;rintro _ _ ⟨_,⟨M49,rfl,rfl⟩,rfl⟩;refine bq (cS [2,3,4,5,6] 7) ?_;refine cn ?_;exact eY
end Go.Proofs.YthepenpebkjdfaaGreat