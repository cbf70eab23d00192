/- Merged texts: part 4. No conditions of their own. -/
import Derived.Test.YthepenpebkjdfaaGreatG3
set_option maxHeartbeats 4000000
namespace Go.Proofs.YthepenpebkjdfaaGreat
theorem Qa:type_of% Tryz.underlying103:=Tryz.underlying103
theorem P9:type_of% Tryz.underlying135:=Tryz.underlying135
theorem P8:type_of% Tryz.underlying148:=Tryz.underlying148
theorem P7:type_of% Tryz.underlying85:=Tryz.underlying85
theorem P6:type_of% Tryz.underlying4:=Tryz.underlying4
variable {A1 A2 A3 A4 A5 A8 A9:Option Addr} {B1 B6 M2 M6 M7 c1 c2 c3 c4 c5 c8 c9 n1 n2 n3 n4 n5 n8 n9:Nat}
open Go.RowKit Asn
set_option maxRecDepth 20000
def dU (N:Nat)(a0:Ql):Option Ql:=
 (cT N a0.Slots).bind fun y5=>(cT N a0.More).bind fun y7=>some (⟨a0.Kind,a0.Shape,a0.Flags,a0.Age,y5,y7⟩:Ql)
theorem gG {N:Nat}{a0:Ql}{r:Ql}(h:dU N a0=some r):Okc QB 50 [.agg #[iV a0.Kind,iV a0.Shape,iV a0.Flags,iV a0.Age,W A1 n1 c1,W A2 n2 c2]] ([az A1 n1 c1 a0.Slots,az A2 n2 c2 a0.More]) (fun u post=> ∃A0 n0 c0 A1 n1 c1,u=.agg #[iV r.Kind,iV r.Shape,iV r.Flags,iV r.Age,W A0 n0 c0,W A1 n1 c1]/\post=[bh A0 n0 c0 r.Slots,bh A1 n1 c1 r.More]):=by
 refine cQ Tryz.func50 ?_;intro B3
 refine gg fun B4=> ?_
 refine ay ?_;refine bm I _ (ab _) ?_;refine zE 0 J (bB J pO) ?_;refine zR 1 J (aL 1 J J dr J) ?_;refine zE 3 J (bB J dT) ?_;refine zR 4 J (aL 1 J J dr J) ?_;obtain ⟨y5,k,h⟩:=aa h;refine zD 2 J (oR (eU k)) ?_;rintro _ _ ⟨_,⟨A6,n6,c6,rfl,rfl⟩,rfl⟩;refine bq (cS [1,2,3,4] 5) ?_;refine zE 6 J (bB J pO) ?_;obtain ⟨y7,k,h⟩:=aa h;refine zD 5 J (oR (eU k)) ?_;rintro _ _ ⟨_,⟨A8,n8,c8,rfl,rfl⟩,rfl⟩;refine bq (cS [2,3,4,5] 6) ?_;refine lE 7 J I I (aq (us:=[W A6 n6 c6]) (cs':=[iV a0.Kind,iV a0.Shape,iV a0.Flags,iV a0.Age,W A6 n6 c6,W A2 n2 c2]) 3 J J J J size30.out J J J) ?_;rintro _ _ rfl;refine zE 8 J (bB J dT) ?_;refine lE 9 J I I (aq (us:=[W A8 n8 c8]) (cs':=[iV a0.Kind,iV a0.Shape,iV a0.Flags,iV a0.Age,W A6 n6 c6,W A8 n8 c8]) 3 J J J J size30.out J J J) ?_;rintro _ _ rfl;refine bv I ?_;exact eY
def fo (N:Nat)(a0:Qe)(a1:Ql):Option (Int×Int×Qe):=
 (aI N a0).bind fun y11=>bif y11 then (some (0,1,a0)) else ((fF N a1).bind fun y13=>bif !y13 then (some (0,51,a0)) else ((dU N a1).bind fun y15=>aZ (bi (a0.m_.Young.length+([(⟨y15.Kind,y15.Shape,y15.Flags,0,y15.Slots,y15.More⟩:Ql)]:List Ql).length)) (aZ (in64 (2*((a0.m_.Young++([(⟨y15.Kind,y15.Shape,y15.Flags,0,y15.Slots,y15.More⟩:Ql)]:List Ql)).length:Int))) (aZ (in64 ((2*((a0.m_.Young++([(⟨y15.Kind,y15.Shape,y15.Flags,0,y15.Slots,y15.More⟩:Ql)]:List Ql)).length:Int)) - 1)) (some ((2*((a0.m_.Young++([(⟨y15.Kind,y15.Shape,y15.Flags,0,y15.Slots,y15.More⟩:Ql)]:List Ql)).length:Int)) - 1,0,(⟨(⟨a0.m_.Young++([(⟨y15.Kind,y15.Shape,y15.Flags,0,y15.Slots,y15.More⟩:Ql)]:List Ql),a0.m_.Old⟩:Qg),a0.roots_,a0.pending_,a0.set_⟩:Qe)))))))
theorem oP {N:Nat}{a0:Qe}{a1:Ql}{r:Int×Int×Qe}(h:fo N a0 a1=some r):Okc QB 18 [pV B1 0,.agg #[iV a1.Kind,iV a1.Shape,iV a1.Flags,iV a1.Age,W A8 n8 c8,W A9 n9 c9]] ([az A8 n8 c8 a1.Slots,az A9 n9 c9 a1.More,ah B1 56 [W A2 n2 c2,W A3 n3 c3,W A4 n4 c4,W A5 n5 c5,pV B6 0],bY A2 n2 c2 a0.m_.Young,bY A3 n3 c3 a0.m_.Old,bh A4 n4 c4 a0.roots_,bh A5 n5 c5 a0.pending_,ah B6 87 [.map (some M7)],bj cx dW M7 a0.set_.at_]) (fun u post=> ∃A0 n0 c0 A1 n1 c1 A2 n2 c2 A3 n3 c3 M4,u=.tuple #[iV r.1,iV r.2.1]/\post=[ah B1 56 [W A0 n0 c0,W A1 n1 c1,W A2 n2 c2,W A3 n3 c3,pV B6 0],bY A0 n0 c0 r.2.2.m_.Young,bY A1 n1 c1 r.2.2.m_.Old,bh A2 n2 c2 r.2.2.roots_,bh A3 n3 c3 r.2.2.pending_,ah B6 87 [.map (some M4)],bj cx dW M4 r.2.2.set_.at_]):=by
 refine cQ Tryz.func18 ?_;intro B10;refine sY ?_;obtain ⟨y11,k,h⟩:=aa h;refine kw (oR (bL k)) ?_;refine gH J h ?_ ?_<;>intro h
 ·exact eY
 refine ae ?_;obtain ⟨y13,k,h⟩:=aa h;refine kw (oR (li k)) ?_;refine gH J h ?_ ?_<;>intro h
 ·exact eY
 refine ae ?_;obtain ⟨y15,k,h⟩:=aa h
 refine BM (oR (gG k)) fun A16 n16 c16 A17 n17 c17=> ?_
 refine ay ?_;refine dB ?_ aW (aY 0 J);refine ae ?_;refine dB ?_ aW (aY 1 J);refine dB (t:=[(0,pV B1 0),(3,pV B10 0),(4,iV 0),(5,iV 0)]) ?_ fv (ab _)
 refine dF I 8 [0] [0,5,7] [16,17,18,19,20,21,22,23] [[],[],[1],[2],[3],[4],[],[6]] [aV (pV B1 0),
aV (pV B1 0),
aV (pV B1 0),
aV (pV B1 0),
aV (pV B1 0),
aV (W A2 n2 c2),
aV (.agg #[iV y15.Kind,iV y15.Shape,iV y15.Flags,iV 0,W A16 n16 c16,W A17 n17 c17]),
aX3 (fun (A19:Option Addr) (n19 c19:Nat)=> W A19 n19 c19) (fun A19 n19 c19=> [bY A19 n19 c19 ([(⟨y15.Kind,y15.Shape,y15.Flags,0,y15.Slots,y15.More⟩:Ql)]:List Ql)])] [] (ab _) (uY rfl fj) I rfl rfl ?_ ?_ ?_
 ·refine uX J ?_ ?_
  ·exact Dt (ai J) J (aP J (ab _))
  exact fi
 ·refine ac J ?_ ?_
  ·refine gj (aG (R:=bT) (vss:=[[iV y15.Kind,iV y15.Shape,iV y15.Flags,iV 0,W A16 n16 c16,W A17 n17 c17]]) (xs:=[(⟨y15.Kind,y15.Shape,y15.Flags,0,y15.Slots,y15.More⟩:Ql)]) J (mf _ _ _ _ _ _ _ _ _ _) J J (fun _ _ hr=> .cons (⟨_,_,_,_,_,_,J,hr 0 _ J J,hr 1 _ J J⟩) All2.nil)) J ?_;rintro _ _ ⟨A18,n18,c18,rfl,rfl⟩;exact pv A18 n18 c18 (ab _)
  refine ac J ?_ ?_
  ·exact cB (aR (us:=[iV y15.Kind,iV y15.Shape,iV y15.Flags,iV 0,W A16 n16 c16,W A17 n17 c17]) 2 J J agg35.out J) J (aP J (ab _))
  refine ac J ?_ ?_
  ·exact cB (aL 5 J J ni J) J (aP J (ab _))
  refine ac J ?_ ?_
  ·exact bN (cG J ny) J (aP J (ab _))
  refine ac J ?_ ?_
  ·exact bN (cG J nw) J (aP J (ab _))
  refine ac J ?_ ?_
  ·exact bN (aX J) J (aP J (ab _))
  refine ac J ?_ ?_
  ·exact bN (ai J) J (aP J (ab _))
  refine ac J ?_ ?_
  ·exact bN (ai J) J (aP J (ab _))
  exact cp
 intro A19 n19 c19;refine gu (t:=[(16,pV B1 0),(21,W A2 n2 c2),(23,W A19 n19 c19),(0,pV B1 0),(3,pV B10 0),(4,iV 0),(5,iV 0)]) (L':=[bY A19 n19 c19 ([(⟨y15.Kind,y15.Shape,y15.Flags,0,y15.Slots,y15.More⟩:Ql)]:List Ql),az A16 n16 c16 y15.Slots,az A17 n17 c17 y15.More,ah B10 35 [iV y15.Kind,iV y15.Shape,iV y15.Flags,iV 0,W A16 n16 c16,W A17 n17 c17],az A8 n8 c8 a1.Slots,az A9 n9 c9 a1.More,ah B1 56 [W A2 n2 c2,W A3 n3 c3,W A4 n4 c4,W A5 n5 c5,pV B6 0],bY A2 n2 c2 a0.m_.Young,bY A3 n3 c3 a0.m_.Old,bh A4 n4 c4 a0.roots_,bh A5 n5 c5 a0.pending_,ah B6 87 [.map (some M7)],bj cx dW M7 a0.set_.at_]) ?_ fv (ab _);obtain ⟨q20,h⟩:=ad h;refine jt 8 J I (ar 7 0 J J ap J J t9 tt J J q20) J J J ?_;rintro _ _ ⟨A21,n21,c21,rfl,rfl⟩;refine rc 9 J I (aX J) J J J ?_;refine rc 10 J I (cG J nw) J J J ?_;refine rc 11 J I (cG J ny) J J J ?_;refine o7 12 J I (aq (us:=[W A21 n21 c21]) (cs':=[W A21 n21 c21,W A3 n3 c3,W A4 n4 c4,W A5 n5 c5,pV B6 0]) 6 J J J J size27.out J J J) J J ?_;rintro _ _ rfl;refine sU ?_;refine ft I ?_;refine ae ?_;obtain ⟨q22,h⟩:=ad h;refine gE (kA J J q22.1 q22.2) ?_;obtain ⟨q23,h⟩:=ad h;exact eY
def sy (N:Nat)(a0:Int):Option Qn:=
 some (⟨9,a0,⟨#[]⟩⟩:Qn)
theorem uH {N:Nat}{a0:Int}{r:Qn}(h:sy N a0=some r):Okc QB 20 [iV a0] ([]) (fun u post=>u=(bD r)/\post=[]):=by
 refine cQ Tryz.func20 ?_;intro B1;exact eY
def ik (N:Nat)(a0:Qe)(a1:Qn):Option (Int×Qe):=
 (aI N a0).bind fun y9=>bif y9 then (some (0,a0)) else (aZ (bi (a0.roots_.length+([a1]:List Qn).length)) (aZ (in64 (((a0.roots_++([a1]:List Qn)).length:Int) - 1)) (some (((a0.roots_++([a1]:List Qn)).length:Int) - 1,(⟨a0.m_,a0.roots_++([a1]:List Qn),a0.pending_,a0.set_⟩:Qe)))))
theorem sX {N:Nat}{a0:Qe}{a1:Qn}{r:Int×Qe}(h:ik N a0 a1=some r):Okc QB 21 [pV B1 0,(bD a1)] ([ah B1 56 [W A2 n2 c2,W A3 n3 c3,W A4 n4 c4,W A5 n5 c5,pV B6 0],bY A2 n2 c2 a0.m_.Young,bY A3 n3 c3 a0.m_.Old,bh A4 n4 c4 a0.roots_,bh A5 n5 c5 a0.pending_,ah B6 87 [.map (some M7)],bj cx dW M7 a0.set_.at_]) (fun u post=> ∃A0 n0 c0 A1 n1 c1 A2 n2 c2 A3 n3 c3 M4,u=iV r.1/\post=[ah B1 56 [W A0 n0 c0,W A1 n1 c1,W A2 n2 c2,W A3 n3 c3,pV B6 0],bY A0 n0 c0 r.2.m_.Young,bY A1 n1 c1 r.2.m_.Old,bh A2 n2 c2 r.2.roots_,bh A3 n3 c3 r.2.pending_,ah B6 87 [.map (some M4)],bj cx dW M4 r.2.set_.at_]):=by
 refine cQ Tryz.func21 ?_;intro B8;refine sY ?_;obtain ⟨y9,k,h⟩:=aa h;refine kw (oR (bL k)) ?_;refine gH J h ?_ ?_<;>intro h
 ·exact eY
 refine ae ?_;refine ay ?_;refine dB (t:=[(0,pV B1 0),(3,pV B8 0),(4,iV 0)]) ?_ fv (ab _)
 refine dF I 7 [0] [0,4,6] [7,8,9,10,11,12,13] [[],[],[1],[2],[3],[],[5]] [aV (pV B1 0),
aV (pV B1 0),
aV (pV B1 0),
aV (pV B1 2),
aV (W A4 n4 c4),
aV ((bD a1)),
aX3 (fun (A12:Option Addr) (n12 c12:Nat)=> W A12 n12 c12) (fun A12 n12 c12=> [bh A12 n12 c12 ([a1]:List Qn)])] [] (ab _) (uY rfl fj) I rfl rfl ?_ ?_ ?_
 ·refine uX J ?_ ?_
  ·exact Dt (ai J) J (aP J (ab _))
  exact fi
 ·refine ac J ?_ ?_
  ·refine gj (aG (R:=ak) (vss:=[(be a1)]) (xs:=[a1]) J (oX _ _ _) J J (fun _ _ hr=> .cons J All2.nil)) J ?_;rintro _ _ ⟨A11,n11,c11,rfl,rfl⟩;exact pv A11 n11 c11 (ab _)
  refine ac J ?_ ?_
  ·exact cB (aR (us:=be a1) 0 J J agg37.out J) J (aP J (ab _))
  refine ac J ?_ ?_
  ·exact cB (aL 1 J J dr J) J (aP J (ab _))
  refine ac J ?_ ?_
  ·exact bN (bB J pN) J (aP J (ab _))
  refine ac J ?_ ?_
  ·exact bN (aX J) J (aP J (ab _))
  refine ac J ?_ ?_
  ·exact bN (ai J) J (aP J (ab _))
  refine ac J ?_ ?_
  ·exact bN (ai J) J (aP J (ab _))
  exact cp
 intro A12 n12 c12;refine gu (t:=[(7,pV B1 0),(11,W A4 n4 c4),(13,W A12 n12 c12),(0,pV B1 0),(3,pV B8 0),(4,iV 0)]) (L':=[bh A12 n12 c12 ([a1]:List Qn),ah B8 37 (be a1),ah B1 56 [W A2 n2 c2,W A3 n3 c3,W A4 n4 c4,W A5 n5 c5,pV B6 0],bY A2 n2 c2 a0.m_.Young,bY A3 n3 c3 a0.m_.Old,bh A4 n4 c4 a0.roots_,bh A5 n5 c5 a0.pending_,ah B6 87 [.map (some M7)],bj cx dW M7 a0.set_.at_]) ?_ fv (ab _);obtain ⟨q13,h⟩:=ad h;refine jt 7 J I (ar 5 0 J J ap J J z9 lF J J q13) J J J ?_;rintro _ _ ⟨A14,n14,c14,rfl,rfl⟩;refine rc 8 J I (aX J) J J J ?_;refine rc 9 J I (bB J pN) J J J ?_;refine o7 10 J I (aq (us:=[W A14 n14 c14]) (cs':=[W A2 n2 c2,W A3 n3 c3,W A14 n14 c14,W A5 n5 c5,pV B6 0]) 2 J J J J size30.out J J J) J J ?_;rintro _ _ rfl;refine ft I ?_;refine ae ?_;obtain ⟨q15,h⟩:=ad h;exact eY
def ti (N:Nat)(a0:Int):Option Bool:=
 some (!decide (a0=a0))
theorem Ah {N:Nat}{a0:Int}{r:Bool}(h:ti N a0=some r):Okc QB 174 [iV a0] ([]) (fun u post=>u=.bool r/\post=[]):=by
 refine cQ Tryz.func174 ?_;exact eN
def vz (N:Nat)(a0:Int)(a1:Int):Option Bool:=
 (ti N a0).bind fun y1=>(bif y1 then ((ti N a1).bind fun y3=>some (!y3)) else (some false)).bind fun b2=>(bif b2 then (some true) else (some (decide (a0<a1)))).bind fun b4=>some b4
theorem GF {N:Nat}{a0:Int}{a1:Int}{r:Bool}(h:vz N a0 a1=some r):Okc QB 124 [iV a0,iV a1] ([]) (fun u post=>u=.bool r/\post=[]):=by
 refine cQ Tryz.func124 ?_;obtain ⟨y1,k,h⟩:=aa h;refine kw (oR (Ah k)) ?_;obtain ⟨b2,hb2,h⟩:=aa h;refine aQ 4 11 b2 ?_ ?_
 ·clear h;refine aM 7 J (fun g2=> ?_) (fun g2=> ?_)
  ·have h:=aE g2 hb2;refine ae ?_;obtain ⟨y3,k,h⟩:=aa h;refine gU (oR (Ah k)) (bx g2 J) ?_;exact gY
  have h:=aF g2 hb2;exact gY
 refine ae ?_;refine gS 4 16 12 h ?_;intro b4 h;exact eY
theorem DN {r:Bool}: ∀v post,((fun (u:Value) (post:List Chunk)=>u=.bool r/\post=[])) v post-> ∀c∈post,fu c:=by
 rintro _ _ ⟨rfl,rfl⟩;exact ax
def iQ (N:Nat)(a0:Qo):Option Qq:=
 (wO N a0.at_).bind fun y3=>(qw N a0.at_).bind fun y5=>some y5
theorem rC {N:Nat}{a0:Qo}{r:Qq}(h:iQ N a0=some r):Okc QB 46 [pV B1 0] ([bu B1 87 [.map (some M2)],nB cx dW M2 a0.at_]) (fun u post=> ∃A0 n0 c0,u=W A0 n0 c0/\post=[bS A0 n0 c0 r]):=by
 refine cQ Tryz.func46 ?_;refine sZ ?_;refine lh (pq J P1) ?_;refine jT J ?_;refine ae ?_;obtain ⟨y3,k,h⟩:=aa h;refine gD (oR (Fk k)) ?_;rintro _ _ ⟨_,⟨B4,rfl,rfl⟩,rfl⟩;obtain ⟨y5,k,h⟩:=aa h
 refine iE (oR (At k)) fun A6 n6 c6=> ?_
 exact eN
def kN (N:Nat)(a0:Qn):Option (Int×Bool):=
 (bif decide (a0.Kind=7) then (some true) else (some (decide (a0.Kind=9)))).bind fun b2=>some (a0.N,b2)
theorem um {N:Nat}{a0:Qn}{r:Int×Bool}(h:kN N a0=some r):Okc QB 137 [(bD a0)] ([]) (fun u post=>u=.tuple #[iV r.1,.bool r.2]/\post=[]):=by
 refine cQ Tryz.func137 ?_;intro B1;refine ae ?_;refine ay ?_;refine bm I _ (ab _) ?_;refine zE 0 J (bB J kx) ?_;refine zR 1 J (aL 0 J J ex J) ?_;refine zE 2 J (cG J fE) ?_;refine zR 3 J (aL 0 J J ex J) ?_;refine zE 4 J (Ac J J) ?_;refine zE 5 J (ai J) ?_;refine zE 10 J (av J) ?_;obtain ⟨b2,hb2,h⟩:=aa h;refine eM (fun l=>((((l.setIfInBounds 6 true).setIfInBounds 7 true).setIfInBounds 8 true).setIfInBounds 9 true)) 1 13 b2 (fun rest=> ?_) ?_
 ·clear h;refine gI 9 J (fun g2=> ?_) (fun g2=> ?_)
  ·have h:=aE g2 hb2;refine bo 6 J I (jb g2 J) J ?_;refine bo 7 J I (jb g2 J) J ?_;refine bo 8 J I (jb g2 J) J ?_;refine zE 9 J (cI g2 J J) ?_;obtain rfl:=bw h;exact di rest (bM J (ag (ag (ag (ag aW J) J) J) J)) (ab _) (ab _)
  have h:=aF g2 hb2;refine cP 6 J I (cG J fE) (dh g2 J) J ?_;refine fb 7 J I (aL 0 J J ex J) (dh g2 J) J ?_;refine cP 8 J I (Ac J J) (dh g2 J) J ?_;refine zE 9 J (cJ g2 J J) ?_;obtain rfl:=bw h;exact di rest (bM J (ag (ag (ag (ag aW J) J) J) J)) (ab _) (ab _)
 refine zE 11 J (av J) ?_;refine bv I ?_;exact eY
def om (N:Nat)(a1:Int)(p6:Qy)(p7:Int):Option (Qy×Int×Bool):=
 (bif decide (0<a1) then (some (decide (p7<(p6.length:Int)))) else (some false)).bind fun b11=>some (p6,p7,b11)
def mV (N:Nat)(a0:Qg)(a1:Int):Option (Qy×Int×Bool):=
 aZ (in64 (a1.tdiv 2)) (bif decide (a1.tmod 2=0) then (aZ (in64 (a1.tdiv 2)) (aZ (in64 ((a1.tdiv 2) - 1)) (om N a1 a0.Old ((a1.tdiv 2) - 1)))) else (om N a1 a0.Young (a1.tdiv 2)))
theorem wi {N:Nat}{a0:Qg}{a1:Int}{r:Qy×Int×Bool}(h:mV N a0 a1=some r):Okc QB 145 [.agg #[W A1 n1 c1,W A2 n2 c2],iV a1] ([aK A1 n1 c1 a0.Young,aK A2 n2 c2 a0.Old]) (fun u post=> ∃A0 n0 c0,u=.tuple #[W A0 n0 c0,iV r.2.1,.bool r.2.2]/\post=[aK A0 n0 c0 r.1]):=by
 refine cQ Tryz.func145 ?_;intro B3;refine ae ?_;obtain ⟨q4,h⟩:=ad h;refine lh (kz J J (by decide) q4.1 q4.2) ?_;refine am (fun s L=> ∃p6 p7 A6 n6 c6,om N a1 p6 p7=some r/\s=[(1,iV a1),(4,W none 0 0),(5,iV 0),(6,.bool false),(7,W A6 n6 c6),(8,iV p7)]/\L=[aK A6 n6 c6 p6]) ?_ ?_
 ·refine ae ?_;refine lh (ky J J (by decide)) ?_;refine gH J h ?_ ?_<;>intro h
  ·refine ae ?_;obtain ⟨q9,h⟩:=ad h;refine gE (kz J J (by decide) q9.1 q9.2) ?_;obtain ⟨q10,h⟩:=ad h;exact jY
  exact jY
 rintro _ _ ⟨p6,p7,A6,n6,c6,h,rfl,rfl⟩;refine ae ?_;refine gS 5 30 25 h ?_;intro b11 h;exact eY
def iS (N:Nat)(a0:Qg)(a1:Int):Option Bool:=
 (mV N a0 a1).bind fun y4=>some y4.2.2
theorem kh {N:Nat}{a0:Qg}{a1:Int}{r:Bool}(h:iS N a0 a1=some r):Okc QB 95 [.agg #[W A1 n1 c1,W A2 n2 c2],iV a1] ([aK A1 n1 c1 a0.Young,aK A2 n2 c2 a0.Old]) (fun u post=>u=.bool r/\post=[]):=by
 refine cQ Tryz.func95 ?_;intro B3;refine ae ?_;obtain ⟨y4,k,h⟩:=aa h
 refine iE (oC (wi k)) fun A5 n5 c5=> ?_
 exact eN
def oF (N:Nat)(a0:Qn)(a1:Qg):Option Bool:=
 (kN N a0).bind fun y5=>(bif y5.2 then ((iS N a1 y5.1).bind fun y7=>some (!y7)) else (some false)).bind fun b6=>some b6
theorem BK {N:Nat}{a0:Qn}{a1:Qg}{r:Bool}(h:oF N a0 a1=some r):Okc QB 136 [(bD a0),pV B1 0] ([bu B1 29 [W A2 n2 c2,W A3 n3 c3],aK A2 n2 c2 a1.Young,aK A3 n3 c3 a1.Old]) (fun u post=>u=.bool r/\post=[]):=by
 refine cQ Tryz.func136 ?_;intro B4;refine ae ?_;obtain ⟨y5,k,h⟩:=aa h;refine kw (oR (um k)) ?_;obtain ⟨b6,hb6,h⟩:=aa h;refine aQ 5 17 b6 ?_ ?_
 ·clear h;refine aM 12 J (fun g6=> ?_) (fun g6=> ?_)
  ·have h:=aE g6 hb6;refine ae ?_;obtain ⟨y7,k,h⟩:=aa h;refine gU (oR (kh k)) (bx g6 J) ?_;exact gY
  have h:=aF g6 hb6;exact gY
 exact eY
def mI (N:Nat)(ff:Qn->Option Bool):Option Int:=
 some (-1)
def dH (N:Nat)(ff:Qn->Option Bool)(a0:Qr):Nat->Int->Option Int
 |0,_=>none
 |m3+1,p4=>bif decide (p4<(a0.length:Int)) then ((aw a0 p4).bind fun x6=>(ff x6).bind fun y7=>bif y7 then (some p4) else (aZ (in64 (p4+1)) ((dH N ff a0 m3) (p4+1)))) else (mI N ff)
def jg (N:Nat)(a0:Qr)(ff:Qn->Option Bool):Option Int:=
 dH N ff a0 N 0
theorem sr {N:Nat}{a0:Qr}{ff:Qn->Option Bool}{r:Int}(h:jg N a0 ff=some r){vf:Value}{G:List Chunk}(hf:HA QB vf G (fun x=> [(bD x)]) (fun r=> .bool r) ff):Okc QB 64 [W A1 n1 c1,vf] (az A1 n1 c1 a0::G) (fun u post=>u=iV r/\post=[]):=by
 refine cQ Tryz.func64 ?_;refine am (fun s L=>mI N ff=some r/\s=[(4,iV 0)]/\L=G) ?_ ?_
 ·refine ae ?_;refine aH (fun m s L=> ∃p4,dH N ff a0 m p4=some r/\s=[(0,W A1 n1 c1),(1,vf),(4,iV 0),(7,iV (a0.length:Int)),(8,iV p4)]/\L=az A1 n1 c1 a0::G) N _ _ ⟨0,h,J,J⟩ sA (cS [0] 1) ?_;rintro (_|m3) _ _ ⟨p4,h,rfl,rfl⟩
  ·exact aj h
  rw [dH.eq_2] at h;refine ae ?_;refine ay ?_;refine gH J h ?_ ?_<;>intro h
  ·refine sY ?_;obtain ⟨x6,lx6,ux6,hx6,h⟩:=aU h;refine ae ?_;obtain ⟨y7,k,h⟩:=aa h;refine gD (CQ (a:=x6) [az A1 n1 c1 a0] hf k J J) ?_;rintro _ _ ⟨rfl,rfl⟩;refine ew h ?_ ?_<;>intro h
   ·exact eY
   refine ae ?_;obtain ⟨q9,h⟩:=ad h;exact lY
  exact jY
 rintro _ _ ⟨h,rfl,rfl⟩;exact eY
theorem qN {r:Int}: ∀v post,((fun (u:Value) (post:List Chunk)=>u=iV r/\post=[])) v post-> ∀c∈post,fu c:=by
 rintro _ _ ⟨rfl,rfl⟩;exact ax
def cK (N:Nat)(a0:Qr)(ff:Qn->Option Bool):Option Bool:=
 (jg N a0 ff).bind fun y2=>some (decide (0<=y2))
theorem kE {N:Nat}{a0:Qr}{ff:Qn->Option Bool}{r:Bool}(h:cK N a0 ff=some r){vf:Value}{G:List Chunk}(hf:HA QB vf G (fun x=> [(bD x)]) (fun r=> .bool r) ff):Okc QB 39 [W A1 n1 c1,vf] (az A1 n1 c1 a0::G) (fun u post=>u=.bool r/\post=[]):=by
 refine cQ Tryz.func39 ?_;obtain ⟨y2,k,h⟩:=aa h;refine kw (ba (sr k hf) call64.out J (hU (aJ (i:=0) J J) (AL (E:=[az A1 n1 c1 a0]) hf.1)) qN) ?_;exact eN
def iy (N:Nat)(p3:Qy):Option Qy:=
 some p3
def lI (N:Nat)(a1:Int):Option Qy:=
 bif decide (a1<0) then none else (aZ (in64 (0 - 0)) (aZ (in64 (a1 - (0 - 0))) (bif decide (0<a1 - (0 - 0)) then (aZ ((0:Int)<(a1 - (0 - 0))/\(a1 - (0 - 0))<=1099511627776) (iy N ([]:List Ql))) else (iy N []))))
theorem vS {N:Nat}{a1:Int}{r:Qy}(h:lI N a1=some r):Okc QB 67 [W none 0 0,iV a1] ([]) (fun u post=> ∃A0 n0 c0,u=W A0 n0 c0/\post=[bY A0 n0 c0 r]):=by
 refine cQ Tryz.func67 ?_;refine sZ ?_;refine gH J h ?_ ?_<;>intro h
 ·exact aj h
 refine ae ?_;refine am (fun s L=> ∃p3 A3 n3 c3,iy N p3=some r/\s=[(0,W A3 n3 c3),(4,W none 0 0)]/\L=[bY A3 n3 c3 p3]) ?_ ?_
 ·refine ae ?_;refine lh (xJ J t9) ?_;refine gE (oS J t9) ?_;obtain ⟨q4,h⟩:=ad h;refine ae ?_;obtain ⟨q5,h⟩:=ad h;refine ew h ?_ ?_<;>intro h
  ·refine ae ?_;refine gE (xJ J t9) ?_;refine lh (AQ J t9 size35.out J) ?_;obtain ⟨q7,h⟩:=ad h
   refine iE (yF J J t9 t0 tt J q7.1 q7.2) fun A8 n8 c8=> ?_
   refine gE (oS J t9) ?_
   refine iE (Ff (R:=bT) 0 J J t9 size35.out J J) fun A9 n9 c9=> ?_
   exact jN
  refine ae ?_;exact ⟨_,_,⟨[],none,0,0,h,J,J⟩,sA,(aD bT 35 _).trans (cS [0] 1)⟩
 rintro _ _ ⟨p3,A3,n3,c3,h,rfl,rfl⟩;exact eY
def kc (N:Nat)(p12:Qy):Option Qy:=
 some p12
def lm (N:Nat)(a0_0:Qy)(a0_1:Qy):Option Qy:=
 (lI N ((0+(a0_0.length:Int))+(a0_1.length:Int))).bind fun y9=>aZ (bi (y9.length+a0_0.length)) (aZ (bi ((y9++a0_0).length+a0_1.length)) (kc N ((y9++a0_0)++a0_1)))
def fI (N:Nat)(a0_0:Qy)(a0_1:Qy):Option Qy:=
 aZ (in64 (0+(a0_0.length:Int))) (bif decide (0+(a0_0.length:Int)<0) then none else (aZ (in64 ((0+(a0_0.length:Int))+(a0_1.length:Int))) (bif decide ((0+(a0_0.length:Int))+(a0_1.length:Int)<0) then none else (lm N a0_0 a0_1))))
theorem o4 {N:Nat}{a0_0:Qy}{a0_1:Qy}{r:Qy}(h:fI N a0_0 a0_1=some r):Okc QB 43 [.slice (some ⟨B1,0,none⟩) 2 2] ([bu B1 27 [W A2 n2 c2,W A3 n3 c3],aK A2 n2 c2 a0_0,aK A3 n3 c3 a0_1]) (fun u post=> ∃A0 n0 c0,u=W A0 n0 c0/\post=[bY A0 n0 c0 r]):=by
 refine cQ Tryz.func43 ?_;refine am (fun s L=>lm N a0_0 a0_1=some r/\s=[(0,.slice (some ⟨B1,0,none⟩) 2 2),(2,W none 0 0),(3,iV ((0+(a0_0.length:Int))+(a0_1.length:Int)))]/\L=[aK A2 n2 c2 a0_0,aK A3 n3 c3 a0_1,bu B1 27 [W A2 n2 c2,W A3 n3 c3]]) ?_ ?_
 ·refine ae ?_;refine lh (oS J EM) ?_;refine sq 3 ?_;refine tS ?_;refine ae ?_;refine ay ?_;refine eO J ?_;refine sY ?_;refine lh (nO J J EM size27.out (by decide) (by decide)) ?_;obtain ⟨q5,h⟩:=ad h;refine ew h ?_ ?_<;>intro h
  ·exact aj h
  refine ae ?_;refine lh (cr J J (by decide) (by decide)) ?_;refine tS ?_;refine ae ?_;refine ay ?_;refine eO J ?_;refine sY ?_;refine lh (nO J J EM size27.out (by decide) (by decide)) ?_;obtain ⟨q7,h⟩:=ad h;refine ew h ?_ ?_<;>intro h
  ·exact aj h
  refine ae ?_;refine lh (cr J J (by decide) (by decide)) ?_;refine tS ?_;refine ae ?_;refine ay ?_;refine jT J ?_;exact jY
 rintro _ _ ⟨h,rfl,rfl⟩;refine ae ?_;obtain ⟨y9,k,h⟩:=aa h
 refine iE (oC (vS k)) fun A10 n10 c10=> ?_
 refine am (fun s L=> ∃p12 A12 n12 c12,kc N p12=some r/\s=[(2,W none 0 0),(6,W A12 n12 c12)]/\L=[bY A12 n12 c12 p12]) ?_ ?_
 ·refine ae ?_;refine lh (oS J EM) ?_;refine sq 3 ?_;refine tS ?_;refine ae ?_;refine ay ?_;refine eO J ?_;refine sY ?_;refine lh (nO J J EM size27.out (by decide) (by decide)) ?_;obtain ⟨q13,h⟩:=ad h
  refine iE (ar 0 1 J J ao J J t9 tt J J q13) fun A14 n14 c14=> ?_
  refine lh (cr J J (by decide) (by decide)) ?_;refine tS ?_;refine ae ?_;refine ay ?_;refine eO J ?_;refine sY ?_;refine lh (nO J J EM size27.out (by decide) (by decide)) ?_;obtain ⟨q15,h⟩:=ad h
  refine iE (ar 0 2 J J ao J J t9 tt J J q15) fun A16 n16 c16=> ?_
  refine lh (cr J J (by decide) (by decide)) ?_;refine tS ?_;refine ae ?_;refine ay ?_;refine jT J ?_;exact jY
 rintro _ _ ⟨p12,A12,n12,c12,h,rfl,rfl⟩;exact eY
def mG (N:Nat)(a0:Qn):Option Bool:=
 (bif decide (a0.Kind=7) then (some true) else (some (decide (a0.Kind=9)))).bind fun b2=>some b2
theorem tM {N:Nat}{a0:Qn}{r:Bool}(h:mG N a0=some r):Okc QB 144 [(bD a0)] ([]) (fun u post=>u=.bool r/\post=[]):=by
 refine cQ Tryz.func144 ?_;intro B1;refine ae ?_;refine gS 4 10 6 h ?_;intro b2 h;exact eY
def eK (N:Nat)(a1:Bool)(x8:Bool×Qn):(Qq)->Option (Option Exit×Qq)
 |p9=>(bif x8.1==a1 then ((mG N x8.2).bind fun y14=>some y14) else (some false)).bind fun b13=>bif b13 then (aZ (bi (p9.length+([x8.2.N]:List Int).length)) (some (none,p9++([x8.2.N]:List Int)))) else (some (none,p9))
def jS (N:Nat)(a0:Ql)(a1:Bool):Option Qq:=
 (sf N a0).bind fun y6=>(nk N a0 (dn (fun x st=>eK N a1 x st)) (none,[])).bind fun y10=>qM y10.1 (some y10.2) none (fun _=>none)
theorem tj {N:Nat}{a0:Ql}{a1:Bool}{r:Qq}(h:jS N a0 a1=some r):Okc QB 123 [.agg #[iV a0.Kind,iV a0.Shape,iV a0.Flags,iV a0.Age,W A1 n1 c1,W A2 n2 c2],.bool a1] ([az A1 n1 c1 a0.Slots,az A2 n2 c2 a0.More]) (fun u post=> ∃A0 n0 c0,u=W A0 n0 c0/\post=[bS A0 n0 c0 r]):=by
 refine cQ Tryz.func123 ?_;intro B3
 refine gg fun B4=> ?_
 intro B5;refine sY ?_;obtain ⟨y6,k,h⟩:=aa h;refine gD (oR (Bx k)) ?_;rintro _ _ ⟨_,⟨B7,rfl,rfl⟩,rfl⟩;refine ae ?_;refine dB ?_ aW (ip 0 J);obtain ⟨y10,k,h⟩:=aa h;refine uD (en:=(fun x=> [.bool x.1,(bD x.2)])) (fun x st=>eK N a1 x st) (fun (st:Qq) (mz:((Option Addr×Nat×Nat)))=> [ah B4 4 [.bool a1],eu (da .i64) 3 (.slice mz.1 mz.2.1 mz.2.2) st,ah B5 82 [.slice mz.1 mz.2.1 mz.2.2]]) [bu B7 35 [iV a0.Kind,iV a0.Shape,iV a0.Flags,iV a0.Age,W A1 n1 c1,W A2 n2 c2],az A1 n1 c1 a0.Slots,az A2 n2 c2 a0.More] ([]) ((none,0,0)) J J call130.out J (fun _=>J) (fun l G hY=>(xg k hY).mono fun _ _ hh=>hh.2) ((aD (da .i64) 3 _).trans (ce [1,5,6] [] [3,0,2] 7 J)) h ?_ ?_ ?_ ?_
 ·rintro l x8 p9 je sr8 ⟨A9,n9,c9⟩ h;replace h:eK N a1 x8 p9=some (je,sr8):=h;simp only [Ad,List.zip_cons_cons,List.zip_nil_left,List.zip_nil_right,List.reverse_cons,List.reverse_nil,QH,List.cons_append]
  refine gg fun B12=> ?_
  refine lh (Kx J J P6) ?_;obtain ⟨b13,hb13,h⟩:=aa h;refine aQ 3 18 b13 ?_ ?_
  ·clear h;refine aM 15 J (fun g13=> ?_) (fun g13=> ?_)
   ·have h:=aE g13 hb13;refine ae ?_;obtain ⟨y14,k,h⟩:=aa h;refine gU (oR (tM k)) (bx g13 J) ?_;exact gY
   have h:=aF g13 hb13;exact gY
  refine ew h ?_ ?_<;>intro h
  ·refine ae ?_;refine gD (aG (R:=(da .i64)) (vss:=[[iV x8.2.N]]) (xs:=[x8.2.N]) J (dp _) J J (fun _ _ hr=> .cons J All2.nil)) ?_;rintro _ _ ⟨A16,n16,c16,rfl,rfl⟩;obtain ⟨q17,h⟩:=ad h
   refine iE (ar 3 0 J J ap J J Ex uE J J q17) fun A18 n18 c18=> ?_
   obtain ⟨rfl,rfl⟩:=Prod.mk.inj (Option.some.inj h);exact BP ((cS [2,3,4] 5).trans (fU (A18,n18,c18) J))
  refine ae ?_;obtain ⟨rfl,rfl⟩:=Prod.mk.inj (Option.some.inj h);exact BP ((cS [1,2,3] 4).trans (fU (A9,n9,c9) J))
 ·rintro ⟨A9,n9,c9⟩ h;refine pS ([ah B4 4 [.bool a1],bS A9 n9 c9 y10.2,ah B5 82 [W A9 n9 c9]]) J ?_;exact eY
 ·rintro ⟨A9,n9,c9⟩ h;exact aj h
 rintro i ⟨A9,n9,c9⟩ h;exact aj h
def fH (N:Nat)(a0:Ql):Option Qq:=
 (jS N a0 true).bind fun y4=>some y4
theorem jp {N:Nat}{a0:Ql}{r:Qq}(h:fH N a0=some r):Okc QB 70 [.agg #[iV a0.Kind,iV a0.Shape,iV a0.Flags,iV a0.Age,W A1 n1 c1,W A2 n2 c2]] ([az A1 n1 c1 a0.Slots,az A2 n2 c2 a0.More]) (fun u post=> ∃A0 n0 c0,u=W A0 n0 c0/\post=[bS A0 n0 c0 r]):=by
 refine cQ Tryz.func70 ?_;intro B3;refine ae ?_;obtain ⟨y4,k,h⟩:=aa h
 refine iE (oR (tj k)) fun A5 n5 c5=> ?_
 exact eN
def jo (N:Nat)(a0:Ql):Option Qq:=
 (jS N a0 false).bind fun y4=>some y4
theorem oU {N:Nat}{a0:Ql}{r:Qq}(h:jo N a0=some r):Okc QB 71 [.agg #[iV a0.Kind,iV a0.Shape,iV a0.Flags,iV a0.Age,W A1 n1 c1,W A2 n2 c2]] ([az A1 n1 c1 a0.Slots,az A2 n2 c2 a0.More]) (fun u post=> ∃A0 n0 c0,u=W A0 n0 c0/\post=[bS A0 n0 c0 r]):=by
 refine cQ Tryz.func71 ?_;intro B3;refine ae ?_;obtain ⟨y4,k,h⟩:=aa h
 refine iE (oR (tj k)) fun A5 n5 c5=> ?_
 exact eN
def i5 (N:Nat)(a0:Ql):Option Qq:=
 (fH N a0).bind fun y4=>(jo N a0).bind fun y6=>aZ (bi (y4.length+y6.length)) (some (y4++y6))
theorem rS {N:Nat}{a0:Ql}{r:Qq}(h:i5 N a0=some r):Okc QB 139 [.agg #[iV a0.Kind,iV a0.Shape,iV a0.Flags,iV a0.Age,W A1 n1 c1,W A2 n2 c2]] ([az A1 n1 c1 a0.Slots,az A2 n2 c2 a0.More]) (fun u post=> ∃A0 n0 c0,u=W A0 n0 c0/\post=[bS A0 n0 c0 r]):=by
 refine cQ Tryz.func139 ?_;intro B3;refine ae ?_;refine ay ?_;refine bm I _ (ab _) ?_;refine zR 0 J (aR (us:=[iV a0.Kind,iV a0.Shape,iV a0.Flags,iV a0.Age,W A1 n1 c1,W A2 n2 c2]) 0 J J agg35.out J) ?_;refine zR 2 J (aR (us:=[iV a0.Kind,iV a0.Shape,iV a0.Flags,iV a0.Age,W A1 n1 c1,W A2 n2 c2]) 0 J J agg35.out J) ?_;obtain ⟨y4,k,h⟩:=aa h;refine zD 1 J (oR (jp k)) ?_;rintro _ _ ⟨_,⟨A5,n5,c5,rfl,rfl⟩,rfl⟩;refine bq (cS [1,2,3] 4) ?_;obtain ⟨y6,k,h⟩:=aa h;refine zD 3 J (oR (oU k)) ?_;rintro _ _ ⟨_,⟨A7,n7,c7,rfl,rfl⟩,rfl⟩;refine bq (cS [2,3,4] 5) ?_;obtain ⟨q8,h⟩:=ad h;refine zD 4 J (ar 1 0 J J ap J J Ex uE J J q8) ?_;rintro _ _ ⟨A9,n9,c9,rfl,rfl⟩;refine bq (cS [2,3,4] 5) ?_;refine zE 5 J (av J) ?_;refine bv I ?_;exact eY
def pj (N:Nat)(a0:Int)(a1:Qg):Option Bool:=
 (iS N a1 a0).bind fun y4=>some (!y4)
theorem zK {N:Nat}{a0:Int}{a1:Qg}{r:Bool}(h:pj N a0 a1=some r):Okc QB 179 [iV a0,pV B1 0] ([bu B1 29 [W A2 n2 c2,W A3 n3 c3],aK A2 n2 c2 a1.Young,aK A3 n3 c3 a1.Old]) (fun u post=>u=.bool r/\post=[]):=by
 refine cQ Tryz.func179 ?_;obtain ⟨y4,k,h⟩:=aa h;refine kw (oR (kh k)) ?_;exact eN
def qK (N:Nat)(ff:Int->Option Bool):Option Int:=
 some (-1)
def dI (N:Nat)(ff:Int->Option Bool)(a0:Qq):Nat->Int->Option Int
 |0,_=>none
 |m3+1,p4=>bif decide (p4<(a0.length:Int)) then ((aw a0 p4).bind fun x6=>(ff x6).bind fun y7=>bif y7 then (some p4) else (aZ (in64 (p4+1)) ((dI N ff a0 m3) (p4+1)))) else (qK N ff)
def jX (N:Nat)(a0:Qq)(ff:Int->Option Bool):Option Int:=
 dI N ff a0 N 0
theorem xL {N:Nat}{a0:Qq}{ff:Int->Option Bool}{r:Int}(h:jX N a0 ff=some r){vf:Value}{G:List Chunk}(hf:HA QB vf G (fun x=> [iV x]) (fun r=> .bool r) ff):Okc QB 121 [W A1 n1 c1,vf] (bV A1 n1 c1 a0::G) (fun u post=>u=iV r/\post=[]):=by
 refine cQ Tryz.func121 ?_;refine am (fun s L=>qK N ff=some r/\s=[(4,iV 0)]/\L=G) ?_ ?_
 ·refine ae ?_;refine aH (fun m s L=> ∃p4,dI N ff a0 m p4=some r/\s=[(0,W A1 n1 c1),(1,vf),(4,iV 0),(7,iV (a0.length:Int)),(8,iV p4)]/\L=bV A1 n1 c1 a0::G) N _ _ ⟨0,h,J,J⟩ sA (cS [0] 1) ?_;rintro (_|m3) _ _ ⟨p4,h,rfl,rfl⟩
  ·exact aj h
  rw [dI.eq_2] at h;refine ae ?_;refine ay ?_;refine gH J h ?_ ?_<;>intro h
  ·refine sY ?_;obtain ⟨x6,lx6,ux6,hx6,h⟩:=aU h;refine ae ?_;obtain ⟨y7,k,h⟩:=aa h;refine gD (CQ (a:=x6) [bV A1 n1 c1 a0] hf k J J) ?_;rintro _ _ ⟨rfl,rfl⟩;refine ew h ?_ ?_<;>intro h
   ·exact eY
   refine ae ?_;obtain ⟨q9,h⟩:=ad h;exact lY
  exact jY
 rintro _ _ ⟨h,rfl,rfl⟩;exact eY
theorem vR {r:Int}: ∀v post,((fun (u:Value) (post:List Chunk)=>u=iV r/\post=[])) v post-> ∀c∈post,fu c:=by
 rintro _ _ ⟨rfl,rfl⟩;exact ax
def bW (N:Nat)(a0:Qq)(ff:Int->Option Bool):Option Bool:=
 (jX N a0 ff).bind fun y2=>some (decide (0<=y2))
theorem dD {N:Nat}{a0:Qq}{ff:Int->Option Bool}{r:Bool}(h:bW N a0 ff=some r){vf:Value}{G:List Chunk}(hf:HA QB vf G (fun x=> [iV x]) (fun r=> .bool r) ff):Okc QB 68 [W A1 n1 c1,vf] (bV A1 n1 c1 a0::G) (fun u post=>u=.bool r/\post=[]):=by
 refine cQ Tryz.func68 ?_;obtain ⟨y2,k,h⟩:=aa h;refine kw (ba (xL k hf) call121.out J (hU (aJ (i:=0) J J) (AL (E:=[bV A1 n1 c1 a0]) hf.1)) vR) ?_;exact eN
def wJ (N:Nat):Option Bool:=
 some true
def oD (N:Nat)(y6:Qy)(a0:Qg):Nat->Int->Option Bool
 |0,_=>none
 |m8+1,p9=>bif decide (p9<(y6.length:Int)) then ((aw y6 p9).bind fun x11=>(fF N x11).bind fun y15=>(bif !y15 then (some true) else ((i5 N x11).bind fun y17=>(bW N y17 (fun x=>pj N x a0)).bind fun y19=>some y19)).bind fun b16=>bif b16 then (some false) else (aZ (in64 (p9+1)) ((oD N y6 a0 m8) (p9+1)))) else (wJ N)
def pI (N:Nat)(a0:Qg):Option Bool:=
 (fI N a0.Young a0.Old).bind fun y6=>oD N y6 a0 N 0
theorem CY {N:Nat}{a0:Qg}{r:Bool}(h:pI N a0=some r):Okc QB 138 [.agg #[W A1 n1 c1,W A2 n2 c2]] ([aK A1 n1 c1 a0.Young,aK A2 n2 c2 a0.Old]) (fun u post=>u=.bool r/\post=[]):=by
 refine cQ Tryz.func138 ?_;intro B3;refine ae ?_;refine am (fun s L=>wJ N=some r/\s=[(2,.bool false)]/\L=[]) ?_ ?_
 ·refine ae ?_
  refine gB (eD (cs:=[W A1 n1 c1,W A2 n2 c2]) J (AU _ _ _ _ _ _)) fun B5=> ?_
  obtain ⟨y6,k,h⟩:=aa h;refine lp (ip 0 J) ?_
  refine iE (oC (o4 k)) fun A7 n7 c7=> ?_
  refine aH (fun m s L=> ∃p9,oD N y6 a0 m p9=some r/\s=[(1,pV B3 0),(2,.bool false),(10,W A7 n7 c7),(11,iV (y6.length:Int)),(12,iV p9)]/\L=[bY A7 n7 c7 y6,aK A1 n1 c1 a0.Young,aK A2 n2 c2 a0.Old,ah B3 29 [W A1 n1 c1,W A2 n2 c2]]) N _ _ ⟨0,h,J,J⟩ sA (cS [0,3,4,2] 5) ?_;rintro (_|m8) _ _ ⟨p9,h,rfl,rfl⟩
  ·exact aj h
  rw [oD.eq_2] at h;refine ae ?_;refine ay ?_;refine gH J h ?_ ?_<;>intro h
  ·refine sY ?_;obtain ⟨x11,lx11,ux11,hx11,h⟩:=aU h;refine ae ?_;refine gD (rP 0 J ap J hx11 agg35.out J (bR x11)) ?_;rintro u _ ⟨_,_,⟨A12,n12,c12,A13,n13,c13,rfl,rfl⟩,hu,rfl⟩;obtain rfl:u=.agg #[iV x11.Kind,iV x11.Shape,iV x11.Flags,iV x11.Age,W A12 n12 c12,W A13 n13 c13]:=hu
   refine gg fun B14=> ?_
   obtain ⟨y15,k,h⟩:=aa h;refine kw (oR (li k)) ?_;obtain ⟨b16,hb16,h⟩:=aa h;refine aQ 5 24 b16 ?_ ?_
   ·clear h;refine aM 19 J (fun g16=> ?_) (fun g16=> ?_)
    ·have h:=aE g16 hb16;exact gY
    have h:=aF g16 hb16;refine ae ?_;obtain ⟨y17,k,h⟩:=aa h;refine BA (oR (rS k)) J (dh g16 J) J ?_;rintro _ _ ⟨_,⟨A18,n18,c18,rfl,rfl⟩,rfl⟩;refine su (ei J) J (dh g16 J) J ?_;obtain ⟨y19,k,h⟩:=aa h;refine gU (oR (dD k ⟨hU J (hU J (hU J ax)),179, #[], #[pV B3 0],J,call179.out,fun _ _ hh=>zK hh⟩)) (dh g16 J) ?_;exact gY
   refine ew h ?_ ?_<;>intro h
   ·exact eY
   refine ae ?_;obtain ⟨q21,h⟩:=ad h;exact lY
  exact jY
 rintro _ _ ⟨h,rfl,rfl⟩;exact eY
def fB (N:Nat)(a0:Int):Option Bool:=
 (bif decide (0<a0) then (some (decide (a0.tmod 2=1))) else (some false)).bind fun b1=>some b1
theorem lV {N:Nat}{a0:Int}{r:Bool}(h:fB N a0=some r):Okc QB 93 [iV a0] ([]) (fun u post=>u=.bool r/\post=[]):=by
 refine cQ Tryz.func93 ?_;obtain ⟨b1,hb1,h⟩:=aa h;refine aQ 4 9 b1 ?_ ?_
 ·clear h;refine aM 5 J (fun g1=> ?_) (fun g1=> ?_)
  ·have h:=aE g1 hb1;refine ae ?_;refine su (ky J J (by decide)) J (bx g1 J) J ?_;exact gY
  have h:=aF g1 hb1;exact gY
 exact eY
theorem AH {r:Bool}: ∀v post,((fun (u:Value) (post:List Chunk)=>u=.bool r/\post=[])) v post-> ∀c∈post,fu c:=by
 rintro _ _ ⟨rfl,rfl⟩;exact ax
def vH (N:Nat):Option Int:=
 some (-1)
def kD (N:Nat)(a1:Int)(a0:Qq):Nat->Int->Option Int
 |0,_=>none
 |m3+1,p4=>bif decide (p4<(a0.length:Int)) then ((aw a0 p4).bind fun x6=>bif decide (a1=x6) then (some p4) else (aZ (in64 (p4+1)) ((kD N a1 a0 m3) (p4+1)))) else (vH N)
def rx (N:Nat)(a0:Qq)(a1:Int):Option Int:=
 kD N a1 a0 N 0
theorem BD {N:Nat}{a0:Qq}{a1:Int}{r:Int}(h:rx N a0 a1=some r):Okc QB 143 [W A1 n1 c1,iV a1] ([bV A1 n1 c1 a0]) (fun u post=>u=iV r/\post=[]):=by
 refine cQ Tryz.func143 ?_;refine am (fun s L=>vH N=some r/\s=[(4,iV 0)]/\L=[]) ?_ ?_
 ·refine ae ?_;refine aH (fun m s L=> ∃p4,kD N a1 a0 m p4=some r/\s=[(0,W A1 n1 c1),(1,iV a1),(4,iV 0),(7,iV (a0.length:Int)),(8,iV p4)]/\L=[bV A1 n1 c1 a0]) N _ _ ⟨0,h,J,J⟩ sA (cS [0] 1) ?_;rintro (_|m3) _ _ ⟨p4,h,rfl,rfl⟩
  ·exact aj h
  rw [kD.eq_2] at h;refine ae ?_;refine ay ?_;refine gH J h ?_ ?_<;>intro h
  ·refine sY ?_;obtain ⟨x6,lx6,ux6,hx6,h⟩:=aU h;refine ew h ?_ ?_<;>intro h
   ·exact eY
   refine ae ?_;obtain ⟨q8,h⟩:=ad h;exact lY
  exact jY
 rintro _ _ ⟨h,rfl,rfl⟩;exact eY
def dL (N:Nat)(a0:Qq)(a1:Int):Option Bool:=
 (rx N a0 a1).bind fun y2=>some (decide (0<=y2))
theorem jZ {N:Nat}{a0:Qq}{a1:Int}{r:Bool}(h:dL N a0 a1=some r):Okc QB 89 [W A1 n1 c1,iV a1] ([bV A1 n1 c1 a0]) (fun u post=>u=.bool r/\post=[]):=by
 refine cQ Tryz.func89 ?_;obtain ⟨y2,k,h⟩:=aa h;refine kw (oR (BD k)) ?_;exact eN
def yn (N:Nat):Option Bool:=
 some true
def pJ (N:Nat)(a0:Qg)(a2:Qq):Nat->Int->Option Bool
 |0,_=>none
 |m25+1,p26=>bif decide (p26<(a0.Old.length:Int)) then ((aw a0.Old p26).bind fun x28=>(i5 N x28).bind fun y33=>(bW N y33 (fun x=>fB N x)).bind fun y35=>(bif y35 then (aZ (in64 (2*p26)) (aZ (in64 ((2*p26)+2)) ((dL N a2 ((2*p26)+2)).bind fun y39=>some (!y39)))) else (some false)).bind fun b36=>bif b36 then (some false) else (aZ (in64 (p26+1)) ((pJ N a0 a2 m25) (p26+1)))) else (yn N)
def lc (N:Nat)(a2:Qq)(a0:Qg):Option Bool:=
 pJ N a0 a2 N 0
def nj (N:Nat)(a2:Qq)(a0:Qg):Nat->Int->Option Bool
 |0,_=>none
 |m11+1,p12=>bif decide (p12<(a2.length:Int)) then ((aw a2 p12).bind fun x14=>(fB N x14).bind fun y15=>(bif y15 then (some true) else ((iS N a0 x14).bind fun y17=>some (!y17))).bind fun b16=>(bif b16 then (some true) else ((bif decide (0<p12) then (aZ (in64 (p12 - 1)) ((aw a2 (p12 - 1)).bind fun x21=>some (decide (x14<=x21)))) else (some false)).bind fun b19=>some b19)).bind fun b18=>bif b18 then (some false) else (aZ (in64 (p12+1)) ((nj N a2 a0 m11) (p12+1)))) else (lc N a2 a0)
def qn (N:Nat)(a0:Qg)(a1:Qr)(a2:Qq):Option Bool:=
 (cK N a1 (fun x=>oF N x a0)).bind fun y6=>(bif y6 then (some true) else ((pI N a0).bind fun y8=>some (!y8))).bind fun b7=>bif b7 then (some false) else (nj N a2 a0 N 0)
theorem Fh {N:Nat}{a0:Qg}{a1:Qr}{a2:Qq}{r:Bool}(h:qn N a0 a1 a2=some r):Okc QB 85 [.agg #[W A1 n1 c1,W A2 n2 c2],W A3 n3 c3,W A4 n4 c4] ([aK A1 n1 c1 a0.Young,aK A2 n2 c2 a0.Old,az A3 n3 c3 a1,bV A4 n4 c4 a2]) (fun u post=>u=.bool r/\post=[]):=by
 refine cQ Tryz.func85 ?_;intro B5;refine ae ?_;refine lh (ei J) ?_;refine sZ ?_;obtain ⟨y6,k,h⟩:=aa h;refine kw (oR (kE k ⟨hU J (hU J (hU J ax)),136, #[], #[pV B5 0],J,call136.out,fun _ _ hh=>BK hh⟩)) ?_;obtain ⟨b7,hb7,h⟩:=aa h;refine aQ 4 20 b7 ?_ ?_
 ·clear h;refine aM 16 J (fun g7=> ?_) (fun g7=> ?_)
  ·have h:=aE g7 hb7;exact gY
  have h:=aF g7 hb7;refine ae ?_;obtain ⟨y8,k,h⟩:=aa h;refine gU (oR (CY k)) (dh g7 J) ?_;exact gY
 refine ew h ?_ ?_<;>intro h
 ·exact eY
 refine ae ?_;refine am (fun s L=>lc N a2 a0=some r/\s=[(2,W A4 n4 c4),(3,pV B5 0),(6,.bool false)]/\L=[bV A4 n4 c4 a2,aK A1 n1 c1 a0.Young,aK A2 n2 c2 a0.Old,ah B5 29 [W A1 n1 c1,W A2 n2 c2]]) ?_ ?_
 ·refine ae ?_;refine aH (fun m s L=> ∃p12,nj N a2 a0 m p12=some r/\s=[(2,W A4 n4 c4),(3,pV B5 0),(6,.bool false),(21,W A4 n4 c4),(22,iV (a2.length:Int)),(23,iV p12)]/\L=[bV A4 n4 c4 a2,aK A1 n1 c1 a0.Young,aK A2 n2 c2 a0.Old,ah B5 29 [W A1 n1 c1,W A2 n2 c2]]) N _ _ ⟨0,h,J,J⟩ sA (cS [4,1,2,0] 5) ?_;rintro (_|m11) _ _ ⟨p12,h,rfl,rfl⟩
  ·exact aj h
  rw [nj.eq_2] at h;refine ae ?_;refine ay ?_;refine gH J h ?_ ?_<;>intro h
  ·refine sY ?_;obtain ⟨x14,lx14,ux14,hx14,h⟩:=aU h;refine ae ?_;obtain ⟨y15,k,h⟩:=aa h;refine kw (oR (lV k)) ?_;obtain ⟨b16,hb16,h⟩:=aa h;refine aQ 5 35 b16 ?_ ?_
   ·clear h;refine aM 30 J (fun g16=> ?_) (fun g16=> ?_)
    ·have h:=aE g16 hb16;exact gY
    have h:=aF g16 hb16;refine ae ?_;obtain ⟨y17,k,h⟩:=aa h;refine gU (oR (kh k)) (dh g16 J) ?_;exact gY
   refine ae ?_;obtain ⟨b18,hb18,h⟩:=aa h;refine aQ 12 48 b18 ?_ ?_
   ·clear h;refine aM 36 J (fun g18=> ?_) (fun g18=> ?_)
    ·have h:=aE g18 hb18;exact gY
    have h:=aF g18 hb18;refine ae ?_;obtain ⟨b19,hb19,h⟩:=aa h;refine aQ 8 47 b19 ?_ ?_
    ·clear h;refine aM 39 J (fun g19=> ?_) (fun g19=> ?_)
     ·have h:=aE g19 hb19;refine ae ?_;obtain ⟨q20,h⟩:=ad h;refine ae ?_;obtain ⟨x21,lx21,ux21,hx21,h⟩:=aU h;exact gY
     have h:=aF g19 hb19;exact gY
    exact gY
   refine ew h ?_ ?_<;>intro h
   ·exact eY
   refine ae ?_;obtain ⟨q23,h⟩:=ad h;exact lY
  exact jY
 rintro _ _ ⟨h,rfl,rfl⟩;refine am (fun s L=>yn N=some r/\s=[(6,.bool false)]/\L=[]) ?_ ?_
 ·refine ae ?_;refine aH (fun m s L=> ∃p26,pJ N a0 a2 m p26=some r/\s=[(2,W A4 n4 c4),(6,.bool false),(51,W A2 n2 c2),(52,iV (a0.Old.length:Int)),(53,iV p26)]/\L=[bV A4 n4 c4 a2,aK A2 n2 c2 a0.Old]) N _ _ ⟨0,h,J,J⟩ sA (cS [0,2] 4) ?_;rintro (_|m25) _ _ ⟨p26,h,rfl,rfl⟩
  ·exact aj h
  rw [pJ.eq_2] at h;refine ae ?_;refine ay ?_;refine gH J h ?_ ?_<;>intro h
  ·refine sY ?_;obtain ⟨x28,lx28,ux28,hx28,h⟩:=aU h;refine ae ?_;refine mL 1 J hx28 (bR x28) ?_;rintro _ _ ⟨A29,n29,c29,A30,n30,c30,rfl,rfl⟩;refine zX (eo (us:=[iV x28.Kind,iV x28.Shape,iV x28.Flags,iV x28.Age,W A29 n29 c29,W A30 n30 c30]) 0 J J agg35.out J) ?_;intro B32;refine ae ?_;obtain ⟨y33,k,h⟩:=aa h;refine gD (oR (rS k)) ?_;rintro _ _ ⟨_,⟨A34,n34,c34,rfl,rfl⟩,rfl⟩;obtain ⟨y35,k,h⟩:=aa h;refine kw (oR (dD k ⟨ax,93, #[], #[],J,call93.out,fun _ _ hh=>lV hh⟩)) ?_;obtain ⟨b36,hb36,h⟩:=aa h;refine aQ 7 68 b36 ?_ ?_
   ·clear h;refine aM 61 J (fun g36=> ?_) (fun g36=> ?_)
    ·have h:=aE g36 hb36;refine ae ?_;obtain ⟨q37,h⟩:=ad h;refine su (kA J J q37.1 q37.2) J (bx g36 J) J ?_;obtain ⟨q38,h⟩:=ad h;refine ae ?_;obtain ⟨y39,k,h⟩:=aa h;refine gU (oR (jZ k)) (bx g36 J) ?_;exact gY
    have h:=aF g36 hb36;exact gY
   refine ew h ?_ ?_<;>intro h
   ·exact eY
   refine ae ?_;obtain ⟨q41,h⟩:=ad h;exact lY
  exact jY
 rintro _ _ ⟨h,rfl,rfl⟩;exact eY
def cz (N:Nat)(a0:Qh)(a1:Int):Option Qh:=
 (fB N a1).bind fun y7=>(bif y7 then (some (!((lk a0.seen_ a1).getD false))) else (some false)).bind fun b8=>bif b8 then (aZ (bi (a0.met_.length+([a1]:List Int).length)) (some (⟨a0.m_,a0.kept_,a0.met_++([a1]:List Int),za a0.seen_ a1 true,a0.next_⟩:Qh))) else (some a0)
theorem i4 {N:Nat}{a0:Qh}{a1:Int}{r:Qh}(h:cz N a0 a1=some r):Okc QB 140 [pV B1 0,iV a1] ([aK A2 n2 c2 a0.m_.Young,aK A3 n3 c3 a0.m_.Old,bV A4 n4 c4 a0.kept_,ah B1 130 [W A2 n2 c2,W A3 n3 c3,W A4 n4 c4,W A5 n5 c5,.map (some M6),iV a0.next_],bS A5 n5 c5 a0.met_,bj cx dW M6 a0.seen_]) (fun u post=> ∃A0 n0 c0 A1 n1 c1 A2 n2 c2 A3 n3 c3 M4,u=.tuple #[]/\post=[ah B1 130 [W A0 n0 c0,W A1 n1 c1,W A2 n2 c2,W A3 n3 c3,.map (some M4),iV r.next_],aK A0 n0 c0 r.m_.Young,aK A1 n1 c1 r.m_.Old,bV A2 n2 c2 r.kept_,bS A3 n3 c3 r.met_,bj cx dW M4 r.seen_]):=by
 refine cQ Tryz.func140 ?_;obtain ⟨y7,k,h⟩:=aa h;refine kw (oR (lV k)) ?_;obtain ⟨b8,hb8,h⟩:=aa h;refine aQ 8 14 b8 ?_ ?_
 ·clear h;refine aM 6 J (fun g8=> ?_) (fun g8=> ?_)
  ·have h:=aE g8 hb8;refine ae ?_;refine mH (Ct (a:=a1) (z:=false) 5 J wP J J P7 (dV t0) zero4.out) J (bx g8 J) J ?_;exact gY
  have h:=aF g8 hb8;exact gY
 refine ew h ?_ ?_<;>intro h
 ·refine ae ?_;refine Fu (i3 (a:=a1) (b:=true) 5 J J J J P7 (dV t0)) ?_;refine gD (aG (R:=(da .i64)) (vss:=[[iV a1]]) (xs:=[a1]) J (dp _) J J (fun _ _ hr=> .cons J All2.nil)) ?_;rintro _ _ ⟨A10,n10,c10,rfl,rfl⟩;obtain ⟨q11,h⟩:=ad h
  refine iE (ar 5 0 J J ap J J Ex uE J J q11) fun A12 n12 c12=> ?_
  exact eN
 exact eY
def cc (N:Nat)(a0:Qh)(a1:Int):Option Ql:=
 (fB N a1).bind fun y8=>bif y8 then (aZ (in64 (a1.tdiv 2)) ((aw a0.m_.Young (a1.tdiv 2)).bind fun x11=>some x11)) else (aZ (in64 (a1.tdiv 2)) (aZ (in64 ((a1.tdiv 2) - 1)) ((aw a0.m_.Old ((a1.tdiv 2) - 1)).bind fun x17=>some x17)))
theorem fN {N:Nat}{a0:Qh}{a1:Int}{r:Ql}(h:cc N a0 a1=some r):Okc QB 92 [pV B1 0,iV a1] ([aK A2 n2 c2 a0.m_.Young,aK A3 n3 c3 a0.m_.Old,bV A4 n4 c4 a0.kept_,ah B1 130 [W A2 n2 c2,W A3 n3 c3,W A4 n4 c4,W A5 n5 c5,.map (some M6),iV a0.next_],bS A5 n5 c5 a0.met_,bj cx dW M6 a0.seen_]) (fun u post=> ∃A500 n500 c500 A501 n501 c501,u=.agg #[iV r.Kind,iV r.Shape,iV r.Flags,iV r.Age,W A500 n500 c500,W A501 n501 c501]/\post=[az A500 n500 c500 r.Slots,az A501 n501 c501 r.More,ah B1 130 [W A2 n2 c2,W A3 n3 c3,W A4 n4 c4,W A5 n5 c5,.map (some M6),iV a0.next_],bS A5 n5 c5 a0.met_,bj cx dW M6 a0.seen_]):=by
 refine rQ Tryz.func92 J J ?_;simp only [jr];refine Y ?_
 refine gB (ci zero35.out J) fun B7=> ?_
 refine Y ?_;refine ay ?_;refine Y ?_;obtain ⟨y8,k,h⟩:=aa h;refine gV (ba (lV k) call93.out J (ax) AH) ?_;refine Y ?_;refine gH J h ?_ ?_<;>intro h
 ·refine Y ?_;obtain ⟨q10,h⟩:=ad h;refine gE (kz J J (by decide) q10.1 q10.2) ?_;obtain ⟨x11,lx11,ux11,hx11,h⟩:=aU h;refine gR (bf 1 J ao J J t9 size35.out lx11 ux11) ?_;refine mL 1 J hx11 (bR x11) ?_;rintro _ _ ⟨A12,n12,c12,A13,n13,c13,rfl,rfl⟩;refine gR (eo (us:=[iV x11.Kind,iV x11.Shape,iV x11.Flags,iV x11.Age,W A12 n12 c12,W A13 n13 c13]) 0 J J agg35.out J) ?_;refine gW (aq (us:=[iV x11.Kind,iV x11.Shape,iV x11.Flags,iV x11.Age,W A12 n12 c12,W A13 n13 c13]) (cs':=[iV x11.Kind,iV x11.Shape,iV x11.Flags,iV x11.Age,W A12 n12 c12,W A13 n13 c13]) 3 J J J J size35.out J J J) ?_;refine Y ?_;obtain rfl:=bw h;exact dt (rs:=[.cell 4 35]) (vs:=[.agg #[iV x11.Kind,iV x11.Shape,iV x11.Flags,iV x11.Age,W A12 n12 c12,W A13 n13 c13]]) J (.cons (bd 3 J J agg35.out) .nil) J (cS [1,2,7,8,9] 10) ⟨_,_,_,_,_,_,J,J⟩
 refine Y ?_;obtain ⟨q15,h⟩:=ad h;refine gE (kz J J (by decide) q15.1 q15.2) ?_;obtain ⟨q16,h⟩:=ad h;refine gE (tL J J q16.1 q16.2) ?_;obtain ⟨x17,lx17,ux17,hx17,h⟩:=aU h;refine gR (bf 2 J ao J J t9 size35.out lx17 ux17) ?_;refine mL 2 J hx17 (bR x17) ?_;rintro _ _ ⟨A18,n18,c18,A19,n19,c19,rfl,rfl⟩;refine gR (eo (us:=[iV x17.Kind,iV x17.Shape,iV x17.Flags,iV x17.Age,W A18 n18 c18,W A19 n19 c19]) 0 J J agg35.out J) ?_;refine gW (aq (us:=[iV x17.Kind,iV x17.Shape,iV x17.Flags,iV x17.Age,W A18 n18 c18,W A19 n19 c19]) (cs':=[iV x17.Kind,iV x17.Shape,iV x17.Flags,iV x17.Age,W A18 n18 c18,W A19 n19 c19]) 3 J J J J size35.out J J J) ?_;refine Y ?_;obtain rfl:=bw h;exact dt (rs:=[.cell 4 35]) (vs:=[.agg #[iV x17.Kind,iV x17.Shape,iV x17.Flags,iV x17.Age,W A18 n18 c18,W A19 n19 c19]]) J (.cons (bd 3 J J agg35.out) .nil) J (cS [1,2,7,8,9] 10) ⟨_,_,_,_,_,_,J,J⟩
def fD (N:Nat)(kb7:Qy->Qy->Qq->Qq->Qz->Int->Option Qh)(p16:Qy)(p17:Qy)(p18:Qq)(p19:Qq)(p20:Qz)(p21:Int):Option Qh:=
 aZ (in64 (p21+1)) (kb7 p16 p17 p18 p19 p20 (p21+1))
def fC (N:Nat)(kb7:Qy->Qy->Qq->Qq->Qz->Int->Option Qh)(y28:Qq):Nat->Int->Qy->Qy->Qq->Qq->Qz->Int->Option Qh
 |0,_,_,_,_,_,_,_=>none
 |m31+1,p32,p33,p34,p35,p36,p37,p38=>bif decide (p32<(y28.length:Int)) then ((aw y28 p32).bind fun x40=>(cz N (⟨(⟨p33,p34⟩:Qg),p35,p36,p37,p38⟩:Qh) x40).bind fun y41=>aZ (in64 (p32+1)) ((fC N kb7 y28 m31) (p32+1) y41.m_.Young y41.m_.Old y41.kept_ y41.met_ y41.seen_ y41.next_)) else (fD N kb7 p33 p34 p35 p36 p37 p38)
def cj (N:Nat):Nat->Qy->Qy->Qq->Qq->Qz->Int->Option Qh
 |0,_,_,_,_,_,_=>none
 |m7+1,p8,p9,p10,p11,p12,p13=>bif decide (p13<(p11.length:Int)) then ((aw p11 p13).bind fun x22=>(cc N (⟨(⟨p8,p9⟩:Qg),p10,p11,p12,p13⟩:Qh) x22).bind fun y23=>(fH N y23).bind fun y28=>fC N (cj N m7) y28 N 0 p8 p9 p10 p11 p12 p13) else (some (⟨(⟨p8,p9⟩:Qg),p10,p11,p12,p13⟩:Qh))
def eE (N:Nat)(a0:Qh):Option Qh:=
 cj N N a0.m_.Young a0.m_.Old a0.kept_ a0.met_ a0.seen_ a0.next_
theorem nU {N:Nat}{a0:Qh}{r:Qh}(h:eE N a0=some r):Okc QB 141 [pV B1 0] ([aK A2 n2 c2 a0.m_.Young,aK A3 n3 c3 a0.m_.Old,bV A4 n4 c4 a0.kept_,ah B1 130 [W A2 n2 c2,W A3 n3 c3,W A4 n4 c4,W A5 n5 c5,.map (some M6),iV a0.next_],bS A5 n5 c5 a0.met_,bj cx dW M6 a0.seen_]) (fun u post=> ∃A0 n0 c0 A1 n1 c1 A2 n2 c2 A3 n3 c3 M4,u=.tuple #[]/\post=[ah B1 130 [W A0 n0 c0,W A1 n1 c1,W A2 n2 c2,W A3 n3 c3,.map (some M4),iV r.next_],aK A0 n0 c0 r.m_.Young,aK A1 n1 c1 r.m_.Old,bV A2 n2 c2 r.kept_,bS A3 n3 c3 r.met_,bj cx dW M4 r.seen_]):=by
 refine cQ Tryz.func141 ?_;refine aH (fun m s L=> ∃p8 p9 p10 p11 p12 p13 A8 n8 c8 A9 n9 c9 A10 n10 c10 A11 n11 c11 M12,cj N m p8 p9 p10 p11 p12 p13=some r/\s=[(0,pV B1 0)]/\L=[aK A8 n8 c8 p8,aK A9 n9 c9 p9,bV A10 n10 c10 p10,bS A11 n11 c11 p11,bj cx dW M12 p12,ah B1 130 [W A8 n8 c8,W A9 n9 c9,W A10 n10 c10,W A11 n11 c11,.map (some M12),iV p13]]) N _ _ ⟨a0.m_.Young,a0.m_.Old,a0.kept_,a0.met_,a0.seen_,a0.next_,A2,n2,c2,A3,n3,c3,A4,n4,c4,A5,n5,c5,M6,h,J,J⟩ sA (cS [0,1,2,4,5,3] 6) ?_;rintro (_|m7) _ _ ⟨p8,p9,p10,p11,p12,p13,A8,n8,c8,A9,n9,c9,A10,n10,c10,A11,n11,c11,M12,h,rfl,rfl⟩
 ·exact aj h
 rw [cj.eq_2] at h;refine ay ?_;refine ay ?_;refine bm I _ (ab _) ?_;refine ew h ?_ ?_<;>intro h
 ·refine ae ?_;refine am (fun s L=> ∃p16 p17 p18 p19 p20 p21 A16 n16 c16 A17 n17 c17 A18 n18 c18 A19 n19 c19 M20,fD N (cj N m7) p16 p17 p18 p19 p20 p21=some r/\s=[(0,pV B1 0)]/\L=[aK A16 n16 c16 p16,aK A17 n17 c17 p17,bV A18 n18 c18 p18,bS A19 n19 c19 p19,bj cx dW M20 p20,ah B1 130 [W A16 n16 c16,W A17 n17 c17,W A18 n18 c18,W A19 n19 c19,.map (some M20),iV p21]]) ?_ ?_
  ·refine ae ?_;refine ay ?_;obtain ⟨x22,lx22,ux22,hx22,h⟩:=aU h;obtain ⟨y23,hy23,h⟩:=aa h;obtain ⟨y28,hy28,h⟩:=aa h;refine dB (t:=[(0,pV B1 0)]) ?_ fv (ab _)
   refine dF I 15 [] [12,13,14] [21,22,23,24,25,26,27,28,29,30,31,32,33,34,35] [[],[],[1],[2],[3],[],[5],[6],[7],[4,8],[9],[0,10],[11],[12],[]] [aV (pV B1 0),
 aV (pV B1 0),
 aV (pV B1 0),
 aV (pV B1 3),
 aV (W A11 n11 c11),
 aV (pV B1 0),
 aV (pV B1 0),
 aV (pV B1 5),
 aV (iV p13),
 aV (dj (W A11 n11 c11) p13.toNat 1 0),
 aV (iV x22),
 aX6 (fun (A26:Option Addr) (n26 c26:Nat) (A27:Option Addr) (n27 c27:Nat)=> .agg #[iV y23.Kind,iV y23.Shape,iV y23.Flags,iV y23.Age,W A26 n26 c26,W A27 n27 c27]) (fun A26 n26 c26 A27 n27 c27=> [az A26 n26 c26 y23.Slots,az A27 n27 c27 y23.More]),
 aX3 (fun (A30:Option Addr) (n30 c30:Nat)=> W A30 n30 c30) (fun A30 n30 c30=> [bS A30 n30 c30 y28]),
 aV (iV (y28.length:Int)),
 aV (iV 0)] [] (ab _) (fj) I rfl rfl ?_ ?_ ?_
   ·exact fi
   ·refine ac J ?_ ?_
    ·exact bN (ai J) J (aP J (ab _))
    refine ac J ?_ ?_
    ·intro A30 n30 c30;exact cB (cC 0 J ap J Ex) J (aP J (ab _))
    refine ac J ?_ ?_
    ·intro A26 n26 c26 A27 n27 c27;refine gj (oR (jp hy28)) J ?_;rintro _ _ ⟨_,⟨A29,n29,c29,rfl,rfl⟩,rfl⟩;exact pv A29 n29 c29 (ab _)
    refine ac J ?_ ?_
    ·refine gj (oC (fN hy23)) J ?_;rintro _ _ ⟨_,⟨A24,n24,c24,A25,n25,c25,rfl,rfl⟩,rfl⟩;exact BN A24 n24 c24 A25 n25 c25 (cS [0,1,5,6,7,3,4,2] 8)
    refine ac J ?_ ?_
    ·exact cB (bF (u:=iV x22) 3 J ap J hx22 ex (fun _ _ _ h=>by rw [show _=_ from h];rfl)) J (aP J (ab _))
    refine ac J ?_ ?_
    ·exact cB (bf 3 J ap J J Ex size3.out lx22 ux22) J (aP J (ab _))
    refine ac J ?_ ?_
    ·exact cB (aL 5 J J ex J) J (aP J (ab _))
    refine ac J ?_ ?_
    ·exact bN (bB J Gz) J (aP J (ab _))
    refine ac J ?_ ?_
    ·exact bN (aX J) J (aP J (ab _))
    refine ac J ?_ ?_
    ·exact bN (ai J) J (aP J (ab _))
    refine ac J ?_ ?_
    ·exact cB (aL 5 J J zG J) J (aP J (ab _))
    refine ac J ?_ ?_
    ·exact bN (bB J ux) J (aP J (ab _))
    refine ac J ?_ ?_
    ·exact bN (aX J) J (aP J (ab _))
    refine ac J ?_ ?_
    ·exact bN (ai J) J (aP J (ab _))
    refine ac J ?_ ?_
    ·exact bN (ai J) J (aP J (ab _))
    exact cp
   intro A30 n30 c30;refine gu (t:=[(33,W A30 n30 c30),(34,iV (y28.length:Int)),(35,iV 0),(0,pV B1 0)]) (L':=[bS A30 n30 c30 y28,aK A8 n8 c8 p8,aK A9 n9 c9 p9,bV A10 n10 c10 p10,bS A11 n11 c11 p11,bj cx dW M12 p12,ah B1 130 [W A8 n8 c8,W A9 n9 c9,W A10 n10 c10,W A11 n11 c11,.map (some M12),iV p13]]) ?_ fv (ab _);refine ft I ?_;refine ae ?_;refine aH (fun m s L=> ∃p32 p33 p34 p35 p36 p37 p38 A33 n33 c33 A34 n34 c34 A35 n35 c35 A36 n36 c36 M37,fC N (cj N m7) y28 m p32 p33 p34 p35 p36 p37 p38=some r/\s=[(0,pV B1 0),(33,W A30 n30 c30),(34,iV (y28.length:Int)),(35,iV p32)]/\L=[bS A30 n30 c30 y28,aK A33 n33 c33 p33,aK A34 n34 c34 p34,bV A35 n35 c35 p35,bS A36 n36 c36 p36,bj cx dW M37 p37,ah B1 130 [W A33 n33 c33,W A34 n34 c34,W A35 n35 c35,W A36 n36 c36,.map (some M37),iV p38]]) N _ _ ⟨0,p8,p9,p10,p11,p12,p13,A8,n8,c8,A9,n9,c9,A10,n10,c10,A11,n11,c11,M12,h,J,J⟩ sA (cS [0,1,2,3,4,5,6] 7) ?_;rintro (_|m31) _ _ ⟨p32,p33,p34,p35,p36,p37,p38,A33,n33,c33,A34,n34,c34,A35,n35,c35,A36,n36,c36,M37,h,rfl,rfl⟩
   ·exact aj h
   rw [fC.eq_2] at h;refine ae ?_;refine ay ?_;refine gH J h ?_ ?_<;>intro h
   ·refine sY ?_;obtain ⟨x40,lx40,ux40,hx40,h⟩:=aU h;refine ae ?_;obtain ⟨y41,k,h⟩:=aa h;refine gD (oC (i4 k)) ?_;rintro _ _ ⟨_,⟨A42,n42,c42,A43,n43,c43,A44,n44,c44,A45,n45,c45,M46,rfl,rfl⟩,rfl⟩;refine ae ?_;obtain ⟨q47,h⟩:=ad h;exact lY
   exact jY
  rintro _ _ ⟨p16,p17,p18,p19,p20,p21,A16,n16,c16,A17,n17,c17,A18,n18,c18,A19,n19,c19,M20,h,rfl,rfl⟩;refine ae ?_;obtain ⟨q48,h⟩:=ad h;exact lY
 exact eY
def lX (N:Nat)(a0:Qh)(p8:Qq):Option Qq:=
 aZ (bi (p8.length+a0.met_.length)) (some (p8++a0.met_))
def ef (N:Nat)(a0:Qh):Nat->Qq->Int->Option Qq
 |0,_,_=>none
 |m9+1,p10,p11=>bif decide (p11<(a0.m_.Old.length:Int)) then (aZ (in64 (2*p11)) (aZ (in64 ((2*p11)+2)) (aZ (bi (p10.length+([(2*p11)+2]:List Int).length)) (aZ (in64 (p11+1)) ((ef N a0 m9) (p10++([(2*p11)+2]:List Int)) (p11+1)))))) else (lX N a0 p10)
def eQ (N:Nat)(a0:Qh):Option Qq:=
 ef N a0 N [] 0
theorem qm {N:Nat}{a0:Qh}{r:Qq}(h:eQ N a0=some r):Okc QB 88 [pV B1 0] ([bu B1 130 [W A2 n2 c2,W A3 n3 c3,W A4 n4 c4,W A5 n5 c5,.map (some M6),iV a0.next_],aK A2 n2 c2 a0.m_.Young,aK A3 n3 c3 a0.m_.Old,bV A4 n4 c4 a0.kept_,bV A5 n5 c5 a0.met_,nB cx dW M6 a0.seen_]) (fun u post=> ∃A0 n0 c0,u=W A0 n0 c0/\post=[bS A0 n0 c0 r]):=by
 refine cQ Tryz.func88 ?_;refine am (fun s L=> ∃p8 A8 n8 c8,lX N a0 p8=some r/\s=[(0,pV B1 0),(2,W none 0 0),(3,W A8 n8 c8)]/\L=[bS A8 n8 c8 p8,aK A2 n2 c2 a0.m_.Young,aK A3 n3 c3 a0.m_.Old,bV A4 n4 c4 a0.kept_,bV A5 n5 c5 a0.met_,nB cx dW M6 a0.seen_,bu B1 130 [W A2 n2 c2,W A3 n3 c3,W A4 n4 c4,W A5 n5 c5,.map (some M6),iV a0.next_]]) ?_ ?_
 ·refine ae ?_;refine aH (fun m s L=> ∃p10 p11 A10 n10 c10,ef N a0 m p10 p11=some r/\s=[(0,pV B1 0),(2,W none 0 0),(3,W A10 n10 c10),(10,iV (a0.m_.Old.length:Int)),(11,iV p11)]/\L=[bS A10 n10 c10 p10,aK A2 n2 c2 a0.m_.Young,aK A3 n3 c3 a0.m_.Old,bV A4 n4 c4 a0.kept_,bV A5 n5 c5 a0.met_,nB cx dW M6 a0.seen_,bu B1 130 [W A2 n2 c2,W A3 n3 c3,W A4 n4 c4,W A5 n5 c5,.map (some M6),iV a0.next_]]) N _ _ ⟨[],0,none,0,0,h,J,J⟩ sA ((aD (da .i64) 3 _).trans (cS [0,2,3,4,5,6,1] 7)) ?_;rintro (_|m9) _ _ ⟨p10,p11,A10,n10,c10,h,rfl,rfl⟩
  ·exact aj h
  rw [ef.eq_2] at h;refine ae ?_;refine ay ?_;refine gH J h ?_ ?_<;>intro h
  ·refine sY ?_;obtain ⟨q14,h⟩:=ad h;refine gE (kA J J q14.1 q14.2) ?_;obtain ⟨q15,h⟩:=ad h;refine ae ?_;refine gD (aG (R:=(da .i64)) (vss:=[[iV ((2*p11)+2)]]) (xs:=[(2*p11)+2]) J (dp _) J J (fun _ _ hr=> .cons J All2.nil)) ?_;rintro _ _ ⟨A16,n16,c16,rfl,rfl⟩;obtain ⟨q17,h⟩:=ad h
   refine iE (ar 1 0 J J ap J J Ex uE J J q17) fun A18 n18 c18=> ?_
   obtain ⟨q19,h⟩:=ad h;exact lY
  exact jY
 rintro _ _ ⟨p8,A8,n8,c8,h,rfl,rfl⟩;refine ae ?_;obtain ⟨q20,h⟩:=ad h
 refine iE (ar 0 4 J J ao J J Ex uE J J q20) fun A21 n21 c21=> ?_
 exact eN
def mj (N:Nat)(p3:Qq):Option Qq:=
 some p3
def qx (N:Nat)(a1:Int):Option Qq:=
 bif decide (a1<0) then none else (aZ (in64 (0 - 0)) (aZ (in64 (a1 - (0 - 0))) (bif decide (0<a1 - (0 - 0)) then (aZ ((0:Int)<(a1 - (0 - 0))/\(a1 - (0 - 0))<=1099511627776) (mj N ([]:List Int))) else (mj N []))))
theorem Au {N:Nat}{a1:Int}{r:Qq}(h:qx N a1=some r):Okc QB 122 [W none 0 0,iV a1] ([]) (fun u post=> ∃A0 n0 c0,u=W A0 n0 c0/\post=[bS A0 n0 c0 r]):=by
 refine cQ Tryz.func122 ?_;refine sZ ?_;refine gH J h ?_ ?_<;>intro h
 ·exact aj h
 refine ae ?_;refine am (fun s L=> ∃p3 A3 n3 c3,mj N p3=some r/\s=[(0,W A3 n3 c3),(4,W none 0 0)]/\L=[bS A3 n3 c3 p3]) ?_ ?_
 ·refine ae ?_;refine lh (xJ J Ex) ?_;refine gE (oS J Ex) ?_;obtain ⟨q4,h⟩:=ad h;refine ae ?_;obtain ⟨q5,h⟩:=ad h;refine ew h ?_ ?_<;>intro h
  ·refine ae ?_;refine gE (xJ J Ex) ?_;refine lh (AQ J Ex size3.out J) ?_;obtain ⟨q7,h⟩:=ad h
   refine iE (yF J J Ex t0 uE J q7.1 q7.2) fun A8 n8 c8=> ?_
   refine gE (oS J Ex) ?_
   refine iE (Ff (R:=(da .i64)) 0 J J Ex size3.out J J) fun A9 n9 c9=> ?_
   exact jN
  refine ae ?_;exact ⟨_,_,⟨[],none,0,0,h,J,J⟩,sA,(aD (da .i64) 3 _).trans (cS [0] 1)⟩
 rintro _ _ ⟨p3,A3,n3,c3,h,rfl,rfl⟩;exact eY
def od (N:Nat)(p12:Qq):Option Qq:=
 some p12
def o9 (N:Nat)(a0_0:Qq)(a0_1:Qq):Option Qq:=
 (qx N ((0+(a0_0.length:Int))+(a0_1.length:Int))).bind fun y9=>aZ (bi (y9.length+a0_0.length)) (aZ (bi ((y9++a0_0).length+a0_1.length)) (od N ((y9++a0_0)++a0_1)))
def kF (N:Nat)(a0_0:Qq)(a0_1:Qq):Option Qq:=
 aZ (in64 (0+(a0_0.length:Int))) (bif decide (0+(a0_0.length:Int)<0) then none else (aZ (in64 ((0+(a0_0.length:Int))+(a0_1.length:Int))) (bif decide ((0+(a0_0.length:Int))+(a0_1.length:Int)<0) then none else (o9 N a0_0 a0_1))))
theorem tY {N:Nat}{a0_0:Qq}{a0_1:Qq}{r:Qq}(h:kF N a0_0 a0_1=some r):Okc QB 69 [.slice (some ⟨B1,0,none⟩) 2 2] ([bu B1 82 [W A2 n2 c2,W A3 n3 c3],bV A2 n2 c2 a0_0,bV A3 n3 c3 a0_1]) (fun u post=> ∃A0 n0 c0,u=W A0 n0 c0/\post=[bS A0 n0 c0 r]):=by
 refine cQ Tryz.func69 ?_;refine am (fun s L=>o9 N a0_0 a0_1=some r/\s=[(0,.slice (some ⟨B1,0,none⟩) 2 2),(2,W none 0 0),(3,iV ((0+(a0_0.length:Int))+(a0_1.length:Int)))]/\L=[bV A2 n2 c2 a0_0,bV A3 n3 c3 a0_1,bu B1 82 [W A2 n2 c2,W A3 n3 c3]]) ?_ ?_
 ·refine ae ?_;refine lh (oS J P8) ?_;refine sq 3 ?_;refine tS ?_;refine ae ?_;refine ay ?_;refine eO J ?_;refine sY ?_;refine lh (nO J J P8 size82.out (by decide) (by decide)) ?_;obtain ⟨q5,h⟩:=ad h;refine ew h ?_ ?_<;>intro h
  ·exact aj h
  refine ae ?_;refine lh (cr J J (by decide) (by decide)) ?_;refine tS ?_;refine ae ?_;refine ay ?_;refine eO J ?_;refine sY ?_;refine lh (nO J J P8 size82.out (by decide) (by decide)) ?_;obtain ⟨q7,h⟩:=ad h;refine ew h ?_ ?_<;>intro h
  ·exact aj h
  refine ae ?_;refine lh (cr J J (by decide) (by decide)) ?_;refine tS ?_;refine ae ?_;refine ay ?_;refine jT J ?_;exact jY
 rintro _ _ ⟨h,rfl,rfl⟩;refine ae ?_;obtain ⟨y9,k,h⟩:=aa h
 refine iE (oR (Au k)) fun A10 n10 c10=> ?_
 refine am (fun s L=> ∃p12 A12 n12 c12,od N p12=some r/\s=[(2,W none 0 0),(6,W A12 n12 c12)]/\L=[bS A12 n12 c12 p12]) ?_ ?_
 ·refine ae ?_;refine lh (oS J P8) ?_;refine sq 3 ?_;refine tS ?_;refine ae ?_;refine ay ?_;refine eO J ?_;refine sY ?_;refine lh (nO J J P8 size82.out (by decide) (by decide)) ?_;obtain ⟨q13,h⟩:=ad h
  refine iE (ar 0 1 J J ao J J Ex uE J J q13) fun A14 n14 c14=> ?_
  refine lh (cr J J (by decide) (by decide)) ?_;refine tS ?_;refine ae ?_;refine ay ?_;refine eO J ?_;refine sY ?_;refine lh (nO J J P8 size82.out (by decide) (by decide)) ?_;obtain ⟨q15,h⟩:=ad h
  refine iE (ar 0 2 J J ao J J Ex uE J J q15) fun A16 n16 c16=> ?_
  refine lh (cr J J (by decide) (by decide)) ?_;refine tS ?_;refine ae ?_;refine ay ?_;refine jT J ?_;exact jY
 rintro _ _ ⟨p12,A12,n12,c12,h,rfl,rfl⟩;exact eY
def tT (N:Nat)(a0:Ql):Option Bool:=
 (bif decide (a0.Kind=8) then ((fF N a0).bind fun y5=>some y5) else (some false)).bind fun b4=>some b4
theorem Cb {N:Nat}{a0:Ql}{r:Bool}(h:tT N a0=some r):Okc QB 149 [.agg #[iV a0.Kind,iV a0.Shape,iV a0.Flags,iV a0.Age,W A1 n1 c1,W A2 n2 c2]] ([az A1 n1 c1 a0.Slots,az A2 n2 c2 a0.More]) (fun u post=>u=.bool r/\post=[]):=by
 refine cQ Tryz.func149 ?_;intro B3;refine ae ?_;obtain ⟨b4,hb4,h⟩:=aa h;refine aQ 3 9 b4 ?_ ?_
 ·clear h;refine aM 6 J (fun g4=> ?_) (fun g4=> ?_)
  ·have h:=aE g4 hb4;refine ae ?_;obtain ⟨y5,k,h⟩:=aa h;refine gU (oR (li k)) (bx g4 J) ?_;exact gY
  have h:=aF g4 hb4;exact gY
 exact eY
def ed (N:Nat){σ:Type}(fy:(Qn×Qn)->σ->Option (Bool×σ))(a1:Ql):Nat->Int->σ->Option σ
 |0,_,_=>none
 |m4+1,p5,p6=>aZ (in64 (p5+1)) (bif decide (p5+1<(a1.More.length:Int)) then ((aw a1.More p5).bind fun x9=>aZ (in64 (p5+1)) ((aw a1.More (p5+1)).bind fun x11=>(fy (x9,x11) p6).bind fun y12=>bif !y12.1 then (some y12.2) else (aZ (in64 (p5+2)) ((ed N fy a1 m4) (p5+2) y12.2)))) else (some p6))
def iO (N:Nat){σ:Type}(a1:Ql)(fy:(Qn×Qn)->σ->Option (Bool×σ))(s0:σ):Option σ:=
 ed N fy a1 N 0 s0
theorem rq {N:Nat}{σ:Type}{a1:Ql}{fy:(Qn×Qn)->σ->Option (Bool×σ)}{s0:σ}{r:σ}(h:iO N a1 fy s0=some r){l:Nat}{G:σ->List Chunk}(hY:ts QB l G (fun x=> [(bD x.1),(bD x.2)]) fy):Okc QB 207 [.func (.yield l) #[] #[],pV B1 0] (bu B1 35 [iV a1.Kind,iV a1.Shape,iV a1.Flags,iV a1.Age,W A2 n2 c2,W A3 n3 c3]::az A2 n2 c2 a1.Slots::az A3 n3 c3 a1.More::(G s0)) (fun u post=>u=.tuple #[]/\post=G r):=by
 refine cQ Tryz.func207 ?_;refine aH (fun m s L=> ∃p5 p6,ed N fy a1 m p5 p6=some r/\s=[(0,.func (.yield l) #[] #[]),(1,pV B1 0),(3,iV p5)]/\L=az A2 n2 c2 a1.Slots::az A3 n3 c3 a1.More::bu B1 35 [iV a1.Kind,iV a1.Shape,iV a1.Flags,iV a1.Age,W A2 n2 c2,W A3 n3 c3]::(G p6)) N _ _ ⟨0,s0,h,J,J⟩ sA (cS [1,2,0] 3) ?_;rintro (_|m4) _ _ ⟨p5,p6,h,rfl,rfl⟩
 ·exact aj h
 rw [ed.eq_2] at h;refine sZ ?_;obtain ⟨q7,h⟩:=ad h;refine ew h ?_ ?_<;>intro h
 ·refine sY ?_;refine ay ?_;obtain ⟨x9,lx9,ux9,hx9,h⟩:=aU h;obtain ⟨q10,h⟩:=ad h;obtain ⟨x11,lx11,ux11,hx11,h⟩:=aU h;refine dB (t:=[(0,.func (.yield l) #[] #[]),(1,pV B1 0),(3,iV p5)]) ?_ fv (ab _)
  refine dF I 12 [] [0,5,11] [12,13,14,15,16,17,18,19,20,21,22,23] [[],[],[1],[],[2,3],[4],[],[6],[],[8],[7,9],[10]] [aV (.func (.yield l) #[] #[]),
 aV (pV B1 5),
 aV (W A3 n3 c3),
 aV (iV p5),
 aV (dj (W A3 n3 c3) p5.toNat 3 0),
 aV ((bD x9)),
 aV (pV B1 5),
 aV (W A3 n3 c3),
 aV (iV p5),
 aV (iV (p5+1)),
 aV (dj (W A3 n3 c3) ((p5+1).toNat) 3 0),
 aV ((bD x11))] [] (ab _) (fj) I rfl rfl ?_ ?_ ?_
  ·exact fi
  ·refine ac J ?_ ?_
   ·exact cB (dm (us:=be x11) 1 J ao J hx11 agg37.out (fun _ _ _ h=>by rw [show _=_ from h];rfl)) J (aP J (ab _))
   refine ac J ?_ ?_
   ·exact cB (bf 1 J ao J J z9 size37.out lx11 ux11) J (aP J (ab _))
   refine ac J ?_ ?_
   ·exact bN (cr J J q10.1 q10.2) J (aP J (ab _))
   refine ac J ?_ ?_
   ·exact bN (ai J) J (aP J (ab _))
   refine ac J ?_ ?_
   ·exact cB (lO 2 J J dr J) J (aP J (ab _))
   refine ac J ?_ ?_
   ·exact bN (bB J dT) J (aP J (ab _))
   refine ac J ?_ ?_
   ·exact cB (dm (us:=be x9) 1 J ao J hx9 agg37.out (fun _ _ _ h=>by rw [show _=_ from h];rfl)) J (aP J (ab _))
   refine ac J ?_ ?_
   ·exact cB (bf 1 J ao J J z9 size37.out lx9 ux9) J (aP J (ab _))
   refine ac J ?_ ?_
   ·exact bN (ai J) J (aP J (ab _))
   refine ac J ?_ ?_
   ·exact cB (lO 2 J J dr J) J (aP J (ab _))
   refine ac J ?_ ?_
   ·exact bN (bB J dT) J (aP J (ab _))
   refine ac J ?_ ?_
   ·exact bN (ai J) J (aP J (ab _))
   exact cp
  refine gu (t:=[(12,.func (.yield l) #[] #[]),(17,(bD x9)),(23,(bD x11)),(0,.func (.yield l) #[] #[]),(1,pV B1 0),(3,iV p5)]) (L':=az A2 n2 c2 a1.Slots::az A3 n3 c3 a1.More::bu B1 35 [iV a1.Kind,iV a1.Shape,iV a1.Flags,iV a1.Age,W A2 n2 c2,W A3 n3 c3]::(G p6)) ?_ fv (ab _);obtain ⟨y12,k,h⟩:=aa h;refine jt 12 J I (xE (a:=(x9,x11)) [az A2 n2 c2 a1.Slots,az A3 n3 c3 a1.More,bu B1 35 [iV a1.Kind,iV a1.Shape,iV a1.Flags,iV a1.Age,W A2 n2 c2,W A3 n3 c3]] hY k J J) J J J ?_;rintro _ _ ⟨rfl,rfl⟩;refine rc 13 J I (pp J) J J J ?_;refine ft I ?_;refine ew h ?_ ?_<;>intro h
  ·exact eY
  refine ae ?_;obtain ⟨q14,h⟩:=ad h;exact lY
 exact eY
def lG (N:Nat)(a0:Ql):Option Unit:=
 some ()
theorem vF {N:Nat}{a0:Ql}{r:Unit}(h:lG N a0=some r):Okc QB 184 [.agg #[iV a0.Kind,iV a0.Shape,iV a0.Flags,iV a0.Age,W A1 n1 c1,W A2 n2 c2]] ([az A1 n1 c1 a0.Slots,az A2 n2 c2 a0.More]) (fun u post=> ∃B900,u=.func (.func 207) #[] #[pV B900 0]/\post=[ah B900 35 [iV a0.Kind,iV a0.Shape,iV a0.Flags,iV a0.Age,W A1 n1 c1,W A2 n2 c2]]):=by
 refine cQ Tryz.func184 ?_;intro B3;refine ae ?_;refine lh (ei J) ?_;exact eN
def ir (N:Nat)(a1:Qq)(x12:Qn×Qn):(Qq)->Option (Option Exit×Qq)
 |p13=>(bif decide (x12.2.Kind=7) then (some true) else (some (decide (x12.2.Kind=9)))).bind fun b18=>(bif b18 then ((dL N a1 x12.1.N).bind fun y20=>some y20) else (some false)).bind fun b19=>bif b19 then (aZ (bi (p13.length+([x12.2.N]:List Int).length)) (some (none,p13++([x12.2.N]:List Int)))) else (some (none,p13))
def oa (N:Nat)(a0:Ql)(a1:Qq):Option Qq:=
 (tT N a0).bind fun y6=>bif !y6 then (some []) else ((lG N a0).bind fun y10=>(iO N a0 (dn (fun x st=>ir N a1 x st)) (none,[])).bind fun y14=>qM y14.1 (some y14.2) none (fun _=>none))
theorem xW {N:Nat}{a0:Ql}{a1:Qq}{r:Qq}(h:oa N a0 a1=some r):Okc QB 180 [.agg #[iV a0.Kind,iV a0.Shape,iV a0.Flags,iV a0.Age,W A1 n1 c1,W A2 n2 c2],W A3 n3 c3] ([az A1 n1 c1 a0.Slots,az A2 n2 c2 a0.More,bV A3 n3 c3 a1]) (fun u post=> ∃A0 n0 c0,u=W A0 n0 c0/\post=[bS A0 n0 c0 r]):=by
 refine cQ Tryz.func180 ?_;intro B4
 refine gg fun B5=> ?_
 refine sZ ?_;obtain ⟨y6,k,h⟩:=aa h;refine kw (oR (Cb k)) ?_;refine gH J h ?_ ?_<;>intro h
 ·refine ae ?_;obtain rfl:=bw h;exact js J J ((aD (da .i64) 3 _).trans (cS [0] 6)) ⟨_,_,_,J,J⟩
 refine gg fun B9=> ?_
 refine sZ ?_;obtain ⟨y10,k,h⟩:=aa h;refine gD (oR (vF k)) ?_;rintro _ _ ⟨_,⟨B11,rfl,rfl⟩,rfl⟩;refine ae ?_;refine dB ?_ aW (ip 0 J);obtain ⟨y14,k,h⟩:=aa h;refine uD (en:=(fun x=> [(bD x.1),(bD x.2)])) (fun x st=>ir N a1 x st) (fun (st:Qq) (mz:((Option Addr×Nat×Nat)))=> [bV A3 n3 c3 a1,ah B5 82 [W A3 n3 c3],eu (da .i64) 3 (.slice mz.1 mz.2.1 mz.2.2) st,ah B9 82 [.slice mz.1 mz.2.1 mz.2.2]]) [bu B11 35 [iV a0.Kind,iV a0.Shape,iV a0.Flags,iV a0.Age,W A1 n1 c1,W A2 n2 c2],az A1 n1 c1 a0.Slots,az A2 n2 c2 a0.More] ([]) ((none,0,0)) J J call207.out J (fun _=>J) (fun l G hY=>(rq k hY).mono fun _ _ hh=>hh.2) ((aD (da .i64) 3 _).trans (ce [1,5,6] [] [7,3,0,2] 8 J)) h ?_ ?_ ?_ ?_
 ·rintro l x12 p13 je sr12 ⟨A13,n13,c13⟩ h;replace h:ir N a1 x12 p13=some (je,sr12):=h;simp only [Ad,List.zip_cons_cons,List.zip_nil_left,List.zip_nil_right,List.reverse_cons,List.reverse_nil,QH,List.cons_append]
  refine gg fun B16=> ?_
  intro B17;refine ae ?_;refine gS 4 22 18 h ?_;intro b18 h;refine ae ?_;obtain ⟨b19,hb19,h⟩:=aa h;refine aQ 5 28 b19 ?_ ?_
  ·clear h;refine aM 23 J (fun g19=> ?_) (fun g19=> ?_)
   ·have h:=aE g19 hb19;refine ae ?_;obtain ⟨y20,k,h⟩:=aa h;refine gU (oR (jZ k)) (bx g19 J) ?_;exact gY
   have h:=aF g19 hb19;exact gY
  refine ew h ?_ ?_<;>intro h
  ·refine ae ?_;refine gD (aG (R:=(da .i64)) (vss:=[[iV x12.2.N]]) (xs:=[x12.2.N]) J (dp _) J J (fun _ _ hr=> .cons J All2.nil)) ?_;rintro _ _ ⟨A22,n22,c22,rfl,rfl⟩;obtain ⟨q23,h⟩:=ad h
   refine iE (ar 5 0 J J ap J J Ex uE J J q23) fun A24 n24 c24=> ?_
   obtain ⟨rfl,rfl⟩:=Prod.mk.inj (Option.some.inj h);exact BP ((cS [3,4,5,6] 7).trans (fU (A24,n24,c24) J))
  refine ae ?_;obtain ⟨rfl,rfl⟩:=Prod.mk.inj (Option.some.inj h);exact BP ((cS [2,3,4,5] 6).trans (fU (A13,n13,c13) J))
 ·rintro ⟨A13,n13,c13⟩ h;refine pS ([bV A3 n3 c3 a1,ah B5 82 [W A3 n3 c3],bS A13 n13 c13 y14.2,ah B9 82 [W A13 n13 c13]]) J ?_;exact eY
 ·rintro ⟨A13,n13,c13⟩ h;exact aj h
 rintro i ⟨A13,n13,c13⟩ h;exact aj h
theorem BB {r:Qq}: ∀v post,((fun (u:Value) (post:List Chunk)=> ∃A0 n0 c0,u=W A0 n0 c0/\post=[bS A0 n0 c0 r])) v post-> ∀c∈post,fu c:=by
 rintro _ _ ⟨_,_,_,rfl,rfl⟩;exact hU gr (ax)
end Go.Proofs.YthepenpebkjdfaaGreat
namespace Go.Proofs.YthepenpebkjdfaaGreat
variable {A1 A2 A3 A4 A5 A8 A9:Option Addr} {B1 B6 M2 M6 M7 c1 c2 c3 c4 c5 c8 c9 n1 n2 n3 n4 n5 n8 n9:Nat}
open Go.RowKit Asn
set_option maxRecDepth 20000
def lW (N:Nat)(a0:Qh)(p10:Qy)(p11:Qy)(p12:Qq)(p13:Qq)(p14:Qz)(p15:Int):Option (Bool×Qh):=
 some (decide ((a0.met_.length:Int)<(p13.length:Int)),(⟨(⟨p10,p11⟩:Qg),p12,p13,p14,p15⟩:Qh))
def iB (N:Nat)(kb21:Int->Qy->Qy->Qq->Qq->Qz->Int->Option (Bool×Qh))(a0:Qh)(y18:Qq)(p22:Int)(y7:Qq)(p31:Qy)(p32:Qy)(p33:Qq)(p34:Qq)(p35:Qz)(p36:Int):Option (Bool×Qh):=
 aZ (in64 (p22+1)) (kb21 (p22+1) p31 p32 p33 p34 p35 p36)
def iA (N:Nat)(kb21:Int->Qy->Qy->Qq->Qq->Qz->Int->Option (Bool×Qh))(a0:Qh)(y18:Qq)(p22:Int)(y41:Qq)(y7:Qq):Nat->Int->Qy->Qy->Qq->Qq->Qz->Int->Option (Bool×Qh)
 |0,_,_,_,_,_,_,_=>none
 |m43+1,p44,p45,p46,p47,p48,p49,p50=>bif decide (p44<(y41.length:Int)) then ((aw y41 p44).bind fun x52=>(cz N (⟨(⟨p45,p46⟩:Qg),p47,p48,p49,p50⟩:Qh) x52).bind fun y53=>aZ (in64 (p44+1)) ((iA N kb21 a0 y18 p22 y41 y7 m43) (p44+1) y53.m_.Young y53.m_.Old y53.kept_ y53.met_ y53.seen_ y53.next_)) else (iB N kb21 a0 y18 p22 y7 p45 p46 p47 p48 p49 p50)
def ck (N:Nat)(a0:Qh)(y18:Qq)(y7:Qq):Nat->Int->Qy->Qy->Qq->Qq->Qz->Int->Option (Bool×Qh)
 |0,_,_,_,_,_,_,_=>none
 |m21+1,p22,p23,p24,p25,p26,p27,p28=>bif decide (p22<(y18.length:Int)) then ((aw y18 p22).bind fun x37=>(cc N (⟨(⟨p23,p24⟩:Qg),p25,p26,p27,p28⟩:Qh) x37).bind fun y38=>(oa N y38 y7).bind fun y41=>iA N (ck N a0 y18 y7 m21) a0 y18 p22 y41 y7 N 0 p23 p24 p25 p26 p27 p28) else (lW N a0 p23 p24 p25 p26 p27 p28)
def gl (N:Nat)(a0:Qh):Option (Bool×Qh):=
 (eQ N a0).bind fun y7=>(kF N a0.kept_ a0.met_).bind fun y18=>ck N a0 y18 y7 N 0 a0.m_.Young a0.m_.Old a0.kept_ a0.met_ a0.seen_ a0.next_
theorem wL {N:Nat}{a0:Qh}{r:Bool×Qh}(h:gl N a0=some r):Okc QB 142 [pV B1 0] ([aK A2 n2 c2 a0.m_.Young,aK A3 n3 c3 a0.m_.Old,bV A4 n4 c4 a0.kept_,ah B1 130 [W A2 n2 c2,W A3 n3 c3,W A4 n4 c4,W A5 n5 c5,.map (some M6),iV a0.next_],bS A5 n5 c5 a0.met_,bj cx dW M6 a0.seen_]) (fun u post=> ∃A0 n0 c0 A1 n1 c1 A2 n2 c2 A3 n3 c3 M4,u=.bool r.1/\post=[ah B1 130 [W A0 n0 c0,W A1 n1 c1,W A2 n2 c2,W A3 n3 c3,.map (some M4),iV r.2.next_],aK A0 n0 c0 r.2.m_.Young,aK A1 n1 c1 r.2.m_.Old,bV A2 n2 c2 r.2.kept_,bS A3 n3 c3 r.2.met_,bj cx dW M4 r.2.seen_]):=by
 refine cQ Tryz.func142 ?_;obtain ⟨y7,k,h⟩:=aa h
 refine iE (oR (qm k)) fun A8 n8 c8=> ?_
 refine am (fun s L=> ∃p10 p11 p12 p13 p14 p15 A10 n10 c10 A11 n11 c11 A12 n12 c12 A13 n13 c13 M14,lW N a0 p10 p11 p12 p13 p14 p15=some r/\s=[(0,pV B1 0),(2,.bool false),(3,iV (a0.met_.length:Int))]/\L=[aK A10 n10 c10 p10,aK A11 n11 c11 p11,bV A12 n12 c12 p12,bS A13 n13 c13 p13,bj cx dW M14 p14,ah B1 130 [W A10 n10 c10,W A11 n11 c11,W A12 n12 c12,W A13 n13 c13,.map (some M14),iV p15]]) ?_ ?_
 ·refine ay ?_;obtain ⟨y18,hy18,h⟩:=aa h;refine dB (t:=[(0,pV B1 0),(2,.bool false),(3,iV (a0.met_.length:Int)),(4,W A8 n8 c8)]) ?_ fv (ab _)
  refine dF I 12 [] [9,10,11] [16,17,18,19,20,21,22,23,24,25,26,27] [[],[0],[1],[2],[],[4],[5],[6],[3,7],[8],[9],[]] [aV (pV B1 0),
 aV (pV B1 0),
 aV (pV B1 2),
 aV (W A4 n4 c4),
 aV (pV B1 0),
 aV (pV B1 0),
 aV (pV B1 3),
 aV (W A5 n5 c5),
 aX1 (fun (B17:Nat)=> .slice (some ⟨B17,0,none⟩) 2 2) (fun B17=> [ah B17 82 [W A4 n4 c4,W A5 n5 c5]]),
 aX3 (fun (A20:Option Addr) (n20 c20:Nat)=> W A20 n20 c20) (fun A20 n20 c20=> [bS A20 n20 c20 y18]),
 aV (iV (y18.length:Int)),
 aV (iV 0)] [] (ab _) (fj) I rfl rfl ?_ ?_ ?_
  ·exact fi
  ·refine ac J ?_ ?_
   ·exact bN (ai J) J (aP J (ab _))
   refine ac J ?_ ?_
   ·intro A20 n20 c20;exact cB (cC 0 J ap J Ex) J (aP J (ab _))
   refine ac J ?_ ?_
   ·intro B17;refine gj (oR (tY hy18)) J ?_;rintro _ _ ⟨_,⟨A19,n19,c19,rfl,rfl⟩,rfl⟩;exact pv A19 n19 c19 (ab _)
   refine ac J ?_ ?_
   ·refine gj (eD (cs:=[W A4 n4 c4,W A5 n5 c5]) J (EF _ _ _ _ _ _)) J ?_;rintro _ _ ⟨B16,rfl,rfl⟩;exact FC B16 (ab _)
   refine ac J ?_ ?_
   ·exact cB (aL 4 J J zG J) J (aP J (ab _))
   refine ac J ?_ ?_
   ·exact bN (bB J ux) J (aP J (ab _))
   refine ac J ?_ ?_
   ·exact bN (aX J) J (aP J (ab _))
   refine ac J ?_ ?_
   ·exact bN (ai J) J (aP J (ab _))
   refine ac J ?_ ?_
   ·exact cB (aL 4 J J zG J) J (aP J (ab _))
   refine ac J ?_ ?_
   ·exact bN (bB J GA) J (aP J (ab _))
   refine ac J ?_ ?_
   ·exact bN (aX J) J (aP J (ab _))
   refine ac J ?_ ?_
   ·exact bN (ai J) J (aP J (ab _))
   exact cp
  intro A20 n20 c20;refine gu (t:=[(25,W A20 n20 c20),(26,iV (y18.length:Int)),(27,iV 0),(0,pV B1 0),(2,.bool false),(3,iV (a0.met_.length:Int)),(4,W A8 n8 c8)]) (L':=[bS A20 n20 c20 y18,bS A8 n8 c8 y7,aK A2 n2 c2 a0.m_.Young,aK A3 n3 c3 a0.m_.Old,bV A4 n4 c4 a0.kept_,ah B1 130 [W A2 n2 c2,W A3 n3 c3,W A4 n4 c4,W A5 n5 c5,.map (some M6),iV a0.next_],bS A5 n5 c5 a0.met_,bj cx dW M6 a0.seen_]) ?_ fv (ab _);refine ft I ?_;refine ae ?_;refine aH (fun m s L=> ∃p22 p23 p24 p25 p26 p27 p28 A23 n23 c23 A24 n24 c24 A25 n25 c25 A26 n26 c26 M27,ck N a0 y18 y7 m p22 p23 p24 p25 p26 p27 p28=some r/\s=[(0,pV B1 0),(2,.bool false),(3,iV (a0.met_.length:Int)),(4,W A8 n8 c8),(25,W A20 n20 c20),(26,iV (y18.length:Int)),(27,iV p22)]/\L=[bS A8 n8 c8 y7,bS A20 n20 c20 y18,aK A23 n23 c23 p23,aK A24 n24 c24 p24,bV A25 n25 c25 p25,bS A26 n26 c26 p26,bj cx dW M27 p27,ah B1 130 [W A23 n23 c23,W A24 n24 c24,W A25 n25 c25,W A26 n26 c26,.map (some M27),iV p28]]) N _ _ ⟨0,a0.m_.Young,a0.m_.Old,a0.kept_,a0.met_,a0.seen_,a0.next_,A2,n2,c2,A3,n3,c3,A4,n4,c4,A5,n5,c5,M6,h,J,J⟩ sA (cS [1,0,2,3,4,6,7,5] 8) ?_;rintro (_|m21) _ _ ⟨p22,p23,p24,p25,p26,p27,p28,A23,n23,c23,A24,n24,c24,A25,n25,c25,A26,n26,c26,M27,h,rfl,rfl⟩
  ·exact aj h
  rw [ck.eq_2] at h;refine ae ?_;refine ay ?_;refine gH J h ?_ ?_<;>intro h
  ·refine ae ?_;refine am (fun s L=> ∃p31 p32 p33 p34 p35 p36 A31 n31 c31 A32 n32 c32 A33 n33 c33 A34 n34 c34 M35,iB N (ck N a0 y18 y7 m21) a0 y18 p22 y7 p31 p32 p33 p34 p35 p36=some r/\s=[(0,pV B1 0),(2,.bool false),(3,iV (a0.met_.length:Int)),(4,W A8 n8 c8),(25,W A20 n20 c20),(26,iV (y18.length:Int)),(27,iV p22)]/\L=[bS A8 n8 c8 y7,bS A20 n20 c20 y18,aK A31 n31 c31 p31,aK A32 n32 c32 p32,bV A33 n33 c33 p33,bS A34 n34 c34 p34,bj cx dW M35 p35,ah B1 130 [W A31 n31 c31,W A32 n32 c32,W A33 n33 c33,W A34 n34 c34,.map (some M35),iV p36]]) ?_ ?_
   ·refine ae ?_;obtain ⟨x37,lx37,ux37,hx37,h⟩:=aU h;refine ae ?_;obtain ⟨y38,k,h⟩:=aa h
    refine BM (oC (fN k)) fun A39 n39 c39 A40 n40 c40=> ?_
    obtain ⟨y41,k,h⟩:=aa h
    refine iE (oR (xW k)) fun A42 n42 c42=> ?_
    refine aH (fun m s L=> ∃p44 p45 p46 p47 p48 p49 p50 A45 n45 c45 A46 n46 c46 A47 n47 c47 A48 n48 c48 M49,iA N (ck N a0 y18 y7 m21) a0 y18 p22 y41 y7 m p44 p45 p46 p47 p48 p49 p50=some r/\s=[(0,pV B1 0),(2,.bool false),(3,iV (a0.met_.length:Int)),(4,W A8 n8 c8),(25,W A20 n20 c20),(26,iV (y18.length:Int)),(27,iV p22),(35,W A42 n42 c42),(36,iV (y41.length:Int)),(37,iV p44)]/\L=[bS A8 n8 c8 y7,bS A20 n20 c20 y18,bS A42 n42 c42 y41,aK A45 n45 c45 p45,aK A46 n46 c46 p46,bV A47 n47 c47 p47,bS A48 n48 c48 p48,bj cx dW M49 p49,ah B1 130 [W A45 n45 c45,W A46 n46 c46,W A47 n47 c47,W A48 n48 c48,.map (some M49),iV p50]]) N _ _ ⟨0,p23,p24,p25,p26,p27,p28,A23,n23,c23,A24,n24,c24,A25,n25,c25,A26,n26,c26,M27,h,J,J⟩ sA (cS [6,7,0,8,9,10,4,5,3] 11) ?_;rintro (_|m43) _ _ ⟨p44,p45,p46,p47,p48,p49,p50,A45,n45,c45,A46,n46,c46,A47,n47,c47,A48,n48,c48,M49,h,rfl,rfl⟩
    ·exact aj h
    rw [iA.eq_2] at h;refine ae ?_;refine ay ?_;refine gH J h ?_ ?_<;>intro h
    ·refine sY ?_;obtain ⟨x52,lx52,ux52,hx52,h⟩:=aU h;refine ae ?_;obtain ⟨y53,k,h⟩:=aa h;refine gD (oC (i4 k)) ?_;rintro _ _ ⟨_,⟨A54,n54,c54,A55,n55,c55,A56,n56,c56,A57,n57,c57,M58,rfl,rfl⟩,rfl⟩;refine ae ?_;obtain ⟨q59,h⟩:=ad h;exact lY
    exact jY
   rintro _ _ ⟨p31,p32,p33,p34,p35,p36,A31,n31,c31,A32,n32,c32,A33,n33,c33,A34,n34,c34,M35,h,rfl,rfl⟩;refine ae ?_;obtain ⟨q60,h⟩:=ad h;exact lY
  exact jY
 rintro _ _ ⟨p10,p11,p12,p13,p14,p15,A10,n10,c10,A11,n11,c11,A12,n12,c12,A13,n13,c13,M14,h,rfl,rfl⟩;exact eY
def tI (N:Nat)(p98:Qy)(p99:Qy)(p100:Qq)(p101:Qq)(p102:Qz)(p103:Int):Option Qh:=
 some (⟨(⟨p98,p99⟩:Qg),p100,p101,p102,p103⟩:Qh)
def jI (N:Nat):Nat->Qy->Qy->Qq->Qq->Qz->Int->Option Qh
 |0,_,_,_,_,_,_=>none
 |m104+1,p105,p106,p107,p108,p109,p110=>(gl N (⟨(⟨p105,p106⟩:Qg),p107,p108,p109,p110⟩:Qh)).bind fun y111=>bif y111.1 then ((eE N y111.2).bind fun y118=>(jI N m104) y118.m_.Young y118.m_.Old y118.kept_ y118.met_ y118.seen_ y118.next_) else (tI N y111.2.m_.Young y111.2.m_.Old y111.2.kept_ y111.2.met_ y111.2.seen_ y111.2.next_)
def tJ (N:Nat)(p45:Qy)(p46:Qy)(p47:Qq)(p48:Qq)(p49:Qz)(p50:Int):Option Qh:=
 (eE N (⟨(⟨p45,p46⟩:Qg),p47,p48,p49,p50⟩:Qh)).bind fun y91=>jI N N y91.m_.Young y91.m_.Old y91.kept_ y91.met_ y91.seen_ y91.next_
def pL (N:Nat)(kb51:Int->Qy->Qy->Qq->Qq->Qz->Int->Option Qh)(a2:Qq)(p52:Int)(p61:Qy)(p62:Qy)(p63:Qq)(p64:Qq)(p65:Qz)(p66:Int):Option Qh:=
 aZ (in64 (p52+1)) (kb51 (p52+1) p61 p62 p63 p64 p65 p66)
def pK (N:Nat)(kb51:Int->Qy->Qy->Qq->Qq->Qz->Int->Option Qh)(a2:Qq)(p52:Int)(y71:Qq):Nat->Int->Qy->Qy->Qq->Qq->Qz->Int->Option Qh
 |0,_,_,_,_,_,_,_=>none
 |m73+1,p74,p75,p76,p77,p78,p79,p80=>bif decide (p74<(y71.length:Int)) then ((aw y71 p74).bind fun x82=>(cz N (⟨(⟨p75,p76⟩:Qg),p77,p78,p79,p80⟩:Qh) x82).bind fun y83=>aZ (in64 (p74+1)) ((pK N kb51 a2 p52 y71 m73) (p74+1) y83.m_.Young y83.m_.Old y83.kept_ y83.met_ y83.seen_ y83.next_)) else (pL N kb51 a2 p52 p75 p76 p77 p78 p79 p80)
def dY (N:Nat)(a2:Qq):Nat->Int->Qy->Qy->Qq->Qq->Qz->Int->Option Qh
 |0,_,_,_,_,_,_,_=>none
 |m51+1,p52,p53,p54,p55,p56,p57,p58=>bif decide (p52<(a2.length:Int)) then ((aw a2 p52).bind fun x67=>(cc N (⟨(⟨p53,p54⟩:Qg),p55,p56,p57,p58⟩:Qh) x67).bind fun y68=>(fH N y68).bind fun y71=>pK N (dY N a2 m51) a2 p52 y71 N 0 p53 p54 p55 p56 p57 p58) else (tJ N p53 p54 p55 p56 p57 p58)
def ve (N:Nat)(a2:Qq)(p9:Qy)(p10:Qy)(p11:Qq)(p12:Qq)(p13:Qz)(p14:Int):Option Qh:=
 dY N a2 N 0 p9 p10 p11 p12 p13 p14
def pM (N:Nat)(kb15:Int->Qy->Qy->Qq->Qq->Qz->Int->Option Qh)(a1:Qr)(p16:Int)(a2:Qq)(p27:Qy)(p28:Qy)(p29:Qq)(p30:Qq)(p31:Qz)(p32:Int):Option Qh:=
 aZ (in64 (p16+1)) (kb15 (p16+1) p27 p28 p29 p30 p31 p32)
def gZ (N:Nat)(a1:Qr)(a2:Qq):Nat->Int->Qy->Qy->Qq->Qq->Qz->Int->Option Qh
 |0,_,_,_,_,_,_,_=>none
 |m15+1,p16,p17,p18,p19,p20,p21,p22=>bif decide (p16<(a1.length:Int)) then ((aw a1 p16).bind fun x33=>(kN N x33).bind fun y35=>bif y35.2 then ((cz N (⟨(⟨p17,p18⟩:Qg),p19,p20,p21,p22⟩:Qh) y35.1).bind fun y37=>pM N (gZ N a1 a2 m15) a1 p16 a2 y37.m_.Young y37.m_.Old y37.kept_ y37.met_ y37.seen_ y37.next_) else (pM N (gZ N a1 a2 m15) a1 p16 a2 p17 p18 p19 p20 p21 p22)) else (ve N a2 p17 p18 p19 p20 p21 p22)
def nV (N:Nat)(a0:Qg)(a1:Qr)(a2:Qq):Option Qh:=
 gZ N a1 a2 N 0 a0.Young a0.Old a2 [] ([]:Qz) 0
theorem Fi {N:Nat}{a0:Qg}{a1:Qr}{a2:Qq}{r:Qh}(h:nV N a0 a1 a2=some r):Okc QB 86 [.agg #[W A1 n1 c1,W A2 n2 c2],W A3 n3 c3,W A4 n4 c4] ([aK A1 n1 c1 a0.Young,aK A2 n2 c2 a0.Old,az A3 n3 c3 a1,bV A4 n4 c4 a2]) (fun u post=> ∃B0 A1 n1 c1 A2 n2 c2 A3 n3 c3 A4 n4 c4 M5,u=pV B0 0/\post=[ah B0 130 [W A1 n1 c1,W A2 n2 c2,W A3 n3 c3,W A4 n4 c4,.map (some M5),iV r.next_],aK A1 n1 c1 r.m_.Young,aK A2 n2 c2 r.m_.Old,bV A3 n3 c3 r.kept_,bS A4 n4 c4 r.met_,bj cx dW M5 r.seen_]):=by
 refine cQ Tryz.func86 ?_;intro B5;refine ae ?_;refine gD (va (ek:=cx) (ev:=dW)) ?_;rintro _ _ ⟨M6,rfl,rfl⟩
 refine gg fun B7=> ?_
 refine am (fun s L=> ∃p9 p10 p11 p12 p13 p14 A9 n9 c9 A10 n10 c10 A11 n11 c11 A12 n12 c12 M13,ve N a2 p9 p10 p11 p12 p13 p14=some r/\s=[(2,W A4 n4 c4),(6,.pointer none),(7,pV B7 0)]/\L=[bV A4 n4 c4 a2,aK A9 n9 c9 p9,aK A10 n10 c10 p10,bV A11 n11 c11 p11,bS A12 n12 c12 p12,bj cx dW M13 p13,ah B7 130 [W A9 n9 c9,W A10 n10 c10,W A11 n11 c11,W A12 n12 c12,.map (some M13),iV p14]]) ?_ ?_
 ·refine ae ?_;refine aH (fun m s L=> ∃p16 p17 p18 p19 p20 p21 p22 A17 n17 c17 A18 n18 c18 A19 n19 c19 A20 n20 c20 M21,gZ N a1 a2 m p16 p17 p18 p19 p20 p21 p22=some r/\s=[(2,W A4 n4 c4),(6,.pointer none),(7,pV B7 0),(21,W A3 n3 c3),(22,iV (a1.length:Int)),(23,iV p16)]/\L=[bV A4 n4 c4 a2,az A3 n3 c3 a1,aK A17 n17 c17 p17,aK A18 n18 c18 p18,bV A19 n19 c19 p19,bS A20 n20 c20 p20,bj cx dW M21 p21,ah B7 130 [W A17 n17 c17,W A18 n18 c18,W A19 n19 c19,W A20 n20 c20,.map (some M21),iV p22]]) N _ _ ⟨0,a0.Young,a0.Old,a2,[],([]:Qz),0,A1,n1,c1,A2,n2,c2,A4,n4,c4,none,0,0,M6,h,J,J⟩ sA ((fc 6 J J).trans ((aD (da .i64) 3 _).trans (cS [8,7,5,6,1,0,3,2] 9))) ?_;rintro (_|m15) _ _ ⟨p16,p17,p18,p19,p20,p21,p22,A17,n17,c17,A18,n18,c18,A19,n19,c19,A20,n20,c20,M21,h,rfl,rfl⟩
  ·exact aj h
  rw [gZ.eq_2] at h;refine ae ?_;refine ay ?_;refine gH J h ?_ ?_<;>intro h
  ·refine ae ?_;refine am (fun s L=> ∃p27 p28 p29 p30 p31 p32 A27 n27 c27 A28 n28 c28 A29 n29 c29 A30 n30 c30 M31,pM N (gZ N a1 a2 m15) a1 p16 a2 p27 p28 p29 p30 p31 p32=some r/\s=[(2,W A4 n4 c4),(6,.pointer none),(7,pV B7 0),(21,W A3 n3 c3),(22,iV (a1.length:Int)),(23,iV p16)]/\L=[bV A4 n4 c4 a2,az A3 n3 c3 a1,aK A27 n27 c27 p27,aK A28 n28 c28 p28,bV A29 n29 c29 p29,bS A30 n30 c30 p30,bj cx dW M31 p31,ah B7 130 [W A27 n27 c27,W A28 n28 c28,W A29 n29 c29,W A30 n30 c30,.map (some M31),iV p32]]) ?_ ?_
   ·refine ae ?_;obtain ⟨x33,lx33,ux33,hx33,h⟩:=aU h
    refine gg fun B34=> ?_
    obtain ⟨y35,k,h⟩:=aa h;refine kw (oR (um k)) ?_;refine gH J h ?_ ?_<;>intro h
    ·refine ae ?_;obtain ⟨y37,k,h⟩:=aa h;refine gD (oC (i4 k)) ?_;rintro _ _ ⟨_,⟨A38,n38,c38,A39,n39,c39,A40,n40,c40,A41,n41,c41,M42,rfl,rfl⟩,rfl⟩;exact jY
    exact jY
   rintro _ _ ⟨p27,p28,p29,p30,p31,p32,A27,n27,c27,A28,n28,c28,A29,n29,c29,A30,n30,c30,M31,h,rfl,rfl⟩;refine ae ?_;obtain ⟨q43,h⟩:=ad h;exact lY
  exact jY
 rintro _ _ ⟨p9,p10,p11,p12,p13,p14,A9,n9,c9,A10,n10,c10,A11,n11,c11,A12,n12,c12,M13,h,rfl,rfl⟩;refine am (fun s L=> ∃p45 p46 p47 p48 p49 p50 A45 n45 c45 A46 n46 c46 A47 n47 c47 A48 n48 c48 M49,tJ N p45 p46 p47 p48 p49 p50=some r/\s=[(6,.pointer none),(7,pV B7 0)]/\L=[aK A45 n45 c45 p45,aK A46 n46 c46 p46,bV A47 n47 c47 p47,bS A48 n48 c48 p48,bj cx dW M49 p49,ah B7 130 [W A45 n45 c45,W A46 n46 c46,W A47 n47 c47,W A48 n48 c48,.map (some M49),iV p50]]) ?_ ?_
 ·refine ae ?_;refine aH (fun m s L=> ∃p52 p53 p54 p55 p56 p57 p58 A53 n53 c53 A54 n54 c54 A55 n55 c55 A56 n56 c56 M57,dY N a2 m p52 p53 p54 p55 p56 p57 p58=some r/\s=[(6,.pointer none),(7,pV B7 0),(37,W A4 n4 c4),(38,iV (a2.length:Int)),(39,iV p52)]/\L=[bV A4 n4 c4 a2,aK A53 n53 c53 p53,aK A54 n54 c54 p54,bV A55 n55 c55 p55,bS A56 n56 c56 p56,bj cx dW M57 p57,ah B7 130 [W A53 n53 c53,W A54 n54 c54,W A55 n55 c55,W A56 n56 c56,.map (some M57),iV p58]]) N _ _ ⟨0,p9,p10,p11,p12,p13,p14,A9,n9,c9,A10,n10,c10,A11,n11,c11,A12,n12,c12,M13,h,J,J⟩ sA (cS [0,1,2,3,4,5,6] 7) ?_;rintro (_|m51) _ _ ⟨p52,p53,p54,p55,p56,p57,p58,A53,n53,c53,A54,n54,c54,A55,n55,c55,A56,n56,c56,M57,h,rfl,rfl⟩
  ·exact aj h
  rw [dY.eq_2] at h;refine ae ?_;refine ay ?_;refine gH J h ?_ ?_<;>intro h
  ·refine ae ?_;refine am (fun s L=> ∃p61 p62 p63 p64 p65 p66 A61 n61 c61 A62 n62 c62 A63 n63 c63 A64 n64 c64 M65,pL N (dY N a2 m51) a2 p52 p61 p62 p63 p64 p65 p66=some r/\s=[(6,.pointer none),(7,pV B7 0),(37,W A4 n4 c4),(38,iV (a2.length:Int)),(39,iV p52)]/\L=[bV A4 n4 c4 a2,aK A61 n61 c61 p61,aK A62 n62 c62 p62,bV A63 n63 c63 p63,bS A64 n64 c64 p64,bj cx dW M65 p65,ah B7 130 [W A61 n61 c61,W A62 n62 c62,W A63 n63 c63,W A64 n64 c64,.map (some M65),iV p66]]) ?_ ?_
   ·refine ae ?_;obtain ⟨x67,lx67,ux67,hx67,h⟩:=aU h;refine ae ?_;obtain ⟨y68,k,h⟩:=aa h
    refine BM (oC (fN k)) fun A69 n69 c69 A70 n70 c70=> ?_
    obtain ⟨y71,k,h⟩:=aa h
    refine iE (oR (jp k)) fun A72 n72 c72=> ?_
    refine aH (fun m s L=> ∃p74 p75 p76 p77 p78 p79 p80 A75 n75 c75 A76 n76 c76 A77 n77 c77 A78 n78 c78 M79,pK N (dY N a2 m51) a2 p52 y71 m p74 p75 p76 p77 p78 p79 p80=some r/\s=[(6,.pointer none),(7,pV B7 0),(37,W A4 n4 c4),(38,iV (a2.length:Int)),(39,iV p52),(46,W A72 n72 c72),(47,iV (y71.length:Int)),(48,iV p74)]/\L=[bV A4 n4 c4 a2,bS A72 n72 c72 y71,aK A75 n75 c75 p75,aK A76 n76 c76 p76,bV A77 n77 c77 p77,bS A78 n78 c78 p78,bj cx dW M79 p79,ah B7 130 [W A75 n75 c75,W A76 n76 c76,W A77 n77 c77,W A78 n78 c78,.map (some M79),iV p80]]) N _ _ ⟨0,p53,p54,p55,p56,p57,p58,A53,n53,c53,A54,n54,c54,A55,n55,c55,A56,n56,c56,M57,h,J,J⟩ sA (cS [6,0,7,8,9,4,5,3] 10) ?_;rintro (_|m73) _ _ ⟨p74,p75,p76,p77,p78,p79,p80,A75,n75,c75,A76,n76,c76,A77,n77,c77,A78,n78,c78,M79,h,rfl,rfl⟩
    ·exact aj h
    rw [pK.eq_2] at h;refine ae ?_;refine ay ?_;refine gH J h ?_ ?_<;>intro h
    ·refine sY ?_;obtain ⟨x82,lx82,ux82,hx82,h⟩:=aU h;refine ae ?_;obtain ⟨y83,k,h⟩:=aa h;refine gD (oC (i4 k)) ?_;rintro _ _ ⟨_,⟨A84,n84,c84,A85,n85,c85,A86,n86,c86,A87,n87,c87,M88,rfl,rfl⟩,rfl⟩;refine ae ?_;obtain ⟨q89,h⟩:=ad h;exact lY
    exact jY
   rintro _ _ ⟨p61,p62,p63,p64,p65,p66,A61,n61,c61,A62,n62,c62,A63,n63,c63,A64,n64,c64,M65,h,rfl,rfl⟩;refine ae ?_;obtain ⟨q90,h⟩:=ad h;exact lY
  exact jY
 rintro _ _ ⟨p45,p46,p47,p48,p49,p50,A45,n45,c45,A46,n46,c46,A47,n47,c47,A48,n48,c48,M49,h,rfl,rfl⟩;refine ae ?_;obtain ⟨y91,k,h⟩:=aa h;refine gD (oC (nU k)) ?_;rintro _ _ ⟨_,⟨A92,n92,c92,A93,n93,c93,A94,n94,c94,A95,n95,c95,M96,rfl,rfl⟩,rfl⟩;refine ae ?_;refine am (fun s L=> ∃p98 p99 p100 p101 p102 p103 A98 n98 c98 A99 n99 c99 A100 n100 c100 A101 n101 c101 M102,tI N p98 p99 p100 p101 p102 p103=some r/\s=[(6,.pointer none),(7,pV B7 0)]/\L=[aK A98 n98 c98 p98,aK A99 n99 c99 p99,bV A100 n100 c100 p100,bS A101 n101 c101 p101,bj cx dW M102 p102,ah B7 130 [W A98 n98 c98,W A99 n99 c99,W A100 n100 c100,W A101 n101 c101,.map (some M102),iV p103]]) ?_ ?_
 ·refine ae ?_;refine aH (fun m s L=> ∃p105 p106 p107 p108 p109 p110 A105 n105 c105 A106 n106 c106 A107 n107 c107 A108 n108 c108 M109,jI N m p105 p106 p107 p108 p109 p110=some r/\s=[(6,.pointer none),(7,pV B7 0)]/\L=[aK A105 n105 c105 p105,aK A106 n106 c106 p106,bV A107 n107 c107 p107,bS A108 n108 c108 p108,bj cx dW M109 p109,ah B7 130 [W A105 n105 c105,W A106 n106 c106,W A107 n107 c107,W A108 n108 c108,.map (some M109),iV p110]]) N _ _ ⟨y91.m_.Young,y91.m_.Old,y91.kept_,y91.met_,y91.seen_,y91.next_,A92,n92,c92,A93,n93,c93,A94,n94,c94,A95,n95,c95,M96,h,J,J⟩ sA (cS [1,2,3,4,5,0] 9) ?_;rintro (_|m104) _ _ ⟨p105,p106,p107,p108,p109,p110,A105,n105,c105,A106,n106,c106,A107,n107,c107,A108,n108,c108,M109,h,rfl,rfl⟩
  ·exact aj h
  rw [jI.eq_2] at h;refine sZ ?_;obtain ⟨y111,k,h⟩:=aa h;refine gD (oC (wL k)) ?_;rintro _ _ ⟨_,⟨A112,n112,c112,A113,n113,c113,A114,n114,c114,A115,n115,c115,M116,rfl,rfl⟩,rfl⟩;refine ew h ?_ ?_<;>intro h
  ·refine ae ?_;obtain ⟨y118,k,h⟩:=aa h;refine gD (oC (nU k)) ?_;rintro _ _ ⟨_,⟨A119,n119,c119,A120,n120,c120,A121,n121,c121,A122,n122,c122,M123,rfl,rfl⟩,rfl⟩;exact lY
  exact jY
 rintro _ _ ⟨p98,p99,p100,p101,p102,p103,A98,n98,c98,A99,n99,c99,A100,n100,c100,A101,n101,c101,M102,h,rfl,rfl⟩;exact eY
def oE (N:Nat)(a0:Qh)(p8:Qq):Option Qq:=
 some p8
def fZ (N:Nat)(kb9:Qq->Int->Int->Int->Option Qq)(a0:Qh)(p13:Int)(p17:Qq)(p18:Int)(p19:Int):Option Qq:=
 aZ (in64 (p13+1)) (kb9 p17 p18 p19 (p13+1))
def cD (N:Nat)(a0:Qh):Nat->Qq->Int->Int->Int->Option Qq
 |0,_,_,_,_=>none
 |m9+1,p10,p11,p12,p13=>bif decide (p13<(a0.met_.length:Int)) then ((aw a0.met_ p13).bind fun x20=>(cc N a0 x20).bind fun y21=>bif decide (y21.Age=0) then (aZ (in64 (2*p11)) (aZ (in64 ((2*p11)+1)) (aZ (bi (p10.length+([(2*p11)+1]:List Int).length)) (aZ (in64 (p11+1)) (fZ N (cD N a0 m9) a0 p13 (p10++([(2*p11)+1]:List Int)) (p11+1) p12))))) else (aZ (in64 (2*p12)) (aZ (in64 ((2*p12)+2)) (aZ (bi (p10.length+([(2*p12)+2]:List Int).length)) (aZ (in64 (p12+1)) (fZ N (cD N a0 m9) a0 p13 (p10++([(2*p12)+2]:List Int)) p11 (p12+1))))))) else (oE N a0 p10)
def fe (N:Nat)(a0:Qh):Option Qq:=
 cD N a0 N [] 0 (a0.m_.Old.length:Int) 0
theorem vd {N:Nat}{a0:Qh}{r:Qq}(h:fe N a0=some r):Okc QB 87 [pV B1 0] ([aK A2 n2 c2 a0.m_.Young,aK A3 n3 c3 a0.m_.Old,bV A4 n4 c4 a0.kept_,ah B1 130 [W A2 n2 c2,W A3 n3 c3,W A4 n4 c4,W A5 n5 c5,.map (some M6),iV a0.next_],bS A5 n5 c5 a0.met_,bj cx dW M6 a0.seen_]) (fun u post=> ∃A500 n500 c500,u=W A500 n500 c500/\post=[bS A500 n500 c500 r,ah B1 130 [W A2 n2 c2,W A3 n3 c3,W A4 n4 c4,W A5 n5 c5,.map (some M6),iV a0.next_],bS A5 n5 c5 a0.met_,bj cx dW M6 a0.seen_]):=by
 refine cQ Tryz.func87 ?_;refine ay ?_;refine bm I _ (ab _) ?_;refine ae ?_;refine am (fun s L=> ∃p8 A8 n8 c8,oE N a0 p8=some r/\s=[(2,W none 0 0),(3,W A8 n8 c8)]/\L=[bS A8 n8 c8 p8,aK A2 n2 c2 a0.m_.Young,aK A3 n3 c3 a0.m_.Old,bV A4 n4 c4 a0.kept_,bS A5 n5 c5 a0.met_,bj cx dW M6 a0.seen_,ah B1 130 [W A2 n2 c2,W A3 n3 c3,W A4 n4 c4,W A5 n5 c5,.map (some M6),iV a0.next_]]) ?_ ?_
 ·refine ae ?_;refine aH (fun m s L=> ∃p10 p11 p12 p13 A10 n10 c10,cD N a0 m p10 p11 p12 p13=some r/\s=[(0,pV B1 0),(2,W none 0 0),(3,W A10 n10 c10),(4,iV p11),(5,iV p12),(17,W A5 n5 c5),(18,iV (a0.met_.length:Int)),(19,iV p13)]/\L=[bS A10 n10 c10 p10,bS A5 n5 c5 a0.met_,aK A2 n2 c2 a0.m_.Young,aK A3 n3 c3 a0.m_.Old,bV A4 n4 c4 a0.kept_,bj cx dW M6 a0.seen_,ah B1 130 [W A2 n2 c2,W A3 n3 c3,W A4 n4 c4,W A5 n5 c5,.map (some M6),iV a0.next_]]) N _ _ ⟨[],0,(a0.m_.Old.length:Int),0,none,0,0,h,J,J⟩ sA ((aD (da .i64) 3 _).trans (cS [0,5,1,2,3,6,4] 7)) ?_;rintro (_|m9) _ _ ⟨p10,p11,p12,p13,A10,n10,c10,h,rfl,rfl⟩
  ·exact aj h
  rw [cD.eq_2] at h;refine ae ?_;refine ay ?_;refine gH J h ?_ ?_<;>intro h
  ·refine ae ?_;refine am (fun s L=> ∃p17 p18 p19 A17 n17 c17,fZ N (cD N a0 m9) a0 p13 p17 p18 p19=some r/\s=[(0,pV B1 0),(2,W none 0 0),(3,W A17 n17 c17),(4,iV p18),(5,iV p19),(17,W A5 n5 c5),(18,iV (a0.met_.length:Int)),(19,iV p13)]/\L=[bS A17 n17 c17 p17,bS A5 n5 c5 a0.met_,aK A2 n2 c2 a0.m_.Young,aK A3 n3 c3 a0.m_.Old,bV A4 n4 c4 a0.kept_,bj cx dW M6 a0.seen_,ah B1 130 [W A2 n2 c2,W A3 n3 c3,W A4 n4 c4,W A5 n5 c5,.map (some M6),iV a0.next_]]) ?_ ?_
   ·refine ae ?_;obtain ⟨x20,lx20,ux20,hx20,h⟩:=aU h;refine ae ?_;obtain ⟨y21,k,h⟩:=aa h;refine gD (oC (fN k)) ?_;rintro _ _ ⟨_,⟨A22,n22,c22,A23,n23,c23,rfl,rfl⟩,rfl⟩;refine lh (uy J (Gt _ _ _ _ _ _ _ _ _ _)) ?_;refine gH J h ?_ ?_<;>intro h
    ·refine ae ?_;obtain ⟨q25,h⟩:=ad h;refine gE (kA J J q25.1 q25.2) ?_;obtain ⟨q26,h⟩:=ad h;refine ae ?_;refine gD (aG (R:=(da .i64)) (vss:=[[iV ((2*p11)+1)]]) (xs:=[(2*p11)+1]) J (dp _) J J (fun _ _ hr=> .cons J All2.nil)) ?_;rintro _ _ ⟨A27,n27,c27,rfl,rfl⟩;obtain ⟨q28,h⟩:=ad h
     refine iE (ar 6 0 J J ap J J Ex uE J J q28) fun A29 n29 c29=> ?_
     obtain ⟨q30,h⟩:=ad h;exact jY
    refine ae ?_;obtain ⟨q31,h⟩:=ad h;refine gE (kA J J q31.1 q31.2) ?_;obtain ⟨q32,h⟩:=ad h;refine ae ?_;refine gD (aG (R:=(da .i64)) (vss:=[[iV ((2*p12)+2)]]) (xs:=[(2*p12)+2]) J (dp _) J J (fun _ _ hr=> .cons J All2.nil)) ?_;rintro _ _ ⟨A33,n33,c33,rfl,rfl⟩;obtain ⟨q34,h⟩:=ad h
    refine iE (ar 6 0 J J ap J J Ex uE J J q34) fun A35 n35 c35=> ?_
    obtain ⟨q36,h⟩:=ad h;exact jY
   rintro _ _ ⟨p17,p18,p19,A17,n17,c17,h,rfl,rfl⟩;refine ae ?_;obtain ⟨q37,h⟩:=ad h;exact lY
  exact jY
 rintro _ _ ⟨p8,A8,n8,c8,h,rfl,rfl⟩;exact eY
def iH (N:Nat)(a0:Qn)(a1:Qq):Option Bool:=
 (dL N a1 a0.N).bind fun y4=>some y4
theorem Ao {N:Nat}{a0:Qn}{a1:Qq}{r:Bool}(h:iH N a0 a1=some r):Okc QB 151 [(bD a0),pV B1 0] ([bu B1 82 [W A2 n2 c2],bV A2 n2 c2 a1]) (fun u post=>u=.bool r/\post=[]):=by
 refine cQ Tryz.func151 ?_;intro B3;refine ae ?_;obtain ⟨y4,k,h⟩:=aa h;refine kw (oR (jZ k)) ?_;exact eN
def jf (N:Nat)(ff:Qn->Option Bool)(y6:Ql)(x12:Qn×Qn):(Qr)->Option (Option Exit×Qr)
 |p13=>(ff x12.1).bind fun y18=>bif y18 then (aZ (bi (p13.length+([x12.1,x12.2]:List Qn).length)) (some (none,p13++([x12.1,x12.2]:List Qn)))) else (some (none,p13))
def vV (N:Nat)(a0:Ql)(ff:Qn->Option Bool):Option Ql:=
 (dU N a0).bind fun y6=>(lG N a0).bind fun y10=>(iO N a0 (dn (fun x st=>jf N ff y6 x st)) (none,[])).bind fun y14=>qM y14.1 (some (⟨y6.Kind,y6.Shape,y6.Flags,y6.Age,y6.Slots,y14.2⟩:Ql)) none (fun _=>none)
theorem EQ {N:Nat}{a0:Ql}{ff:Qn->Option Bool}{r:Ql}(h:vV N a0 ff=some r){vf:Value}{G:List Chunk}(hf:HA QB vf G (fun x=> [(bD x)]) (fun r=> .bool r) ff):Okc QB 150 [.agg #[iV a0.Kind,iV a0.Shape,iV a0.Flags,iV a0.Age,W A1 n1 c1,W A2 n2 c2],vf] (az A1 n1 c1 a0.Slots::az A2 n2 c2 a0.More::G) (fun u post=> ∃A0 n0 c0 A1 n1 c1,u=.agg #[iV r.Kind,iV r.Shape,iV r.Flags,iV r.Age,W A0 n0 c0,W A1 n1 c1]/\post=[bh A0 n0 c0 r.Slots,bh A1 n1 c1 r.More]):=by
 refine cQ Tryz.func150 ?_;intro B3
 refine Pw (nH J (Kq hf)) fun B4=> ?_
 intro B5;refine ae ?_;obtain ⟨y6,k,h⟩:=aa h
 refine BM (oR (gG k)) fun A7 n7 c7 A8 n8 c8=> ?_
 intro B9;refine sY ?_;obtain ⟨y10,k,h⟩:=aa h;refine gD (oR (vF k)) ?_;rintro _ _ ⟨_,⟨B11,rfl,rfl⟩,rfl⟩;refine ae ?_;refine dB ?_ aW (ip 0 J);refine ae ?_;obtain ⟨y14,k,h⟩:=aa h;refine uD (en:=(fun x=> [(bD x.1),(bD x.2)])) (fun x st=>jf N ff y6 x st) (fun (st:Qr) (mz:((Option Addr×Nat×Nat)))=> [ah B4 77 [vf],ah B5 35 [iV 0,iV 0,iV 0,iV 0,W none 0 0,W none 0 0],bh A7 n7 c7 y6.Slots,eu ak 37 (.slice mz.1 mz.2.1 mz.2.2) st,ah B9 35 [iV y6.Kind,iV y6.Shape,iV y6.Flags,iV y6.Age,W A7 n7 c7,.slice mz.1 mz.2.1 mz.2.2]]++G) [bu B11 35 [iV a0.Kind,iV a0.Shape,iV a0.Flags,iV a0.Age,W A1 n1 c1,W A2 n2 c2],az A1 n1 c1 a0.Slots,az A2 n2 c2 a0.More] ([]) ((none,0,0)) J J call207.out J (fun _=>J) (fun l G hY=>(rq k hY).mono fun _ _ hh=>hh.2) ((aD ak 37 _).trans (ce [1,8,9] [] [6,5,3,0,2] 10 J)) h ?_ ?_ ?_ ?_
 ·rintro l x12 p13 je sr12 ⟨A13,n13,c13⟩ h;replace h:jf N ff y6 x12 p13=some (je,sr12):=h;simp only [Ad,List.zip_cons_cons,List.zip_nil_left,List.zip_nil_right,List.reverse_cons,List.reverse_nil,QH,List.cons_append]
  refine gg fun B16=> ?_
  intro B17;refine ae ?_;obtain ⟨y18,k,h⟩:=aa h;refine gD (CQ (a:=x12.1) [ah B17 37 (be x12.2),ah B16 37 (be x12.1),ah B4 77 [vf],ah B5 35 [iV 0,iV 0,iV 0,iV 0,W none 0 0,W none 0 0],bh A7 n7 c7 y6.Slots,bh A13 n13 c13 p13,ah B9 35 [iV y6.Kind,iV y6.Shape,iV y6.Flags,iV y6.Age,W A7 n7 c7,W A13 n13 c13]] hf k J J) ?_;rintro _ _ ⟨rfl,rfl⟩;refine ew h ?_ ?_<;>intro h
  ·refine ae ?_;refine gD (aG (R:=ak) (vss:=[(be x12.1),(be x12.2)]) (xs:=[x12.1,x12.2]) J (GM _ _ _ _ _ _) J J (fun _ _ hr=> .cons J (.cons J All2.nil))) ?_;rintro _ _ ⟨A20,n20,c20,rfl,rfl⟩;obtain ⟨q21,h⟩:=ad h
   refine iE (ar 6 0 J J ap J J z9 lF J J q21) fun A22 n22 c22=> ?_
   obtain ⟨rfl,rfl⟩:=Prod.mk.inj (Option.some.inj h);exact BP ((cS [3,4,5,6,7] 8).trans (fU (A22,n22,c22) J))
  refine ae ?_;obtain ⟨rfl,rfl⟩:=Prod.mk.inj (Option.some.inj h);exact BP ((cS [2,3,4,5,6] 7).trans (fU (A13,n13,c13) J))
 ·rintro ⟨A13,n13,c13⟩ h;refine pS (ah B4 77 [vf]::ah B5 35 [iV 0,iV 0,iV 0,iV 0,W none 0 0,W none 0 0]::bh A7 n7 c7 y6.Slots::bh A13 n13 c13 y14.2::ah B9 35 [iV y6.Kind,iV y6.Shape,iV y6.Flags,iV y6.Age,W A7 n7 c7,W A13 n13 c13]::G) J ?_;refine ae ?_;obtain rfl:=bw h;exact dt (rs:=[.cell 4 35]) (vs:=[.agg #[iV y6.Kind,iV y6.Shape,iV y6.Flags,iV y6.Age,W A7 n7 c7,W A13 n13 c13]]) J (.cons (bd 1 J J agg35.out) .nil) J (LP [2,3] 5 J J) ⟨_,_,_,_,_,_,J,J⟩
 ·rintro ⟨A13,n13,c13⟩ h;exact aj h
 rintro i ⟨A13,n13,c13⟩ h;exact aj h
def mh (N:Nat)(a0:Ql)(a1:Qq):Option Ql:=
 (tT N a0).bind fun y7=>bif !y7 then (some (⟨0,0,0,0,[],[]⟩:Ql)) else ((vV N a0 (fun x=>iH N x a1)).bind fun y11=>some y11)
theorem xX {N:Nat}{a0:Ql}{a1:Qq}{r:Ql}(h:mh N a0 a1=some r):Okc QB 100 [.agg #[iV a0.Kind,iV a0.Shape,iV a0.Flags,iV a0.Age,W A1 n1 c1,W A2 n2 c2],W A3 n3 c3] ([az A1 n1 c1 a0.Slots,az A2 n2 c2 a0.More,bV A3 n3 c3 a1]) (fun u post=> ∃A0 n0 c0 A1 n1 c1,u=.agg #[iV r.Kind,iV r.Shape,iV r.Flags,iV r.Age,W A0 n0 c0,W A1 n1 c1]/\post=[bh A0 n0 c0 r.Slots,bh A1 n1 c1 r.More]):=by
 refine cQ Tryz.func100 ?_;intro B4
 refine gg fun B5=> ?_
 intro B6;refine sY ?_;obtain ⟨y7,k,h⟩:=aa h;refine kw (oR (Cb k)) ?_;refine gH J h ?_ ?_<;>intro h
 ·refine ae ?_;obtain rfl:=bw h;exact dt (rs:=[.cell 4 35]) (vs:=[.agg #[iV 0,iV 0,iV 0,iV 0,W none 0 0,W none 0 0]]) J (.cons (bd 0 J J agg35.out) .nil) J ((aD ak 37 _).trans ((aD ak 37 _).trans (cS [1,0] 8))) ⟨_,_,_,_,_,_,J,J⟩
 refine ae ?_;refine gE (ei J) ?_;obtain ⟨y11,k,h⟩:=aa h
 refine BM (oR (EQ k ⟨hU J (hU J ax),151, #[], #[pV B5 0],J,call151.out,fun _ _ hh=>Ao hh⟩)) fun A12 n12 c12 A13 n13 c13=> ?_
 exact eN
def tb (N:Nat)(a0:Ql):Option Bool:=
 (bif decide (a0.Kind=10) then ((fF N a0).bind fun y5=>some y5) else (some false)).bind fun b4=>some b4
theorem Fw {N:Nat}{a0:Ql}{r:Bool}(h:tb N a0=some r):Okc QB 152 [.agg #[iV a0.Kind,iV a0.Shape,iV a0.Flags,iV a0.Age,W A1 n1 c1,W A2 n2 c2]] ([az A1 n1 c1 a0.Slots,az A2 n2 c2 a0.More]) (fun u post=>u=.bool r/\post=[]):=by
 refine cQ Tryz.func152 ?_;intro B3;refine ae ?_;obtain ⟨b4,hb4,h⟩:=aa h;refine aQ 3 9 b4 ?_ ?_
 ·clear h;refine aM 6 J (fun g4=> ?_) (fun g4=> ?_)
  ·have h:=aE g4 hb4;refine ae ?_;obtain ⟨y5,k,h⟩:=aa h;refine gU (oR (li k)) (bx g4 J) ?_;exact gY
  have h:=aF g4 hb4;exact gY
 exact eY
theorem Dd {r:Bool}: ∀v post,((fun (u:Value) (post:List Chunk)=>u=.bool r/\post=[])) v post-> ∀c∈post,fu c:=by
 rintro _ _ ⟨rfl,rfl⟩;exact ax
def tK (N:Nat)(a0:Ql):Option Ql:=
 (cT N a0.Slots).bind fun y5=>(aw a0.More 0).bind fun x7=>some (⟨a0.Kind,a0.Shape,a0.Flags,a0.Age,y5,([x7]:List Qn)⟩:Ql)
theorem De {N:Nat}{a0:Ql}{r:Ql}(h:tK N a0=some r):Okc QB 153 [.agg #[iV a0.Kind,iV a0.Shape,iV a0.Flags,iV a0.Age,W A1 n1 c1,W A2 n2 c2]] ([az A1 n1 c1 a0.Slots,az A2 n2 c2 a0.More]) (fun u post=> ∃A0 n0 c0 A1 n1 c1,u=.agg #[iV r.Kind,iV r.Shape,iV r.Flags,iV r.Age,W A0 n0 c0,W A1 n1 c1]/\post=[bh A0 n0 c0 r.Slots,bh A1 n1 c1 r.More]):=by
 refine cQ Tryz.func153 ?_;intro B3
 refine gg fun B4=> ?_
 obtain ⟨y5,k,h⟩:=aa h
 refine iE (oR (eU k)) fun A6 n6 c6=> ?_
 obtain ⟨x7,lx7,ux7,hx7,h⟩:=aU h;refine ae ?_
 refine iE (aG (R:=ak) (vss:=[(be x7)]) (xs:=[x7]) J (oX _ _ _) J J (fun _ _ hr=> .cons J All2.nil)) fun A8 n8 c8=> ?_
 exact eN
theorem AP {r:Ql}: ∀v post,((fun (u:Value) (post:List Chunk)=> ∃A0 n0 c0 A1 n1 c1,u=.agg #[iV r.Kind,iV r.Shape,iV r.Flags,iV r.Age,W A0 n0 c0,W A1 n1 c1]/\post=[bh A0 n0 c0 r.Slots,bh A1 n1 c1 r.More])) v post-> ∀c∈post,fu c:=by
 rintro _ _ ⟨_,_,_,_,_,_,rfl,rfl⟩;exact hU gr (hU gr (ax))
def fT (N:Nat){σ:Type}(fy:(Int×Qr)->σ->Option (Bool×σ))(a1:Ql):Nat->Int->σ->Option σ
 |0,_,_=>none
 |m4+1,p5,p6=>aZ (in64 (p5+4)) (bif decide (p5+4<=(a1.More.length:Int)) then (aZ (in64 (p5+4)) (aZ (in64 (p5+4)) (aZ ((0:Int)<=p5/\(0:Int)<=p5+4/\p5.toNat<=(p5+4).toNat/\(p5+4).toNat<=a1.More.length) ((fy (p5,(a1.More.drop p5.toNat).take ((p5+4).toNat - p5.toNat)) p6).bind fun y13=>bif !y13.1 then (some y13.2) else (aZ (in64 (p5+4)) ((fT N fy a1 m4) (p5+4) y13.2)))))) else (some p6))
def mT (N:Nat){σ:Type}(a1:Ql)(fy:(Int×Qr)->σ->Option (Bool×σ))(s0:σ):Option σ:=
 fT N fy a1 N 1 s0
theorem xd {N:Nat}{σ:Type}{a1:Ql}{fy:(Int×Qr)->σ->Option (Bool×σ)}{s0:σ}{r:σ}(h:mT N a1 fy s0=some r){l:Nat}{G:σ->List Chunk}(hY:uC QB l G (fun (x:Int×Qr) vs cs=> ∃A1 n1 c1,vs=[iV x.1,W A1 n1 c1]/\cs=[az A1 n1 c1 x.2]) fy):Okc QB 185 [.func (.yield l) #[] #[],pV B1 0] (bu B1 35 [iV a1.Kind,iV a1.Shape,iV a1.Flags,iV a1.Age,W A2 n2 c2,W A3 n3 c3]::az A2 n2 c2 a1.Slots::az A3 n3 c3 a1.More::(G s0)) (fun u post=>u=.tuple #[]/\post=G r):=by
 refine cQ Tryz.func185 ?_;refine aH (fun m s L=> ∃p5 p6,fT N fy a1 m p5 p6=some r/\s=[(0,.func (.yield l) #[] #[]),(1,pV B1 0),(3,iV p5)]/\L=az A2 n2 c2 a1.Slots::az A3 n3 c3 a1.More::bu B1 35 [iV a1.Kind,iV a1.Shape,iV a1.Flags,iV a1.Age,W A2 n2 c2,W A3 n3 c3]::(G p6)) N _ _ ⟨1,s0,h,J,J⟩ sA (cS [1,2,0] 3) ?_;rintro (_|m4) _ _ ⟨p5,p6,h,rfl,rfl⟩
 ·exact aj h
 rw [fT.eq_2] at h;refine sZ ?_;obtain ⟨q7,h⟩:=ad h;refine ew h ?_ ?_<;>intro h
 ·refine sY ?_;obtain ⟨q9,h⟩:=ad h;refine ae ?_;obtain ⟨q10,h⟩:=ad h;refine ae ?_;obtain ⟨q11,h⟩:=ad h;refine KY 1 J (l:=p5.toNat) (h:=(p5+4).toNat) q11.2.2.1 q11.2.2.2 ?_;rintro A12 n12 c12 e12;refine gR (HM 2 J e12 J z9 size37.out J (by rw [Int.toNat_of_nonneg q11.1];rfl) (by rw [Int.toNat_of_nonneg q11.2.1];rfl) (by rw [Int.toNat_of_nonneg q11.2.1];rfl) q11.2.2.1 q11.2.2.2) ?_;obtain ⟨y13,k,h⟩:=aa h;refine gD (D8 (a:=(p5,(a1.More.drop p5.toNat).take ((p5+4).toNat - p5.toNat))) [az A12 n12 c12 ((a1.More.drop p5.toNat).take ((p5+4).toNat - p5.toNat)),az A2 n2 c2 a1.Slots,az A3 n3 c3 a1.More,bu B1 35 [iV a1.Kind,iV a1.Shape,iV a1.Flags,iV a1.Age,W A2 n2 c2,W A3 n3 c3]] hY k J J ⟨_,_,_,J,J⟩ (fc 0 J J)) ?_;rintro _ _ ⟨rfl,rfl⟩;refine ew h ?_ ?_<;>intro h
  ·exact eY
  refine ae ?_;obtain ⟨q15,h⟩:=ad h;exact lY
 exact eY
def pn (N:Nat)(a0:Ql):Option Unit:=
 some ()
theorem zY {N:Nat}{a0:Ql}{r:Unit}(h:pn N a0=some r):Okc QB 154 [.agg #[iV a0.Kind,iV a0.Shape,iV a0.Flags,iV a0.Age,W A1 n1 c1,W A2 n2 c2]] ([az A1 n1 c1 a0.Slots,az A2 n2 c2 a0.More]) (fun u post=> ∃B900,u=.func (.func 185) #[] #[pV B900 0]/\post=[ah B900 35 [iV a0.Kind,iV a0.Shape,iV a0.Flags,iV a0.Age,W A1 n1 c1,W A2 n2 c2]]):=by
 refine cQ Tryz.func154 ?_;intro B3;refine ae ?_;refine lh (ei J) ?_;exact eN
theorem xV {a0:Ql}{A1:Option Addr}{n1:Nat}{c1:Nat}{A2:Option Addr}{n2:Nat}{c2:Nat}: ∀v post,((fun (u:Value) (post:List Chunk)=> ∃B900,u=.func (.func 185) #[] #[pV B900 0]/\post=[ah B900 35 [iV a0.Kind,iV a0.Shape,iV a0.Flags,iV a0.Age,W A1 n1 c1,W A2 n2 c2]])) v post-> ∀c∈post,fu c:=by
 rintro _ _ ⟨_,rfl,rfl⟩;exact hU Dc (ax)
def mE (N:Nat)(x28:Int×Qr)(a0:Ql)(p14:Qz)(y21:Ql)(p30:Qr)(p31:Qr)(p46:Int)(p47:Int)(p48:ByteArray):Option (Option Exit×Qr×Qr):=
 (aw x28.2 0).bind fun x51=>(aw x28.2 1).bind fun x52=>(aw x28.2 3).bind fun x53=>aZ (bi (p30.length+([x51,x52,(⟨p46,p47,p48⟩:Qn),x53]:List Qn).length)) (some (none,(p30++([x51,x52,(⟨p46,p47,p48⟩:Qn),x53]:List Qn),p31)))
def fq (N:Nat)(a0:Ql)(p14:Qz)(y21:Ql)(x28:Int×Qr):(Qr×Qr)->Option (Option Exit×(Qr×Qr))
 |(p30,p31)=>(aw x28.2 0).bind fun x34=>bif !((lk p14 x34.N).getD false) then ((aw a0.More 0).bind fun x36=>(aw x28.2 1).bind fun x37=>(aw x28.2 3).bind fun x38=>aZ (bi (p31.length+([x36,x37,x38]:List Qn).length)) (some (none,(p30,p31++([x36,x37,x38]:List Qn))))) else ((aw x28.2 2).bind fun x43=>(bif decide (x43.Kind=7) then (some (!((lk p14 x43.N).getD false))) else (some false)).bind fun b49=>bif b49 then (mE N x28 a0 p14 y21 p30 p31 0 0 (⟨#[]⟩)) else (mE N x28 a0 p14 y21 p30 p31 x43.Kind x43.N x43.S))
def po (N:Nat)(a0:Ql)(p14:Qz):Option (Ql×Qr):=
 (tK N a0).bind fun y21=>(pn N a0).bind fun y26=>(mT N a0 (dn (fun x st=>fq N a0 p14 y21 x st)) (none,(y21.More,[]))).bind fun y32=>qM y32.1 (some ((⟨y21.Kind,y21.Shape,y21.Flags,y21.Age,y21.Slots,y32.2.1⟩:Ql),y32.2.2)) none (fun _=>none)
def im (N:Nat)(a1:Qq)(a0:Ql):Nat->Int->Qz->Option (Ql×Qr)
 |0,_,_=>none
 |m15+1,p16,p17=>bif decide (p16<(a1.length:Int)) then ((aw a1 p16).bind fun x19=>aZ (in64 (p16+1)) ((im N a1 a0 m15) (p16+1) (za p17 x19 true))) else (po N a0 p17)
def jL (N:Nat)(a0:Ql)(a1:Qq):Option (Ql×Qr):=
 (tb N a0).bind fun y6=>bif !y6 then (some ((⟨0,0,0,0,[],[]⟩:Ql),[])) else (im N a1 a0 N 0 ([]:Qz))
theorem vN {N:Nat}{a0:Ql}{a1:Qq}{r:Ql×Qr}(h:jL N a0 a1=some r):Okc QB 101 [.agg #[iV a0.Kind,iV a0.Shape,iV a0.Flags,iV a0.Age,W A1 n1 c1,W A2 n2 c2],W A3 n3 c3] ([az A1 n1 c1 a0.Slots,az A2 n2 c2 a0.More,bV A3 n3 c3 a1]) (fun u post=> ∃A0 n0 c0 A1 n1 c1 A2 n2 c2,u=.tuple #[.agg #[iV r.1.Kind,iV r.1.Shape,iV r.1.Flags,iV r.1.Age,W A0 n0 c0,W A1 n1 c1],W A2 n2 c2]/\post=[bh A0 n0 c0 r.1.Slots,bh A1 n1 c1 r.1.More,bh A2 n2 c2 r.2]):=by
 refine rQ Tryz.func101 J J ?_;simp only [jr];refine Y ?_
 refine gB (nH J J) fun B4=> ?_
 refine gB (ci zero35.out J) fun B5=> ?_
 refine Y ?_;refine ay ?_;refine Y ?_;refine gR (aR (us:=[iV a0.Kind,iV a0.Shape,iV a0.Flags,iV a0.Age,W A1 n1 c1,W A2 n2 c2]) 1 J J agg35.out J) ?_;obtain ⟨y6,k,h⟩:=aa h;refine gV (ba (Fw k) call152.out J (hU (aJ (i:=2) J J) (hU (aJ (i:=3) J J) ax)) Dd) ?_;refine Y ?_;refine gH J h ?_ ?_<;>intro h
 ·refine Y ?_;refine gE (dw J bld_35_.out) ?_;refine gW (aq (us:=[iV 0,iV 0,iV 0,iV 0,W none 0 0,W none 0 0]) (cs':=[iV 0,iV 0,iV 0,iV 0,W none 0 0,W none 0 0]) 0 J J J J size35.out J J J) ?_;refine Y ?_;obtain rfl:=bw h;exact dt (rs:=[.cell 4 35,.tmp 5]) (vs:=[.agg #[iV 0,iV 0,iV 0,iV 0,W none 0 0,W none 0 0],W none 0 0]) J (.cons (bd 0 J J agg35.out) (.cons (iu J) .nil)) J ((aD ak 37 _).trans ((aD ak 37 _).trans ((aD ak 37 _).trans (cS [2,1,0] 8)))) ⟨_,_,_,_,_,_,_,_,_,J,J⟩
 refine Y ?_;refine gR (cC 4 J ao J Ex) ?_;refine gD (Bj (ek:=cx) (ev:=dW) J P7) ?_;rintro _ _ ⟨M11,rfl,rfl⟩
 refine gB (ci zero85.out J) fun B12=> ?_
 refine gW (aq (us:=[.map (some M11)]) (cs':=[.map (some M11)]) 0 J J J J size85.out J J J) ?_;refine Y ?_;refine am (fun s L=> ∃p14,po N a0 p14=some r/\s=[(2,pV B4 0),(4,pV B5 0),(5,W none 0 0),(6,pV B12 0)]/\L=[az A1 n1 c1 a0.Slots,az A2 n2 c2 a0.More,ah B4 35 [iV a0.Kind,iV a0.Shape,iV a0.Flags,iV a0.Age,W A1 n1 c1,W A2 n2 c2],ah B5 35 [iV 0,iV 0,iV 0,iV 0,W none 0 0,W none 0 0],bj cx dW M11 p14,ah B12 85 [.map (some M11)]]) ?_ ?_
 ·refine Y ?_;refine gR (cC 6 J ao J Ex) ?_;refine Y ?_;refine aH (fun m s L=> ∃p16 p17,im N a1 a0 m p16 p17=some r/\s=[(2,pV B4 0),(4,pV B5 0),(5,W none 0 0),(6,pV B12 0),(21,W A3 n3 c3),(22,iV (a1.length:Int)),(23,iV p16)]/\L=[bV A3 n3 c3 a1,az A1 n1 c1 a0.Slots,az A2 n2 c2 a0.More,ah B4 35 [iV a0.Kind,iV a0.Shape,iV a0.Flags,iV a0.Age,W A1 n1 c1,W A2 n2 c2],ah B5 35 [iV 0,iV 0,iV 0,iV 0,W none 0 0,W none 0 0],bj cx dW M11 p17,ah B12 85 [.map (some M11)]]) N _ _ ⟨0,([]:Qz),h,J,J⟩ sA (cS [6,4,5,3,2,1,0] 7) ?_;rintro (_|m15) _ _ ⟨p16,p17,h,rfl,rfl⟩
  ·exact aj h
  rw [im.eq_2] at h;refine Y ?_;refine ay ?_;refine gH J h ?_ ?_<;>intro h
  ·refine Y ?_;refine ay ?_;refine Y ?_;obtain ⟨x19,lx19,ux19,hx19,h⟩:=aU h;refine gR (bf 0 J ao J J Ex size3.out lx19 ux19) ?_;refine gR (bF (u:=iV x19) 0 J ao J hx19 ex (fun _ _ _ h=>by rw [show _=_ from h];rfl)) ?_;refine Y ?_;refine gW (i3 (a:=x19) (b:=true) 5 J J J J P7 (dV t0)) ?_;refine eh ?_;refine Y ?_;obtain ⟨q20,h⟩:=ad h;refine gE (cr J J q20.1 q20.2) ?_;refine Y ?_;exact ⟨m15,_,_,Qu _,⟨p16+1,za p17 x19 true,h,J,J⟩,sA,cS [0,1,2,3,4,5,6] 7⟩
  refine Y ?_;exact ⟨_,_,⟨p17,h,J,J⟩,sA,cS [1,2,3,4,5,6] 7⟩
 rintro _ _ ⟨p14,h,rfl,rfl⟩;refine Y ?_;refine gR (aR (us:=[iV a0.Kind,iV a0.Shape,iV a0.Flags,iV a0.Age,W A1 n1 c1,W A2 n2 c2]) 2 J J agg35.out J) ?_;obtain ⟨y21,k,h⟩:=aa h;refine gD (ba (De k) call153.out J (hU (aJ (i:=0) J J) (hU (aJ (i:=1) J J) ax)) AP) ?_;rintro _ _ ⟨_,⟨A22,n22,c22,A23,n23,c23,rfl,rfl⟩,rfl⟩
 refine gB (ci zero35.out J) fun B24=> ?_
 refine gW (aq (us:=[iV y21.Kind,iV y21.Shape,iV y21.Flags,iV y21.Age,W A22 n22 c22,W A23 n23 c23]) (cs':=[iV y21.Kind,iV y21.Shape,iV y21.Flags,iV y21.Age,W A22 n22 c22,W A23 n23 c23]) 0 J J J J size35.out J J J) ?_;refine Y ?_
 refine gB (ci zero30.out J) fun B25=> ?_
 refine Y ?_;refine ay ?_;refine Y ?_;refine gR (aR (us:=[iV a0.Kind,iV a0.Shape,iV a0.Flags,iV a0.Age,W A1 n1 c1,W A2 n2 c2]) 6 J J agg35.out J) ?_;obtain ⟨y26,k,h⟩:=aa h;refine gD (ba (zY k) call154.out J (hU (aJ (i:=4) J J) (hU (aJ (i:=5) J J) ax)) xV) ?_;rintro _ _ ⟨_,⟨B27,rfl,rfl⟩,rfl⟩;refine It ?_;refine wF ?_;refine dB ?_ aW (ip 0 J);obtain ⟨y32,k,h⟩:=aa h
 refine EK (R:=(fun (x:Int×Qr) vs cs=> ∃A1 n1 c1,vs=[iV x.1,W A1 n1 c1]/\cs=[az A1 n1 c1 x.2])) (fun x st=>fq N a0 p14 y21 x st) (fun (st:Qr×Qr) (mz:((Option Addr×Nat×Nat)×(Option Addr×Nat×Nat)))=> [az A1 n1 c1 a0.Slots,az A2 n2 c2 a0.More,ah B4 35 [iV a0.Kind,iV a0.Shape,iV a0.Flags,iV a0.Age,W A1 n1 c1,W A2 n2 c2],ah B5 35 [iV 0,iV 0,iV 0,iV 0,W none 0 0,W none 0 0],bj cx dW M11 p14,ah B12 85 [.map (some M11)],bh A22 n22 c22 y21.Slots,eu ak 37 (.slice mz.1.1 mz.1.2.1 mz.1.2.2) st.1,ah B24 35 [iV y21.Kind,iV y21.Shape,iV y21.Flags,iV y21.Age,W A22 n22 c22,.slice mz.1.1 mz.1.2.1 mz.1.2.2],eu ak 37 (.slice mz.2.1 mz.2.2.1 mz.2.2.2) st.2,ah B25 30 [.slice mz.2.1 mz.2.2.1 mz.2.2.2]]) [bu B27 35 [iV a0.Kind,iV a0.Shape,iV a0.Flags,iV a0.Age,W A1 n1 c1,W A2 n2 c2],az A1 n1 c1 a0.Slots,az A2 n2 c2 a0.More] ((y21.More,[])) (((A23,n23,c23),(none,0,0))) J J call185.out J (by rintro _ _ _ ⟨_,_,_,rfl,rfl⟩;rfl) (fun l G hY=>(xd k hY).mono fun _ _ hh=>hh.2) ((aD ak 37 _).trans (ce [1,6,7] [] [6,7,8,9,10,11,4,5,3,0,2] 12 J)) h ?_ ?_ ?_ ?_
 ·rintro l x28 ⟨p30,p31⟩ je sr28 ⟨⟨A30,n30,c30⟩,⟨A31,n31,c31⟩⟩ h _ _ ⟨A29,n29,c29,rfl,rfl⟩;replace h:fq N a0 p14 y21 x28 (p30,p31)=some (je,sr28):=h;simp only [Ad,List.zip_cons_cons,List.zip_nil_left,List.zip_nil_right,List.reverse_cons,List.reverse_nil,QH,List.cons_append];refine Y ?_;refine ay ?_;refine ay ?_;refine bm I _ (ab _) ?_;refine zR 0 J (aL 6 J J Mj J) ?_;refine zE 1 J (ai J) ?_;obtain ⟨x34,lx34,ux34,hx34,h⟩:=aU h;refine zR 2 J (bf 0 J ao J J z9 size37.out lx34 ux34) ?_;refine zR 3 J (mJ 0 J ao J (bc lx34 ux34) kx) ?_;refine zR 4 J (bF (u:=iV x34.N) 0 J ao J hx34 ex (fun _ _ _ h=>by rw [show _=_ from h];rfl)) ?_;refine zR 5 J (Ct (a:=x34.N) (z:=false) 5 J wP J J P7 (dV t0) zero4.out) ?_;refine zE 6 J (pp J) ?_;refine bv I ?_;refine wF ?_;refine gH J h ?_ ?_<;>intro h
  ·refine ay ?_;obtain ⟨x36,lx36,ux36,hx36,h⟩:=aU h;obtain ⟨x37,lx37,ux37,hx37,h⟩:=aU h;obtain ⟨x38,lx38,ux38,hx38,h⟩:=aU h;refine dB (t:=[(2,pV B4 0),(4,pV B5 0),(5,W none 0 0),(6,pV B12 0),(9,pV B24 0),(10,pV B25 0),(12,W A29 n29 c29)]) ?_ fv (ab _)
   refine dF I 12 [] [0,11] [43,44,45,46,47,48,49,50,51,52,53,54] [[],[],[1],[2],[3],[],[5],[6],[],[8],[9],[4,7,10]] [aV (W A31 n31 c31),
aV (pV B4 5),
aV (W A2 n2 c2),
aV (dj (W A2 n2 c2) ((0:Int).toNat) 3 0),
aV ((bD x36)),
aV (W A29 n29 c29),
aV (dj (W A29 n29 c29) ((1:Int).toNat) 3 0),
aV ((bD x37)),
aV (W A29 n29 c29),
aV (dj (W A29 n29 c29) ((3:Int).toNat) 3 0),
aV ((bD x38)),
aX3 (fun (A40:Option Addr) (n40 c40:Nat)=> W A40 n40 c40) (fun A40 n40 c40=> [bh A40 n40 c40 ([x36,x37,x38]:List Qn)])] [] (ab _) (fj) I rfl rfl ?_ ?_ ?_
   ·exact fi
   ·refine ac J ?_ ?_
    ·refine gj (aG (R:=ak) (vss:=[(be x36),(be x37),(be x38)]) (xs:=[x36,x37,x38]) J (GL _ _ _ _ _ _ _ _ _) J J (fun _ _ hr=> .cons J (.cons J (.cons J All2.nil)))) J ?_;rintro _ _ ⟨A39,n39,c39,rfl,rfl⟩;exact pv A39 n39 c39 (ab _)
    refine ac J ?_ ?_
    ·exact cB (dm (us:=be x38) 0 J ao J hx38 agg37.out (fun _ _ _ h=>by rw [show _=_ from h];rfl)) J (aP J (ab _))
    refine ac J ?_ ?_
    ·exact cB (bf 0 J ao J J z9 size37.out lx38 ux38) J (aP J (ab _))
    refine ac J ?_ ?_
    ·exact bN (ai J) J (aP J (ab _))
    refine ac J ?_ ?_
    ·exact cB (dm (us:=be x37) 0 J ao J hx37 agg37.out (fun _ _ _ h=>by rw [show _=_ from h];rfl)) J (aP J (ab _))
    refine ac J ?_ ?_
    ·exact cB (bf 0 J ao J J z9 size37.out lx37 ux37) J (aP J (ab _))
    refine ac J ?_ ?_
    ·exact bN (ai J) J (aP J (ab _))
    refine ac J ?_ ?_
    ·exact cB (dm (us:=be x36) 2 J ao J hx36 agg37.out (fun _ _ _ h=>by rw [show _=_ from h];rfl)) J (aP J (ab _))
    refine ac J ?_ ?_
    ·exact cB (bf 2 J ao J J z9 size37.out lx36 ux36) J (aP J (ab _))
    refine ac J ?_ ?_
    ·exact cB (aL 3 J J dr J) J (aP J (ab _))
    refine ac J ?_ ?_
    ·exact bN (bB J dT) J (aP J (ab _))
    refine ac J ?_ ?_
    ·exact cB (aL 11 J J dr J) J (aP J (ab _))
    exact cp
   intro A40 n40 c40;refine gu (t:=[(43,W A31 n31 c31),(54,W A40 n40 c40),(2,pV B4 0),(4,pV B5 0),(5,W none 0 0),(6,pV B12 0),(9,pV B24 0),(10,pV B25 0),(12,W A29 n29 c29)]) (L':=[bh A40 n40 c40 ([x36,x37,x38]:List Qn),az A29 n29 c29 x28.2,az A1 n1 c1 a0.Slots,az A2 n2 c2 a0.More,ah B4 35 [iV a0.Kind,iV a0.Shape,iV a0.Flags,iV a0.Age,W A1 n1 c1,W A2 n2 c2],ah B5 35 [iV 0,iV 0,iV 0,iV 0,W none 0 0,W none 0 0],bj cx dW M11 p14,ah B12 85 [.map (some M11)],bh A22 n22 c22 y21.Slots,bh A30 n30 c30 p30,ah B24 35 [iV y21.Kind,iV y21.Shape,iV y21.Flags,iV y21.Age,W A22 n22 c22,W A30 n30 c30],bh A31 n31 c31 p31,ah B25 30 [W A31 n31 c31]]) ?_ fv (ab _);obtain ⟨q41,h⟩:=ad h;refine jt 12 J I (ar 11 0 J J ap J J z9 lF J J q41) J J J ?_;rintro _ _ ⟨A42,n42,c42,rfl,rfl⟩;refine sU ?_;refine o7 13 J I (aq (us:=[W A42 n42 c42]) (cs':=[W A42 n42 c42]) 12 J J J J size30.out J J J) J J ?_;rintro _ _ rfl;refine ft I ?_;refine Y ?_;obtain ⟨rfl,rfl⟩:=Prod.mk.inj (Option.some.inj h);exact BP ((cS [2,3,4,5,6,7,8,9,10,11,12] 13).trans (fU ((A30,n30,c30),(A42,n42,c42)) J))
  refine Y ?_;obtain ⟨x43,lx43,ux43,hx43,h⟩:=aU h;refine gR (bf 0 J ao J J z9 size37.out lx43 ux43) ?_;refine gR (dm (us:=be x43) 0 J ao J hx43 agg37.out (fun _ _ _ h=>by rw [show _=_ from h];rfl)) ?_
  refine gB (ci zero37.out J) fun B44=> ?_
  refine gW (aq (us:=be x43) (cs':=be x43) 0 J J J J size37.out J J J) ?_;refine Y ?_;refine am (fun s L=> ∃p46 p47 p48,mE N x28 a0 p14 y21 p30 p31 p46 p47 p48=some (je,sr28)/\s=[(2,pV B4 0),(4,pV B5 0),(5,W none 0 0),(6,pV B12 0),(9,pV B24 0),(10,pV B25 0),(12,W A29 n29 c29),(13,pV B44 0)]/\L=[az A29 n29 c29 x28.2,az A1 n1 c1 a0.Slots,az A2 n2 c2 a0.More,ah B4 35 [iV a0.Kind,iV a0.Shape,iV a0.Flags,iV a0.Age,W A1 n1 c1,W A2 n2 c2],ah B5 35 [iV 0,iV 0,iV 0,iV 0,W none 0 0,W none 0 0],bj cx dW M11 p14,ah B12 85 [.map (some M11)],bh A22 n22 c22 y21.Slots,bh A30 n30 c30 p30,ah B24 35 [iV y21.Kind,iV y21.Shape,iV y21.Flags,iV y21.Age,W A22 n22 c22,W A30 n30 c30],bh A31 n31 c31 p31,ah B25 30 [W A31 n31 c31],ah B44 37 [iV p46,iV p47,.string p48]]) ?_ ?_
  ·refine Y ?_;obtain ⟨b49,hb49,h⟩:=aa h;refine aQ 6 68 b49 ?_ ?_
   ·clear h;refine aM 62 J (fun g49=> ?_) (fun g49=> ?_)
    ·have h:=aE g49 hb49;refine Y ?_;refine mH (Ct (a:=x43.N) (z:=false) 6 J wP J J P7 (dV t0) zero4.out) J (bx g49 J) J ?_;refine Y ?_;obtain rfl:=bw h;exact cH sA (cS [0,1,2,3,4,5,6,7,8,9,10,11,12] 13)
    have h:=aF g49 hb49;refine Y ?_;obtain rfl:=bw h;exact cH sA (cS [0,1,2,3,4,5,6,7,8,9,10,11,12] 13)
   refine Y ?_;refine gH J h ?_ ?_<;>intro h
   ·refine oZ ?_;refine gE (dw J bld_37_.out) ?_;refine gW (aq (us:=[iV 0,iV 0,.string (⟨#[]⟩)]) (cs':=[iV 0,iV 0,.string (⟨#[]⟩)]) 0 J J J J size37.out J J J) ?_;refine eh ?_;refine Y ?_;exact ⟨_,_,⟨0,0,⟨#[]⟩,h,J,J⟩,sA,cS [1,2,3,4,5,6,7,8,9,10,11,12,0] 13⟩
   refine Y ?_;exact ⟨_,_,⟨x43.Kind,x43.N,x43.S,h,J,J⟩,sA,cS [1,2,3,4,5,6,7,8,9,10,11,12,0] 13⟩
  rintro _ _ ⟨p46,p47,p48,h,rfl,rfl⟩;refine bm I ([az A29 n29 c29 x28.2,az A1 n1 c1 a0.Slots,az A2 n2 c2 a0.More,ah B4 35 [iV a0.Kind,iV a0.Shape,iV a0.Flags,iV a0.Age,W A1 n1 c1,W A2 n2 c2],ah B5 35 [iV 0,iV 0,iV 0,iV 0,W none 0 0,W none 0 0],bj cx dW M11 p14,ah B12 85 [.map (some M11)],bh A22 n22 c22 y21.Slots,ah B24 35 [iV y21.Kind,iV y21.Shape,iV y21.Flags,iV y21.Age,W A22 n22 c22,W A30 n30 c30],bh A31 n31 c31 p31,ah B25 30 [W A31 n31 c31],ah B44 37 [iV p46,iV p47,.string p48]]) (cS [0,1,2,3,4,5,6,7,9,10,11,12] 13) ?_;refine zE 0 J (bB J dT) ?_;refine zR 1 J (aL 8 J J dr J) ?_;refine zE 2 J (ai J) ?_;obtain ⟨x51,lx51,ux51,hx51,h⟩:=aU h;refine zR 3 J (bf 0 J ao J J z9 size37.out lx51 ux51) ?_;refine zR 4 J (dm (us:=be x51) 0 J ao J hx51 agg37.out (fun _ _ _ h=>by rw [show _=_ from h];rfl)) ?_;refine zE 5 J (ai J) ?_;obtain ⟨x52,lx52,ux52,hx52,h⟩:=aU h;refine zR 6 J (bf 0 J ao J J z9 size37.out lx52 ux52) ?_;refine zR 7 J (dm (us:=be x52) 0 J ao J hx52 agg37.out (fun _ _ _ h=>by rw [show _=_ from h];rfl)) ?_;refine zR 8 J (aR (us:=[iV p46,iV p47,.string p48]) 11 J J agg37.out J) ?_;refine zE 9 J (ai J) ?_;obtain ⟨x53,lx53,ux53,hx53,h⟩:=aU h;refine zR 10 J (bf 0 J ao J J z9 size37.out lx53 ux53) ?_;refine zR 11 J (dm (us:=be x53) 0 J ao J hx53 agg37.out (fun _ _ _ h=>by rw [show _=_ from h];rfl)) ?_
  refine zD 12 J (aG (R:=ak) (vss:=[(be x51),(be x52),[iV p46,iV p47,.string p48],(be x53)]) (xs:=[x51,x52,(⟨p46,p47,p48⟩:Qn),x53]) J (GK _ _ _ _ _ _ _ _ _ _ _ _) J J (fun _ _ hr=> .cons J (.cons J (.cons J (.cons J All2.nil))))) ?_;rintro _ _ ⟨A54,n54,c54,rfl,rfl⟩;refine bq (cS [1,2,3,4,5,6,7,8,10,11,12,13] 14) ?_;obtain ⟨q55,h⟩:=ad h;refine zD 13 J (ar 9 0 J J ap J J z9 lF J J q55) ?_;rintro _ _ ⟨A56,n56,c56,rfl,rfl⟩;refine bq (cS [1,2,3,4,5,6,7,8,10,11,12,13] 14) ?_;refine zE 14 J (bB J dT) ?_;refine lE 15 J I I (aq (us:=[W A56 n56 c56]) (cs':=[iV y21.Kind,iV y21.Shape,iV y21.Flags,iV y21.Age,W A22 n22 c22,W A56 n56 c56]) 10 J J J J size30.out J J J) ?_;rintro _ _ rfl;refine bv I ?_;refine LV ?_;obtain ⟨rfl,rfl⟩:=Prod.mk.inj (Option.some.inj h);exact BP ((cS [2,3,4,5,6,7,8,9,10,11,12] 14).trans (fU ((A56,n56,c56),(A31,n31,c31)) J))
 ·rintro ⟨⟨A30,n30,c30⟩,⟨A31,n31,c31⟩⟩ h;refine pS ([az A1 n1 c1 a0.Slots,az A2 n2 c2 a0.More,ah B4 35 [iV a0.Kind,iV a0.Shape,iV a0.Flags,iV a0.Age,W A1 n1 c1,W A2 n2 c2],ah B5 35 [iV 0,iV 0,iV 0,iV 0,W none 0 0,W none 0 0],bj cx dW M11 p14,ah B12 85 [.map (some M11)],bh A22 n22 c22 y21.Slots,bh A30 n30 c30 y32.2.1,ah B24 35 [iV y21.Kind,iV y21.Shape,iV y21.Flags,iV y21.Age,W A22 n22 c22,W A30 n30 c30],bh A31 n31 c31 y32.2.2,ah B25 30 [W A31 n31 c31]]) J ?_;refine Y ?_;refine ay ?_;refine bm I ([az A1 n1 c1 a0.Slots,az A2 n2 c2 a0.More,ah B4 35 [iV a0.Kind,iV a0.Shape,iV a0.Flags,iV a0.Age,W A1 n1 c1,W A2 n2 c2],bj cx dW M11 p14,ah B12 85 [.map (some M11)],bh A22 n22 c22 y21.Slots,bh A30 n30 c30 y32.2.1,ah B24 35 [iV y21.Kind,iV y21.Shape,iV y21.Flags,iV y21.Age,W A22 n22 c22,W A30 n30 c30],bh A31 n31 c31 y32.2.2,ah B25 30 [W A31 n31 c31]]) (cS [0,1,2,4,5,6,7,8,9,10] 11) ?_;refine zR 0 J (aR (us:=[iV y21.Kind,iV y21.Shape,iV y21.Flags,iV y21.Age,W A22 n22 c22,W A30 n30 c30]) 7 J J agg35.out J) ?_;refine zR 1 J (aL 9 J J dr J) ?_;refine zO 2 J (aq (us:=[iV y21.Kind,iV y21.Shape,iV y21.Flags,iV y21.Age,W A22 n22 c22,W A30 n30 c30]) (cs':=[iV y21.Kind,iV y21.Shape,iV y21.Flags,iV y21.Age,W A22 n22 c22,W A30 n30 c30]) 3 J J J J size35.out J J J) ?_;rintro _ _ rfl;refine bq (cS [0,1,2,4,5,6,7,8,9,10] 11) ?_;refine zE 3 J (av J) ?_
  refine bv I ?_;refine Y ?_;obtain rfl:=bw h;exact dt (rs:=[.cell 4 35,.tmp 5]) (vs:=[.agg #[iV y21.Kind,iV y21.Shape,iV y21.Flags,iV y21.Age,W A22 n22 c22,W A30 n30 c30],W A31 n31 c31]) J (.cons (bd 3 J J agg35.out) (.cons (iu J) .nil)) J (cS [6,7,9] 11) ⟨_,_,_,_,_,_,_,_,_,J,J⟩
 ·rintro ⟨⟨A30,n30,c30⟩,⟨A31,n31,c31⟩⟩ h;exact aj h
 rintro i ⟨⟨A30,n30,c30⟩,⟨A31,n31,c31⟩⟩ h;exact aj h
def jn (N:Nat)(a0:Ql)(a1:Qq)(a2:Qr):Option (Ql×Qr):=
 bif decide (a0.Kind=8) then ((mh N a0 a1).bind fun y8=>some (y8,a2)) else (bif decide (a0.Kind=10) then ((jL N a0 a1).bind fun y12=>aZ (bi (a2.length+y12.2.length)) (some (y12.1,a2++y12.2))) else (some (a0,a2)))
theorem wM {N:Nat}{a0:Ql}{a1:Qq}{a2:Qr}{r:Ql×Qr}(h:jn N a0 a1 a2=some r):Okc QB 90 [.agg #[iV a0.Kind,iV a0.Shape,iV a0.Flags,iV a0.Age,W A1 n1 c1,W A2 n2 c2],W A3 n3 c3,W A4 n4 c4] ([az A1 n1 c1 a0.Slots,az A2 n2 c2 a0.More,bV A3 n3 c3 a1,bh A4 n4 c4 a2]) (fun u post=> ∃A0 n0 c0 A1 n1 c1 A2 n2 c2,u=.tuple #[.agg #[iV r.1.Kind,iV r.1.Shape,iV r.1.Flags,iV r.1.Age,W A0 n0 c0,W A1 n1 c1],W A2 n2 c2]/\post=[az A0 n0 c0 r.1.Slots,az A1 n1 c1 r.1.More,bh A2 n2 c2 r.2]):=by
 refine cQ Tryz.func90 ?_;intro B5
 refine gg fun B6=> ?_
 refine sZ ?_;refine gH J h ?_ ?_<;>intro h
 ·refine ae ?_;obtain ⟨y8,k,h⟩:=aa h
  refine BM (oR (xX k)) fun A9 n9 c9 A10 n10 c10=> ?_
  obtain rfl:=bw h;exact dt (rs:=[.cell 6 35,.tmp 7]) (vs:=[.agg #[iV y8.Kind,iV y8.Shape,iV y8.Flags,iV y8.Age,W A9 n9 c9,W A10 n10 c10],W A4 n4 c4]) J (.cons (bd 2 J J agg35.out) (.cons (iu J) .nil)) J ((aY 0 J).trans ((aY 1 J).trans (cS [0,1,7] 8))) ⟨_,_,_,_,_,_,_,_,_,J,J⟩
 refine ew h ?_ ?_<;>intro h
 ·refine ae ?_;obtain ⟨y12,k,h⟩:=aa h
  refine MX (oR (vN k)) fun A13 n13 c13 A14 n14 c14 A15 n15 c15=> ?_
  intro B16;refine ae ?_;refine ay ?_;refine bm I ([ah B16 35 [iV y12.1.Kind,iV y12.1.Shape,iV y12.1.Flags,iV y12.1.Age,W A13 n13 c13,W A14 n14 c14],bh A13 n13 c13 y12.1.Slots,bh A14 n14 c14 y12.1.More,bh A15 n15 c15 y12.2,ah B5 35 [iV a0.Kind,iV a0.Shape,iV a0.Flags,iV a0.Age,W A1 n1 c1,W A2 n2 c2],az A1 n1 c1 a0.Slots,az A2 n2 c2 a0.More,bV A3 n3 c3 a1]) (cS [0,1,2,3,5,6,7,8] 10) ?_;refine ae ?_;obtain ⟨q17,h⟩:=ad h;refine zD 3 J (ar 9 3 J J ap J J z9 lF J J q17) ?_;rintro _ _ ⟨A18,n18,c18,rfl,rfl⟩;refine bq (cS [0,1,2,3,5,6,7,8] 10) ?_;refine zO 4 J (aq (us:=[iV y12.1.Kind,iV y12.1.Shape,iV y12.1.Flags,iV y12.1.Age,W A13 n13 c13,W A14 n14 c14]) (cs':=[iV y12.1.Kind,iV y12.1.Shape,iV y12.1.Flags,iV y12.1.Age,W A13 n13 c13,W A14 n14 c14]) 4 J J J J size35.out J J J) ?_;rintro _ _ rfl;refine bq (cS [0,1,2,3,5,6,7,8] 10) ?_;refine ae ?_;obtain rfl:=bw h;exact dt (rs:=[.cell 6 35,.tmp 7]) (vs:=[.agg #[iV y12.1.Kind,iV y12.1.Shape,iV y12.1.Flags,iV y12.1.Age,W A13 n13 c13,W A14 n14 c14],W A18 n18 c18]) J (.cons (bd 4 J J agg35.out) (.cons (iu J) .nil)) J ((aY 1 J).trans ((aY 2 J).trans (cS [1,2,9] 10))) ⟨_,_,_,_,_,_,_,_,_,J,J⟩
 exact eY
def sj (N:Nat)(y21:Ql)(p25:Qr)(p26:Qr):Option Ql:=
 some (⟨y21.Kind,y21.Shape,y21.Flags,y21.Age,p25,p26⟩:Ql)
def sg (N:Nat)(p9:QA)(p29:Qr)(y21:Ql)(p44:Qr):Option Ql:=
 sj N y21 p29 p44
def oV (N:Nat)(kb45:Qr->Int->Option Ql)(y21:Ql)(p47:Int)(p9:QA)(p29:Qr)(p50:Qr):Option Ql:=
 aZ (in64 (p47+1)) (kb45 p50 (p47+1))
def fW (N:Nat)(y21:Ql)(p9:QA)(p29:Qr):Nat->Qr->Int->Option Ql
 |0,_,_=>none
 |m45+1,p46,p47=>bif decide (p47<(y21.More.length:Int)) then ((aw p46 p47).bind fun x51=>(bif (lk p9 x51.N).isSome then ((mG N x51).bind fun y54=>some y54) else (some false)).bind fun b53=>bif b53 then ((aw p46 p47).bind fun x56=>oV N (fW N y21 p9 p29 m45) y21 p47 p9 p29 (List.set p46 p47.toNat (⟨x56.Kind,(lk p9 x51.N).getD 0,x56.S⟩:Qn))) else (oV N (fW N y21 p9 p29 m45) y21 p47 p9 p29 p46)) else (sg N p9 p29 y21 p46)
def si (N:Nat)(p9:QA)(y21:Ql)(p29:Qr):Option Ql:=
 fW N y21 p9 p29 N y21.More 0
def oW (N:Nat)(kb30:Qr->Int->Option Ql)(y21:Ql)(p32:Int)(p9:QA)(p35:Qr):Option Ql:=
 aZ (in64 (p32+1)) (kb30 p35 (p32+1))
def fX (N:Nat)(y21:Ql)(p9:QA):Nat->Qr->Int->Option Ql
 |0,_,_=>none
 |m30+1,p31,p32=>bif decide (p32<(y21.Slots.length:Int)) then ((aw p31 p32).bind fun x36=>(bif (lk p9 x36.N).isSome then ((mG N x36).bind fun y39=>some y39) else (some false)).bind fun b38=>bif b38 then ((aw p31 p32).bind fun x41=>oW N (fX N y21 p9 m30) y21 p32 p9 (List.set p31 p32.toNat (⟨x41.Kind,(lk p9 x36.N).getD 0,x41.S⟩:Qn))) else (oW N (fX N y21 p9 m30) y21 p32 p9 p31)) else (si N p9 y21 p31)
def pQ (N:Nat)(a0:Ql)(p9:QA):Option Ql:=
 (dU N a0).bind fun y21=>fX N y21 p9 N y21.Slots 0
def me (N:Nat)(kb10:QA->Int->Option Ql)(a1:Qq)(p12:Int)(a2:Qq)(a0:Ql)(p15:QA):Option Ql:=
 aZ (in64 (p12+1)) (kb10 p15 (p12+1))
def eL (N:Nat)(a1:Qq)(a2:Qq)(a0:Ql):Nat->QA->Int->Option Ql
 |0,_,_=>none
 |m10+1,p11,p12=>bif decide (p12<(a1.length:Int)) then ((aw a1 p12).bind fun x16=>bif (lk p11 x16).isSome then (me N (eL N a1 a2 a0 m10) a1 p12 a2 a0 p11) else (bif decide (p12<(a2.length:Int)) then ((aw a2 p12).bind fun x19=>me N (eL N a1 a2 a0 m10) a1 p12 a2 a0 (za (za p11 x16 x16) x16 x19)) else (me N (eL N a1 a2 a0 m10) a1 p12 a2 a0 (za p11 x16 x16)))) else (pQ N a0 p11)
def fG (N:Nat)(a0:Ql)(a1:Qq)(a2:Qq):Option Ql:=
 eL N a1 a2 a0 N ([]:QA) 0
theorem tO {N:Nat}{a0:Ql}{a1:Qq}{a2:Qq}{r:Ql}(h:fG N a0 a1 a2=some r):Okc QB 91 [.agg #[iV a0.Kind,iV a0.Shape,iV a0.Flags,iV a0.Age,W A1 n1 c1,W A2 n2 c2],W A3 n3 c3,W A4 n4 c4] ([az A1 n1 c1 a0.Slots,az A2 n2 c2 a0.More,bV A3 n3 c3 a1,bV A4 n4 c4 a2]) (fun u post=> ∃A0 n0 c0 A1 n1 c1,u=.agg #[iV r.Kind,iV r.Shape,iV r.Flags,iV r.Age,W A0 n0 c0,W A1 n1 c1]/\post=[bh A0 n0 c0 r.Slots,bh A1 n1 c1 r.More]):=by
 refine cQ Tryz.func91 ?_;intro B5
 refine gg fun B6=> ?_
 refine gD (Bj (ek:=cx) (ev:=Eo) J P9) ?_;rintro _ _ ⟨M7,rfl,rfl⟩;refine ae ?_;refine am (fun s L=> ∃p9,pQ N a0 p9=some r/\s=[(3,pV B5 0),(6,pV B6 0),(7,.map (some M7))]/\L=[bj cx Eo M7 p9,az A1 n1 c1 a0.Slots,az A2 n2 c2 a0.More,ah B5 35 [iV a0.Kind,iV a0.Shape,iV a0.Flags,iV a0.Age,W A1 n1 c1,W A2 n2 c2],ah B6 35 [iV 0,iV 0,iV 0,iV 0,W none 0 0,W none 0 0]]) ?_ ?_
 ·refine ae ?_;refine aH (fun m s L=> ∃p11 p12,eL N a1 a2 a0 m p11 p12=some r/\s=[(2,W A4 n4 c4),(3,pV B5 0),(6,pV B6 0),(7,.map (some M7)),(21,W A3 n3 c3),(22,iV (a1.length:Int)),(23,iV p12)]/\L=[bV A4 n4 c4 a2,bj cx Eo M7 p11,bV A3 n3 c3 a1,az A1 n1 c1 a0.Slots,az A2 n2 c2 a0.More,ah B5 35 [iV a0.Kind,iV a0.Shape,iV a0.Flags,iV a0.Age,W A1 n1 c1,W A2 n2 c2],ah B6 35 [iV 0,iV 0,iV 0,iV 0,W none 0 0,W none 0 0]]) N _ _ ⟨([]:QA),0,h,J,J⟩ sA (cS [6,0,5,3,4,2,1] 7) ?_;rintro (_|m10) _ _ ⟨p11,p12,h,rfl,rfl⟩
  ·exact aj h
  rw [eL.eq_2] at h;refine ae ?_;refine ay ?_;refine gH J h ?_ ?_<;>intro h
  ·refine ae ?_;refine am (fun s L=> ∃p15,me N (eL N a1 a2 a0 m10) a1 p12 a2 a0 p15=some r/\s=[(2,W A4 n4 c4),(3,pV B5 0),(6,pV B6 0),(7,.map (some M7)),(21,W A3 n3 c3),(22,iV (a1.length:Int)),(23,iV p12)]/\L=[bV A4 n4 c4 a2,bj cx Eo M7 p15,bV A3 n3 c3 a1,az A1 n1 c1 a0.Slots,az A2 n2 c2 a0.More,ah B5 35 [iV a0.Kind,iV a0.Shape,iV a0.Flags,iV a0.Age,W A1 n1 c1,W A2 n2 c2],ah B6 35 [iV 0,iV 0,iV 0,iV 0,W none 0 0,W none 0 0]]) ?_ ?_
   ·refine ae ?_;obtain ⟨x16,lx16,ux16,hx16,h⟩:=aU h;refine sY ?_;refine zX (ud (a:=x16) (z:=0) 1 J wP J J P9 (dV t0) zero3.out) ?_;refine gH J h ?_ ?_<;>intro h
    ·exact jY
    refine ae ?_;refine Fu (i3 (a:=x16) (b:=x16) 1 J J J J P9 (dV t0)) ?_;refine gH J h ?_ ?_<;>intro h
    ·refine ae ?_;obtain ⟨x19,lx19,ux19,hx19,h⟩:=aU h;refine ae ?_;refine Fu (i3 (a:=x16) (b:=x19) 1 J J J J P9 (dV t0)) ?_;exact jN
    exact jY
   rintro _ _ ⟨p15,h,rfl,rfl⟩;refine ae ?_;obtain ⟨q20,h⟩:=ad h;exact lY
  exact jY
 rintro _ _ ⟨p9,h,rfl,rfl⟩;refine ae ?_;obtain ⟨y21,k,h⟩:=aa h
 refine BM (oR (gG k)) fun A22 n22 c22 A23 n23 c23=> ?_
 refine am (fun s L=> ∃p25 p26 A25 n25 c25 A26 n26 c26,sj N y21 p25 p26=some r/\s=[(3,pV B5 0),(6,pV B6 0)]/\L=[bh A25 n25 c25 p25,bh A26 n26 c26 p26,ah B5 35 [iV y21.Kind,iV y21.Shape,iV y21.Flags,iV y21.Age,W A25 n25 c25,W A26 n26 c26],ah B6 35 [iV 0,iV 0,iV 0,iV 0,W none 0 0,W none 0 0]]) ?_ ?_
 ·refine ae ?_
  refine gB (eD (cs:=[W A22 n22 c22,W A23 n23 c23]) J (lj _ _ _ _ _ _)) fun B27=> ?_
  refine lh (oS J Qa) ?_;refine sq 3 ?_;refine tS ?_;refine ae ?_;refine ay ?_;refine eO J ?_;refine ae ?_;refine am (fun s L=> ∃p29 A29 n29 c29,si N p9 y21 p29=some r/\s=[(3,pV B5 0),(6,pV B6 0),(7,.map (some M7)),(55,.slice (some ⟨B27,0,none⟩) 2 2),(56,iV 2),(57,iV 0)]/\L=[bj cx Eo M7 p9,bh A29 n29 c29 p29,bh A23 n23 c23 y21.More,ah B5 35 [iV y21.Kind,iV y21.Shape,iV y21.Flags,iV y21.Age,W A29 n29 c29,W A23 n23 c23],ah B6 35 [iV 0,iV 0,iV 0,iV 0,W none 0 0,W none 0 0],ah B27 30 [W A29 n29 c29,W A23 n23 c23]]) ?_ ?_
  ·refine ae ?_;refine lh (nO J J Qa size30.out (by decide) (by decide)) ?_;refine aH (fun m s L=> ∃p31 p32 A31 n31 c31,fX N y21 p9 m p31 p32=some r/\s=[(3,pV B5 0),(6,pV B6 0),(7,.map (some M7)),(13,W A31 n31 c31),(55,.slice (some ⟨B27,0,none⟩) 2 2),(56,iV 2),(57,iV 0),(61,W A31 n31 c31),(62,iV (y21.Slots.length:Int)),(63,iV p32)]/\L=[bj cx Eo M7 p9,bh A31 n31 c31 p31,bh A23 n23 c23 y21.More,ah B5 35 [iV y21.Kind,iV y21.Shape,iV y21.Flags,iV y21.Age,W A31 n31 c31,W A23 n23 c23],ah B6 35 [iV 0,iV 0,iV 0,iV 0,W none 0 0,W none 0 0],ah B27 30 [W A31 n31 c31,W A23 n23 c23]]) N _ _ ⟨y21.Slots,0,A22,n22,c22,h,J,J⟩ sA (cS [3,1,2,6,7,0] 8) ?_;rintro (_|m30) _ _ ⟨p31,p32,A31,n31,c31,h,rfl,rfl⟩
   ·exact aj h
   rw [fX.eq_2] at h;refine ae ?_;refine ay ?_;refine gH J h ?_ ?_<;>intro h
   ·refine ae ?_;refine am (fun s L=> ∃p35 A35 n35 c35,oW N (fX N y21 p9 m30) y21 p32 p9 p35=some r/\s=[(3,pV B5 0),(6,pV B6 0),(7,.map (some M7)),(13,W A35 n35 c35),(55,.slice (some ⟨B27,0,none⟩) 2 2),(56,iV 2),(57,iV 0),(61,W A35 n35 c35),(62,iV (y21.Slots.length:Int)),(63,iV p32)]/\L=[bj cx Eo M7 p9,bh A35 n35 c35 p35,bh A23 n23 c23 y21.More,ah B5 35 [iV y21.Kind,iV y21.Shape,iV y21.Flags,iV y21.Age,W A35 n35 c35,W A23 n23 c23],ah B6 35 [iV 0,iV 0,iV 0,iV 0,W none 0 0,W none 0 0],ah B27 30 [W A35 n35 c35,W A23 n23 c23]]) ?_ ?_
    ·refine ae ?_;obtain ⟨x36,lx36,ux36,hx36,h⟩:=aU h
     refine gg fun B37=> ?_
     refine zX (ud (a:=x36.N) (z:=0) 1 J wP J J P9 (dV t0) zero3.out) ?_;obtain ⟨b38,hb38,h⟩:=aa h;refine aQ 3 79 b38 ?_ ?_
     ·clear h;refine aM 76 J (fun g38=> ?_) (fun g38=> ?_)
      ·have h:=aE g38 hb38;refine ae ?_;obtain ⟨y39,k,h⟩:=aa h;refine gU (oR (tM k)) (bx g38 J) ?_;exact gY
      have h:=aF g38 hb38;exact gY
     refine ew h ?_ ?_<;>intro h
     ·refine ae ?_;obtain ⟨x41,lx41,ux41,hx41,h⟩:=aU h;refine ae ?_;refine gR (mJ 2 J ap J (bc lx41 ux41) kx) ?_;refine Fu (iK (us:=[iV ((lk p9 x36.N).getD 0)]) (z:=(⟨x41.Kind,(lk p9 x36.N).getD 0,x41.S⟩:Qn)) 2 J J J J size3.out J (bc lx41 ux41) J (fun S w vs xk hk hr ho=>by obtain rfl:=Option.some.inj (hk.symm.trans hx41);rw [show _=_ from hr];rfl)) ?_;exact jN
     exact jY
    rintro _ _ ⟨p35,A35,n35,c35,h,rfl,rfl⟩;refine ae ?_;obtain ⟨q42,h⟩:=ad h;exact lY
   exact jY
  rintro _ _ ⟨p29,A29,n29,c29,h,rfl,rfl⟩;refine ae ?_;refine lh (cr J J (by decide) (by decide)) ?_;refine tS ?_;refine ae ?_;refine ay ?_;refine eO J ?_;refine ae ?_;refine am (fun s L=> ∃p44 A44 n44 c44,sg N p9 p29 y21 p44=some r/\s=[(3,pV B5 0),(6,pV B6 0),(7,.map (some M7)),(55,.slice (some ⟨B27,0,none⟩) 2 2),(56,iV 2),(57,iV 1)]/\L=[bj cx Eo M7 p9,bh A29 n29 c29 p29,bh A44 n44 c44 p44,ah B5 35 [iV y21.Kind,iV y21.Shape,iV y21.Flags,iV y21.Age,W A29 n29 c29,W A44 n44 c44],ah B6 35 [iV 0,iV 0,iV 0,iV 0,W none 0 0,W none 0 0],ah B27 30 [W A29 n29 c29,W A44 n44 c44]]) ?_ ?_
  ·refine ae ?_;refine lh (nO J J Qa size30.out (by decide) (by decide)) ?_;refine aH (fun m s L=> ∃p46 p47 A46 n46 c46,fW N y21 p9 p29 m p46 p47=some r/\s=[(3,pV B5 0),(6,pV B6 0),(7,.map (some M7)),(13,W A46 n46 c46),(55,.slice (some ⟨B27,0,none⟩) 2 2),(56,iV 2),(57,iV 1),(61,W A46 n46 c46),(62,iV (y21.More.length:Int)),(63,iV p47)]/\L=[bj cx Eo M7 p9,bh A46 n46 c46 p46,bh A29 n29 c29 p29,ah B5 35 [iV y21.Kind,iV y21.Shape,iV y21.Flags,iV y21.Age,W A29 n29 c29,W A46 n46 c46],ah B6 35 [iV 0,iV 0,iV 0,iV 0,W none 0 0,W none 0 0],ah B27 30 [W A29 n29 c29,W A46 n46 c46]]) N _ _ ⟨y21.More,0,A23,n23,c23,h,J,J⟩ sA (cS [0,2,1,3,4,5] 6) ?_;rintro (_|m45) _ _ ⟨p46,p47,A46,n46,c46,h,rfl,rfl⟩
   ·exact aj h
   rw [fW.eq_2] at h;refine ae ?_;refine ay ?_;refine gH J h ?_ ?_<;>intro h
   ·refine ae ?_;refine am (fun s L=> ∃p50 A50 n50 c50,oV N (fW N y21 p9 p29 m45) y21 p47 p9 p29 p50=some r/\s=[(3,pV B5 0),(6,pV B6 0),(7,.map (some M7)),(13,W A50 n50 c50),(55,.slice (some ⟨B27,0,none⟩) 2 2),(56,iV 2),(57,iV 1),(61,W A50 n50 c50),(62,iV (y21.More.length:Int)),(63,iV p47)]/\L=[bj cx Eo M7 p9,bh A50 n50 c50 p50,bh A29 n29 c29 p29,ah B5 35 [iV y21.Kind,iV y21.Shape,iV y21.Flags,iV y21.Age,W A29 n29 c29,W A50 n50 c50],ah B6 35 [iV 0,iV 0,iV 0,iV 0,W none 0 0,W none 0 0],ah B27 30 [W A29 n29 c29,W A50 n50 c50]]) ?_ ?_
    ·refine ae ?_;obtain ⟨x51,lx51,ux51,hx51,h⟩:=aU h
     refine gg fun B52=> ?_
     refine zX (ud (a:=x51.N) (z:=0) 1 J wP J J P9 (dV t0) zero3.out) ?_;obtain ⟨b53,hb53,h⟩:=aa h;refine aQ 3 79 b53 ?_ ?_
     ·clear h;refine aM 76 J (fun g53=> ?_) (fun g53=> ?_)
      ·have h:=aE g53 hb53;refine ae ?_;obtain ⟨y54,k,h⟩:=aa h;refine gU (oR (tM k)) (bx g53 J) ?_;exact gY
      have h:=aF g53 hb53;exact gY
     refine ew h ?_ ?_<;>intro h
     ·refine ae ?_;obtain ⟨x56,lx56,ux56,hx56,h⟩:=aU h;refine ae ?_;refine gR (mJ 2 J ap J (bc lx56 ux56) kx) ?_;refine Fu (iK (us:=[iV ((lk p9 x51.N).getD 0)]) (z:=(⟨x56.Kind,(lk p9 x51.N).getD 0,x56.S⟩:Qn)) 2 J J J J size3.out J (bc lx56 ux56) J (fun S w vs xk hk hr ho=>by obtain rfl:=Option.some.inj (hk.symm.trans hx56);rw [show _=_ from hr];rfl)) ?_;exact jN
     exact jY
    rintro _ _ ⟨p50,A50,n50,c50,h,rfl,rfl⟩;refine ae ?_;obtain ⟨q57,h⟩:=ad h;exact lY
   exact jY
  rintro _ _ ⟨p44,A44,n44,c44,h,rfl,rfl⟩;refine ae ?_;refine lh (cr J J (by decide) (by decide)) ?_;refine tS ?_;refine ae ?_;refine ay ?_;refine jT J ?_;exact jY
 rintro _ _ ⟨p25,p26,A25,n25,c25,A26,n26,c26,h,rfl,rfl⟩;exact eY
theorem BO {r:Ql}: ∀v post,((fun (u:Value) (post:List Chunk)=> ∃A0 n0 c0 A1 n1 c1,u=.agg #[iV r.Kind,iV r.Shape,iV r.Flags,iV r.Age,W A0 n0 c0,W A1 n1 c1]/\post=[bh A0 n0 c0 r.Slots,bh A1 n1 c1 r.More])) v post-> ∀c∈post,fu c:=by
 rintro _ _ ⟨_,_,_,_,_,_,rfl,rfl⟩;exact hU gr (hU gr (ax))
def jm (N:Nat)(a0:Qr)(a1:Qq)(a2:Qq):Option Qr:=
 (fG N (⟨0,0,0,0,[],a0⟩:Ql) a1 a2).bind fun y4=>some y4.More
theorem wK {N:Nat}{a0:Qr}{a1:Qq}{a2:Qq}{r:Qr}(h:jm N a0 a1 a2=some r):Okc QB 94 [W A1 n1 c1,W A2 n2 c2,W A3 n3 c3] ([az A1 n1 c1 a0,bV A2 n2 c2 a1,bV A3 n3 c3 a2]) (fun u post=> ∃A0 n0 c0,u=W A0 n0 c0/\post=[bh A0 n0 c0 r]):=by
 refine rQ Tryz.func94 J J ?_;simp only [jr];refine Y ?_;refine gE (dw J (bld_35_5 _ _ _).out) ?_;refine Y ?_;obtain ⟨y4,k,h⟩:=aa h;refine gD (ba (tO k) call91.out J (hU (C3) (hU (aJ (i:=0) J J) (hU (aJ (i:=1) J J) (hU (aJ (i:=2) J J) ax)))) BO) ?_;rintro _ _ ⟨_,⟨A5,n5,c5,A6,n6,c6,rfl,rfl⟩,rfl⟩;refine gE (uy J (Gs _ _ _ _ _ _ _ _ _ _)) ?_;refine Y ?_;obtain rfl:=bw h;exact js J J (cS [1] 5) ⟨_,_,_,J,J⟩
end Go.Proofs.YthepenpebkjdfaaGreat