/- Merged texts: part 5. No conditions of their own. -/
import Derived.Test.YthhiddkljcacaaaGreatG4
set_option maxHeartbeats 4000000
namespace Go.Proofs.YthhiddkljcacaaaGreat
variable (N:Nat){a1 a2 a3:Int}{a0:Vj}
theorem U4:type_of% Tryz.underlying233:=Tryz.underlying233
variable {A1 A2 A3 A4 A5 A6 A7:Option Addr}{B1 B2 B3 B4 B6 M3 M7 c1 c2 c3 c4 c5 c6 c7 n1 n2 n3 n4 n5 n6 n7:Nat}
open Go.RowKit Asn
set_option maxRecDepth 20000
def sr (N:Nat)(p5:VE):Option VE:=
 some p5
def ku (N:Nat)(y6:((List Vq))):Nat->VE->Int->Option VE
 |0,_,_=>none
 |m8+1,p9,a6=>bif decide (a6<(y6.length:Int)) then ((ao y6 a6).bind fun a8=>aD (bY (p9.length+([a8.XI]:List Vs).length)) (aD (in64 (a6+1)) ((ku N y6 m8) (p9++([a8.XI]:List Vs)) (a6+1)))) else (sr N p9)
def eh (a0:Vi)(a1:Int):Option VE:=
 (eO N a0 a1).bind fun y6=>ku N y6 N [] 0
theorem zq {N:Nat}{a0:Vi}{r:VE}(h:eh N a0 a1=some r):Okc VK 51 [pV B1 0,iV a1] ([aC B1 191 [W A2 n2 c2,.map (some M3)],iI bn (W A2 n2 c2) a0.XH,mY d8 sC M3 a0.XV]) (fun u post=> ∃A0 n0 c0,u=W A0 n0 c0/\post=[oG A0 n0 c0 r]):=by
 refine bX Tryz.func51 ?_;refine ak (fun s L=> ∃p5 A5 n5 c5,sr N p5=some r/\s=[(4,W none 0 0),(5,W A5 n5 c5)]/\L=[oG A5 n5 c5 p5]) ?_ ?_
 ·refine ab ?_;obtain ⟨y6,k,h⟩:=aa h
  refine rP (oR (lx k)) fun A7 n7 c7=> ?_
  refine gZ (fun m s L=> ∃p9 a6 A9 n9 c9,ku N y6 m p9 a6=some r/\s=[(4,W none 0 0),(5,W A9 n9 c9),(10,W A7 n7 c7),(11,iV (y6.length:Int)),(12,iV a6)]/\L=[oG A9 n9 c9 p9,bh bn 159 (W A7 n7 c7) y6]) N _ _ ⟨[],0,none,0,0,h,J,J⟩ sA ((bq Bb 34 _).trans (cS [0,1] 5)) ?_;rintro (_|m8) _ _ ⟨p9,a6,A9,n9,c9,h,rfl,rfl⟩
  ·exact az h
  rw [ku.eq_2] at h;refine ab ?_;refine au ?_;refine gH J h ?_ ?_<;>intro h
  ·refine sY ?_;obtain ⟨a8,b0,b5,b6,h⟩:=aI h
   refine dD fun b9=> ?_
   refine gD (aL (R:=Bb) (vss:=[(BD a8.XI)]) (xs:=[a8.XI]) J (JH _ _ _) J J (fun _ _ hr=> .cons J All2.nil)) ?_;rintro _ _ ⟨c8,d0,d1,rfl,rfl⟩;obtain ⟨b7,h⟩:=ac h
   refine rP (aP 2 0 J J aj J J UU Sq J J b7) fun d2 d3 d4=> ?_
   obtain ⟨d6,h⟩:=ac h;exact lY
  exact jY
 rintro _ _ ⟨p5,A5,n5,c5,h,rfl,rfl⟩;exact eY
theorem qf {N:Nat}{a0:Vi}{r:VE}(h:eh N a0 a1=some r):Okc VK 51 [pV B1 0,iV a1] ([pDTable B1 a0]) (fun u post=> ∃A0 n0 c0,u=W A0 n0 c0/\post=[oG A0 n0 c0 r]):=NZ 0 rfl (fun _=>zq h)
def yr (N:Nat)(a0:Int):Option Bool:=
 some (!decide (a0=a0))
theorem Cb {N:Nat}{a0:Int}{r:Bool}(h:yr N a0=some r):Okc VK 212 [iV a0] ([]) (fun u post=>u=.bool r/\post=[]):=by
 refine bX Tryz.func212 ?_;exact eN
def vi (a0 a1:Int):Option Int:=
 (yr N a0).bind fun y1=>(yr N a1).bind fun y2=>bif y1 then (bif y2 then (some 0) else (some (-1))) else (bif y2 then (some 1) else (bif decide (a0<a1) then (some (-1)) else (bif decide (a1<a0) then (some 1) else (some 0))))
theorem yt {N:Nat}{a0 r:Int}(h:vi N a0 a1=some r):Okc VK 179 [iV a0,iV a1] ([]) (fun u post=>u=iV r/\post=[]):=by
 refine bX Tryz.func179 ?_
 refine cR h (fun _ k=>Cb k) fun y1 h=> ?_
 refine cR h (fun _ k=>Cb k) fun y2 h=> ?_
 refine sZ ?_;refine gH J h ?_ ?_<;>intro h
 ·refine sZ ?_;refine gH J h ?_ ?_<;>intro h
  ·exact eY
  exact eY
 refine sY ?_;refine gH J h ?_ ?_<;>intro h
 ·exact eY
 refine sY ?_;refine gH J h ?_ ?_<;>intro h
 ·exact eY
 refine sY ?_;refine gH J h ?_ ?_<;>intro h
 ·exact eY
 exact eY
def rC (a0 a1:Vs):Option Int:=
 (bif decide (a0.Xw=0) then (some (decide (a1.Xw=0))) else (some false)).bind fun b3=>bif b3 then ((vi N a0.N a1.N).bind fun y5=>some y5) else ((vi N a0.Xw a1.Xw).bind fun y6=>some y6)
theorem sK {N:Nat}{a0 a1:Vs}{r:Int}(h:rC N a0 a1=some r):Okc VK 135 [(nq a0),(nq a1)] ([]) (fun u post=>u=iV r/\post=[]):=by
 refine bX Tryz.func135 ?_;intro B1
 refine dD fun B2=> ?_
 refine sZ ?_;refine gS 4 12 8 h ?_;intro b3 h;refine dU h ?_ ?_<;>intro h
 ·refine cR h (fun _ k=>yt k) fun y5 h=> ?_
  exact eN
 refine cR h (fun _ k=>yt k) fun y6 h=> ?_
 exact eN
theorem pQ {r:Int}: ∀v post,((fun (u:Value) (post:VI)=>u=iV r/\post=[])) v post-> ∀c∈post,mN c:=by
 rintro _ _ ⟨rfl,rfl⟩;exact aQ
def ig (N:Nat)(a6:VE->Int->Option VE)(a1 a2 p5:Int)(p8:VE):Option VE:=
 aD (in64 (p5+1)) (a6 p8 (p5+1))
def dF (N:Nat)(b6:VE->Int->Option VE)(a1 a2 p5:Int):Nat->VE->Int->Option VE
 |0,_,_=>none
 |m9+1,a8,a6=>(bif decide (a1<a6) then ((ao a8 a6).bind fun b7=>aD (in64 (a6 - 1)) ((ao a8 (a6 - 1)).bind fun b9=>(rC N b7 b9).bind fun c0=>some (decide (c0<0)))) else (some false)).bind fun b12=>bif b12 then (aD (in64 (a6 - 1)) (aD (in64 (a6 - 1)) ((ao a8 (a6 - 1)).bind fun b0=>(ao a8 a6).bind fun b5=>(ao a8 a6).bind fun c8=>(ao (List.set a8 a6.toNat (⟨b0.Xw,b0.N,b0.S⟩:Vs)) (a6 - 1)).bind fun c9=>aD (in64 (a6 - 1)) ((dF N b6 a1 a2 p5 m9) (List.set (List.set a8 a6.toNat (⟨b0.Xw,b0.N,b0.S⟩:Vs)) ((a6 - 1).toNat) (⟨b5.Xw,b5.N,b5.S⟩:Vs)) (a6 - 1))))) else (ig N b6 a1 a2 p5 a8)
def bG (N:Nat)(a1 a2:Int):Nat->VE->Int->Option VE
 |0,_,_=>none
 |m3+1,p4,p5=>bif decide (p5<a2) then (dF N (bG N a1 a2 m3) a1 a2 p5 N p4 p5) else (some p4)
def cA (a0:VE)(a1 a2:Int):Option VE:=
 aD (in64 (a1+1)) (bG N a1 a2 N a0 (a1+1))
theorem dE {N:Nat}{a0 r:VE}(h:cA N a0 a1 a2=some r):Okc VK 216 [W A1 n1 c1,iV a1,iV a2,.func (.func 135) #[] #[]] ([oG A1 n1 c1 a0]) (fun u post=>u=.tuple #[]/\post=[oG A1 n1 c1 r]):=by
 refine bX Tryz.func216 ?_;obtain ⟨q2,h⟩:=ac h;refine ab ?_;refine lK (fun m s L=> ∃(p4:VE) (p5:Int),bG N a1 a2 m p4 p5=some r/\s=[(0,W A1 n1 c1),(1,iV a1),(2,iV a2),(3,.func (.func 135) #[] #[]),(8,iV p5)]/\L=[oG A1 n1 c1 p4]) N ?_;rintro m3 _ _ ⟨p4,p5,h,rfl,rfl⟩;rw [bG.eq_2] at h;refine sZ ?_;refine gH J h ?_ ?_<;>intro h
 ·refine ab ?_;refine ak (fun s L=> ∃p8,ig N (bG N a1 a2 m3) a1 a2 p5 p8=some r/\s=[(0,W A1 n1 c1),(1,iV a1),(2,iV a2),(3,.func (.func 135) #[] #[]),(8,iV p5)]/\L=[oG A1 n1 c1 p8]) ?_ ?_
  ·refine ab ?_;refine lK (fun m s L=> ∃(c0:VE) (a6:Int),dF N (bG N a1 a2 m3) a1 a2 p5 m c0 a6=some r/\s=[(0,W A1 n1 c1),(1,iV a1),(2,iV a2),(3,.func (.func 135) #[] #[]),(8,iV p5),(9,iV a6)]/\L=[oG A1 n1 c1 c0]) N ?_;rintro m9 _ _ ⟨c0,a6,h,rfl,rfl⟩;rw [dF.eq_2] at h;refine au ?_;refine dY [0,1,2,3] ?_
   refine yJ [4,5,6,7,8,9,10,11,12,13,14,15,16] 0 21 34 h (fun _ c9 h rest=> ?_) (fun _ c9 h rest=> ?_) fun b12 h=> ?_
   ·refine yY [4,5,6] ?_;obtain ⟨f1,e4,e5,e6,h⟩:=aI h;refine yY [7,8,9,10] ?_;obtain ⟨e2,h⟩:=ac h;refine wR 11 J I (wy J J e2.1 e2.2) (ew c9 J) J ?_;obtain ⟨f2,e7,e8,e9,h⟩:=aI h;refine yY [12,13] ?_;obtain ⟨f3,k,h⟩:=aa h;refine C7 14 J I (iK (sK k) J J J (aQ) pQ) J (ew c9 J) J ?_;rintro _ _ ⟨_,⟨rfl,rfl⟩,rfl⟩;refine ⟨_,ah _,ah _,?_⟩;refine yY [15,16] ?_;exact yS rest h
   ·refine yY [4,5,6,7,8,9,10,11,12,13,14,15,16] ?_;exact yS rest h
   refine dB I ?_;refine dU h ?_ ?_<;>intro h
   ·refine sY ?_;obtain ⟨c8,h⟩:=ac h;obtain ⟨e3,h⟩:=ac h;obtain ⟨a8,d0,d1,d2,h⟩:=aI h;obtain ⟨b0,d3,d4,d6,h⟩:=aI h;refine gK (t:=[(0,W A1 n1 c1),(1,iV a1),(2,iV a2),(3,.func (.func 135) #[] #[]),(8,iV p5),(9,iV a6)]) ?_ lg (ah _)
    refine gX I 14 [2,3,4] [0,1,2,4,9,13] [37,38,39,40,41,42,43,44,45,46,47,48,49,50] [[],[],[],[],[3],[],[],[6],[5,7],[8],[],[],[10,11],[12]] [aV (W A1 n1 c1),
 aV (iV a6),
 aV (W A1 n1 c1),
 aV (iV a6),
 aV (iV (a6 - 1)),
 aV (W A1 n1 c1),
 aV (iV a6),
 aV (iV (a6 - 1)),
 aV (dk (W A1 n1 c1) ((a6 - 1).toNat) 3 0),
 aV (.agg #[iV a8.Xw,iV a8.N,.string a8.S]),
 aV (W A1 n1 c1),
 aV (iV a6),
 aV (dk (W A1 n1 c1) a6.toNat 3 0),
 aV (.agg #[iV b0.Xw,iV b0.N,.string b0.S])] [] (ah _) (gN rfl (gN rfl (gN rfl kQ))) I rfl rfl ?_ ?_ ?_
    ·refine gM J ?_ ?_
     ·exact pn (ap J) J (ko J (ah _))
     refine gM J ?_ ?_
     ·exact pn (ap J) J (ko J (ah _))
     refine gM J ?_ ?_
     ·exact pn (wy J J c8.1 c8.2) J (ko J (ah _))
     exact kP
    ·refine aH J ?_ ?_
     ·exact vU (gp (us:=[iV b0.Xw,iV b0.N,.string b0.S]) 0 J aj J d6 agg34.out (fun _ _ _ h=>by rw [show _=_ from h];rfl)) J (ko J (ah _))
     refine qR (cK 0 J aj J J UU size34.out d3 d4) ?_;refine qE (ap J) ?_;refine qE (ap J) ?_;refine aH J ?_ ?_
     ·exact vU (gp (us:=[iV a8.Xw,iV a8.N,.string a8.S]) 0 J aj J d2 agg34.out (fun _ _ _ h=>by rw [show _=_ from h];rfl)) J (ko J (ah _))
     refine qR (cK 0 J aj J J UU size34.out d0 d1) ?_;refine qE (wy J J e3.1 e3.2) ?_;refine qE (ap J) ?_;refine qE (ap J) ?_;refine qE (wy J J c8.1 c8.2) ?_;refine qE (ap J) ?_;refine qE (ap J) ?_;refine qE (ap J) ?_;refine qE (ap J) ?_;exact dl
    refine nw (t:=[(37,W A1 n1 c1),(38,iV a6),(39,W A1 n1 c1),(41,iV (a6 - 1)),(46,.agg #[iV a8.Xw,iV a8.N,.string a8.S]),(50,.agg #[iV b0.Xw,iV b0.N,.string b0.S]),(0,W A1 n1 c1),(1,iV a1),(2,iV a2),(3,.func (.func 135) #[] #[]),(8,iV p5),(9,iV a6)]) (L':=[oG A1 n1 c1 c0]) ?_ lg (ah _);obtain ⟨f4,b5,b6,e0,h⟩:=aI h;refine JP 14 J I (cK 0 J aj J J UU size34.out b5 b6) J J J ?_;refine rN 15 J I (cH (us:=[iV a8.Xw,iV a8.N,.string a8.S]) (z:=(⟨a8.Xw,a8.N,a8.S⟩:Vs)) 0 J J J J size34.out J (toNat_lt b5 b6) J (fun S w vs xk hk hr ho=>by obtain rfl:=Xe (hk.symm.trans e0);rw [show _=_ from hr];rfl)) J J ?_;rintro _ _ rfl;obtain ⟨f9,b7,b9,e1,h⟩:=aI h;refine JP 16 J I (cK 0 J aj J J UU size34.out b7 b9) J J J ?_;refine rN 17 J I (cH (us:=[iV b0.Xw,iV b0.N,.string b0.S]) (z:=(⟨b0.Xw,b0.N,b0.S⟩:Vs)) 0 J J J J size34.out J (toNat_lt b7 b9) J (fun S w vs xk hk hr ho=>by obtain rfl:=Xe (hk.symm.trans e1);rw [show _=_ from hr];rfl)) J J ?_;rintro _ _ rfl;refine lc I ?_;refine ab ?_;obtain ⟨g0,h⟩:=ac h;exact lY
   exact jY
  rintro _ _ ⟨p8,h,rfl,rfl⟩;refine ab ?_;obtain ⟨g1,h⟩:=ac h;exact lY
 exact eY
def eL (N:Nat)(a1 a2 a3:Int):Nat->VE->Int->Option VE
 |0,_,_=>none
 |m2+1,p3,p4=>bif decide (p4<a3) then (aD (in64 (a1+p4)) (aD (in64 (a2+p4)) (aD (in64 (a2+p4)) ((ao p3 (a2+p4)).bind fun x9=>aD (in64 (a1+p4)) ((ao p3 (a1+p4)).bind fun a6=>(ao p3 (a1+p4)).bind fun a8=>(ao (List.set p3 ((a1+p4).toNat) (⟨x9.Xw,x9.N,x9.S⟩:Vs)) (a2+p4)).bind fun b0=>aD (in64 (p4+1)) ((eL N a1 a2 a3 m2) (List.set (List.set p3 ((a1+p4).toNat) (⟨x9.Xw,x9.N,x9.S⟩:Vs)) ((a2+p4).toNat) (⟨a6.Xw,a6.N,a6.S⟩:Vs)) (p4+1))))))) else (some p3)
def dp (a0:VE)(a1 a2 a3:Int):Option VE:=
 eL N a1 a2 a3 N a0 0
theorem eK {N:Nat}{a0 r:VE}(h:dp N a0 a1 a2 a3=some r):Okc VK 251 [W A1 n1 c1,iV a1,iV a2,iV a3,.func (.func 135) #[] #[]] ([oG A1 n1 c1 a0]) (fun u post=>u=.tuple #[]/\post=[oG A1 n1 c1 r]):=by
 refine bX Tryz.func251 ?_;refine lK (fun m s L=> ∃(p3:VE) (p4:Int),eL N a1 a2 a3 m p3 p4=some r/\s=[(0,W A1 n1 c1),(1,iV a1),(2,iV a2),(3,iV a3),(10,iV p4)]/\L=[oG A1 n1 c1 p3]) N ?_;rintro m2 _ _ ⟨p3,p4,h,rfl,rfl⟩;rw [eL.eq_2] at h;refine sZ ?_;refine gH J h ?_ ?_<;>intro h
 ·refine sY ?_;obtain ⟨q6,h⟩:=ac h;obtain ⟨q7,h⟩:=ac h;obtain ⟨q8,h⟩:=ac h;obtain ⟨x9,d1,d2,d3,h⟩:=aI h;obtain ⟨d0,h⟩:=ac h;obtain ⟨a6,b7,b9,c0,h⟩:=aI h;refine gK (t:=[(0,W A1 n1 c1),(1,iV a1),(2,iV a2),(3,iV a3),(10,iV p4)]) ?_ lg (ah _)
  refine gX I 20 [4,5,6,7] [0,3,4,7,13,19] [16,17,18,19,20,21,22,23,24,25,26,27,28,29,30,31,32,33,34,35] [[],[],[],[1,2],[],[],[],[5,6],[],[],[],[9,10],[8,11],[12],[],[],[],[15,16],[14,17],[18]] [aV (W A1 n1 c1),
 aV (iV a1),
 aV (iV p4),
 aV (iV (a1+p4)),
 aV (W A1 n1 c1),
 aV (iV a2),
 aV (iV p4),
 aV (iV (a2+p4)),
 aV (W A1 n1 c1),
 aV (iV a2),
 aV (iV p4),
 aV (iV (a2+p4)),
 aV (dk (W A1 n1 c1) ((a2+p4).toNat) 3 0),
 aV (.agg #[iV x9.Xw,iV x9.N,.string x9.S]),
 aV (W A1 n1 c1),
 aV (iV a1),
 aV (iV p4),
 aV (iV (a1+p4)),
 aV (dk (W A1 n1 c1) ((a1+p4).toNat) 3 0),
 aV (.agg #[iV a6.Xw,iV a6.N,.string a6.S])] [] (ah _) (gN rfl (gN rfl (gN rfl (gN rfl kQ)))) I rfl rfl ?_ ?_ ?_
  ·refine gM J ?_ ?_
   ·exact pn (ap J) J (ko J (ah _))
   refine gM J ?_ ?_
   ·exact pn (ap J) J (ko J (ah _))
   refine gM J ?_ ?_
   ·exact pn (ap J) J (ko J (ah _))
   refine gM J ?_ ?_
   ·exact pn (fU J J q7.1 q7.2) J (ko J (ah _))
   exact kP
  ·refine aH J ?_ ?_
   ·exact vU (gp (us:=[iV a6.Xw,iV a6.N,.string a6.S]) 0 J aj J c0 agg34.out (fun _ _ _ h=>by rw [show _=_ from h];rfl)) J (ko J (ah _))
   refine qR (cK 0 J aj J J UU size34.out b7 b9) ?_;refine qE (fU J J d0.1 d0.2) ?_;refine qE (ap J) ?_;refine qE (ap J) ?_;refine qE (ap J) ?_;refine aH J ?_ ?_
   ·exact vU (gp (us:=[iV x9.Xw,iV x9.N,.string x9.S]) 0 J aj J d3 agg34.out (fun _ _ _ h=>by rw [show _=_ from h];rfl)) J (ko J (ah _))
   refine qR (cK 0 J aj J J UU size34.out d1 d2) ?_;refine qE (fU J J q8.1 q8.2) ?_;refine qE (ap J) ?_;refine qE (ap J) ?_;refine qE (ap J) ?_;refine qE (fU J J q7.1 q7.2) ?_;refine qE (ap J) ?_;refine qE (ap J) ?_;refine qE (ap J) ?_;refine qE (fU J J q6.1 q6.2) ?_;refine qE (ap J) ?_;refine qE (ap J) ?_;refine qE (ap J) ?_;exact dl
  refine nw (t:=[(16,W A1 n1 c1),(19,iV (a1+p4)),(20,W A1 n1 c1),(23,iV (a2+p4)),(29,.agg #[iV x9.Xw,iV x9.N,.string x9.S]),(35,.agg #[iV a6.Xw,iV a6.N,.string a6.S]),(0,W A1 n1 c1),(1,iV a1),(2,iV a2),(3,iV a3),(10,iV p4)]) (L':=[oG A1 n1 c1 p3]) ?_ lg (ah _);obtain ⟨d4,a8,b0,c8,h⟩:=aI h;refine JP 20 J I (cK 0 J aj J J UU size34.out a8 b0) J J J ?_;refine rN 21 J I (cH (us:=[iV x9.Xw,iV x9.N,.string x9.S]) (z:=(⟨x9.Xw,x9.N,x9.S⟩:Vs)) 0 J J J J size34.out J (toNat_lt a8 b0) J (fun S w vs xk hk hr ho=>by obtain rfl:=Xe (hk.symm.trans c8);rw [show _=_ from hr];rfl)) J J ?_;rintro _ _ rfl;obtain ⟨d6,b5,b6,c9,h⟩:=aI h;refine JP 22 J I (cK 0 J aj J J UU size34.out b5 b6) J J J ?_;refine rN 23 J I (cH (us:=[iV a6.Xw,iV a6.N,.string a6.S]) (z:=(⟨a6.Xw,a6.N,a6.S⟩:Vs)) 0 J J J J size34.out J (toNat_lt b5 b6) J (fun S w vs xk hk hr ho=>by obtain rfl:=Xe (hk.symm.trans c9);rw [show _=_ from hr];rfl)) J J ?_;rintro _ _ rfl;refine lc I ?_;refine ab ?_;obtain ⟨e0,h⟩:=ac h;exact lY
 exact eY
def li (a2:Int)(p5:VE)(p6:Int):Option VE:=
 aD (in64 (a2 - p6)) ((dp N p5 (a2 - p6) a2 p6).bind fun a6=>some a6)
def dM (N:Nat)(a2:Int):Nat->VE->Int->Int->Option VE
 |0,_,_,_=>none
 |m7+1,p8,p9,a6=>bif !decide (p9=a6) then (bif decide (a6<p9) then (aD (in64 (a2 - p9)) ((dp N p8 (a2 - p9) a2 a6).bind fun a8=>aD (in64 (p9 - a6)) ((dM N a2 m7) a8 (p9 - a6) a6))) else (aD (in64 (a2 - p9)) (aD (in64 (a2+a6)) (aD (in64 ((a2+a6) - p9)) ((dp N p8 (a2 - p9) ((a2+a6) - p9) p9).bind fun b0=>aD (in64 (a6 - p9)) ((dM N a2 m7) b0 p9 (a6 - p9))))))) else (li N a2 p8 p9)
def lL (a0:VE)(a1 a2 a3:Int):Option VE:=
 aD (in64 (a2 - a1)) (aD (in64 (a3 - a2)) (dM N a2 N a0 (a2 - a1) (a3 - a2)))
theorem rn {N:Nat}{a0 r:VE}(h:lL N a0 a1 a2 a3=some r):Okc VK 240 [W A1 n1 c1,iV a1,iV a2,iV a3,.func (.func 135) #[] #[]] ([oG A1 n1 c1 a0]) (fun u post=>u=.tuple #[]/\post=[oG A1 n1 c1 r]):=by
 refine bX Tryz.func240 ?_;obtain ⟨q2,h⟩:=ac h;refine ab ?_;obtain ⟨q3,h⟩:=ac h;refine ab ?_;refine ak (fun s L=> ∃p5 p6,li N a2 p5 p6=some r/\s=[(0,W A1 n1 c1),(2,iV a2),(4,.func (.func 135) #[] #[]),(10,iV p6)]/\L=[oG A1 n1 c1 p5]) ?_ ?_
 ·refine ab ?_;refine lK (fun m s L=> ∃(p8:VE) (p9:Int) (a6:Int),dM N a2 m p8 p9 a6=some r/\s=[(0,W A1 n1 c1),(2,iV a2),(4,.func (.func 135) #[] #[]),(10,iV p9),(11,iV a6)]/\L=[oG A1 n1 c1 p8]) N ?_;rintro m7 _ _ ⟨p8,p9,a6,h,rfl,rfl⟩;rw [dM.eq_2] at h;refine sZ ?_;refine gH J h ?_ ?_<;>intro h
  ·refine dU h ?_ ?_<;>intro h
   ·refine ab ?_;obtain ⟨a8,h⟩:=ac h
    refine cC h (fun _ k=>eK k) fun b0 h=> ?_
    obtain ⟨b5,h⟩:=ac h;exact lY
   refine ab ?_;obtain ⟨b6,h⟩:=ac h;refine ab ?_;obtain ⟨b7,h⟩:=ac h;refine ab ?_;obtain ⟨b9,h⟩:=ac h
   refine cC h (fun _ k=>eK k) fun c0 h=> ?_
   obtain ⟨c8,h⟩:=ac h;exact lY
  exact jY
 rintro _ _ ⟨p5,p6,h,rfl,rfl⟩;refine ab ?_;obtain ⟨c9,h⟩:=ac h
 refine cC h (fun _ k=>eK k) fun d0 h=> ?_
 exact eN
def eH (N:Nat)(b0:VE->Int->Int->Int->Option VE)(a3 a1 a2 a6:Int)(a8:VE):Option VE:=
 (bif decide ((IntKind.i64.wrap ((IntKind.u64.wrap (a1+a3)).fdiv (2 ^ 1)))<((IntKind.i64.wrap ((IntKind.u64.wrap (a1+a3)).fdiv (2 ^ 1)))+a2) - a6) then (some (decide (((IntKind.i64.wrap ((IntKind.u64.wrap (a1+a3)).fdiv (2 ^ 1)))+a2) - a6<a3))) else (some false)).bind fun b5=>bif b5 then ((b0 a8 (IntKind.i64.wrap ((IntKind.u64.wrap (a1+a3)).fdiv (2 ^ 1))) (((IntKind.i64.wrap ((IntKind.u64.wrap (a1+a3)).fdiv (2 ^ 1)))+a2) - a6) a3).bind fun b6=>some b6) else (some a8)
def eI (a8:VE->Int->Int->Int->Option VE)(a1 a3 a6 a2:Int)(b0:VE):Option VE:=
 (bif decide (a1<a6) then (some (decide (a6<(IntKind.i64.wrap ((IntKind.u64.wrap (a1+a3)).fdiv (2 ^ 1)))))) else (some false)).bind fun b5=>bif b5 then ((a8 b0 a1 a6 (IntKind.i64.wrap ((IntKind.u64.wrap (a1+a3)).fdiv (2 ^ 1)))).bind fun b6=>eH N a8 a3 a1 a2 a6 b6) else (eH N a8 a3 a1 a2 a6 b0)
def jy (a8:VE->Int->Int->Int->Option VE)(a1 a2 a3:Int)(a0:VE)(a6:Int):Option VE:=
 aD (in64 (((IntKind.i64.wrap ((IntKind.u64.wrap (a1+a3)).fdiv (2 ^ 1)))+a2) - a6)) ((bif decide (a6<a2) then (some (decide (a2<((IntKind.i64.wrap ((IntKind.u64.wrap (a1+a3)).fdiv (2 ^ 1)))+a2) - a6))) else (some false)).bind fun b0=>bif b0 then ((lL N a0 a6 a2 (((IntKind.i64.wrap ((IntKind.u64.wrap (a1+a3)).fdiv (2 ^ 1)))+a2) - a6)).bind fun b5=>eI N a8 a1 a3 a6 a2 b5) else (eI N a8 a1 a3 a6 a2 a0))
def cZ (N:Nat)(b0:VE->Int->Int->Int->Option VE)(a1 a2 a3:Int)(a0:VE):Nat->Int->Int->Option VE
 |0,_,_=>none
 |b5+1,a6,a8=>bif decide (a6<a8) then (aD (in64 (a6+a8)) (aD (in64 ((((IntKind.i64.wrap ((IntKind.u64.wrap (a1+a3)).fdiv (2 ^ 1)))+a2) - 1) - (IntKind.i64.wrap ((IntKind.u64.wrap (a6+a8)).fdiv (2 ^ 1))))) ((ao a0 ((((IntKind.i64.wrap ((IntKind.u64.wrap (a1+a3)).fdiv (2 ^ 1)))+a2) - 1) - (IntKind.i64.wrap ((IntKind.u64.wrap (a6+a8)).fdiv (2 ^ 1))))).bind fun b6=>(ao a0 (IntKind.i64.wrap ((IntKind.u64.wrap (a6+a8)).fdiv (2 ^ 1)))).bind fun b7=>(rC N b6 b7).bind fun b9=>bif !(decide (b9<0)) then (aD (in64 ((IntKind.i64.wrap ((IntKind.u64.wrap (a6+a8)).fdiv (2 ^ 1)))+1)) ((cZ N b0 a1 a2 a3 a0 b5) ((IntKind.i64.wrap ((IntKind.u64.wrap (a6+a8)).fdiv (2 ^ 1)))+1) a8)) else ((cZ N b0 a1 a2 a3 a0 b5) a6 (IntKind.i64.wrap ((IntKind.u64.wrap (a6+a8)).fdiv (2 ^ 1))))))) else (jy N b0 a1 a2 a3 a0 a6)
def eJ (a6:VE->Int->Int->Int->Option VE)(a1 a2 a3:Int)(a0:VE)(a8 b0:Int):Option VE:=
 aD (in64 (((IntKind.i64.wrap ((IntKind.u64.wrap (a1+a3)).fdiv (2 ^ 1)))+a2) - 1)) (cZ N a6 a1 a2 a3 a0 N a8 b0)
def jA (a6:VE->Int->Int->Int->Option VE)(a1 a2 a3:Int)(a0:VE):Option VE:=
 aD (in64 (a1+a3)) (aD (in64 ((IntKind.i64.wrap ((IntKind.u64.wrap (a1+a3)).fdiv (2 ^ 1)))+a2)) (bif decide ((IntKind.i64.wrap ((IntKind.u64.wrap (a1+a3)).fdiv (2 ^ 1)))<a2) then (aD (in64 (((IntKind.i64.wrap ((IntKind.u64.wrap (a1+a3)).fdiv (2 ^ 1)))+a2) - a3)) (eJ N a6 a1 a2 a3 a0 (((IntKind.i64.wrap ((IntKind.u64.wrap (a1+a3)).fdiv (2 ^ 1)))+a2) - a3) (IntKind.i64.wrap ((IntKind.u64.wrap (a1+a3)).fdiv (2 ^ 1))))) else (eJ N a6 a1 a2 a3 a0 a1 a2)))
def eF (N:Nat)(b7:VE->Int->Int->Int->Option VE)(a1 a2 a3 b6:Int):Nat->VE->Int->Option VE
 |0,_,_=>none
 |b9+1,a8,a6=>bif decide (b6<a6) then (aD (in64 (a6 - 1)) (aD (in64 (a6 - 1)) ((ao a8 (a6 - 1)).bind fun b0=>(ao a8 a6).bind fun b5=>(ao a8 a6).bind fun c0=>(ao (List.set a8 a6.toNat (⟨b0.Xw,b0.N,b0.S⟩:Vs)) (a6 - 1)).bind fun c8=>aD (in64 (a6 - 1)) ((eF N b7 a1 a2 a3 b6 b9) (List.set (List.set a8 a6.toNat (⟨b0.Xw,b0.N,b0.S⟩:Vs)) ((a6 - 1).toNat) (⟨b5.Xw,b5.N,b5.S⟩:Vs)) (a6 - 1))))) else (some a8)
def jz (a6:VE->Int->Int->Int->Option VE)(a1 a2 a3:Int)(a0:VE)(a8:Int):Option VE:=
 eF N a6 a1 a2 a3 a8 N a0 a2
def db (N:Nat)(b0:VE->Int->Int->Int->Option VE)(a1 a2 a3:Int)(a0:VE):Nat->Int->Int->Option VE
 |0,_,_=>none
 |b5+1,a6,a8=>bif decide (a6<a8) then (aD (in64 (a6+a8)) ((ao a0 a2).bind fun b6=>(ao a0 (IntKind.i64.wrap ((IntKind.u64.wrap (a6+a8)).fdiv (2 ^ 1)))).bind fun b7=>(rC N b6 b7).bind fun b9=>bif !(decide (b9<0)) then (aD (in64 ((IntKind.i64.wrap ((IntKind.u64.wrap (a6+a8)).fdiv (2 ^ 1)))+1)) ((db N b0 a1 a2 a3 a0 b5) ((IntKind.i64.wrap ((IntKind.u64.wrap (a6+a8)).fdiv (2 ^ 1)))+1) a8)) else ((db N b0 a1 a2 a3 a0 b5) a6 (IntKind.i64.wrap ((IntKind.u64.wrap (a6+a8)).fdiv (2 ^ 1)))))) else (jz N b0 a1 a2 a3 a0 a6)
def fA (a6:VE->Int->Int->Int->Option VE)(a1 a2 a3:Int)(a0:VE):Option VE:=
 aD (in64 (a3 - a2)) (bif decide (a3 - a2=1) then (db N a6 a1 a2 a3 a0 N a1 a2) else (jA N a6 a1 a2 a3 a0))
def eG (N:Nat)(b6:VE->Int->Int->Int->Option VE)(a1 a2 a3 p7:Int):Nat->VE->Int->Option VE
 |0,_,_=>none
 |b7+1,a8,a6=>aD (in64 (p7 - 1)) (bif decide (a6<p7 - 1) then (aD (in64 (a6+1)) (aD (in64 (a6+1)) ((ao a8 (a6+1)).bind fun b0=>(ao a8 a6).bind fun b5=>(ao a8 a6).bind fun b9=>(ao (List.set a8 a6.toNat (⟨b0.Xw,b0.N,b0.S⟩:Vs)) (a6+1)).bind fun c0=>aD (in64 (a6+1)) ((eG N b6 a1 a2 a3 p7 b7) (List.set (List.set a8 a6.toNat (⟨b0.Xw,b0.N,b0.S⟩:Vs)) ((a6+1).toNat) (⟨b5.Xw,b5.N,b5.S⟩:Vs)) (a6+1))))) else (some a8))
def kl (a6:VE->Int->Int->Int->Option VE)(a1 a2 a3:Int)(a0:VE)(p7:Int):Option VE:=
 eG N a6 a1 a2 a3 p7 N a0 a1
def cl (N:Nat)(a8:VE->Int->Int->Int->Option VE)(a1 a2 a3:Int)(a0:VE):Nat->Int->Int->Option VE
 |0,_,_=>none
 |m8+1,p9,a6=>bif decide (p9<a6) then (aD (in64 (p9+a6)) ((ao a0 (IntKind.i64.wrap ((IntKind.u64.wrap (p9+a6)).fdiv (2 ^ 1)))).bind fun b0=>(ao a0 a1).bind fun b5=>(rC N b0 b5).bind fun b6=>bif decide (b6<0) then (aD (in64 ((IntKind.i64.wrap ((IntKind.u64.wrap (p9+a6)).fdiv (2 ^ 1)))+1)) ((cl N a8 a1 a2 a3 a0 m8) ((IntKind.i64.wrap ((IntKind.u64.wrap (p9+a6)).fdiv (2 ^ 1)))+1) a6)) else ((cl N a8 a1 a2 a3 a0 m8) p9 (IntKind.i64.wrap ((IntKind.u64.wrap (p9+a6)).fdiv (2 ^ 1)))))) else (kl N a8 a1 a2 a3 a0 p9)
def am (N:Nat):Nat->VE->Int->Int->Int->Option VE
 |0,_,_,_,_=>none
 |m2+1,a0,a1,a2,a3=>aD (in64 (a2 - a1)) (bif decide (a2 - a1=1) then (cl N (am N m2) a1 a2 a3 a0 N a2 a3) else (fA N (am N m2) a1 a2 a3 a0))
theorem pu {N m2:Nat}{a0:VE}:am N (m2+1) a0 a1 a2 a3=aD (in64 (a2 - a1)) (bif decide (a2 - a1=1) then (cl N (am N m2) a1 a2 a3 a0 N a2 a3) else (fA N (am N m2) a1 a2 a3 a0)):=rfl
def bu (a0:VE)(a1 a2 a3:Int):Option VE:=am N N a0 a1 a2 a3
theorem pt {N:Nat}: ∀(m0:Nat) {a0:VE} {a1:Int} {a2:Int} {a3:Int} {r:VE} (h:am N m0 a0 a1 a2 a3=some r) {A1:Option Addr} {n1 c1:Nat},Okc VK 217 [W A1 n1 c1,iV a1,iV a2,iV a3,.func (.func 135) #[] #[]] ([oG A1 n1 c1 a0]) (fun u post=>u=.tuple #[]/\post=[oG A1 n1 c1 r]):=by
 intro m0
 induction m0 with
 |zero=>intro a0 a1 a2 a3 r h A1 n1 c1;exact az h
 | succ m2 ih=>
  intro a0 a1 a2 a3 r h A1 n1 c1;rw [pu] at h;refine F6 Tryz.func217 J J ?_;simp only [uj];refine ak (fun s L=>fA N (am N m2) a1 a2 a3 a0=some r/\s=[(0,W A1 n1 c1),(1,iV a1),(2,iV a2),(3,iV a3),(4,.func (.func 135) #[] #[])]/\L=[oG A1 n1 c1 a0]) ?_ ?_
  ·refine ab ?_;obtain ⟨q4,h⟩:=ac h;refine dU h ?_ ?_<;>intro h
   ·refine ab ?_;refine ak (fun s L=> ∃p7,kl N (am N m2) a1 a2 a3 a0 p7=some r/\s=[(0,W A1 n1 c1),(1,iV a1),(2,iV a2),(3,iV a3),(4,.func (.func 135) #[] #[]),(10,iV p7)]/\L=[oG A1 n1 c1 a0]) ?_ ?_
    ·refine ab ?_;refine lK (fun m s L=> ∃(p9:Int) (e0:Int),cl N (am N m2) a1 a2 a3 a0 m p9 e0=some r/\s=[(0,W A1 n1 c1),(1,iV a1),(2,iV a2),(3,iV a3),(4,.func (.func 135) #[] #[]),(10,iV p9),(11,iV e0)]/\L=[oG A1 n1 c1 a0]) N ?_;rintro m8 _ _ ⟨p9,e0,h,rfl,rfl⟩;rw [cl.eq_2] at h;refine sZ ?_;refine gH J h ?_ ?_<;>intro h
     ·refine ab ?_;obtain ⟨k0,h⟩:=ac h;refine ab ?_;refine gE (BX J J U4) ?_;refine gE (H7 (v:=(IntKind.u64.wrap (p9+e0)).fdiv (2 ^ 1)) J J (fun _=>J)) ?_;refine dK (BX J J z9) ?_;refine dY [] ?_;refine ab ?_;obtain ⟨k2,h6,h7,h8,h⟩:=aI h;refine ab ?_;obtain ⟨k3,h9,i0,i1,h⟩:=aI h;refine ab ?_;obtain ⟨k4,k,h⟩:=aa h;refine zD 9 J (iK (sK k) J J J (aQ) pQ) ?_;rintro _ _ ⟨_,⟨rfl,rfl⟩,rfl⟩;refine ⟨_,ah _,ah _,?_⟩;refine dU h ?_ ?_<;>intro h
      ·refine ab ?_;obtain ⟨k5,h⟩:=ac h;exact lY
      exact lY
     exact jY
    rintro _ _ ⟨p7,h,rfl,rfl⟩;refine sZ ?_;refine lK (fun m s L=> ∃(e1:VE) (a6:Int),eG N (am N m2) a1 a2 a3 p7 m e1 a6=some r/\s=[(0,W A1 n1 c1),(1,iV a1),(2,iV a2),(3,iV a3),(4,.func (.func 135) #[] #[]),(10,iV p7),(13,iV a6)]/\L=[oG A1 n1 c1 e1]) N ?_;rintro k6 _ _ ⟨e1,a6,h,rfl,rfl⟩;rw [eG.eq_2] at h;refine sZ ?_;obtain ⟨k7,h⟩:=ac h;refine dU h ?_ ?_<;>intro h
    ·refine sY ?_;obtain ⟨e2,h⟩:=ac h;obtain ⟨h4,h⟩:=ac h;obtain ⟨a8,e9,f1,f2,h⟩:=aI h;obtain ⟨b0,f3,f4,f9,h⟩:=aI h;refine gK (t:=[(0,W A1 n1 c1),(1,iV a1),(2,iV a2),(3,iV a3),(4,.func (.func 135) #[] #[]),(10,iV p7),(13,iV a6)]) ?_ lg (ah _)
     refine gX I 14 [2,3,4] [0,1,2,4,9,13] [61,62,63,64,65,66,67,68,69,70,71,72,73,74] [[],[],[],[],[3],[],[],[6],[5,7],[8],[],[],[10,11],[12]] [aV (W A1 n1 c1),
aV (iV a6),
aV (W A1 n1 c1),
aV (iV a6),
aV (iV (a6+1)),
aV (W A1 n1 c1),
aV (iV a6),
aV (iV (a6+1)),
aV (dk (W A1 n1 c1) ((a6+1).toNat) 3 0),
aV (.agg #[iV a8.Xw,iV a8.N,.string a8.S]),
aV (W A1 n1 c1),
aV (iV a6),
aV (dk (W A1 n1 c1) a6.toNat 3 0),
aV (.agg #[iV b0.Xw,iV b0.N,.string b0.S])] [] (ah _) (gN rfl (gN rfl (gN rfl kQ))) I rfl rfl ?_ ?_ ?_
     ·refine gM J ?_ ?_
      ·exact pn (ap J) J (ko J (ah _))
      refine gM J ?_ ?_
      ·exact pn (ap J) J (ko J (ah _))
      refine gM J ?_ ?_
      ·exact pn (fU J J e2.1 e2.2) J (ko J (ah _))
      exact kP
     ·refine aH J ?_ ?_
      ·exact vU (gp (us:=[iV b0.Xw,iV b0.N,.string b0.S]) 0 J aj J f9 agg34.out (fun _ _ _ h=>by rw [show _=_ from h];rfl)) J (ko J (ah _))
      refine qR (cK 0 J aj J J UU size34.out f3 f4) ?_;refine qE (ap J) ?_;refine qE (ap J) ?_;refine aH J ?_ ?_
      ·exact vU (gp (us:=[iV a8.Xw,iV a8.N,.string a8.S]) 0 J aj J f2 agg34.out (fun _ _ _ h=>by rw [show _=_ from h];rfl)) J (ko J (ah _))
      refine qR (cK 0 J aj J J UU size34.out e9 f1) ?_;refine qE (fU J J h4.1 h4.2) ?_;refine qE (ap J) ?_;refine qE (ap J) ?_;refine qE (fU J J e2.1 e2.2) ?_;refine qE (ap J) ?_;refine qE (ap J) ?_;refine qE (ap J) ?_;refine qE (ap J) ?_;exact dl
     refine nw (t:=[(61,W A1 n1 c1),(62,iV a6),(63,W A1 n1 c1),(65,iV (a6+1)),(70,.agg #[iV a8.Xw,iV a8.N,.string a8.S]),(74,.agg #[iV b0.Xw,iV b0.N,.string b0.S]),(0,W A1 n1 c1),(1,iV a1),(2,iV a2),(3,iV a3),(4,.func (.func 135) #[] #[]),(10,iV p7),(13,iV a6)]) (L':=[oG A1 n1 c1 e1]) ?_ lg (ah _);obtain ⟨k8,c8,c9,g0,h⟩:=aI h;refine JP 14 J I (cK 0 J aj J J UU size34.out c8 c9) J J J ?_;refine rN 15 J I (cH (us:=[iV a8.Xw,iV a8.N,.string a8.S]) (z:=(⟨a8.Xw,a8.N,a8.S⟩:Vs)) 0 J J J J size34.out J (toNat_lt c8 c9) J (fun S w vs xk hk hr ho=>by obtain rfl:=Xe (hk.symm.trans g0);rw [show _=_ from hr];rfl)) J J ?_;rintro _ _ rfl;refine xW ?_;obtain ⟨k9,d0,d1,g1,h⟩:=aI h;refine JP 16 J I (cK 0 J aj J J UU size34.out d0 d1) J J J ?_;refine rN 17 J I (cH (us:=[iV b0.Xw,iV b0.N,.string b0.S]) (z:=(⟨b0.Xw,b0.N,b0.S⟩:Vs)) 0 J J J J size34.out J (toNat_lt d0 d1) J (fun S w vs xk hk hr ho=>by obtain rfl:=Xe (hk.symm.trans g1);rw [show _=_ from hr];rfl)) J J ?_;rintro _ _ rfl;refine xW ?_;refine lc I ?_;refine ab ?_;obtain ⟨l0,h⟩:=ac h;exact lY
    exact eY
   exact jY
  rintro _ _ ⟨h,rfl,rfl⟩;refine ak (fun s L=>jA N (am N m2) a1 a2 a3 a0=some r/\s=[(0,W A1 n1 c1),(1,iV a1),(2,iV a2),(3,iV a3),(4,.func (.func 135) #[] #[])]/\L=[oG A1 n1 c1 a0]) ?_ ?_
  ·refine ab ?_;obtain ⟨l1,h⟩:=ac h;refine dU h ?_ ?_<;>intro h
   ·refine ab ?_;refine ak (fun s L=> ∃c0,jz N (am N m2) a1 a2 a3 a0 c0=some r/\s=[(0,W A1 n1 c1),(1,iV a1),(2,iV a2),(3,iV a3),(4,.func (.func 135) #[] #[]),(14,iV c0)]/\L=[oG A1 n1 c1 a0]) ?_ ?_
    ·refine ab ?_;refine lK (fun m s L=> ∃(e3:Int) (e4:Int),db N (am N m2) a1 a2 a3 a0 m e3 e4=some r/\s=[(0,W A1 n1 c1),(1,iV a1),(2,iV a2),(3,iV a3),(4,.func (.func 135) #[] #[]),(14,iV e3),(15,iV e4)]/\L=[oG A1 n1 c1 a0]) N ?_;rintro l2 _ _ ⟨e3,e4,h,rfl,rfl⟩;rw [db.eq_2] at h;refine sZ ?_;refine gH J h ?_ ?_<;>intro h
     ·refine ab ?_;obtain ⟨l3,h⟩:=ac h;refine ab ?_;refine gE (BX J J U4) ?_;refine gE (H7 (v:=(IntKind.u64.wrap (e3+e4)).fdiv (2 ^ 1)) J J (fun _=>J)) ?_;refine dK (BX J J z9) ?_;refine dY [] ?_;refine ab ?_;obtain ⟨l4,i2,i8,j0,h⟩:=aI h;refine ab ?_;obtain ⟨l5,j1,j2,j3,h⟩:=aI h;refine ab ?_;obtain ⟨l6,k,h⟩:=aa h;refine zD 9 J (iK (sK k) J J J (aQ) pQ) ?_;rintro _ _ ⟨_,⟨rfl,rfl⟩,rfl⟩;refine ⟨_,ah _,ah _,?_⟩;refine dU h ?_ ?_<;>intro h
      ·refine ab ?_;obtain ⟨l7,h⟩:=ac h;exact lY
      exact lY
     exact jY
    rintro _ _ ⟨c0,h,rfl,rfl⟩;refine sZ ?_;refine lK (fun m s L=> ∃(e5:VE) (b5:Int),eF N (am N m2) a1 a2 a3 c0 m e5 b5=some r/\s=[(0,W A1 n1 c1),(1,iV a1),(2,iV a2),(3,iV a3),(4,.func (.func 135) #[] #[]),(14,iV c0),(17,iV b5)]/\L=[oG A1 n1 c1 e5]) N ?_;rintro l8 _ _ ⟨e5,b5,h,rfl,rfl⟩;rw [eF.eq_2] at h;refine sZ ?_;refine gH J h ?_ ?_<;>intro h
    ·refine sY ?_;obtain ⟨e6,h⟩:=ac h;obtain ⟨h5,h⟩:=ac h;obtain ⟨b6,g2,g3,g4,h⟩:=aI h;obtain ⟨b7,g5,g6,g7,h⟩:=aI h;refine gK (t:=[(0,W A1 n1 c1),(1,iV a1),(2,iV a2),(3,iV a3),(4,.func (.func 135) #[] #[]),(14,iV c0),(17,iV b5)]) ?_ lg (ah _)
     refine gX I 14 [2,3,4] [0,1,2,4,9,13] [113,114,115,116,117,118,119,120,121,122,123,124,125,126] [[],[],[],[],[3],[],[],[6],[5,7],[8],[],[],[10,11],[12]] [aV (W A1 n1 c1),
aV (iV b5),
aV (W A1 n1 c1),
aV (iV b5),
aV (iV (b5 - 1)),
aV (W A1 n1 c1),
aV (iV b5),
aV (iV (b5 - 1)),
aV (dk (W A1 n1 c1) ((b5 - 1).toNat) 3 0),
aV (.agg #[iV b6.Xw,iV b6.N,.string b6.S]),
aV (W A1 n1 c1),
aV (iV b5),
aV (dk (W A1 n1 c1) b5.toNat 3 0),
aV (.agg #[iV b7.Xw,iV b7.N,.string b7.S])] [] (ah _) (gN rfl (gN rfl (gN rfl kQ))) I rfl rfl ?_ ?_ ?_
     ·refine gM J ?_ ?_
      ·exact pn (ap J) J (ko J (ah _))
      refine gM J ?_ ?_
      ·exact pn (ap J) J (ko J (ah _))
      refine gM J ?_ ?_
      ·exact pn (wy J J e6.1 e6.2) J (ko J (ah _))
      exact kP
     ·refine aH J ?_ ?_
      ·exact vU (gp (us:=[iV b7.Xw,iV b7.N,.string b7.S]) 0 J aj J g7 agg34.out (fun _ _ _ h=>by rw [show _=_ from h];rfl)) J (ko J (ah _))
      refine qR (cK 0 J aj J J UU size34.out g5 g6) ?_;refine qE (ap J) ?_;refine qE (ap J) ?_;refine aH J ?_ ?_
      ·exact vU (gp (us:=[iV b6.Xw,iV b6.N,.string b6.S]) 0 J aj J g4 agg34.out (fun _ _ _ h=>by rw [show _=_ from h];rfl)) J (ko J (ah _))
      refine qR (cK 0 J aj J J UU size34.out g2 g3) ?_;refine qE (wy J J h5.1 h5.2) ?_;refine qE (ap J) ?_;refine qE (ap J) ?_;refine qE (wy J J e6.1 e6.2) ?_;refine qE (ap J) ?_;refine qE (ap J) ?_;refine qE (ap J) ?_;refine qE (ap J) ?_;exact dl
     refine nw (t:=[(113,W A1 n1 c1),(114,iV b5),(115,W A1 n1 c1),(117,iV (b5 - 1)),(122,.agg #[iV b6.Xw,iV b6.N,.string b6.S]),(126,.agg #[iV b7.Xw,iV b7.N,.string b7.S]),(0,W A1 n1 c1),(1,iV a1),(2,iV a2),(3,iV a3),(4,.func (.func 135) #[] #[]),(14,iV c0),(17,iV b5)]) (L':=[oG A1 n1 c1 e5]) ?_ lg (ah _);obtain ⟨l9,d2,d3,g8,h⟩:=aI h;refine JP 14 J I (cK 0 J aj J J UU size34.out d2 d3) J J J ?_;refine rN 15 J I (cH (us:=[iV b6.Xw,iV b6.N,.string b6.S]) (z:=(⟨b6.Xw,b6.N,b6.S⟩:Vs)) 0 J J J J size34.out J (toNat_lt d2 d3) J (fun S w vs xk hk hr ho=>by obtain rfl:=Xe (hk.symm.trans g8);rw [show _=_ from hr];rfl)) J J ?_;rintro _ _ rfl;refine xW ?_;obtain ⟨m1,d4,d6,g9,h⟩:=aI h;refine JP 16 J I (cK 0 J aj J J UU size34.out d4 d6) J J J ?_;refine rN 17 J I (cH (us:=[iV b7.Xw,iV b7.N,.string b7.S]) (z:=(⟨b7.Xw,b7.N,b7.S⟩:Vs)) 0 J J J J size34.out J (toNat_lt d4 d6) J (fun S w vs xk hk hr ho=>by obtain rfl:=Xe (hk.symm.trans g9);rw [show _=_ from hr];rfl)) J J ?_;rintro _ _ rfl;refine xW ?_;refine lc I ?_;refine ab ?_;obtain ⟨m3,h⟩:=ac h;exact lY
    exact eY
   exact jY
  rintro _ _ ⟨h,rfl,rfl⟩;refine ab ?_;obtain ⟨m4,h⟩:=ac h;refine ab ?_;refine gE (BX J J U4) ?_;refine gE (H7 (v:=(IntKind.u64.wrap (a1+a3)).fdiv (2 ^ 1)) J J (fun _=>J)) ?_;refine dK (BX J J z9) ?_;obtain ⟨m5,h⟩:=ac h;refine ab ?_;refine ak (fun s L=> ∃h0 h1,eJ N (am N m2) a1 a2 a3 a0 h0 h1=some r/\s=[(0,W A1 n1 c1),(1,iV a1),(2,iV a2),(3,iV a3),(4,.func (.func 135) #[] #[]),(18,iV (IntKind.i64.wrap ((IntKind.u64.wrap (a1+a3)).fdiv (2 ^ 1)))),(19,iV ((IntKind.i64.wrap ((IntKind.u64.wrap (a1+a3)).fdiv (2 ^ 1)))+a2)),(20,iV h0),(21,iV h1)]/\L=[oG A1 n1 c1 a0]) ?_ ?_
  ·refine dU h ?_ ?_<;>intro h
   ·refine ab ?_;obtain ⟨m6,h⟩:=ac h;exact jY
   exact jY
  rintro _ _ ⟨h0,h1,h,rfl,rfl⟩;refine ab ?_;obtain ⟨m7,h⟩:=ac h;refine ab ?_;refine ak (fun s L=> ∃b9,jy N (am N m2) a1 a2 a3 a0 b9=some r/\s=[(0,W A1 n1 c1),(1,iV a1),(2,iV a2),(3,iV a3),(4,.func (.func 135) #[] #[]),(18,iV (IntKind.i64.wrap ((IntKind.u64.wrap (a1+a3)).fdiv (2 ^ 1)))),(19,iV ((IntKind.i64.wrap ((IntKind.u64.wrap (a1+a3)).fdiv (2 ^ 1)))+a2)),(20,iV b9)]/\L=[oG A1 n1 c1 a0]) ?_ ?_
  ·refine ab ?_;refine lK (fun m s L=> ∃(e7:Int) (e8:Int),cZ N (am N m2) a1 a2 a3 a0 m e7 e8=some r/\s=[(0,W A1 n1 c1),(1,iV a1),(2,iV a2),(3,iV a3),(4,.func (.func 135) #[] #[]),(18,iV (IntKind.i64.wrap ((IntKind.u64.wrap (a1+a3)).fdiv (2 ^ 1)))),(19,iV ((IntKind.i64.wrap ((IntKind.u64.wrap (a1+a3)).fdiv (2 ^ 1)))+a2)),(20,iV e7),(21,iV e8),(22,iV (((IntKind.i64.wrap ((IntKind.u64.wrap (a1+a3)).fdiv (2 ^ 1)))+a2) - 1))]/\L=[oG A1 n1 c1 a0]) N ?_;rintro m9 _ _ ⟨e7,e8,h,rfl,rfl⟩;rw [cZ.eq_2] at h;refine sZ ?_;refine gH J h ?_ ?_<;>intro h
   ·refine ab ?_;obtain ⟨n0,h⟩:=ac h;refine ab ?_;refine gE (BX J J U4) ?_;refine gE (H7 (v:=(IntKind.u64.wrap (e7+e8)).fdiv (2 ^ 1)) J J (fun _=>J)) ?_;refine dK (BX J J z9) ?_;refine dY [] ?_;refine ab ?_;obtain ⟨n8,h⟩:=ac h;refine ab ?_;obtain ⟨n9,j4,j5,j6,h⟩:=aI h;refine ab ?_;obtain ⟨o0,j7,j8,j9,h⟩:=aI h;refine ab ?_;obtain ⟨o1,k,h⟩:=aa h;refine zD 11 J (iK (sK k) J J J (aQ) pQ) ?_;rintro _ _ ⟨_,⟨rfl,rfl⟩,rfl⟩;refine ⟨_,ah _,ah _,?_⟩;refine dU h ?_ ?_<;>intro h
    ·refine ab ?_;obtain ⟨o2,h⟩:=ac h;exact lY
    exact lY
   exact jY
  rintro _ _ ⟨b9,h,rfl,rfl⟩;refine ab ?_;obtain ⟨o3,h⟩:=ac h;refine ab ?_;refine ak (fun s L=> ∃h2,eI N (am N m2) a1 a3 b9 a2 h2=some r/\s=[(0,W A1 n1 c1),(1,iV a1),(3,iV a3),(4,.func (.func 135) #[] #[]),(18,iV (IntKind.i64.wrap ((IntKind.u64.wrap (a1+a3)).fdiv (2 ^ 1)))),(20,iV b9),(24,iV (((IntKind.i64.wrap ((IntKind.u64.wrap (a1+a3)).fdiv (2 ^ 1)))+a2) - b9))]/\L=[oG A1 n1 c1 h2]) ?_ ?_
  ·refine ab ?_;refine gS 4 185 181 h ?_;intro o4 h;refine dU h ?_ ?_<;>intro h
   ·refine cC h (fun _ k=>rn k) fun o5 h=> ?_
    exact jN
   exact jY
  rintro _ _ ⟨h2,h,rfl,rfl⟩;refine ak (fun s L=> ∃h3,eH N (am N m2) a3 a1 a2 b9 h3=some r/\s=[(0,W A1 n1 c1),(3,iV a3),(4,.func (.func 135) #[] #[]),(18,iV (IntKind.i64.wrap ((IntKind.u64.wrap (a1+a3)).fdiv (2 ^ 1)))),(24,iV (((IntKind.i64.wrap ((IntKind.u64.wrap (a1+a3)).fdiv (2 ^ 1)))+a2) - b9))]/\L=[oG A1 n1 c1 h3]) ?_ ?_
  ·refine ab ?_;refine gS 4 199 195 h ?_;intro p0 h;refine dU h ?_ ?_<;>intro h
   ·refine cC h (fun _ k=>ih k) fun p1 h=> ?_
    exact jN
   exact jY
  rintro _ _ ⟨h3,h,rfl,rfl⟩;refine ab ?_;refine gS 4 213 209 h ?_;intro p2 h;refine dU h ?_ ?_<;>intro h
  ·refine cC h (fun _ k=>ih k) fun p3 h=> ?_
   exact eN
  exact eY
theorem bH {N:Nat}{a0 r:VE}(h:bu N a0 a1 a2 a3=some r):Okc VK 217 [W A1 n1 c1,iV a1,iV a2,iV a3,.func (.func 135) #[] #[]] ([oG A1 n1 c1 a0]) (fun u post=>u=.tuple #[]/\post=[oG A1 n1 c1 r]):=pt N h
def fM (N:Nat)(a6:VE->Int->Option VE)(a1 a8:Int)(b0:VE):Option VE:=
 aD (in64 (a8*2)) (a6 b0 (a8*2))
def qn (a6:VE->Int->Option VE)(a1 a8:Int)(b0:VE):Option VE:=
 aD (in64 (0+a8)) (bif decide (0+a8<a1) then ((bu N b0 0 (0+a8) a1).bind fun b5=>fM N a6 a1 a8 b5) else (fM N a6 a1 a8 b0))
def fL (N:Nat)(a6:VE->Int->Option VE)(a1 a8:Int)(b0:VE):Option VE:=
 aD (in64 (a8*2)) (a6 b0 (a8*2))
def kH (a6:VE->Int->Option VE)(a1 a8:Int)(p21:VE)(b0:Int):Option VE:=
 aD (in64 (b0+a8)) (bif decide (b0+a8<a1) then ((bu N p21 b0 (b0+a8) a1).bind fun b5=>fL N a6 a1 a8 b5) else (fL N a6 a1 a8 p21))
def fI (N:Nat)(a8:VE->Int->Option VE)(a1 a6:Int):Nat->VE->Int->Int->Option VE
 |0,_,_,_=>none
 |b7+1,b6,b5,b0=>bif decide (b0<=a1) then (aD (in64 (b5+a6)) ((bu N b6 b5 (b5+a6) b0).bind fun b9=>aD (in64 (2*a6)) (aD (in64 (b0+(2*a6))) ((fI N a8 a1 a6 b7) b9 b0 (b0+(2*a6)))))) else (kH N a8 a1 a6 b6 b5)
def bc (N:Nat)(a1:Int):Nat->VE->Int->Option VE
 |0,_,_=>none
 |b0+1,a8,a6=>bif decide (a6<a1) then (aD (in64 (2*a6)) (fI N (bc N a1 b0) a1 a6 N a8 0 (2*a6))) else (some a8)
def rl (a1:Int)(a0:VE):Option VE:=
 (cA N a0 0 a1).bind fun a6=>bc N a1 N a6 20
def fK (N:Nat)(a6:VE->Int->Option VE)(a1 a8:Int)(b0:VE):Option VE:=
 aD (in64 (a8*2)) (a6 b0 (a8*2))
def qm (a6:VE->Int->Option VE)(a1 a8:Int)(b0:VE):Option VE:=
 aD (in64 (0+a8)) (bif decide (0+a8<a1) then ((bu N b0 0 (0+a8) a1).bind fun b5=>fK N a6 a1 a8 b5) else (fK N a6 a1 a8 b0))
def fJ (N:Nat)(a6:VE->Int->Option VE)(a1 a8:Int)(b0:VE):Option VE:=
 aD (in64 (a8*2)) (a6 b0 (a8*2))
def kG (a6:VE->Int->Option VE)(a1 a8:Int)(b5:VE)(b0:Int):Option VE:=
 aD (in64 (b0+a8)) (bif decide (b0+a8<a1) then ((bu N b5 b0 (b0+a8) a1).bind fun b6=>fJ N a6 a1 a8 b6) else (fJ N a6 a1 a8 b5))
def fH (N:Nat)(a8:VE->Int->Option VE)(a1 a6:Int):Nat->VE->Int->Int->Option VE
 |0,_,_,_=>none
 |b7+1,b6,b5,b0=>bif decide (b0<=a1) then (aD (in64 (b5+a6)) ((bu N b6 b5 (b5+a6) b0).bind fun b9=>aD (in64 (2*a6)) (aD (in64 (b0+(2*a6))) ((fH N a8 a1 a6 b7) b9 b0 (b0+(2*a6)))))) else (kG N a8 a1 a6 b6 b5)
def ba (N:Nat)(a1:Int):Nat->VE->Int->Option VE
 |0,_,_=>none
 |b0+1,a8,a6=>bif decide (a6<a1) then (aD (in64 (2*a6)) (fH N (ba N a1 b0) a1 a6 N a8 0 (2*a6))) else (some a8)
def lh (a1:Int)(p4:VE)(p5:Int):Option VE:=
 (cA N p4 p5 a1).bind fun a6=>ba N a1 N a6 20
def ge (N:Nat)(a1:Int):Nat->VE->Int->Int->Option VE
 |0,_,_,_=>none
 |m6+1,p7,p8,p9=>bif decide (p9<=a1) then ((cA N p7 p8 p9).bind fun a6=>aD (in64 (p9+20)) ((ge N a1 m6) a6 p9 (p9+20))) else (lh N a1 p7 p8)
def lJ (a0:VE)(a1:Int):Option VE:=
 ge N a1 N a0 0 20
theorem rk {N:Nat}{a0 r:VE}(h:lJ N a0 a1=some r):Okc VK 178 [W A1 n1 c1,iV a1,.func (.func 135) #[] #[]] ([oG A1 n1 c1 a0]) (fun u post=>u=.tuple #[]/\post=[oG A1 n1 c1 r]):=by
 refine bX Tryz.func178 ?_;refine ak (fun s L=>(rl N a1 a0=some r/\s=[(0,W A1 n1 c1),(1,iV a1),(2,.func (.func 135) #[] #[]),(6,iV 20),(7,iV 0)]/\L=[oG A1 n1 c1 a0])\/(∃p4 p5,lh N a1 p4 p5=some r/\s=[(0,W A1 n1 c1),(1,iV a1),(2,.func (.func 135) #[] #[]),(6,iV 20),(7,iV p5)]/\L=[oG A1 n1 c1 p4])) ?_ ?_
 ·refine ab ?_;refine lK (fun m s L=> ∃(p7:VE) (p8:Int) (p9:Int),ge N a1 m p7 p8 p9=some r/\s=[(0,W A1 n1 c1),(1,iV a1),(2,.func (.func 135) #[] #[]),(6,iV 20),(7,iV p8),(8,iV p9)]/\L=[oG A1 n1 c1 p7]) N ?_;rintro m6 _ _ ⟨p7,p8,p9,h,rfl,rfl⟩;rw [ge.eq_2] at h;refine sZ ?_;refine gH J h ?_ ?_<;>intro h
  ·refine cC h (fun _ k=>dE k) fun f2 h=> ?_
   obtain ⟨f3,h⟩:=ac h;exact lY
  refine ab ?_;exact ⟨_,_,.inr (⟨p7,p8,h,J,J⟩),sA,cS [0] 1⟩
 rintro _ _ (⟨h,rfl,rfl⟩|⟨p4,p5,h,rfl,rfl⟩)
 ·refine cC h (fun _ k=>dE k) fun f4 h=> ?_
  refine lK (fun m s L=> ∃(b0:VE) (a6:Int),bc N a1 m b0 a6=some r/\s=[(0,W A1 n1 c1),(1,iV a1),(2,.func (.func 135) #[] #[]),(6,iV a6)]/\L=[oG A1 n1 c1 b0]) N ?_;rintro b5 _ _ ⟨b0,a6,h,rfl,rfl⟩;rw [bc.eq_2] at h;refine sZ ?_;refine gH J h ?_ ?_<;>intro h
  ·refine ab ?_;obtain ⟨e3,h⟩:=ac h;refine dK (nr J J e3.1 e3.2) ?_;refine ak (fun s L=>(qn N (bc N a1 b5) a1 a6 b0=some r/\s=[(0,W A1 n1 c1),(1,iV a1),(2,.func (.func 135) #[] #[]),(6,iV a6),(7,iV 0)]/\L=[oG A1 n1 c1 b0])\/(∃p21 d0,kH N (bc N a1 b5) a1 a6 p21 d0=some r/\s=[(0,W A1 n1 c1),(1,iV a1),(2,.func (.func 135) #[] #[]),(6,iV a6),(7,iV d0)]/\L=[oG A1 n1 c1 p21])) ?_ ?_
   ·refine ab ?_;refine lK (fun m s L=> ∃(b9:VE) (c0:Int) (d1:Int),fI N (bc N a1 b5) a1 a6 m b9 c0 d1=some r/\s=[(0,W A1 n1 c1),(1,iV a1),(2,.func (.func 135) #[] #[]),(6,iV a6),(7,iV c0),(8,iV d1)]/\L=[oG A1 n1 c1 b9]) N ?_;rintro f9 _ _ ⟨b9,c0,d1,h,rfl,rfl⟩;rw [fI.eq_2] at h;refine sZ ?_;refine gH J h ?_ ?_<;>intro h
    ·refine ab ?_;obtain ⟨g0,h⟩:=ac h
     refine cC h (fun _ k=>bH k) fun g1 h=> ?_
     obtain ⟨e4,h⟩:=ac h;refine gE (nr J J e4.1 e4.2) ?_;obtain ⟨g2,h⟩:=ac h;exact lY
    refine ab ?_;exact ⟨_,_,.inr (⟨b9,c0,h,J,J⟩),sA,cS [0] 1⟩
   rintro _ _ (⟨h,rfl,rfl⟩|⟨p21,d0,h,rfl,rfl⟩)
   ·refine ak (fun s L=> ∃d2,fM N (bc N a1 b5) a1 a6 d2=some r/\s=[(0,W A1 n1 c1),(1,iV a1),(2,.func (.func 135) #[] #[]),(6,iV a6)]/\L=[oG A1 n1 c1 d2]) ?_ ?_
    ·refine ab ?_;obtain ⟨g3,h⟩:=ac h;refine dU h ?_ ?_<;>intro h
     ·refine cC h (fun _ k=>bH k) fun g4 h=> ?_
      exact jN
     exact jY
    rintro _ _ ⟨d2,h,rfl,rfl⟩;refine ab ?_;obtain ⟨e5,h⟩:=ac h;refine dK (nr J J e5.1 e5.2) ?_;exact lN
   refine ak (fun s L=> ∃d3,fL N (bc N a1 b5) a1 a6 d3=some r/\s=[(0,W A1 n1 c1),(1,iV a1),(2,.func (.func 135) #[] #[]),(6,iV a6)]/\L=[oG A1 n1 c1 d3]) ?_ ?_
   ·refine ab ?_;obtain ⟨g5,h⟩:=ac h;refine dU h ?_ ?_<;>intro h
    ·refine cC h (fun _ k=>bH k) fun g6 h=> ?_
     exact jN
    exact jY
   rintro _ _ ⟨d3,h,rfl,rfl⟩;refine ab ?_;obtain ⟨e6,h⟩:=ac h;refine dK (nr J J e6.1 e6.2) ?_;exact lN
  exact eY
 refine cC h (fun _ k=>dE k) fun g7 h=> ?_
 refine lK (fun m s L=> ∃(b6:VE) (a8:Int),ba N a1 m b6 a8=some r/\s=[(0,W A1 n1 c1),(1,iV a1),(2,.func (.func 135) #[] #[]),(6,iV a8)]/\L=[oG A1 n1 c1 b6]) N ?_;rintro b7 _ _ ⟨b6,a8,h,rfl,rfl⟩;rw [ba.eq_2] at h;refine sZ ?_;refine gH J h ?_ ?_<;>intro h
 ·refine ab ?_;obtain ⟨e7,h⟩:=ac h;refine dK (nr J J e7.1 e7.2) ?_;refine ak (fun s L=>(qm N (ba N a1 b7) a1 a8 b6=some r/\s=[(0,W A1 n1 c1),(1,iV a1),(2,.func (.func 135) #[] #[]),(6,iV a8),(7,iV 0)]/\L=[oG A1 n1 c1 b6])\/(∃d4 d6,kG N (ba N a1 b7) a1 a8 d4 d6=some r/\s=[(0,W A1 n1 c1),(1,iV a1),(2,.func (.func 135) #[] #[]),(6,iV a8),(7,iV d6)]/\L=[oG A1 n1 c1 d4])) ?_ ?_
  ·refine ab ?_;refine lK (fun m s L=> ∃(c8:VE) (c9:Int) (e0:Int),fH N (ba N a1 b7) a1 a8 m c8 c9 e0=some r/\s=[(0,W A1 n1 c1),(1,iV a1),(2,.func (.func 135) #[] #[]),(6,iV a8),(7,iV c9),(8,iV e0)]/\L=[oG A1 n1 c1 c8]) N ?_;rintro g8 _ _ ⟨c8,c9,e0,h,rfl,rfl⟩;rw [fH.eq_2] at h;refine sZ ?_;refine gH J h ?_ ?_<;>intro h
   ·refine ab ?_;obtain ⟨g9,h⟩:=ac h
    refine cC h (fun _ k=>bH k) fun h0 h=> ?_
    obtain ⟨e8,h⟩:=ac h;refine gE (nr J J e8.1 e8.2) ?_;obtain ⟨h1,h⟩:=ac h;exact lY
   refine ab ?_;exact ⟨_,_,.inr (⟨c8,c9,h,J,J⟩),sA,cS [0] 1⟩
  rintro _ _ (⟨h,rfl,rfl⟩|⟨d4,d6,h,rfl,rfl⟩)
  ·refine ak (fun s L=> ∃e1,fK N (ba N a1 b7) a1 a8 e1=some r/\s=[(0,W A1 n1 c1),(1,iV a1),(2,.func (.func 135) #[] #[]),(6,iV a8)]/\L=[oG A1 n1 c1 e1]) ?_ ?_
   ·refine ab ?_;obtain ⟨h2,h⟩:=ac h;refine dU h ?_ ?_<;>intro h
    ·refine cC h (fun _ k=>bH k) fun h3 h=> ?_
     exact jN
    exact jY
   rintro _ _ ⟨e1,h,rfl,rfl⟩;refine ab ?_;obtain ⟨e9,h⟩:=ac h;refine dK (nr J J e9.1 e9.2) ?_;exact lN
  refine ak (fun s L=> ∃e2,fJ N (ba N a1 b7) a1 a8 e2=some r/\s=[(0,W A1 n1 c1),(1,iV a1),(2,.func (.func 135) #[] #[]),(6,iV a8)]/\L=[oG A1 n1 c1 e2]) ?_ ?_
  ·refine ab ?_;obtain ⟨h4,h⟩:=ac h;refine dU h ?_ ?_<;>intro h
   ·refine cC h (fun _ k=>bH k) fun h5 h=> ?_
    exact jN
   exact jY
  rintro _ _ ⟨e2,h,rfl,rfl⟩;refine ab ?_;obtain ⟨f1,h⟩:=ac h;refine dK (nr J J f1.1 f1.2) ?_;exact lN
 exact eY
def lj (a0:VE):Option VE:=
 (lJ N a0 (a0.length:Int)).bind fun y2=>some y2
theorem qo {N:Nat}{a0 r:VE}(h:lj N a0=some r):Okc VK 134 [W A1 n1 c1,.func (.func 135) #[] #[]] ([oG A1 n1 c1 a0]) (fun u post=>u=.tuple #[]/\post=[oG A1 n1 c1 r]):=by
 refine bX Tryz.func134 ?_
 refine cC h (fun _ k=>rk k) fun y2 h=> ?_
 exact eN
def BB (p3:VE):Option VE:=
 (lj N p3).bind fun a6=>some a6
def wr (N:Nat)(a6:VE->Int->Option VE)(a0:VE)(p6:Int)(a8:VE):Option VE:=
 aD (in64 (p6+1)) (a6 a8 (p6+1))
def pR (N:Nat)(a0:VE):Nat->VE->Int->Option VE
 |0,_,_=>none
 |m4+1,p5,p6=>bif decide (p6<(a0.length:Int)) then ((ao a0 p6).bind fun a6=>(cW N a6).bind fun a8=>bif a8 then (aD (bY (p5.length+([a6]:List Vs).length)) (wr N (pR N a0 m4) a0 p6 (p5++([a6]:List Vs)))) else (wr N (pR N a0 m4) a0 p6 p5)) else (BB N p5)
def Dr (a0:VE):Option VE:=
 pR N a0 N [] 0
theorem HT {N:Nat}{a0 r:VE}(h:Dr N a0=some r):Okc VK 87 [W A1 n1 c1] ([TQ A1 n1 c1 a0]) (fun u post=> ∃A0 n0 c0,u=W A0 n0 c0/\post=[oG A0 n0 c0 r]):=by
 refine bX Tryz.func87 ?_;refine ak (fun s L=> ∃p3 A3 n3 c3,BB N p3=some r/\s=[(2,W none 0 0),(3,W A3 n3 c3)]/\L=[oG A3 n3 c3 p3]) ?_ ?_
 ·refine ab ?_;refine gZ (fun m s L=> ∃p5 p6 A5 n5 c5,pR N a0 m p5 p6=some r/\s=[(2,W none 0 0),(3,W A5 n5 c5),(6,W A1 n1 c1),(7,iV (a0.length:Int)),(8,iV p6)]/\L=[oG A5 n5 c5 p5,TQ A1 n1 c1 a0]) N _ _ ⟨[],0,none,0,0,h,J,J⟩ sA ((bq Bb 34 _).trans (cS [0,1] 2)) ?_;rintro (_|m4) _ _ ⟨p5,p6,A5,n5,c5,h,rfl,rfl⟩
  ·exact az h
  rw [pR.eq_2] at h;refine ab ?_;refine au ?_;refine gH J h ?_ ?_<;>intro h
  ·refine ab ?_;refine ak (fun s L=> ∃a8 b0 b5 b6,wr N (pR N a0 m4) a0 p6 a8=some r/\s=[(2,W none 0 0),(3,W b0 b5 b6),(6,W A1 n1 c1),(7,iV (a0.length:Int)),(8,iV p6)]/\L=[oG b0 b5 b6 a8,TQ A1 n1 c1 a0]) ?_ ?_
   ·refine ab ?_;obtain ⟨a6,b7,b9,c8,h⟩:=aI h
    refine dD fun d0=> ?_
    obtain ⟨d1,k,h⟩:=aa h;refine BJ (oR (sL k)) ?_;refine gH J h ?_ ?_<;>intro h
    ·refine ab ?_;refine gD (aL (R:=Bb) (vss:=[[iV a6.Xw,iV a6.N,.string a6.S]]) (xs:=[a6]) J (JH _ _ _) J J (fun _ _ hr=> .cons J All2.nil)) ?_;rintro _ _ ⟨d2,d3,d4,rfl,rfl⟩;obtain ⟨c9,h⟩:=ac h
     refine rP (aP 2 0 J J aj J J UU Sq J J c9) fun d6 e0 e1=> ?_
     exact jN
    exact jY
   rintro _ _ ⟨a8,b0,b5,b6,h,rfl,rfl⟩;refine ab ?_;obtain ⟨e2,h⟩:=ac h;exact lY
  exact jY
 rintro _ _ ⟨p3,A3,n3,c3,h,rfl,rfl⟩;refine ab ?_;obtain ⟨e3,k,h⟩:=aa h;refine BJ (oC (qo k)) ?_;exact eN
def zQ (a0:Vj)(a1:Vp):Option VE:=
 (cD N a0 a1).bind fun y5=>yL y5 (fun y5_0=>some []) (fun y5_1=>(bZ N a0).bind fun b0=>(eh N a0.XH y5_1.XG.XD).bind fun a6=>(Dr N a6).bind fun a8=>some a8)
theorem E1 {N:Nat}{a1:Vp}{r:VE}(h:zQ N a0 a1=some r){B1 B2 B3:Nat}:Okc VK 30 [pV B1 0,(aX a1)] ([pDWorld B1 B2 B3 a0]) (fun u post=> ∃A0 n0 c0,u=W A0 n0 c0/\post=[oG A0 n0 c0 r]):=by
 refine bX Tryz.func30 ?_;intro B4;refine ab ?_;obtain ⟨y5,a6,h⟩:=aa h;rcases y5 with y5_0|y5_1
 ·replace h:=Cq h;refine gD (oR (aM a6)) ?_;rintro _ _ ⟨_,⟨rfl,rfl⟩,rfl⟩;refine sY ?_;refine cz J ?_;refine ab ?_;obtain rfl:=jg h;exact z7 J J ((bq Bb 34 _).trans (cS [0] 3)) ⟨_,_,_,J,J⟩
 replace h:=Cp h;refine gD (oR (aM a6)) ?_;rintro _ _ ⟨_,⟨B7,A8,n8,c8,A9,n9,c9,rfl,rfl⟩,rfl⟩;refine sY ?_;refine cP J ?_;refine ab ?_;refine dY [0,2,3,4,5,6] ?_;obtain ⟨a8,k,h⟩:=aa h;refine zD 1 J (oR (dm k)) ?_;rintro _ _ ⟨_,⟨rfl,rfl⟩,rfl⟩;refine ⟨_,ah _,ah _,?_⟩;obtain ⟨b0,k,h⟩:=aa h
 refine yD 7 J (oR (qf k)) fun b5 b6 b7=> ?_
 obtain ⟨b9,k,h⟩:=aa h
 refine yD 8 J (oR (HT k)) fun d0 d1 d2=> ?_
 refine zX [9] ?_;exact eY
def rp (N:Nat)(p5:Vx):Option Vx:=
 some p5
def jE (N:Nat)(y6:((List Vq))):Nat->Vx->Int->Option Vx
 |0,_,_=>none
 |m8+1,p9,a6=>bif decide (a6<(y6.length:Int)) then ((ao y6 a6).bind fun a8=>aD (bY (p9.length+([a8.XE]:List Int).length)) (aD (in64 (a6+1)) ((jE N y6 m8) (p9++([a8.XE]:List Int)) (a6+1)))) else (rp N p9)
def fd (a0:Vi)(a1:Int):Option Vx:=
 (eO N a0 a1).bind fun y6=>jE N y6 N [] 0
theorem xu {N:Nat}{a0:Vi}{r:Vx}(h:fd N a0 a1=some r):Okc VK 50 [pV B1 0,iV a1] ([aC B1 191 [W A2 n2 c2,.map (some M3)],iI bn (W A2 n2 c2) a0.XH,mY d8 sC M3 a0.XV]) (fun u post=> ∃A0 n0 c0,u=W A0 n0 c0/\post=[fm A0 n0 c0 r]):=by
 refine bX Tryz.func50 ?_;refine ak (fun s L=> ∃p5 A5 n5 c5,rp N p5=some r/\s=[(4,W none 0 0),(5,W A5 n5 c5)]/\L=[fm A5 n5 c5 p5]) ?_ ?_
 ·refine ab ?_;obtain ⟨y6,k,h⟩:=aa h
  refine rP (oR (lx k)) fun A7 n7 c7=> ?_
  refine gZ (fun m s L=> ∃p9 a6 A9 n9 c9,jE N y6 m p9 a6=some r/\s=[(4,W none 0 0),(5,W A9 n9 c9),(10,W A7 n7 c7),(11,iV (y6.length:Int)),(12,iV a6)]/\L=[fm A9 n9 c9 p9,bh bn 159 (W A7 n7 c7) y6]) N _ _ ⟨[],0,none,0,0,h,J,J⟩ sA ((bq (jI .i64) 3 _).trans (cS [0,1] 5)) ?_;rintro (_|m8) _ _ ⟨p9,a6,A9,n9,c9,h,rfl,rfl⟩
  ·exact az h
  rw [jE.eq_2] at h;refine ab ?_;refine au ?_;refine gH J h ?_ ?_<;>intro h
  ·refine sY ?_;obtain ⟨a8,b0,b5,b6,h⟩:=aI h
   refine dD fun b9=> ?_
   refine gD (aL (R:=(jI .i64)) (vss:=[[iV a8.XE]]) (xs:=[a8.XE]) J (nv _) J J (fun _ _ hr=> .cons J All2.nil)) ?_;rintro _ _ ⟨c8,d0,d1,rfl,rfl⟩;obtain ⟨b7,h⟩:=ac h
   refine rP (aP 2 0 J J aj J J UV It J J b7) fun d2 d3 d4=> ?_
   obtain ⟨d6,h⟩:=ac h;exact lY
  exact jY
 rintro _ _ ⟨p5,A5,n5,c5,h,rfl,rfl⟩;exact eY
theorem we {N:Nat}{a0:Vi}{r:Vx}(h:fd N a0 a1=some r):Okc VK 50 [pV B1 0,iV a1] ([pDTable B1 a0]) (fun u post=> ∃A0 n0 c0,u=W A0 n0 c0/\post=[fm A0 n0 c0 r]):=NZ 0 rfl (fun _=>xu h)
def vJ (N:Nat)(a6:List Vk):Option (List Vk):=
 some a6
def nE (N:Nat)(a8:VE)(b5:Vx)(y5_1:Vo)(a0:Vj):Nat->(List Vk)->Int->Option (List Vk)
 |0,_,_=>none
 |b7+1,b0,a6=>bif decide (a6<(a8.length:Int)) then ((ao a8 a6).bind fun b9=>(ao b5 a6).bind fun c0=>(fh N (⟨y5_1.XG,a0,y5_1.at_⟩:Vo) a6 b9 c0).bind fun b6=>aD ((b0.length+([b6]:List Vk).length)<=549755813888) (aD (in64 (a6+1)) ((nE N a8 b5 y5_1 a0 b7) (b0++([b6]:List Vk)) (a6+1)))) else (vJ N b0)
def kS (a0:Vj)(a1:Vp):Option (List Vk):=
 (cD N a0 a1).bind fun y5=>yL y5 (fun y5_0=>some []) (fun y5_1=>(bZ N a0).bind fun b0=>(fd N a0.XH y5_1.XG.XD).bind fun a6=>(bZ N a0).bind fun b5=>(eh N a0.XH y5_1.XG.XD).bind fun a8=>nE N a8 a6 y5_1 a0 N [] 0)
theorem rZ {N:Nat}{a1:Vp}{r:List Vk}(h:kS N a0 a1=some r){B1 B2 B3:Nat}:Okc VK 15 [pV B1 0,(aX a1)] ([pDWorld B1 B2 B3 a0]) (fun u post=> ∃A0 n0 c0,u=W A0 n0 c0/\post=[bh tG 48 (W A0 n0 c0) r]):=by
 refine bX Tryz.func15 ?_;intro B4;refine ab ?_;obtain ⟨y5,f1,h⟩:=aa h;rcases y5 with y5_0|y5_1
 ·replace h:=Cq h;refine gD (oR (aM f1)) ?_;rintro _ _ ⟨_,⟨rfl,rfl⟩,rfl⟩;refine sY ?_;refine cz J ?_;refine ab ?_;obtain rfl:=jg h;exact z7 J J ((bq tG 48 _).trans (cS [0] 3)) ⟨_,_,_,J,J⟩
 replace h:=Cp h;refine gD (oR (aM f1)) ?_;rintro _ _ ⟨_,⟨B7,A8,n8,c8,A9,n9,c9,rfl,rfl⟩,rfl⟩;refine sY ?_;refine cP J ?_;refine ab ?_;refine dY [0,2,3,4,5,6] ?_;obtain ⟨g1,k,h⟩:=aa h;refine zD 1 J (oR (dm k)) ?_;rintro _ _ ⟨_,⟨rfl,rfl⟩,rfl⟩;refine ⟨_,ah _,ah _,?_⟩;obtain ⟨e0,k,h⟩:=aa h
 refine yD 7 J (oR (we k)) fun b7 b9 d0=> ?_
 refine zX [8] ?_;refine ab ?_;refine ak (fun s L=> ∃e1 e2 e3 e4,vJ N e1=some r/\s=[(4,W none 0 0),(7,W e2 e3 e4)]/\L=[bh tG 48 (W e2 e3 e4) e1]) ?_ ?_
 ·refine dY [0,2,3,4,5,6,9] ?_;obtain ⟨g2,k,h⟩:=aa h;refine zD 1 J (oR (dm k)) ?_;rintro _ _ ⟨_,⟨rfl,rfl⟩,rfl⟩;refine ⟨_,ah _,ah _,?_⟩;obtain ⟨d1,k,h⟩:=aa h
  refine yD 7 J (oR (qf k)) fun d2 d3 d4=> ?_
  refine zD 8 J (vH (rX 0 J aj J UU)) ?_;rintro _ _ ⟨rfl,rfl⟩;refine aW ?_;refine dB I ?_;refine ab ?_;refine gZ (fun m s L=> ∃d6 a8 b0 b5 b6,nE N d1 e0 y5_1 a0 m d6 a8=some r/\s=[(4,W none 0 0),(5,pV B7 0),(7,W b0 b5 b6),(8,W b7 b9 d0),(34,W d2 d3 d4),(35,iV (d1.length:Int)),(36,iV a8)]/\L=[bh tG 48 (W b0 b5 b6) d6,fm b7 b9 d0 e0,oG d2 d3 d4 d1,aB A8 n8 c8 y5_1.XG.Xy,aB A9 n9 c9 y5_1.XG.Xx,ae B7 103 [iV y5_1.XG.Xw,iV y5_1.XG.XD,iV y5_1.XG.XB,iV y5_1.XG.XC,W A8 n8 c8,W A9 n9 c9,pV B1 0,iV y5_1.at_.Xw,iV y5_1.at_.N,.string y5_1.at_.S],pDWorld B1 B2 B3 a0]) N _ _ ⟨[],0,none,0,0,h,J,J⟩ sA ((bq tG 48 _).trans (cS [0,2,1,4,5,3,7] 8)) ?_;rintro (_|g3) _ _ ⟨d6,a8,b0,b5,b6,h,rfl,rfl⟩
  ·exact az h
  rw [nE.eq_2] at h;refine ab ?_;refine au ?_;refine gH J h ?_ ?_<;>intro h
  ·refine sY ?_;obtain ⟨a6,f3,f4,f9,h⟩:=aI h
   refine dD fun e5=> ?_
   obtain ⟨e6,e7,e8,e9,h⟩:=aI h;refine gK (t:=[(4,W none 0 0),(5,pV B7 0),(7,W b0 b5 b6),(8,W b7 b9 d0),(9,iV a8),(10,pV e5 0),(34,W d2 d3 d4),(35,iV (d1.length:Int)),(36,iV a8)]) ?_ lg (ah _)
   refine gX I 8 [0] [0,1,2,3,7] [41,42,43,44,45,46,47,48] [[],[],[],[],[],[],[4,5],[6]] [aV (W b0 b5 b6),
aV (pV B7 0),
aV (iV a8),
aV (.agg #[iV a6.Xw,iV a6.N,.string a6.S]),
aV (W b7 b9 d0),
aV (iV a8),
aV (dk (W b7 b9 d0) a8.toNat 1 0),
aV (iV e6)] [] (ah _) (gN rfl kQ) I rfl rfl ?_ ?_ ?_
   ·refine gM J ?_ ?_
    ·exact pn (ap J) J (ko J (ah _))
    exact kP
   ·refine aH J ?_ ?_
    ·exact vU (kN (u:=iV e6) 2 J aj J e9 xP (fun _ _ _ h=>by rw [show _=_ from h];rfl)) J (ko J (ah _))
    refine qR (cK 2 J aj J J UV size3.out e7 e8) ?_;refine qE (ap J) ?_;refine qE (ap J) ?_;refine qR (ja (us:=[iV a6.Xw,iV a6.N,.string a6.S]) 0 J J agg34.out J) ?_;refine qE (ap J) ?_;refine qE (ap J) ?_;refine qE (ap J) ?_;exact dl
   refine nw (t:=[(41,W b0 b5 b6),(42,pV B7 0),(43,iV a8),(44,.agg #[iV a6.Xw,iV a6.N,.string a6.S]),(48,iV e6),(4,W none 0 0),(5,pV B7 0),(7,W b0 b5 b6),(8,W b7 b9 d0),(9,iV a8),(10,pV e5 0),(34,W d2 d3 d4),(35,iV (d1.length:Int)),(36,iV a8)]) (L':=[ae e5 34 [iV a6.Xw,iV a6.N,.string a6.S],bh tG 48 (W b0 b5 b6) d6,fm b7 b9 d0 e0,oG d2 d3 d4 d1,aB A8 n8 c8 y5_1.XG.Xy,aB A9 n9 c9 y5_1.XG.Xx,ae B7 103 [iV y5_1.XG.Xw,iV y5_1.XG.XD,iV y5_1.XG.XB,iV y5_1.XG.XC,W A8 n8 c8,W A9 n9 c9,pV B1 0,iV y5_1.at_.Xw,iV y5_1.at_.N,.string y5_1.at_.S],pDWorld B1 B2 B3 a0]) ?_ lg (ah _);obtain ⟨f2,k,h⟩:=aa h;refine qj 8 J I (oR (rx k)) J J J ?_;rintro _ _ ⟨_,⟨rfl,rfl⟩,rfl⟩;refine qj 9 J I (aL (R:=tG) (vss:=[(ki f2)]) (xs:=[f2]) J (O3 _ _ _ _ _ _ _ _ _ _ _ _ _) J J (fun _ _ hr=> .cons J All2.nil)) J J J ?_;rintro _ _ ⟨g4,g5,g6,rfl,rfl⟩;obtain ⟨g0,h⟩:=ac h;refine qj 10 J I (EV 2 0 J J aj J J EM TB J J J g0) J J J ?_;rintro _ _ ⟨g7,g8,g9,rfl,rfl⟩;refine DT 11 J I (mf J) J J J ?_;refine lc I ?_;refine ab ?_;obtain ⟨h0,h⟩:=ac h;exact lY
  exact jY
 rintro _ _ ⟨e1,e2,e3,e4,h,rfl,rfl⟩;exact eY
def nc (a0:Vj)(a1:Vp):Option Vj:=
 (cD N a0 a1).bind fun y5=>yL y5 (fun y5_0=>some a0) (fun y5_1=>(bp N (⟨(⟨y5_1.XG.Xw,y5_1.XG.XD,bQ .i64 y5_1.XG.XB 1,y5_1.XG.XC,y5_1.XG.Xy,y5_1.XG.Xx⟩:Vd),a0,y5_1.at_⟩:Vo) false).bind fun a6=>some a6.w_)
theorem wL {N:Nat}{a1:Vp}{r:Vj}(h:nc N a0 a1=some r){B1 B2 B3:Nat}:Okc VK 31 [pV B1 0,(aX a1)] ([oDWorld B1 B2 B3 a0]) (fun u post=>u=.tuple #[]/\post=[oDWorld B1 B2 B3 r]):=by
 refine bX Tryz.func31 ?_;intro B4;refine ab ?_;obtain ⟨y5,a6,h⟩:=aa h;rcases y5 with y5_0|y5_1
 ·replace h:=Cq h;refine gD (oR (aM a6)) ?_;rintro _ _ ⟨_,⟨rfl,rfl⟩,rfl⟩;refine ab ?_;refine cP J ?_;exact eY
 replace h:=Cp h;refine gD (oR (aM a6)) ?_;rintro _ _ ⟨_,⟨B6,A7,n7,c7,A8,n8,c8,rfl,rfl⟩,rfl⟩;refine ab ?_;refine cz J ?_;refine ab ?_;refine dK (zZ J J) ?_
 refine R7 h (fun _ k=>fF k) fun a8 b0 b5 b6 b7 b9 c0 h=> ?_
 exact eN
def xK (N:Nat)(a0:Vp)(p4:Int):Option Vn:=
 some (⟨51,p4,a0,(⟨0,0,⟨#[]⟩⟩:Vp),(⟨0,0,⟨#[]⟩⟩:Vp)⟩:Vn)
def EG (a0:Vp)(a1:Int):Option Vn:=
 bif decide (a1.tmod 8<0) then (aD (in64 ((a1.tmod 8)+8)) (xK N a0 ((a1.tmod 8)+8))) else (xK N a0 (a1.tmod 8))
theorem IN {N:Nat}{a0:Vp}{r:Vn}(h:EG N a0 a1=some r):Okc VK 33 [(aX a0),iV a1] ([]) (fun u post=>u=(qD r)/\post=[]):=by
 refine bX Tryz.func33 ?_;intro B1
 refine dD fun B2=> ?_
 refine dK (oX J J (by decide)) ?_;refine ak (fun s L=> ∃p4,xK N a0 p4=some r/\s=[(2,pV B1 0),(4,pV B2 0),(5,iV p4)]/\L=[ae B1 29 (ed a0),ae B2 36 [iV 0,iV 0,iV 0,iV 0,.string (⟨#[]⟩),iV 0,iV 0,.string (⟨#[]⟩),iV 0,iV 0,.string (⟨#[]⟩)]]) ?_ ?_
 ·refine dU h ?_ ?_<;>intro h
  ·refine ab ?_;obtain ⟨q6,h⟩:=ac h;exact jY
  exact jY
 rintro _ _ ⟨p4,h,rfl,rfl⟩;exact eY
def bj (N:Nat)(a0:Vn)(a1:Int):Option Bool:=
 some (!decide (aq .i64 a0.Has a1=0))
theorem cu {N:Nat}{a0:Vn}{r:Bool}(h:bj N a0 a1=some r):Okc VK 181 [(qD a0),iV a1] ([]) (fun u post=>u=.bool r/\post=[]):=by
 refine bX Tryz.func181 ?_;intro B1;refine ab ?_;refine dK (cy J J) ?_;exact eN
end Go.Proofs.YthhiddkljcacaaaGreat
namespace Go.Proofs.YthhiddkljcacaaaGreat
variable (N:Nat){a1 a2 a3:Int}{a0:Vj}
variable {A1 A2 A3 A4 A5 A6 A7:Option Addr}{B1 B2 B3 B4 B6 M3 M7 c1 c2 c3 c4 c5 c6 c7 n1 n2 n3 n4 n5 n6 n7:Nat}
open Go.RowKit Asn
set_option maxRecDepth 20000
def pU (N:Nat)(a6:Int):Option Int:=
 some a6
def qY (a0:Vn)(p7:Int):Option Int:=
 (bj N a0 32).bind fun a6=>bif a6 then (pU N (i4 .i64 p7 4)) else (pU N p7)
def qZ (a0:Vn)(p3:Int):Option Int:=
 (bj N a0 16).bind fun y8=>bif y8 then (qY N a0 (i4 .i64 p3 2)) else (qY N a0 p3)
def sQ (a0:Vn):Option Int:=
 (bj N a0 2).bind fun y4=>bif y4 then (qZ N a0 (i4 .i64 0 1)) else (qZ N a0 0)
theorem Ge {N:Nat}{a0:Vn}{r:Int}(h:sQ N a0=some r):Okc VK 183 [(qD a0)] ([]) (fun u post=>u=iV r/\post=[]):=by
 refine bX Tryz.func183 ?_;intro B1;refine ab ?_;refine ak (fun s L=> ∃p3,qZ N a0 p3=some r/\s=[(1,pV B1 0),(2,iV 0),(3,iV p3)]/\L=[ae B1 36 (uc a0)]) ?_ ?_
 ·refine cR h (fun _ k=>cu k) fun y4 h=> ?_
  refine gH J h ?_ ?_<;>intro h
  ·refine ab ?_;refine dK (qH J J) ?_;exact jN
  exact jY
 rintro _ _ ⟨p3,h,rfl,rfl⟩;refine ak (fun s L=> ∃p7,qY N a0 p7=some r/\s=[(1,pV B1 0),(2,iV 0),(3,iV p7)]/\L=[ae B1 36 (uc a0)]) ?_ ?_
 ·refine cR h (fun _ k=>cu k) fun y8 h=> ?_
  refine gH J h ?_ ?_<;>intro h
  ·refine ab ?_;refine dK (qH J J) ?_;exact jN
  exact jY
 rintro _ _ ⟨p7,h,rfl,rfl⟩;refine ak (fun s L=> ∃a6,pU N a6=some r/\s=[(2,iV 0),(3,iV a6)]/\L=[]) ?_ ?_
 ·refine cR h (fun _ k=>cu k) fun a8 h=> ?_
  refine gH J h ?_ ?_<;>intro h
  ·refine ab ?_;refine dK (qH J J) ?_;exact jN
  exact jY
 rintro _ _ ⟨a6,h,rfl,rfl⟩;exact eY
def oH (N:Nat)(a1:Vs)(a8 a6:Int)(a2:Vn)(b0 b5:Int)(b6:ByteArray)(b7 b9:Int)(c0:ByteArray)(c8 c9:Int)(d0:ByteArray):Option Vk:=
 some (⟨a1,i4 .i64 (bQ .i64 a8 a6) (aq .i64 a2.XE a6),(⟨b0,b5,b6⟩:Vp),(⟨b7,b9,c0⟩:Vp),(⟨c8,c9,d0⟩:Vp)⟩:Vk)
def oI (a2:Vn)(a1:Vs)(a6 a8 b0 b5:Int)(b6:ByteArray)(c8 c9:Int)(d0:ByteArray)(b7 b9:Int)(c0:ByteArray):Option Vk:=
 (bj N a2 8).bind fun d1=>bif d1 then (oH N a1 a6 a8 a2 b0 b5 b6 b7 b9 c0 a2.XM.Xw a2.XM.N a2.XM.S) else (oH N a1 a6 a8 a2 b0 b5 b6 b7 b9 c0 c8 c9 d0)
def oJ (a2:Vn)(a1:Vs)(a6 a8 c8 c9:Int)(p13:ByteArray)(b0 b5:Int)(b6:ByteArray)(b7 b9:Int)(c0:ByteArray):Option Vk:=
 (bj N a2 4).bind fun d0=>bif d0 then (oI N a2 a1 a6 a8 b7 b9 c0 b0 b5 b6 a2.XL.Xw a2.XL.N a2.XL.S) else (oI N a2 a1 a6 a8 b7 b9 c0 b0 b5 b6 c8 c9 p13)
def oK (a2:Vn)(a1:Vs)(p21 c0:Int)(c8:ByteArray)(a6 a8:Int)(p13:ByteArray)(b0 b5:Int)(b6:ByteArray)(b7:Int):Option Vk:=
 (sQ N a2).bind fun b9=>(bj N a2 1).bind fun c9=>bif c9 then (oJ N a2 a1 b7 b9 a6 a8 p13 b0 b5 b6 a2.Value.Xw a2.Value.N a2.Value.S) else (oJ N a2 a1 b7 b9 a6 a8 p13 b0 b5 b6 p21 c0 c8)
def oL (b6:Bool)(a0:Vk)(a2:Vn)(a1:Vs)(a6 a8:Int)(p13:ByteArray)(b0 b5:Int)(b7:ByteArray)(b9 p21 c0:Int)(c8:ByteArray):Option Vk:=
 bif b6 then (oK N a2 a1 p21 c0 c8 a6 a8 p13 b0 b5 b7 (i4 .i64 (i4 .i64 b9 (aq .i64 a0.XE 6)) 8)) else (oK N a2 a1 p21 c0 c8 a6 a8 p13 b0 b5 b7 (i4 .i64 b9 (aq .i64 a0.XE 6)))
def oM (a0:Vk)(b6:Bool)(a2:Vn)(a1:Vs)(a6 a8:Int)(p13:ByteArray)(b0 b5:Int)(b7:ByteArray):Option Vk:=
 (bif !b6 then (some (!(!decide (aq .i64 a0.XE 8=0)))) else (some false)).bind fun b9=>bif b9 then (oL N b6 a0 a2 a1 a6 a8 p13 b0 b5 b7 (aq .i64 a0.XE 1) a0.Value.Xw a0.Value.N a0.Value.S) else (oL N b6 a0 a2 a1 a6 a8 p13 b0 b5 b7 0 0 0 (⟨#[]⟩))
def ot (a0:Vk)(a1:Vs)(a2:Vn):Option Vk:=
 (bj N a2 12).bind fun y5=>(bif y5 then (some true) else ((bif !decide (aq .i64 a0.XE 8=0) then ((bj N a2 3).bind fun y8=>some (!y8)) else (some false)).bind fun b7=>some b7)).bind fun b6=>(bif b6 then (some (!decide (aq .i64 a0.XE 8=0))) else (some false)).bind fun a6=>bif a6 then (oM N a0 b6 a2 a1 a0.XL.Xw a0.XL.N a0.XL.S a0.XM.Xw a0.XM.N a0.XM.S) else (oM N a0 b6 a2 a1 0 0 (⟨#[]⟩) 0 0 (⟨#[]⟩))
theorem yo {N:Nat}{a0:Vk}{a1:Vs}{a2:Vn}{r:Vk}(h:ot N a0 a1 a2=some r):Okc VK 140 [(oW a0),(nq a1),(qD a2)] ([]) (fun u post=>u=(oW r)/\post=[]):=by
 refine bX Tryz.func140 ?_;intro B1
 refine dD fun B2=> ?_
 intro B3
 refine dD fun B4=> ?_
 refine dK (cy J J) ?_
 refine cR h (fun _ k=>cu k) fun y5 h=> ?_
 refine BK 7 24 17 h (fun _ g6 h=> ?_) fun b6 h=> ?_
 ·refine ab ?_
  refine qi 4 23 19 h (fun _ g7 h=> ?_) fun b7 h=> ?_
  ·refine cR h (fun _ k=>cu k) fun y8 h=> ?_
   exact gY
  exact gY
 refine dD fun B9=> ?_
 refine ak (fun s L=> ∃b5 b9 p13 a6 a8 b0,oM N a0 b6 a2 a1 b5 b9 p13 a6 a8 b0=some r/\s=[(3,pV B1 0),(5,pV B3 0),(6,pV B4 0),(7,.bool (!decide (aq .i64 a0.XE 8=0))),(8,.bool b6),(9,pV B9 0)]/\L=[ae B1 48 (ki a0),ae B3 36 (uc a2),ae B4 48 [iV 0,iV 0,.string (⟨#[]⟩),iV 0,iV 0,iV 0,.string (⟨#[]⟩),iV 0,iV 0,.string (⟨#[]⟩),iV 0,iV 0,.string (⟨#[]⟩)],ae B9 48 [iV a1.Xw,iV a1.N,.string a1.S,iV 0,iV 0,iV 0,.string (⟨#[]⟩),iV b5,iV b9,.string p13,iV a6,iV a8,.string b0]]) ?_ ?_
 ·refine ab ?_;refine gS 2 30 28 h ?_;intro e5 h;refine dU h ?_ ?_<;>intro h
  ·refine bi I ([ae B4 48 [iV 0,iV 0,.string (⟨#[]⟩),iV 0,iV 0,iV 0,.string (⟨#[]⟩),iV 0,iV 0,.string (⟨#[]⟩),iV 0,iV 0,.string (⟨#[]⟩)],ae B3 36 (uc a2),ae B2 34 (BD a1),ae B1 48 (ki a0)]) (cS [1,2,3,4] 5) ?_;refine ab ?_;refine zO 5 J (ar (us:=ed a0.XL) (cs':=[iV a1.Xw,iV a1.N,.string a1.S,iV 0,iV 0,iV 0,.string (⟨#[]⟩),iV a0.XL.Xw,iV a0.XL.N,.string a0.XL.S,iV 0,iV 0,.string (⟨#[]⟩)]) 0 J J J J size29.out J J J) ?_;rintro _ _ rfl;refine aW ?_;refine ab ?_;refine zO 7 J (ar (us:=ed a0.XM) (cs':=[iV a1.Xw,iV a1.N,.string a1.S,iV 0,iV 0,iV 0,.string (⟨#[]⟩),iV a0.XL.Xw,iV a0.XL.N,.string a0.XL.S,iV a0.XM.Xw,iV a0.XM.N,.string a0.XM.S]) 0 J J J J size29.out J J J) ?_;rintro _ _ rfl;refine aW ?_;exact jY
  exact jY
 rintro _ _ ⟨b5,b9,p13,a6,a8,b0,h,rfl,rfl⟩;refine ak (fun s L=> ∃e1 p21 d2 d3,oL N b6 a0 a2 a1 b5 b9 p13 a6 a8 b0 e1 p21 d2 d3=some r/\s=[(3,pV B1 0),(5,pV B3 0),(6,pV B4 0),(8,.bool b6),(9,pV B9 0)]/\L=[ae B1 48 (ki a0),ae B3 36 (uc a2),ae B4 48 [iV 0,iV 0,.string (⟨#[]⟩),iV 0,iV 0,iV 0,.string (⟨#[]⟩),iV 0,iV 0,.string (⟨#[]⟩),iV 0,iV 0,.string (⟨#[]⟩)],ae B9 48 [iV a1.Xw,iV a1.N,.string a1.S,iV e1,iV p21,iV d2,.string d3,iV b5,iV b9,.string p13,iV a6,iV a8,.string b0]]) ?_ ?_
 ·refine ab ?_;refine gS 3 42 39 h ?_;intro e6 h;refine dU h ?_ ?_<;>intro h
  ·refine ab ?_;refine dK (cy J J) ?_;exact jN
  exact jY
 rintro _ _ ⟨e1,p21,d2,d3,h,rfl,rfl⟩;refine ab ?_;refine gE (cy J J) ?_;refine dK (qH J J) ?_;refine ak (fun s L=> ∃c0,oK N a2 a1 p21 d2 d3 b5 b9 p13 a6 a8 b0 c0=some r/\s=[(5,pV B3 0),(6,pV B4 0),(9,pV B9 0)]/\L=[ae B3 36 (uc a2),ae B4 48 [iV 0,iV 0,.string (⟨#[]⟩),iV 0,iV 0,iV 0,.string (⟨#[]⟩),iV 0,iV 0,.string (⟨#[]⟩),iV 0,iV 0,.string (⟨#[]⟩)],ae B9 48 [iV a1.Xw,iV a1.N,.string a1.S,iV c0,iV p21,iV d2,.string d3,iV b5,iV b9,.string p13,iV a6,iV a8,.string b0]]) ?_ ?_
 ·refine dU h ?_ ?_<;>intro h
  ·refine ab ?_;refine dK (qH J J) ?_;exact jN
  exact jY
 rintro _ _ ⟨c0,h,rfl,rfl⟩
 refine cR h (fun _ k=>Ge k) fun c8 h=> ?_
 refine dK (zZ J J) ?_;refine gE (cy J J) ?_;refine dK (qH J J) ?_;refine ak (fun s L=> ∃c9 d0 d1,oJ N a2 a1 c0 c8 b5 b9 p13 a6 a8 b0 c9 d0 d1=some r/\s=[(5,pV B3 0),(6,pV B4 0),(9,pV B9 0)]/\L=[ae B3 36 (uc a2),ae B4 48 [iV 0,iV 0,.string (⟨#[]⟩),iV 0,iV 0,iV 0,.string (⟨#[]⟩),iV 0,iV 0,.string (⟨#[]⟩),iV 0,iV 0,.string (⟨#[]⟩)],ae B9 48 [iV a1.Xw,iV a1.N,.string a1.S,iV (i4 .i64 (bQ .i64 c0 c8) (aq .i64 a2.XE c8)),iV c9,iV d0,.string d1,iV b5,iV b9,.string p13,iV a6,iV a8,.string b0]]) ?_ ?_
 ·refine cR h (fun _ k=>cu k) fun e7 h=> ?_
  refine gH J h ?_ ?_<;>intro h
  ·exact jY
  exact jY
 rintro _ _ ⟨c9,d0,d1,h,rfl,rfl⟩;refine ak (fun s L=> ∃d4 d6 e0,oI N a2 a1 c0 c8 c9 d0 d1 a6 a8 b0 d4 d6 e0=some r/\s=[(5,pV B3 0),(6,pV B4 0),(9,pV B9 0)]/\L=[ae B3 36 (uc a2),ae B4 48 [iV 0,iV 0,.string (⟨#[]⟩),iV 0,iV 0,iV 0,.string (⟨#[]⟩),iV 0,iV 0,.string (⟨#[]⟩),iV 0,iV 0,.string (⟨#[]⟩)],ae B9 48 [iV a1.Xw,iV a1.N,.string a1.S,iV (i4 .i64 (bQ .i64 c0 c8) (aq .i64 a2.XE c8)),iV c9,iV d0,.string d1,iV d4,iV d6,.string e0,iV a6,iV a8,.string b0]]) ?_ ?_
 ·refine cR h (fun _ k=>cu k) fun e8 h=> ?_
  refine gH J h ?_ ?_<;>intro h
  ·exact jY
  exact jY
 rintro _ _ ⟨d4,d6,e0,h,rfl,rfl⟩;refine ak (fun s L=> ∃e2 e3 e4,oH N a1 c0 c8 a2 c9 d0 d1 d4 d6 e0 e2 e3 e4=some r/\s=[(6,pV B4 0),(9,pV B9 0)]/\L=[ae B4 48 [iV 0,iV 0,.string (⟨#[]⟩),iV 0,iV 0,iV 0,.string (⟨#[]⟩),iV 0,iV 0,.string (⟨#[]⟩),iV 0,iV 0,.string (⟨#[]⟩)],ae B9 48 [iV a1.Xw,iV a1.N,.string a1.S,iV (i4 .i64 (bQ .i64 c0 c8) (aq .i64 a2.XE c8)),iV c9,iV d0,.string d1,iV d4,iV d6,.string e0,iV e2,iV e3,.string e4]]) ?_ ?_
 ·refine cR h (fun _ k=>cu k) fun e9 h=> ?_
  refine gH J h ?_ ?_<;>intro h
  ·exact jY
  exact jY
 rintro _ _ ⟨e2,e3,e4,h,rfl,rfl⟩;exact eY
def uQ (a0:Vn)(a1:Vs):Option Vk:=
 (ot N (⟨(⟨0,0,⟨#[]⟩⟩:Vs),0,(⟨0,0,⟨#[]⟩⟩:Vp),(⟨0,0,⟨#[]⟩⟩:Vp),(⟨0,0,⟨#[]⟩⟩:Vp)⟩:Vk) a1 a0).bind fun y4=>some y4
theorem H9 {N:Nat}{a0:Vn}{a1:Vs}{r:Vk}(h:uQ N a0 a1=some r):Okc VK 138 [(qD a0),(nq a1)] ([]) (fun u post=>u=(oW r)/\post=[]):=by
 refine bX Tryz.func138 ?_;intro B1
 refine dD fun B2=> ?_
 intro B3
 refine cR h (fun _ k=>yo k) fun y4 h=> ?_
 exact eN
def pW (N:Nat)(a0 a1:Vp):Option Bool:=
 some (decide (a0=a1))
theorem vg {N:Nat}{a0 a1:Vp}{r:Bool}(h:pW N a0 a1=some r):Okc VK 182 [(aX a0),(aX a1)] ([]) (fun u post=>u=.bool r/\post=[]):=by
 refine bX Tryz.func182 ?_;intro B1
 refine dD fun B2=> ?_
 refine dK (BU (x:=a0) (y:=a1) J J) ?_;exact eN
def pm (a0:Vk)(a1:Vn):Option Bool:=
 (bj N a1 32).bind fun y3=>(bif y3 then (some (!decide (aq .i64 a1.XE 4=0))) else (some false)).bind fun b4=>(bif b4 then (some true) else ((bj N a1 16).bind fun y6=>(bif y6 then (some (!decide (aq .i64 (Il .i64 a1.XE a0.XE) 2=0))) else (some false)).bind fun b7=>some b7)).bind fun b5=>bif b5 then (some true) else (bif !decide (aq .i64 a0.XE 8=0) then ((bj N a1 3).bind fun a6=>(bif a6 then (some true) else ((bj N a1 4).bind fun a8=>(bif a8 then ((pW N a1.XL a0.XL).bind fun b0=>some (!b0)) else (some false)).bind fun b6=>some b6)).bind fun b9=>(bif b9 then (some true) else ((bj N a1 8).bind fun c0=>(bif c0 then ((pW N a1.XM a0.XM).bind fun c8=>some (!c8)) else (some false)).bind fun c9=>some c9)).bind fun d0=>some d0) else ((bj N a1 12).bind fun d1=>bif d1 then (some true) else ((bif decide (aq .i64 a0.XE 1=0) then ((bj N a1 2).bind fun d2=>(bif d2 then (some (!decide (aq .i64 a1.XE 1=0))) else (some false)).bind fun d3=>(bif d3 then (some true) else ((bj N a1 1).bind fun d4=>(bif d4 then ((pW N a1.Value a0.Value).bind fun d6=>some (!d6)) else (some false)).bind fun e0=>some e0)).bind fun e1=>some e1) else (some false)).bind fun e2=>some e2)))
theorem H8 {N:Nat}{a0:Vk}{a1:Vn}{r:Bool}(h:pm N a0 a1=some r):Okc VK 139 [(oW a0),(qD a1)] ([]) (fun u post=>u=.bool r/\post=[]):=by
 refine bX Tryz.func139 ?_;intro B1
 refine dD fun B2=> ?_
 refine sZ ?_
 refine cR h (fun _ k=>cu k) fun y3 h=> ?_
 refine qi 5 12 7 h (fun _ g4 h=> ?_) fun b4 h=> ?_
 ·refine ab ?_;refine ie (cy J J) J (ew g4 J) J ?_;exact gY
 refine ab ?_
 refine BK 12 25 13 h (fun _ g5 h=> ?_) fun b5 h=> ?_
 ·refine cR h (fun _ k=>cu k) fun y6 h=> ?_
  refine qi 8 24 16 h (fun _ g7 h=> ?_) fun b7 h=> ?_
  ·refine ab ?_;refine ie (KN J J) J (ew g7 J) J ?_;refine ie (cy J J) J (ew g7 J) J ?_;exact gY
  exact gY
 refine dU h ?_ ?_<;>intro h
 ·exact eY
 refine sY ?_;refine dK (cy J J) ?_;refine gH J h ?_ ?_<;>intro h
 ·refine cR h (fun _ k=>cu k) fun a8 h=> ?_
  refine BK 11 43 32 h (fun _ b0 h=> ?_) fun b6 h=> ?_
  ·refine cR h (fun _ k=>cu k) fun b9 h=> ?_
   refine qi 7 42 35 h (fun _ c0 h=> ?_) fun c8 h=> ?_
   ·refine cR h (fun _ k=>vg k) fun c9 h=> ?_
    exact gY
   exact gY
  refine ab ?_
  refine BK 11 55 44 h (fun _ d0 h=> ?_) fun d1 h=> ?_
  ·refine cR h (fun _ k=>cu k) fun d2 h=> ?_
   refine qi 7 54 47 h (fun _ d3 h=> ?_) fun d4 h=> ?_
   ·refine cR h (fun _ k=>vg k) fun d6 h=> ?_
    exact gY
   exact gY
  exact eY
 refine sY ?_
 refine cR h (fun _ k=>cu k) fun e0 h=> ?_
 refine gH J h ?_ ?_<;>intro h
 ·exact eY
 refine ab ?_;refine dK (cy J J) ?_
 refine qi 21 83 62 h (fun _ e1 h=> ?_) fun e2 h=> ?_
 ·refine cR h (fun _ k=>cu k) fun e3 h=> ?_
  refine qi 5 70 65 h (fun _ a6 h=> ?_) fun e4 h=> ?_
  ·refine ab ?_;refine ie (cy J J) J (ew a6 J) J ?_;exact gY
  refine ab ?_
  refine BK 11 82 71 h (fun _ e5 h=> ?_) fun e6 h=> ?_
  ·refine cR h (fun _ k=>cu k) fun e7 h=> ?_
   refine qi 7 81 74 h (fun _ e8 h=> ?_) fun e9 h=> ?_
   ·refine cR h (fun _ k=>vg k) fun f1 h=> ?_
    exact gY
   exact gY
  exact gY
 exact eY
def lI (a0:Vk)(a1 a2:Bool)(a3:Vs)(a4:Vn):Option (Vk×Bool):=
 bif !a1 then (bif !a2 then (some ((⟨(⟨0,0,⟨#[]⟩⟩:Vs),0,(⟨0,0,⟨#[]⟩⟩:Vp),(⟨0,0,⟨#[]⟩⟩:Vp),(⟨0,0,⟨#[]⟩⟩:Vp)⟩:Vk),false)) else ((uQ N a4 a3).bind fun y7=>some (y7,true))) else ((bif decide (aq .i64 a0.XE 4=0) then ((pm N a0 a4).bind fun y9=>some y9) else (some false)).bind fun b8=>bif b8 then (some ((⟨(⟨0,0,⟨#[]⟩⟩:Vs),0,(⟨0,0,⟨#[]⟩⟩:Vp),(⟨0,0,⟨#[]⟩⟩:Vp),(⟨0,0,⟨#[]⟩⟩:Vp)⟩:Vk),false)) else ((ot N a0 a3 a4).bind fun a6=>some (a6,true)))
theorem Gf {N:Nat}{a0:Vk}{a1 a2:Bool}{a3:Vs}{a4:Vn}{r:Vk×Bool}(h:lI N a0 a1 a2 a3 a4=some r):Okc VK 90 [(oW a0),.bool a1,.bool a2,(nq a3),(qD a4)] ([]) (fun u post=>u=.tuple #[(oW r.1),.bool r.2]/\post=[]):=by
 refine bX Tryz.func90 ?_;intro B1
 refine dD fun B2=> ?_
 intro B3
 refine dD fun B4=> ?_
 refine sZ ?_;refine gH J h ?_ ?_<;>intro h
 ·refine sZ ?_;refine gH J h ?_ ?_<;>intro h
  ·exact eY
  refine cR h (fun _ k=>H9 k) fun y7 h=> ?_
  exact eN
 refine sY ?_;refine dK (cy J J) ?_
 refine qi 4 28 24 h (fun _ g8 h=> ?_) fun b8 h=> ?_
 ·refine cR h (fun _ k=>H8 k) fun y9 h=> ?_
  exact gY
 refine dU h ?_ ?_<;>intro h
 ·exact eY
 refine cR h (fun _ k=>yo k) fun a6 h=> ?_
 exact eN
def jq (a0:Vj)(a1:Vp)(a2:Vs)(a3:Vn):Option (Bool×Vj):=
 (cD N a0 a1).bind fun y7=>yL y7 (fun y7_0=>some (false,a0)) (fun y7_1=>(cW N a2).bind fun b5=>bif !b5 then (some (false,a0)) else ((cL N (⟨y7_1.XG,a0,y7_1.at_⟩:Vo) a2).bind fun a6=>(lI N a6.1 a6.2.2 (!decide (aq .i64 y7_1.XG.XB 1=0)) a2 a3).bind fun a8=>bif a8.2 then ((fQ N (⟨y7_1.XG,a0,y7_1.at_⟩:Vo) a8.1).bind fun b0=>some (b0.1,b0.2.w_)) else (some (false,a0))))
theorem vK {N:Nat}{a1:Vp}{a2:Vs}{a3:Vn}{r:Bool×Vj}(h:jq N a0 a1 a2 a3=some r){B1 B2 B3:Nat}:Okc VK 32 [pV B1 0,(aX a1),(nq a2),(qD a3)] ([oDWorld B1 B2 B3 a0]) (fun u post=>u=.bool r.1/\post=[oDWorld B1 B2 B3 r.2]):=by
 refine bX Tryz.func32 ?_;intro B4
 refine dD fun B5=> ?_
 intro B6;refine ab ?_;obtain ⟨y7,b9,h⟩:=aa h;rcases y7 with y7_0|y7_1
 ·replace h:=Cq h;refine gD (oR (aM b9)) ?_;rintro _ _ ⟨_,⟨rfl,rfl⟩,rfl⟩;refine sY ?_;refine cz J ?_;exact eY
 replace h:=Cp h;refine gD (oR (aM b9)) ?_;rintro _ _ ⟨_,⟨B8,A9,n9,c9,c0,c8,d0,rfl,rfl⟩,rfl⟩;refine sY ?_
 refine cR h (fun _ k=>sL k) fun d2 h=> ?_
 refine gH J h ?_ ?_<;>intro h
 ·exact eY
 refine cR h (fun _ k=>nO k) fun a8 h=> ?_
 intro b6;refine ab ?_;refine au ?_;obtain ⟨a6,b7,h⟩:=aa h;refine gK (t:=[(6,pV B5 0),(7,pV B6 0),(8,.bool false),(9,pV B8 0),(10,.bool true),(11,pV b6 0),(13,.bool a8.2.2)]) ?_ lg (ah _)
 refine gX I 16 [14] [13,14,15] [36,37,38,39,40,41,42,43,44,45,46,47,35,48,49,14] [[],[],[],[2],[3],[4],[5],[6],[7],[],[],[0,1,8,9,10],[11],[12],[12],[]] [aV ((oW a8.1)),
aV (.bool a8.2.2),
aV (pV B8 0),
aV (pV B8 0),
aV (pV B8 0),
aV (pV B8 2),
aV (iV y7_1.XG.XB),
aV (iV (aq .i64 y7_1.XG.XB 1)),
aV (.bool (!decide (aq .i64 y7_1.XG.XB 1=0))),
aV ((nq a2)),
aV ((qD a3)),
aV (.tuple #[(oW a6.1),.bool a6.2]),
aV (.tuple #[(oW a6.1),.bool a6.2]),
aV ((oW a6.1)),
aV (.bool a6.2),
aX1 (fun (b0:Nat)=>pV b0 0) (fun b0=> [ae b0 48 [iV 0,iV 0,.string (⟨#[]⟩),iV 0,iV 0,iV 0,.string (⟨#[]⟩),iV 0,iV 0,.string (⟨#[]⟩),iV 0,iV 0,.string (⟨#[]⟩)]])] [] (ah _) (gN rfl kQ) I rfl rfl ?_ ?_ ?_
 ·refine gM J ?_ ?_
  ·exact pn (ui J J) J (ko J (ah _))
  exact kP
 ·refine aH J ?_ ?_
  ·refine xh (cF zero48.out J) J ?_;rintro _ _ ⟨d1,rfl,rfl⟩;exact R5 d1 (ah _)
  refine qE (ui J J) ?_;refine qE (ui J J) ?_;refine qE (ap J) ?_;refine aH J ?_ ?_
  ·refine xh (oR (Gf b7)) J ?_;rintro _ _ ⟨_,⟨rfl,rfl⟩,rfl⟩;exact ko J (ah _)
  refine qR (ja (us:=uc a3) 4 J J agg36.out J) ?_;refine qR (ja (us:=BD a2) 5 J J agg34.out J) ?_;refine qE (Rh J J) ?_;refine qE (cy J J) ?_;refine qR (bO 1 J J xP J) ?_;refine qE (jS J Ly) ?_;refine qE (se J Jq) ?_;refine qE (bF J) ?_;refine qE (ap J) ?_;refine qE (ap J) ?_;refine qR (ja (us:=ki a8.1) 0 J J agg48.out J) ?_;exact dl
 intro b0;refine nw (t:=[(48,(oW a6.1)),(49,.bool a6.2),(14,pV b0 0),(6,pV B5 0),(7,pV B6 0),(8,.bool false),(9,pV B8 0),(10,.bool true),(11,pV b6 0),(13,.bool a8.2.2)]) (L':=[ae b0 48 [iV 0,iV 0,.string (⟨#[]⟩),iV 0,iV 0,iV 0,.string (⟨#[]⟩),iV 0,iV 0,.string (⟨#[]⟩),iV 0,iV 0,.string (⟨#[]⟩)],ae b6 48 (ki a8.1),ae B8 103 [iV y7_1.XG.Xw,iV y7_1.XG.XD,iV y7_1.XG.XB,iV y7_1.XG.XC,W A9 n9 c9,W c0 c8 d0,pV B1 0,iV y7_1.at_.Xw,iV y7_1.at_.N,.string y7_1.at_.S],aB A9 n9 c9 y7_1.XG.Xy,aB c0 c8 d0 y7_1.XG.Xx,ae B6 36 (uc a3),ae B5 34 (BD a2),ae B4 29 (ed a1),oDWorld B1 B2 B3 a0]) ?_ lg (ah _);refine rN 16 J I (ar (us:=ki a6.1) (cs':=ki a6.1) 0 J J J J size48.out J J J) J J ?_;rintro _ _ rfl;refine DT 17 J I (mf J) J J J ?_;refine lc I ?_;refine ab ?_;refine wG 51 J (fun b5=> ?_) (fun b5=> ?_)
 ·replace h:=pY b5 h;refine ab ?_;obtain ⟨d3,k,h⟩:=aa h;refine Hj (oC (sw k)) J (ew b5 J) J ?_;rintro _ _ ⟨_,⟨d4,d6,e0,e1,e2,e3,rfl,rfl⟩,rfl⟩;exact eY
 replace h:=pZ b5 h;exact eY
def nF (a0:Vj)(a1:Vp):Option Bool:=
 (cD N a0 a1).bind fun y5=>yL y5 (fun y5_0=>some false) (fun y5_1=>some (!decide (aq .i64 y5_1.XG.XB 1=0)))
theorem va {N:Nat}{a1:Vp}{r:Bool}(h:nF N a0 a1=some r){B1 B2 B3:Nat}:Okc VK 18 [pV B1 0,(aX a1)] ([pDWorld B1 B2 B3 a0]) (fun u post=>u=.bool r/\post=[]):=by
 refine bX Tryz.func18 ?_;intro B4;refine ab ?_;obtain ⟨y5,a6,h⟩:=aa h;rcases y5 with y5_0|y5_1
 ·replace h:=Cq h;refine gD (oR (aM a6)) ?_;rintro _ _ ⟨_,⟨rfl,rfl⟩,rfl⟩;exact eY
 replace h:=Cp h;refine gD (oR (aM a6)) ?_;rintro _ _ ⟨_,⟨B6,A7,n7,c7,A8,n8,c8,rfl,rfl⟩,rfl⟩;refine ab ?_;refine dK (cy J J) ?_;exact eN
def o8:Option Bool:=
 (qk N).bind fun y1=>yL y1 (fun y1_0=>some false) (fun y1_1=>(lE N y1_1 (⟨1,0,⟨#[]⟩⟩:Vp) 1).bind fun y5=>(Ab N (⟨#[97]⟩:ByteArray)).bind fun y7=>(jK N y5.2.2 y5.1 y7 (⟨3,1,⟨#[]⟩⟩:Vp) 7).bind fun y8=>(jK N y8.2 y5.1 (⟨0,5,⟨#[]⟩⟩:Vs) (⟨0,0,⟨#[]⟩⟩:Vp) 7).bind fun y9=>(zQ N y9.2 y5.1).bind fun a6=>(kS N y9.2 y5.1).bind fun a8=>(nc N y9.2 y5.1).bind fun b5=>(Ab N (⟨#[98]⟩:ByteArray)).bind fun b6=>(EG N (⟨0,0,⟨#[]⟩⟩:Vp) 7).bind fun b7=>(jq N b5 y5.1 b6 b7).bind fun b0=>(bif y5.2.1 then (some y8.1) else (some false)).bind fun b9=>(bif b9 then (some y9.1) else (some false)).bind fun c0=>(bif c0 then (some (!b0.1)) else (some false)).bind fun c8=>(bif c8 then (some (decide ((a6.length:Int)=2))) else (some false)).bind fun c9=>(bif c9 then ((ao a6 0).bind fun d0=>some (decide (d0.N=5))) else (some false)).bind fun d1=>(bif d1 then ((ao a6 1).bind fun d2=>some (d2.S.toList==(⟨#[97]⟩:ByteArray).toList)) else (some false)).bind fun d3=>(bif d3 then (some (decide ((a8.length:Int)=2))) else (some false)).bind fun d4=>(bif d4 then ((ao a8 0).bind fun d6=>some (d6.XI.S.toList==(⟨#[97]⟩:ByteArray).toList)) else (some false)).bind fun e0=>(bif e0 then ((ao a8 0).bind fun e1=>some (decide (e1.Value.N=1))) else (some false)).bind fun e2=>(bif e2 then ((nF N b0.2 y5.1).bind fun e3=>some (!e3)) else (some false)).bind fun e4=>some e4)
theorem vY {N:Nat}{r:Bool}(h:o8 N=some r):Okc VK 8 [] ([]) (fun u post=>u=.bool r/\post=[]):=by
 refine bX Tryz.func8 ?_;obtain ⟨y1,d1,h⟩:=aa h;rcases y1 with y1_0|y1_1
 ·replace h:=Cq h;refine BJ (oC (uz d1)) ?_;refine sZ ?_;refine dK (dz J U1) ?_;refine cz J ?_;exact eY
 replace h:=Cp h;refine gD (oC (uz d1)) ?_;rintro _ _ ⟨_,⟨B2,B3,B4,rfl,rfl⟩,rfl⟩;refine sY ?_;refine dK (dz J U1) ?_;refine cP J ?_;refine ab ?_;obtain ⟨y5,k,h⟩:=aa h;refine BJ (oC (zP k)) ?_;intro B6;refine ab ?_;refine dY [0,1] ?_;refine zE 3 J (ns J (bld_29_0_1 _ _).out) ?_;obtain ⟨y7,k,h⟩:=aa h;refine zD 2 J (oR (Da k)) ?_;rintro _ _ ⟨_,⟨rfl,rfl⟩,rfl⟩;refine ⟨_,ah _,ah _,?_⟩;obtain ⟨y8,k,h⟩:=aa h;refine Q3 4 J I I (oC (uZ k)) ?_;rintro _ _ ⟨_,⟨rfl,rfl⟩,rfl⟩;refine zX [5] ?_;refine ab ?_;obtain ⟨y9,k,h⟩:=aa h;refine BJ (oC (uZ k)) ?_;refine dY [0,1,3,4] ?_;obtain ⟨d4,k,h⟩:=aa h
 refine yD 2 J (oR (E1 k)) fun d6 e0 e1=> ?_
 obtain ⟨e2,k,h⟩:=aa h
 refine yD 5 J (oR (rZ k)) fun e3 e4 e5=> ?_
 refine zX [6,7] ?_;refine ab ?_;obtain ⟨f1,k,h⟩:=aa h;refine BJ (oC (wL k)) ?_;refine au ?_;refine bi I ([bh tG 48 (W e3 e4 e5) e2,oG d6 e0 e1 d4,ae B6 29 [iV y5.1.Xw,iV y5.1.N,.string y5.1.S]]) (cS [1,2,3] 4) ?_;refine zY [0,1] ?_;refine zE 3 J (ns J bld_29_.out) ?_;obtain ⟨f2,k,h⟩:=aa h;refine zD 2 J (oR (Da k)) ?_;rintro _ _ ⟨_,⟨rfl,rfl⟩,rfl⟩;refine aW ?_;obtain ⟨f3,k,h⟩:=aa h;refine zD 4 J (oR (IN k)) ?_;rintro _ _ ⟨_,⟨rfl,rfl⟩,rfl⟩;refine aW ?_;obtain ⟨f4,k,h⟩:=aa h;refine zD 5 J (oC (vK k)) ?_;rintro _ _ ⟨_,⟨rfl,rfl⟩,rfl⟩;refine aW ?_;refine zX [6] ?_;refine ab ?_;refine gS 2 46 44 h ?_;intro f9 h;refine ab ?_;refine gS 2 49 47 h ?_;intro g0 h;refine ab ?_;refine gS 3 53 50 h ?_;intro g1 h;refine ab ?_;refine gS 4 58 54 h ?_;intro g2 h;refine ab ?_
 refine Lu 6 65 59 h (fun _ d2 h=> ?_) (fun _ d2 h=> ?_) fun g3 h=> ?_
 ·refine ab ?_;obtain ⟨g4,b7,b9,e6,h⟩:=aI h;refine ab ?_;refine sj (lQ 2 J aj J (toNat_lt b7 b9) LA) J (ew d2 J) J ?_;exact gY
 ·exact gY
 refine ab ?_
 refine Lu 6 72 66 h (fun _ c0 h=> ?_) (fun _ c0 h=> ?_) fun g5 h=> ?_
 ·refine ab ?_;obtain ⟨g6,c8,c9,e7,h⟩:=aI h;refine ab ?_;refine sj (lQ 2 J aj J (toNat_lt c8 c9) H6) J (ew c0 J) J ?_;refine ab ?_;refine ie (rG J J) J (ew c0 J) J ?_;exact gY
 ·exact gY
 refine ab ?_;refine gS 4 77 73 h ?_;intro g7 h;refine ab ?_
 refine Lu 7 85 78 h (fun _ b6 h=> ?_) (fun _ b6 h=> ?_) fun g8 h=> ?_
 ·refine ab ?_;obtain ⟨g9,a6,a8,e8,h⟩:=aI h;refine ab ?_;refine sj (rY 1 J aj J (toNat_lt a6 a8) Ea) J (ew b6 J) J ?_;refine sj (lQ 1 J aj J (toNat_lt a6 a8) H6) J (ew b6 J) J ?_;refine ab ?_;refine ie (rG J J) J (ew b6 J) J ?_;exact gY
 ·exact gY
 refine ab ?_
 refine Lu 7 93 86 h (fun _ d0 h=> ?_) (fun _ d0 h=> ?_) fun h0 h=> ?_
 ·refine ab ?_;obtain ⟨h1,b0,b5,e9,h⟩:=aI h;refine ab ?_;refine sj (lQ 1 J aj J (toNat_lt b0 b5) D9) J (ew d0 J) J ?_;refine sj (lQ 1 J aj J (toNat_lt b0 b5) BQ) J (ew d0 J) J ?_;exact gY
 ·exact gY
 refine ab ?_
 refine Lu 5 99 94 h (fun _ d3 h=> ?_) (fun _ d3 h=> ?_) fun h2 h=> ?_
 ·refine ab ?_;obtain ⟨h3,k,h⟩:=aa h;refine gU (oR (va k)) (ew d3 J) ?_;exact gY
 ·exact gY
 exact eY
def jR (a0:Vv):Option Vw:=
 (aF N a0).bind fun y8=>bif y8 then (some []) else ((cx N a0.XJ).bind fun a6=>some a6)
theorem At {N:Nat}{a0:Vv}{r:Vw}(h:jR N a0=some r):Okc VK 34 [pV B1 0] ([aC B1 128 [W A2 n2 c2,W A3 n3 c3,W A4 n4 c4,W A5 n5 c5,pV B6 0],bB A2 n2 c2 a0.m_.XA,bB A3 n3 c3 a0.m_.Xz,aZ A4 n4 c4 a0.XJ,aZ A5 n5 c5 a0.XP,aC B6 186 [.map (some M7)],mY cj ft M7 a0.XO.at_]) (fun u post=> ∃A0 n0 c0,u=W A0 n0 c0/\post=[aB A0 n0 c0 r]):=by
 refine bX Tryz.func34 ?_;refine sZ ?_
 refine cR h (fun _ k=>bW k) fun y8 h=> ?_
 refine gH J h ?_ ?_<;>intro h
 ·refine ab ?_;obtain rfl:=jg h;exact z7 J J ((bq av 29 _).trans (cS [0] 8)) ⟨_,_,_,J,J⟩
 refine JS h (fun _ k=>fu k) fun a6 a8 b0 b5 h=> ?_
 exact eN
theorem yg {N:Nat}{a0:Vv}{r:Vw}(h:jR N a0=some r):Okc VK 34 [pV B1 0] ([pDHeap B1 a0]) (fun u post=> ∃A0 n0 c0,u=W A0 n0 c0/\post=[aB A0 n0 c0 r]):=NZ 0 rfl (fun _=>At h)
def ci (a0:Vj):Option Int:=
 (jR N a0.XF).bind fun y7=>some (y7.length:Int)
theorem nN {N:Nat}{r:Int}(h:ci N a0=some r):Okc VK 9 [pV B1 0] ([aC B1 85 (ub a0 B2 B3 A4 n4 c4 A5 n5 c5 A6 n6 c6),pDHeap B2 a0.XF,pDTable B3 a0.XH,iI uy (W A4 n4 c4) a0.XS,iI oz (W A5 n5 c5) a0.XT,iI uy (W A6 n6 c6) a0.XU]) (fun u post=>u=iV r/\post=[]):=by
 refine bX Tryz.func9 ?_;refine sZ ?_;refine dK (dz J U1) ?_;refine cP J ?_
 refine JS h (fun _ k=>yg k) fun y7 A8 n8 c8 h=> ?_
 exact eN
theorem xc {N:Nat}{r:Int}(h:ci N a0=some r){B1 B2 B3:Nat}:Okc VK 9 [pV B1 0] ([pDWorld B1 B2 B3 a0]) (fun u post=>u=iV r/\post=[]):=NZ 0 rfl (fun _=>nN h)
def iU (a0:Vj)(a1:Vp):Option (Int×Vj):=
 (eu N a0.XF a1).bind fun y8=>some (y8.1,(⟨a0.XQ,a0.XK,(),y8.2,a0.XH,a0.XS,a0.XR,a0.XY,a0.XZ,a0.XT,a0.XU⟩:Vj))
theorem zu {N:Nat}{a1:Vp}{r:Int×Vj}(h:iU N a0 a1=some r):Okc VK 11 [pV B1 0,(aX a1)] ([ae B1 85 (ub a0 B2 B3 A4 n4 c4 A5 n5 c5 A6 n6 c6),oDHeap B2 a0.XF,oDTable B3 a0.XH,ir A4 n4 c4 a0.XS,sy A5 n5 c5 a0.XT,ir A6 n6 c6 a0.XU]) (fun u post=> ∃A0 n0 c0 A1 n1 c1 A2 n2 c2,u=iV r.1/\post=[ae B1 85 (ub r.2 B2 B3 A0 n0 c0 A1 n1 c1 A2 n2 c2),oDHeap B2 r.2.XF,oDTable B3 r.2.XH,ir A0 n0 c0 r.2.XS,sy A1 n1 c1 r.2.XT,ir A2 n2 c2 r.2.XU]):=by
 refine bX Tryz.func11 ?_;intro B7;refine sY ?_;refine dK (dz J U1) ?_;refine cP J ?_;refine ab ?_;refine au ?_;refine bi I ([ae B7 29 (ed a1),ae B1 85 (ub a0 B2 B3 A4 n4 c4 A5 n5 c5 A6 n6 c6),oDTable B3 a0.XH,ir A4 n4 c4 a0.XS,sy A5 n5 c5 a0.XT,ir A6 n6 c6 a0.XU]) (cS [0,1,3,4,5,6] 7) ?_;refine ab ?_;obtain ⟨y8,k,h⟩:=aa h;refine zD 5 J (oC (cr k)) ?_;rintro _ _ ⟨_,⟨rfl,rfl⟩,rfl⟩;refine aW ?_;exact eY
theorem xb {N:Nat}{a1:Vp}{r:Int×Vj}(h:iU N a0 a1=some r){B1 B2 B3:Nat}:Okc VK 11 [pV B1 0,(aX a1)] ([oDWorld B1 B2 B3 a0]) (fun u post=>u=iV r.1/\post=[oDWorld B1 B2 B3 r.2]):=IV 0 rfl (fun _=>zu h)
def qK (N:Nat)(a0:Vr):Option Bool:=
 (bif decide (a0.Xw=0) then (some true) else (some (decide (a0.Xw=1)))).bind fun b2=>(bif b2 then (some true) else (some (decide (a0.Xw=3)))).bind fun b3=>(bif b3 then (some true) else (some (decide (a0.Xw=4)))).bind fun b4=>(bif b4 then (some (decide (a0.V.Xw<7))) else (some false)).bind fun b5=>(bif b5 then (some (decide (a0.D.Value.Xw<7))) else (some false)).bind fun b6=>(bif b6 then (some (decide (a0.D.XL.Xw=0))) else (some false)).bind fun b7=>(bif b7 then (some (decide (a0.D.XM.Xw=0))) else (some false)).bind fun b8=>some b8
theorem Ei {N:Nat}{a0:Vr}{r:Bool}(h:qK N a0=some r):Okc VK 12 [(SK a0)] ([]) (fun u post=>u=.bool r/\post=[]):=by
 refine bX Tryz.func12 ?_;intro B1;refine ab ?_;refine gS 4 10 6 h ?_;intro b2 h;refine ab ?_;refine gS 4 15 11 h ?_;intro b3 h;refine ab ?_;refine gS 4 20 16 h ?_;intro b4 h;refine ab ?_;refine gS 5 26 21 h ?_;intro b5 h;refine ab ?_;refine gS 6 33 27 h ?_;intro b6 h;refine ab ?_;refine gS 6 40 34 h ?_;intro b7 h;refine ab ?_;refine gS 6 47 41 h ?_;intro b8 h;exact eY
def bl (a0:Vj)(a1:Int):Option Vp:=
 (bL N a0.XF a1).bind fun y8=>some y8
theorem AW {N:Nat}{r:Vp}(h:bl N a0 a1=some r):Okc VK 16 [pV B1 0,iV a1] ([aC B1 85 (ub a0 B2 B3 A4 n4 c4 A5 n5 c5 A6 n6 c6),pDHeap B2 a0.XF,pDTable B3 a0.XH,iI uy (W A4 n4 c4) a0.XS,iI oz (W A5 n5 c5) a0.XT,iI uy (W A6 n6 c6) a0.XU]) (fun u post=>u=(aX r)/\post=[]):=by
 refine bX Tryz.func16 ?_;intro B7;refine sY ?_;refine dK (dz J U1) ?_;refine cP J ?_
 refine cR h (fun _ k=>fo k) fun y8 h=> ?_
 exact eN
theorem cq {N:Nat}{r:Vp}(h:bl N a0 a1=some r){B1 B2 B3:Nat}:Okc VK 16 [pV B1 0,iV a1] ([pDWorld B1 B2 B3 a0]) (fun u post=>u=(aX r)/\post=[]):=NZ 0 rfl (fun _=>AW h)
def tg (a0:Vj)(a1:Int)(a2:Vp):Option Vp:=
 bif decide (a2.Xw=7) then (aD (in64 (a1+a2.N)) ((bl N a0 (a1+a2.N)).bind fun y8=>some y8)) else (some a2)
theorem yF {N:Nat}{a2 r:Vp}(h:tg N a0 a1 a2=some r){B1 B2 B3:Nat}:Okc VK 40 [pV B1 0,iV a1,(aX a2)] ([pDWorld B1 B2 B3 a0]) (fun u post=>u=(aX r)/\post=[]):=by
 refine bX Tryz.func40 ?_;intro B4
 refine dD fun B5=> ?_
 refine sZ ?_;refine gH J h ?_ ?_<;>intro h
 ·refine ab ?_;obtain ⟨q7,h⟩:=ac h
  refine cR h (fun _ k=>cq k) fun y8 h=> ?_
  exact eN
 exact eY
def dW (a0:Vi)(a1:Int)(a2:Vs):Option (Int×Int×Vi):=
 (fc N a0 a1 a2 0).bind fun y5=>bif !decide (y5=0) then (some (0,y5,a0)) else ((dr N a0 a1 a2).bind fun y7=>bif !y7.2.2 then (some (0,3,a0)) else ((gg N a0 a1 y7.1).bind fun y9=>(eO N a0 a1).bind fun a6=>aD (in64 (y7.1+1)) (aD ((0:Int)<=y7.1+1/\(y7.1+1).toNat<=a6.length/\a6.length<=a6.length) ((jC N a0 y9 ((a6.drop ((y7.1+1).toNat)).take (a6.length - (y7.1+1).toNat))).bind fun a8=>some (a8.1,a8.2.1,a8.2.2)))))
theorem wc {N:Nat}{a0:Vi}{a2:Vs}{r:Int×Int×Vi}(h:dW N a0 a1 a2=some r):Okc VK 94 [pV B1 0,iV a1,(nq a2)] ([ae B1 191 [W A2 n2 c2,.map (some M3)],bh bn 159 (W A2 n2 c2) a0.XH,ax d8 sC M3 a0.XV]) (fun u post=> ∃A0 n0 c0 M1,u=.tuple #[iV r.1,iV r.2.1]/\post=[ae B1 191 [W A0 n0 c0,.map (some M1)],bh bn 159 (W A0 n0 c0) r.2.2.XH,ax d8 sC M1 r.2.2.XV]):=by
 refine bX Tryz.func94 ?_;intro B4;refine sY ?_
 refine cR h (fun _ k=>mW k) fun y5 h=> ?_
 refine gH J h ?_ ?_<;>intro h
 ·exact eY
 refine cR h (fun _ k=>kw k) fun y7 h=> ?_
 refine sZ ?_;refine gH J h ?_ ?_<;>intro h
 ·exact eY
 refine cR h (fun _ k=>qd k) fun y9 h=> ?_
 refine JS h (fun _ k=>lx k) fun a8 b5 b6 b7 h=> ?_
 obtain ⟨b9,h⟩:=ac h;refine ab ?_;refine rO (bM 0 J) ?_;obtain ⟨a6,h⟩:=ac h;refine Rp 0 J (l:=(y7.1+1).toNat) (h:=a8.length) a6.2.1 a6.2.2 ?_;rintro c8 c9 d0 b0;refine gR (yQ 1 J b0 J UX size159.out J (by rw [VX a6.1];rfl) a6.2.1) ?_;obtain ⟨d1,k,h⟩:=aa h;refine gD (oC (oO k)) ?_;rintro _ _ ⟨_,⟨d2,d3,d4,d6,rfl,rfl⟩,rfl⟩;exact eY
theorem uW {N:Nat}{a0:Vi}{a2:Vs}{r:Int×Int×Vi}(h:dW N a0 a1 a2=some r):Okc VK 94 [pV B1 0,iV a1,(nq a2)] ([oDTable B1 a0]) (fun u post=>u=.tuple #[iV r.1,iV r.2.1]/\post=[oDTable B1 r.2.2]):=IV 0 rfl (fun _=>wc h)
def oB (a0:Vj)(a1:Vp)(a2:Vs):Option (Bool×Vj):=
 (cD N a0 a1).bind fun y6=>yL y6 (fun y6_0=>some (false,a0)) (fun y6_1=>(cL N (⟨y6_1.XG,a0,y6_1.at_⟩:Vo) a2).bind fun a6=>bif !a6.2.2 then (some (true,a0)) else (bif decide (aq .i64 a6.1.XE 4=0) then (some (false,a0)) else ((bZ N a0).bind fun b6=>(dW N a0.XH y6_1.XG.XD a2).bind fun a8=>bif !decide (a8.2.1=0) then (some (false,(⟨a0.XQ,a0.XK,(),a0.XF,a8.2.2,a0.XS,a0.XR,a0.XY,a0.XZ,a0.XT,a0.XU⟩:Vj))) else (aD (in64 (a6.2.1+1)) (aD (in64 (a6.2.1+2)) ((ov N y6_1.XG.Xy (a6.2.1+1) (a6.2.1+2)).bind fun b0=>(bp N (⟨(⟨y6_1.XG.Xw,a8.1,y6_1.XG.XB,y6_1.XG.XC,b0,y6_1.XG.Xx⟩:Vd),(⟨a0.XQ,a0.XK,(),a0.XF,a8.2.2,a0.XS,a0.XR,a0.XY,a0.XZ,a0.XT,a0.XU⟩:Vj),y6_1.at_⟩:Vo) true).bind fun b5=>some (true,b5.w_)))))))
theorem CI {N:Nat}{a1:Vp}{a2:Vs}{r:Bool×Vj}(h:oB N a0 a1 a2=some r){B1 B2 B3:Nat}:Okc VK 41 [pV B1 0,(aX a1),(nq a2)] ([oDWorld B1 B2 B3 a0]) (fun u post=>u=.bool r.1/\post=[oDWorld B1 B2 B3 r.2]):=by
 refine bX Tryz.func41 ?_;intro B4
 refine dD fun B5=> ?_
 obtain ⟨y6,a6,h⟩:=aa h;rcases y6 with y6_0|y6_1
 ·replace h:=Cq h;refine gD (oR (aM a6)) ?_;rintro _ _ ⟨_,⟨rfl,rfl⟩,rfl⟩;refine sY ?_;refine cz J ?_;exact eY
 replace h:=Cp h;refine gD (oR (aM a6)) ?_;rintro _ _ ⟨_,⟨B7,A8,n8,c8,A9,n9,c9,rfl,rfl⟩,rfl⟩;refine sY ?_;refine cP J ?_
 refine cR h (fun _ k=>nO k) fun a8 h=> ?_
 intro b0;refine sY ?_;refine gH J h ?_ ?_<;>intro h
 ·exact eY
 refine sY ?_;refine dK (cy J J) ?_;refine gH J h ?_ ?_<;>intro h
 ·exact eY
 refine ab ?_;refine au ?_;refine bi I ([ae b0 48 (ki a8.1),ae B7 103 [iV y6_1.XG.Xw,iV y6_1.XG.XD,iV y6_1.XG.XB,iV y6_1.XG.XC,W A8 n8 c8,W A9 n9 c9,pV B1 0,iV y6_1.at_.Xw,iV y6_1.at_.N,.string y6_1.at_.S],aB A8 n8 c8 y6_1.XG.Xy,aB A9 n9 c9 y6_1.XG.Xx,ae B5 34 (BD a2),ae B4 29 (ed a1)]) (cS [0,1,2,3,4,5] 7) ?_;refine zY [0,2,3,4,5,6,7] ?_;obtain ⟨b5,k,h⟩:=aa h;refine zD 1 J (oR (dm k)) ?_;rintro _ _ ⟨_,⟨rfl,rfl⟩,rfl⟩;refine aW ?_;refine lb ((cS [6,0,1,2,3,4,5] 7).trans Ak) (cS [2,3,4,5,6,7] 8) ?_;obtain ⟨b6,k,h⟩:=aa h;refine zD 8 J (oC (uW k)) ?_;rintro _ _ ⟨_,⟨rfl,rfl⟩,rfl⟩;refine aW ?_;refine lb (AD) (cS [1,2,3,4,5,6] 7) ?_;refine zX [9,10,11,12,13] ?_;refine sY ?_;refine gH J h ?_ ?_<;>intro h
 ·exact eY
 refine ab ?_;obtain ⟨b7,h⟩:=ac h;refine ab ?_;obtain ⟨b9,h⟩:=ac h;refine ab ?_;obtain ⟨c0,k,h⟩:=aa h
 refine rP (oC (Ct (R:=av) k)) fun d0 d1 d2=> ?_
 refine R7 h (fun _ k=>fF k) fun d3 d4 d6 e0 e1 e2 e3 h=> ?_
 exact eN
def zz (a0:Vj)(a1 a2:Int):Option Vp:=
 bif decide (a2<0) then (some (⟨1,0,⟨#[]⟩⟩:Vp)) else (aD (in64 (a1+a2)) ((bl N a0 (a1+a2)).bind fun y7=>some y7))
theorem Eh {N:Nat}{r:Vp}(h:zz N a0 a1 a2=some r){B1 B2 B3:Nat}:Okc VK 43 [pV B1 0,iV a1,iV a2] ([pDWorld B1 B2 B3 a0]) (fun u post=>u=(aX r)/\post=[]):=by
 refine bX Tryz.func43 ?_;intro B4;refine sY ?_;refine gH J h ?_ ?_<;>intro h
 ·exact eY
 refine ab ?_;obtain ⟨q6,h⟩:=ac h
 refine cR h (fun _ k=>cq k) fun y7 h=> ?_
 exact eN
def xR (a0:Vj)(a1:Vp):Option Vp:=
 (cD N a0 a1).bind fun y6=>yL y6 (fun y6_0=>some (⟨0,0,⟨#[]⟩⟩:Vp)) (fun y6_1=>(ao y6_1.XG.Xy 0).bind fun a6=>some a6)
theorem DN {N:Nat}{a1 r:Vp}(h:xR N a0 a1=some r){B1 B2 B3:Nat}:Okc VK 20 [pV B1 0,(aX a1)] ([pDWorld B1 B2 B3 a0]) (fun u post=>u=(aX r)/\post=[]):=by
 refine bX Tryz.func20 ?_;intro B4
 refine dD fun B5=> ?_
 obtain ⟨y6,a6,h⟩:=aa h;rcases y6 with y6_0|y6_1
 ·replace h:=Cq h;refine gD (oR (aM a6)) ?_;rintro _ _ ⟨_,⟨rfl,rfl⟩,rfl⟩;refine sY ?_;refine cz J ?_;exact eY
 replace h:=Cp h;refine gD (oR (aM a6)) ?_;rintro _ _ ⟨_,⟨B7,A8,n8,c8,A9,n9,c9,rfl,rfl⟩,rfl⟩;refine sY ?_;refine cP J ?_;refine ab ?_;obtain ⟨b6,a8,b0,b5,h⟩:=aI h;exact eY
def sx (a0:Vj)(a2:Vp)(y6_1:Vo):Option (Bool×Vj):=
 (ao y6_1.XG.Xy 0).bind fun b0=>(bp N (⟨(⟨y6_1.XG.Xw,y6_1.XG.XD,y6_1.XG.XB,y6_1.XG.XC,List.set y6_1.XG.Xy ((0:Int).toNat) (⟨a2.Xw,a2.N,a2.S⟩:Vp),y6_1.XG.Xx⟩:Vd),a0,y6_1.at_⟩:Vo) true).bind fun a6=>(uY N a6.w_ a2).bind fun a8=>some (true,a8)
def nP (N:Nat)(a0:Vj)(a1 a2:Vp)(y6_1:Vo):Nat->Int->Int->ByteArray->Option (Bool×Vj)
 |0,_,_,_=>none
 |b6+1,a6,b0,b5=>bif decide (a6=7) then (bif decide ((⟨a6,b0,b5⟩:Vp)=a1) then (some (false,a0)) else ((xR N a0 (⟨a6,b0,b5⟩:Vp)).bind fun a8=>(nP N a0 a1 a2 y6_1 b6) a8.Xw a8.N a8.S)) else (sx N a0 a2 y6_1)
def uJ (a0:Vj)(a1 a2:Vp):Option (Bool×Vj):=
 (cD N a0 a1).bind fun y6=>yL y6 (fun y6_0=>some (false,a0)) (fun y6_1=>(wk N a0 a2).bind fun a6=>bif !a6 then (some (false,a0)) else ((ao y6_1.XG.Xy 0).bind fun a8=>bif decide (a8=a2) then (some (true,a0)) else (bif decide (aq .i64 y6_1.XG.XB 1=0) then (some (false,a0)) else (nP N a0 a1 a2 y6_1 N a2.Xw a2.N a2.S))))
theorem Am {N:Nat}{a1 a2:Vp}{r:Bool×Vj}(h:uJ N a0 a1 a2=some r){B1 B2 B3:Nat}:Okc VK 42 [pV B1 0,(aX a1),(aX a2)] ([oDWorld B1 B2 B3 a0]) (fun u post=>u=.bool r.1/\post=[oDWorld B1 B2 B3 r.2]):=by
 refine bX Tryz.func42 ?_;intro B4
 refine dD fun B5=> ?_
 obtain ⟨y6,c0,h⟩:=aa h;rcases y6 with y6_0|y6_1
 ·replace h:=Cq h;refine gD (oR (aM c0)) ?_;rintro _ _ ⟨_,⟨rfl,rfl⟩,rfl⟩;refine sY ?_;refine cz J ?_;exact eY
 replace h:=Cp h;refine gD (oR (aM c0)) ?_;rintro _ _ ⟨_,⟨B7,A8,n8,c8,A9,n9,c9,rfl,rfl⟩,rfl⟩;refine sY ?_
 refine cR h (fun _ k=>zN k) fun d4 h=> ?_
 refine gH J h ?_ ?_<;>intro h
 ·exact eY
 refine ab ?_;refine au ?_;refine dY [] ?_;refine ab ?_;obtain ⟨d0,d1,d2,d3,h⟩:=aI h;refine ab ?_;refine zE 8 J (BU (x:=d0) (y:=a2) J J) ?_;refine dU h ?_ ?_<;>intro h
 ·exact eY
 refine sY ?_;refine dK (cy J J) ?_;refine gH J h ?_ ?_<;>intro h
 ·exact eY
 refine ab ?_;refine ak (fun s L=>sx N a0 a2 y6_1=some r/\s=[(0,pV B1 0),(5,pV B5 0),(6,.bool false),(7,pV B7 0)]/\L=[oDWorld B1 B2 B3 a0,ae B5 29 (ed a2),aB A8 n8 c8 y6_1.XG.Xy,aB A9 n9 c9 y6_1.XG.Xx,ae B7 103 [iV y6_1.XG.Xw,iV y6_1.XG.XD,iV y6_1.XG.XB,iV y6_1.XG.XC,W A8 n8 c8,W A9 n9 c9,pV B1 0,iV y6_1.at_.Xw,iV y6_1.at_.N,.string y6_1.at_.S]]) ?_ ?_
 ·refine dD fun d6=> ?_
  refine lK (fun m s L=> ∃(a6:Int) (a8:Int) (b0:ByteArray) (b5:Nat),nP N a0 a1 a2 y6_1 m a6 a8 b0=some r/\s=[(0,pV B1 0),(4,pV B4 0),(5,pV B5 0),(6,.bool false),(7,pV B7 0),(9,pV b5 0)]/\L=[ae b5 29 [iV a6,iV a8,.string b0],oDWorld B1 B2 B3 a0,ae B4 29 (ed a1),ae B5 29 (ed a2),aB A8 n8 c8 y6_1.XG.Xy,aB A9 n9 c9 y6_1.XG.Xx,ae B7 103 [iV y6_1.XG.Xw,iV y6_1.XG.XD,iV y6_1.XG.XB,iV y6_1.XG.XC,W A8 n8 c8,W A9 n9 c9,pV B1 0,iV y6_1.at_.Xw,iV y6_1.at_.N,.string y6_1.at_.S]]) N ?_;rintro e0 _ _ ⟨a6,a8,b0,b5,h,rfl,rfl⟩;rw [nP.eq_2] at h;refine sZ ?_;refine gH J h ?_ ?_<;>intro h
  ·refine sY ?_;refine dK (BU (x:=(⟨a6,a8,b0⟩:Vp)) (y:=a1) J J) ?_;refine gH J h ?_ ?_<;>intro h
   ·exact eY
   refine sY ?_;intro e1
   refine cR h (fun _ k=>DN k) fun e2 h=> ?_
   exact lN
  exact jY
 rintro _ _ ⟨h,rfl,rfl⟩;refine dY [] ?_;refine ab ?_;obtain ⟨e3,b6,b7,b9,h⟩:=aI h;refine ab ?_;refine oN 7 J I I (cH (us:=ed a2) (z:=(⟨a2.Xw,a2.N,a2.S⟩:Vp)) 2 J J J J size29.out J (toNat_lt b6 b7) J (fun S w vs xk hk hr ho=>by obtain rfl:=Xe (hk.symm.trans b9);rw [show _=_ from hr];rfl)) ?_;rintro _ _ rfl
 refine R7 h (fun _ k=>fF k) fun e4 e5 e6 e7 e8 e9 f1 h=> ?_
 refine cC h (fun _ k=>xQ k) fun f2 h=> ?_
 exact eN
def fD (N:Nat)(a0:Int)(a1:Vj):Option Bool:=
 (bif decide (0<a0) then (aD (a0≠0) (some (decide (a1.XQ.Yd.tmod a0=0)))) else (some false)).bind fun b8=>some b8
theorem pz {N:Nat}{a0:Int}{a1:Vj}{r:Bool}(h:fD N a0 a1=some r):Okc VK 44 [iV a0,pV B1 0] ([aC B1 23 [pV B2 0],aC B2 85 (ub a1 B3 B4 A5 n5 c5 A6 n6 c6 A7 n7 c7),pDHeap B3 a1.XF,pDTable B4 a1.XH,iI uy (W A5 n5 c5) a1.XS,iI oz (W A6 n6 c6) a1.XT,iI uy (W A7 n7 c7) a1.XU]) (fun u post=>u=.bool r/\post=[]):=by
 refine bX Tryz.func44 ?_
 refine qi 9 15 6 h (fun _ g8 h=> ?_) fun b8 h=> ?_
 ·refine ab ?_;obtain ⟨q9,h⟩:=ac h;refine ie (oX J J q9) J (ew g8 J) J ?_;exact gY
 exact eY
theorem od {r:Bool}: ∀v post,((fun (u:Value) (post:VI)=>u=.bool r/\post=[])) v post-> ∀c∈post,mN c:=by
 rintro _ _ ⟨rfl,rfl⟩;exact aQ
def iL (a0:Int)(a1:Ve):Option Bool:=
 (jH N a1 a0).bind fun y4=>some (!y4)
theorem Bv {N:Nat}{a0:Int}{a1:Ve}{r:Bool}(h:iL N a0 a1=some r):Okc VK 191 [iV a0,pV B1 0] ([aC B1 125 [W A2 n2 c2,W A3 n3 c3],bB A2 n2 c2 a1.XA,bB A3 n3 c3 a1.Xz]) (fun u post=>u=.bool r/\post=[]):=by
 refine bX Tryz.func191 ?_
 refine cR h (fun _ k=>lB k) fun y4 h=> ?_
 exact eN
end Go.Proofs.YthhiddkljcacaaaGreat