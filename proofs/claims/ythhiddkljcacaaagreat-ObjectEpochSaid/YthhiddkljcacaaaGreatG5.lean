/- Merged texts: part 5. No conditions of their own. -/
import Derived.Test.YthhiddkljcacaaaGreatG4
set_option maxHeartbeats 4000000
namespace Go.Proofs.YthhiddkljcacaaaGreat
variable (N:Nat){a1 a2 a3:Int}{a0:VS}
theorem Vw:type_of% Tryz.underlying233:=Tryz.underlying233
variable {A1 A2 A3 A4 A5 A6 A7:Option Addr}{B1 B2 B3 B4 B6 M3 M7 c1 c2 c3 c4 c5 c6 c7 n1 n2 n3 n4 n5 n6 n7:Nat}
open Go.RowKit Asn
set_option maxRecDepth 20000
def sK (N:Nat)(p5:V6):Option V6:=
 some p5
def nT (N:Nat)(y6:((List VW))):Nat->V6->Int->Option V6
 |0,_,_=>none
 |m8+1,p9,a6=>bif decide (a6<(y6.length:Int)) then ((ap y6 a6).bind fun a8=>aE (ci (p9.length+([a8.Yl]:List VI).length)) (aE (in64 (a6+1)) ((nT N y6 m8) (p9++([a8.Yl]:List VI)) (a6+1)))) else (sK N p9)
def lB (a0:VH)(a1:Int):Option V6:=
 (eR N a0 a1).bind fun y6=>nT N y6 N [] 0
theorem zC {N:Nat}{a0:VH}{r:V6}(h:lB N a0 a1=some r):Okc Wc 51 [pV B1 0,iV a1] ([aB B1 191 [Y A2 n2 c2,.map (some M3)],iD bl (Y A2 n2 c2) a0.Yk,nc d9 sP M3 a0.Yy]) (fun u post=> ∃A0 n0 c0,u=Y A0 n0 c0/\post=[oN A0 n0 c0 r]):=by
 refine bY Tryz.func51 ?_;refine ai (fun s L=> ∃p5 A5 n5 c5,sK N p5=some r/\s=[(4,Y none 0 0),(5,Y A5 n5 c5)]/\L=[oN A5 n5 c5 p5]) ?_ ?_
 ·refine ab ?_;obtain ⟨y6,k,h⟩:=aa h
  refine r9 (oR (lz k)) fun A7 n7 c7=> ?_
  refine ii (fun m s L=> ∃p9 a6 A9 n9 c9,nT N y6 m p9 a6=some r/\s=[(4,Y none 0 0),(5,Y A9 n9 c9),(10,Y A7 n7 c7),(11,iV (y6.length:Int)),(12,iV a6)]/\L=[oN A9 n9 c9 p9,bh bl 159 (Y A7 n7 c7) y6]) N _ _ ⟨[],0,none,0,0,h,J,J⟩ sA ((bq Bq 34 _).trans (cS [0,1] 5)) ?_;rintro (_|m8) _ _ ⟨p9,a6,A9,n9,c9,h,rfl,rfl⟩
  ·exact az h
  rw [nT.eq_2] at h;refine ab ?_;refine au ?_;refine gH J h ?_ ?_<;>intro h
  ·refine sY ?_;obtain ⟨a8,b0,b5,b6,h⟩:=aM h
   refine du fun b9=> ?_
   refine gD (aL (R:=Bq) (vss:=[(BT a8.Yl)]) (xs:=[a8.Yl]) J (JL _ _ _) J J (fun _ _ hr=> .cons J All2.nil)) ?_;rintro _ _ ⟨c8,d0,d1,rfl,rfl⟩;obtain ⟨b7,h⟩:=ac h
   refine r9 (aQ 2 0 J J ak J J Vm SM J J b7) fun d2 d3 d4=> ?_
   obtain ⟨d6,h⟩:=ac h;exact lY
  exact jY
 rintro _ _ ⟨p5,A5,n5,c5,h,rfl,rfl⟩;exact eY
theorem qr {N:Nat}{a0:VH}{r:V6}(h:lB N a0 a1=some r):Okc Wc 51 [pV B1 0,iV a1] ([pDTable B1 a0]) (fun u post=> ∃A0 n0 c0,u=Y A0 n0 c0/\post=[oN A0 n0 c0 r]):=Nz 0 rfl (fun _=>zC h)
def yE (N:Nat)(a0:Int):Option Bool:=
 some (!decide (a0=a0))
theorem Co {N:Nat}{a0:Int}{r:Bool}(h:yE N a0=some r):Okc Wc 212 [iV a0] ([]) (fun u post=>u=.bool r/\post=[]):=by
 refine bY Tryz.func212 ?_;exact eN
def vy (a0 a1:Int):Option Int:=
 (yE N a0).bind fun y1=>(yE N a1).bind fun y2=>bif y1 then (bif y2 then (some 0) else (some (-1))) else (bif y2 then (some 1) else (bif decide (a0<a1) then (some (-1)) else (bif decide (a1<a0) then (some 1) else (some 0))))
theorem yF {N:Nat}{a0 r:Int}(h:vy N a0 a1=some r):Okc Wc 179 [iV a0,iV a1] ([]) (fun u post=>u=iV r/\post=[]):=by
 refine bY Tryz.func179 ?_
 refine cR h (fun _ k=>Co k) fun y1 h=> ?_
 refine cR h (fun _ k=>Co k) fun y2 h=> ?_
 refine sZ ?_;refine gH J h ?_ ?_<;>intro h
 ·refine sZ ?_;refine gH J h ?_ ?_<;>intro h
  ·exact eY
  exact eY
 refine sY ?_;refine gH J h ?_ ?_<;>intro h
 ·exact eY
 refine sY ?_;refine gH J h ?_ ?_<;>intro h
 ·exact eY
 refine sY ?_;refine gH J h ?_ ?_<;>intro h
 ·exact eY
 exact eY
def rQ (a0 a1:VI):Option Int:=
 (bif decide (a0.XZ=0) then (some (decide (a1.XZ=0))) else (some false)).bind fun b3=>bif b3 then ((vy N a0.N a1.N).bind fun y5=>some y5) else ((vy N a0.XZ a1.XZ).bind fun y6=>some y6)
theorem tc {N:Nat}{a0 a1:VI}{r:Int}(h:rQ N a0 a1=some r):Okc Wc 135 [(nv a0),(nv a1)] ([]) (fun u post=>u=iV r/\post=[]):=by
 refine bY Tryz.func135 ?_;intro B1
 refine du fun B2=> ?_
 refine sZ ?_;refine gS 4 12 8 h ?_;intro b3 h;refine dI h ?_ ?_<;>intro h
 ·refine cR h (fun _ k=>yF k) fun y5 h=> ?_
  exact eN
 refine cR h (fun _ k=>yF k) fun y6 h=> ?_
 exact eN
theorem qa {r:Int}: ∀v post,((fun (u:Value) (post:Wa)=>u=iV r/\post=[])) v post-> ∀c∈post,mT c:=by
 rintro _ _ ⟨rfl,rfl⟩;exact aR
def io (N:Nat)(a6:V6->Int->Option V6)(a1 a2 p5:Int)(p8:V6):Option V6:=
 aE (in64 (p5+1)) (a6 p8 (p5+1))
def dC (N:Nat)(b6:V6->Int->Option V6)(a1 a2 p5:Int):Nat->V6->Int->Option V6
 |0,_,_=>none
 |m9+1,a8,a6=>(bif decide (a1<a6) then ((ap a8 a6).bind fun b7=>aE (in64 (a6 - 1)) ((ap a8 (a6 - 1)).bind fun b9=>(rQ N b7 b9).bind fun c0=>some (decide (c0<0)))) else (some false)).bind fun b12=>bif b12 then (aE (in64 (a6 - 1)) (aE (in64 (a6 - 1)) ((ap a8 (a6 - 1)).bind fun b0=>(ap a8 a6).bind fun b5=>(ap a8 a6).bind fun c8=>(ap (List.set a8 a6.toNat (⟨b0.XZ,b0.N,b0.S⟩:VI)) (a6 - 1)).bind fun c9=>aE (in64 (a6 - 1)) ((dC N b6 a1 a2 p5 m9) (List.set (List.set a8 a6.toNat (⟨b0.XZ,b0.N,b0.S⟩:VI)) ((a6 - 1).toNat) (⟨b5.XZ,b5.N,b5.S⟩:VI)) (a6 - 1))))) else (io N b6 a1 a2 p5 a8)
def bH (N:Nat)(a1 a2:Int):Nat->V6->Int->Option V6
 |0,_,_=>none
 |m3+1,p4,p5=>bif decide (p5<a2) then (dC N (bH N a1 a2 m3) a1 a2 p5 N p4 p5) else (some p4)
def cy (a0:V6)(a1 a2:Int):Option V6:=
 aE (in64 (a1+1)) (bH N a1 a2 N a0 (a1+1))
theorem dB {N:Nat}{a0 r:V6}(h:cy N a0 a1 a2=some r):Okc Wc 216 [Y A1 n1 c1,iV a1,iV a2,.func (.func 135) #[] #[]] ([oN A1 n1 c1 a0]) (fun u post=>u=.tuple #[]/\post=[oN A1 n1 c1 r]):=by
 refine bY Tryz.func216 ?_;obtain ⟨q2,h⟩:=ac h;refine ab ?_;refine lK (fun m s L=> ∃(p4:V6) (p5:Int),bH N a1 a2 m p4 p5=some r/\s=[(0,Y A1 n1 c1),(1,iV a1),(2,iV a2),(3,.func (.func 135) #[] #[]),(8,iV p5)]/\L=[oN A1 n1 c1 p4]) N ?_;rintro m3 _ _ ⟨p4,p5,h,rfl,rfl⟩;rw [bH.eq_2] at h;refine sZ ?_;refine gH J h ?_ ?_<;>intro h
 ·refine ab ?_;refine ai (fun s L=> ∃p8,io N (bH N a1 a2 m3) a1 a2 p5 p8=some r/\s=[(0,Y A1 n1 c1),(1,iV a1),(2,iV a2),(3,.func (.func 135) #[] #[]),(8,iV p5)]/\L=[oN A1 n1 c1 p8]) ?_ ?_
  ·refine ab ?_;refine lK (fun m s L=> ∃(c0:V6) (a6:Int),dC N (bH N a1 a2 m3) a1 a2 p5 m c0 a6=some r/\s=[(0,Y A1 n1 c1),(1,iV a1),(2,iV a2),(3,.func (.func 135) #[] #[]),(8,iV p5),(9,iV a6)]/\L=[oN A1 n1 c1 c0]) N ?_;rintro m9 _ _ ⟨c0,a6,h,rfl,rfl⟩;rw [dC.eq_2] at h;refine au ?_;refine dY [0,1,2,3] ?_
   refine yJ [4,5,6,7,8,9,10,11,12,13,14,15,16] 0 21 34 h (fun _ c9 h rest=> ?_) (fun _ c9 h rest=> ?_) fun b12 h=> ?_
   ·refine yY [4,5,6] ?_;obtain ⟨f1,e4,e5,e6,h⟩:=aM h;refine yY [7,8,9,10] ?_;obtain ⟨e2,h⟩:=ac h;refine yM 11 J I (wK J J e2.1 e2.2) (el c9 J) J ?_;obtain ⟨f2,e7,e8,e9,h⟩:=aM h;refine yY [12,13] ?_;obtain ⟨f3,k,h⟩:=aa h;refine Dj 14 J I (iS (tc k) J J J (aR) qa) J (el c9 J) J ?_;rintro _ _ ⟨_,⟨rfl,rfl⟩,rfl⟩;refine ⟨_,ah _,ah _,?_⟩;refine yY [15,16] ?_;exact yS rest h
   ·refine yY [4,5,6,7,8,9,10,11,12,13,14,15,16] ?_;exact yS rest h
   refine fg I ?_;refine dI h ?_ ?_<;>intro h
   ·refine sY ?_;obtain ⟨c8,h⟩:=ac h;obtain ⟨e3,h⟩:=ac h;obtain ⟨a8,d0,d1,d2,h⟩:=aM h;obtain ⟨b0,d3,d4,d6,h⟩:=aM h;refine gQ (t:=[(0,Y A1 n1 c1),(1,iV a1),(2,iV a2),(3,.func (.func 135) #[] #[]),(8,iV p5),(9,iV a6)]) ?_ lj (ah _)
    refine ig I 14 [2,3,4] [0,1,2,4,9,13] [37,38,39,40,41,42,43,44,45,46,47,48,49,50] [[],[],[],[],[3],[],[],[6],[5,7],[8],[],[],[10,11],[12]] [aV (Y A1 n1 c1),
 aV (iV a6),
 aV (Y A1 n1 c1),
 aV (iV a6),
 aV (iV (a6 - 1)),
 aV (Y A1 n1 c1),
 aV (iV a6),
 aV (iV (a6 - 1)),
 aV (dh (Y A1 n1 c1) ((a6 - 1).toNat) 3 0),
 aV (.agg #[iV a8.XZ,iV a8.N,.string a8.S]),
 aV (Y A1 n1 c1),
 aV (iV a6),
 aV (dh (Y A1 n1 c1) a6.toNat 3 0),
 aV (.agg #[iV b0.XZ,iV b0.N,.string b0.S])] [] (ah _) (ia rfl (ia rfl (ia rfl kU))) I rfl rfl ?_ ?_ ?_
    ·refine gZ J ?_ ?_
     ·exact py (ao J) J (ku J (ah _))
     refine gZ J ?_ ?_
     ·exact py (ao J) J (ku J (ah _))
     refine gZ J ?_ ?_
     ·exact py (wK J J c8.1 c8.2) J (ku J (ah _))
     exact kT
    ·refine aH J ?_ ?_
     ·exact wk (iv (us:=[iV b0.XZ,iV b0.N,.string b0.S]) 0 J ak J d6 agg34.out (fun _ _ _ h=>by rw [show _=_ from h];rfl)) J (ku J (ah _))
     refine qR (dp 0 J ak J J Vm size34.out d3 d4) ?_;refine qE (ao J) ?_;refine qE (ao J) ?_;refine aH J ?_ ?_
     ·exact wk (iv (us:=[iV a8.XZ,iV a8.N,.string a8.S]) 0 J ak J d2 agg34.out (fun _ _ _ h=>by rw [show _=_ from h];rfl)) J (ku J (ah _))
     refine qR (dp 0 J ak J J Vm size34.out d0 d1) ?_;refine qE (wK J J e3.1 e3.2) ?_;refine qE (ao J) ?_;refine qE (ao J) ?_;refine qE (wK J J c8.1 c8.2) ?_;refine qE (ao J) ?_;refine qE (ao J) ?_;refine qE (ao J) ?_;refine qE (ao J) ?_;exact di
    refine nB (t:=[(37,Y A1 n1 c1),(38,iV a6),(39,Y A1 n1 c1),(41,iV (a6 - 1)),(46,.agg #[iV a8.XZ,iV a8.N,.string a8.S]),(50,.agg #[iV b0.XZ,iV b0.N,.string b0.S]),(0,Y A1 n1 c1),(1,iV a1),(2,iV a2),(3,.func (.func 135) #[] #[]),(8,iV p5),(9,iV a6)]) (L':=[oN A1 n1 c1 c0]) ?_ lj (ah _);obtain ⟨f4,b5,b6,e0,h⟩:=aM h;refine JT 14 J I (dp 0 J ak J J Vm size34.out b5 b6) J J J ?_;refine r7 15 J I (cF (us:=[iV a8.XZ,iV a8.N,.string a8.S]) (z:=(⟨a8.XZ,a8.N,a8.S⟩:VI)) 0 J J J J size34.out J (toNat_lt b5 b6) J (fun S w vs xk hk hr ho=>by obtain rfl:=XH (hk.symm.trans e0);rw [show _=_ from hr];rfl)) J J ?_;rintro _ _ rfl;obtain ⟨f9,b7,b9,e1,h⟩:=aM h;refine JT 16 J I (dp 0 J ak J J Vm size34.out b7 b9) J J J ?_;refine r7 17 J I (cF (us:=[iV b0.XZ,iV b0.N,.string b0.S]) (z:=(⟨b0.XZ,b0.N,b0.S⟩:VI)) 0 J J J J size34.out J (toNat_lt b7 b9) J (fun S w vs xk hk hr ho=>by obtain rfl:=XH (hk.symm.trans e1);rw [show _=_ from hr];rfl)) J J ?_;rintro _ _ rfl;refine lh I ?_;refine ab ?_;obtain ⟨g0,h⟩:=ac h;exact lY
   exact jY
  rintro _ _ ⟨p8,h,rfl,rfl⟩;refine ab ?_;obtain ⟨g1,h⟩:=ac h;exact lY
 exact eY
def eP (N:Nat)(a1 a2 a3:Int):Nat->V6->Int->Option V6
 |0,_,_=>none
 |m2+1,p3,p4=>bif decide (p4<a3) then (aE (in64 (a1+p4)) (aE (in64 (a2+p4)) (aE (in64 (a2+p4)) ((ap p3 (a2+p4)).bind fun x9=>aE (in64 (a1+p4)) ((ap p3 (a1+p4)).bind fun a6=>(ap p3 (a1+p4)).bind fun a8=>(ap (List.set p3 ((a1+p4).toNat) (⟨x9.XZ,x9.N,x9.S⟩:VI)) (a2+p4)).bind fun b0=>aE (in64 (p4+1)) ((eP N a1 a2 a3 m2) (List.set (List.set p3 ((a1+p4).toNat) (⟨x9.XZ,x9.N,x9.S⟩:VI)) ((a2+p4).toNat) (⟨a6.XZ,a6.N,a6.S⟩:VI)) (p4+1))))))) else (some p3)
def dk (a0:V6)(a1 a2 a3:Int):Option V6:=
 eP N a1 a2 a3 N a0 0
theorem eO {N:Nat}{a0 r:V6}(h:dk N a0 a1 a2 a3=some r):Okc Wc 251 [Y A1 n1 c1,iV a1,iV a2,iV a3,.func (.func 135) #[] #[]] ([oN A1 n1 c1 a0]) (fun u post=>u=.tuple #[]/\post=[oN A1 n1 c1 r]):=by
 refine bY Tryz.func251 ?_;refine lK (fun m s L=> ∃(p3:V6) (p4:Int),eP N a1 a2 a3 m p3 p4=some r/\s=[(0,Y A1 n1 c1),(1,iV a1),(2,iV a2),(3,iV a3),(10,iV p4)]/\L=[oN A1 n1 c1 p3]) N ?_;rintro m2 _ _ ⟨p3,p4,h,rfl,rfl⟩;rw [eP.eq_2] at h;refine sZ ?_;refine gH J h ?_ ?_<;>intro h
 ·refine sY ?_;obtain ⟨q6,h⟩:=ac h;obtain ⟨q7,h⟩:=ac h;obtain ⟨q8,h⟩:=ac h;obtain ⟨x9,d1,d2,d3,h⟩:=aM h;obtain ⟨d0,h⟩:=ac h;obtain ⟨a6,b7,b9,c0,h⟩:=aM h;refine gQ (t:=[(0,Y A1 n1 c1),(1,iV a1),(2,iV a2),(3,iV a3),(10,iV p4)]) ?_ lj (ah _)
  refine ig I 20 [4,5,6,7] [0,3,4,7,13,19] [16,17,18,19,20,21,22,23,24,25,26,27,28,29,30,31,32,33,34,35] [[],[],[],[1,2],[],[],[],[5,6],[],[],[],[9,10],[8,11],[12],[],[],[],[15,16],[14,17],[18]] [aV (Y A1 n1 c1),
 aV (iV a1),
 aV (iV p4),
 aV (iV (a1+p4)),
 aV (Y A1 n1 c1),
 aV (iV a2),
 aV (iV p4),
 aV (iV (a2+p4)),
 aV (Y A1 n1 c1),
 aV (iV a2),
 aV (iV p4),
 aV (iV (a2+p4)),
 aV (dh (Y A1 n1 c1) ((a2+p4).toNat) 3 0),
 aV (.agg #[iV x9.XZ,iV x9.N,.string x9.S]),
 aV (Y A1 n1 c1),
 aV (iV a1),
 aV (iV p4),
 aV (iV (a1+p4)),
 aV (dh (Y A1 n1 c1) ((a1+p4).toNat) 3 0),
 aV (.agg #[iV a6.XZ,iV a6.N,.string a6.S])] [] (ah _) (ia rfl (ia rfl (ia rfl (ia rfl kU)))) I rfl rfl ?_ ?_ ?_
  ·refine gZ J ?_ ?_
   ·exact py (ao J) J (ku J (ah _))
   refine gZ J ?_ ?_
   ·exact py (ao J) J (ku J (ah _))
   refine gZ J ?_ ?_
   ·exact py (ao J) J (ku J (ah _))
   refine gZ J ?_ ?_
   ·exact py (fF J J q7.1 q7.2) J (ku J (ah _))
   exact kT
  ·refine aH J ?_ ?_
   ·exact wk (iv (us:=[iV a6.XZ,iV a6.N,.string a6.S]) 0 J ak J c0 agg34.out (fun _ _ _ h=>by rw [show _=_ from h];rfl)) J (ku J (ah _))
   refine qR (dp 0 J ak J J Vm size34.out b7 b9) ?_;refine qE (fF J J d0.1 d0.2) ?_;refine qE (ao J) ?_;refine qE (ao J) ?_;refine qE (ao J) ?_;refine aH J ?_ ?_
   ·exact wk (iv (us:=[iV x9.XZ,iV x9.N,.string x9.S]) 0 J ak J d3 agg34.out (fun _ _ _ h=>by rw [show _=_ from h];rfl)) J (ku J (ah _))
   refine qR (dp 0 J ak J J Vm size34.out d1 d2) ?_;refine qE (fF J J q8.1 q8.2) ?_;refine qE (ao J) ?_;refine qE (ao J) ?_;refine qE (ao J) ?_;refine qE (fF J J q7.1 q7.2) ?_;refine qE (ao J) ?_;refine qE (ao J) ?_;refine qE (ao J) ?_;refine qE (fF J J q6.1 q6.2) ?_;refine qE (ao J) ?_;refine qE (ao J) ?_;refine qE (ao J) ?_;exact di
  refine nB (t:=[(16,Y A1 n1 c1),(19,iV (a1+p4)),(20,Y A1 n1 c1),(23,iV (a2+p4)),(29,.agg #[iV x9.XZ,iV x9.N,.string x9.S]),(35,.agg #[iV a6.XZ,iV a6.N,.string a6.S]),(0,Y A1 n1 c1),(1,iV a1),(2,iV a2),(3,iV a3),(10,iV p4)]) (L':=[oN A1 n1 c1 p3]) ?_ lj (ah _);obtain ⟨d4,a8,b0,c8,h⟩:=aM h;refine JT 20 J I (dp 0 J ak J J Vm size34.out a8 b0) J J J ?_;refine r7 21 J I (cF (us:=[iV x9.XZ,iV x9.N,.string x9.S]) (z:=(⟨x9.XZ,x9.N,x9.S⟩:VI)) 0 J J J J size34.out J (toNat_lt a8 b0) J (fun S w vs xk hk hr ho=>by obtain rfl:=XH (hk.symm.trans c8);rw [show _=_ from hr];rfl)) J J ?_;rintro _ _ rfl;obtain ⟨d6,b5,b6,c9,h⟩:=aM h;refine JT 22 J I (dp 0 J ak J J Vm size34.out b5 b6) J J J ?_;refine r7 23 J I (cF (us:=[iV a6.XZ,iV a6.N,.string a6.S]) (z:=(⟨a6.XZ,a6.N,a6.S⟩:VI)) 0 J J J J size34.out J (toNat_lt b5 b6) J (fun S w vs xk hk hr ho=>by obtain rfl:=XH (hk.symm.trans c9);rw [show _=_ from hr];rfl)) J J ?_;rintro _ _ rfl;refine lh I ?_;refine ab ?_;obtain ⟨e0,h⟩:=ac h;exact lY
 exact eY
def lm (a2:Int)(p5:V6)(p6:Int):Option V6:=
 aE (in64 (a2 - p6)) ((dk N p5 (a2 - p6) a2 p6).bind fun a6=>some a6)
def dL (N:Nat)(a2:Int):Nat->V6->Int->Int->Option V6
 |0,_,_,_=>none
 |m7+1,p8,p9,a6=>bif !decide (p9=a6) then (bif decide (a6<p9) then (aE (in64 (a2 - p9)) ((dk N p8 (a2 - p9) a2 a6).bind fun a8=>aE (in64 (p9 - a6)) ((dL N a2 m7) a8 (p9 - a6) a6))) else (aE (in64 (a2 - p9)) (aE (in64 (a2+a6)) (aE (in64 ((a2+a6) - p9)) ((dk N p8 (a2 - p9) ((a2+a6) - p9) p9).bind fun b0=>aE (in64 (a6 - p9)) ((dL N a2 m7) b0 p9 (a6 - p9))))))) else (lm N a2 p8 p9)
def lP (a0:V6)(a1 a2 a3:Int):Option V6:=
 aE (in64 (a2 - a1)) (aE (in64 (a3 - a2)) (dL N a2 N a0 (a2 - a1) (a3 - a2)))
theorem rG {N:Nat}{a0 r:V6}(h:lP N a0 a1 a2 a3=some r):Okc Wc 240 [Y A1 n1 c1,iV a1,iV a2,iV a3,.func (.func 135) #[] #[]] ([oN A1 n1 c1 a0]) (fun u post=>u=.tuple #[]/\post=[oN A1 n1 c1 r]):=by
 refine bY Tryz.func240 ?_;obtain ⟨q2,h⟩:=ac h;refine ab ?_;obtain ⟨q3,h⟩:=ac h;refine ab ?_;refine ai (fun s L=> ∃p5 p6,lm N a2 p5 p6=some r/\s=[(0,Y A1 n1 c1),(2,iV a2),(4,.func (.func 135) #[] #[]),(10,iV p6)]/\L=[oN A1 n1 c1 p5]) ?_ ?_
 ·refine ab ?_;refine lK (fun m s L=> ∃(p8:V6) (p9:Int) (a6:Int),dL N a2 m p8 p9 a6=some r/\s=[(0,Y A1 n1 c1),(2,iV a2),(4,.func (.func 135) #[] #[]),(10,iV p9),(11,iV a6)]/\L=[oN A1 n1 c1 p8]) N ?_;rintro m7 _ _ ⟨p8,p9,a6,h,rfl,rfl⟩;rw [dL.eq_2] at h;refine sZ ?_;refine gH J h ?_ ?_<;>intro h
  ·refine dI h ?_ ?_<;>intro h
   ·refine ab ?_;obtain ⟨a8,h⟩:=ac h
    refine cC h (fun _ k=>eO k) fun b0 h=> ?_
    obtain ⟨b5,h⟩:=ac h;exact lY
   refine ab ?_;obtain ⟨b6,h⟩:=ac h;refine ab ?_;obtain ⟨b7,h⟩:=ac h;refine ab ?_;obtain ⟨b9,h⟩:=ac h
   refine cC h (fun _ k=>eO k) fun c0 h=> ?_
   obtain ⟨c8,h⟩:=ac h;exact lY
  exact jY
 rintro _ _ ⟨p5,p6,h,rfl,rfl⟩;refine ab ?_;obtain ⟨c9,h⟩:=ac h
 refine cC h (fun _ k=>eO k) fun d0 h=> ?_
 exact eN
def eK (N:Nat)(b0:V6->Int->Int->Int->Option V6)(a3 a1 a2 a6:Int)(a8:V6):Option V6:=
 (bif decide ((IntKind.i64.wrap ((IntKind.u64.wrap (a1+a3)).fdiv (2 ^ 1)))<((IntKind.i64.wrap ((IntKind.u64.wrap (a1+a3)).fdiv (2 ^ 1)))+a2) - a6) then (some (decide (((IntKind.i64.wrap ((IntKind.u64.wrap (a1+a3)).fdiv (2 ^ 1)))+a2) - a6<a3))) else (some false)).bind fun b5=>bif b5 then ((b0 a8 (IntKind.i64.wrap ((IntKind.u64.wrap (a1+a3)).fdiv (2 ^ 1))) (((IntKind.i64.wrap ((IntKind.u64.wrap (a1+a3)).fdiv (2 ^ 1)))+a2) - a6) a3).bind fun b6=>some b6) else (some a8)
def eL (a8:V6->Int->Int->Int->Option V6)(a1 a3 a6 a2:Int)(b0:V6):Option V6:=
 (bif decide (a1<a6) then (some (decide (a6<(IntKind.i64.wrap ((IntKind.u64.wrap (a1+a3)).fdiv (2 ^ 1)))))) else (some false)).bind fun b5=>bif b5 then ((a8 b0 a1 a6 (IntKind.i64.wrap ((IntKind.u64.wrap (a1+a3)).fdiv (2 ^ 1)))).bind fun b6=>eK N a8 a3 a1 a2 a6 b6) else (eK N a8 a3 a1 a2 a6 b0)
def jC (a8:V6->Int->Int->Int->Option V6)(a1 a2 a3:Int)(a0:V6)(a6:Int):Option V6:=
 aE (in64 (((IntKind.i64.wrap ((IntKind.u64.wrap (a1+a3)).fdiv (2 ^ 1)))+a2) - a6)) ((bif decide (a6<a2) then (some (decide (a2<((IntKind.i64.wrap ((IntKind.u64.wrap (a1+a3)).fdiv (2 ^ 1)))+a2) - a6))) else (some false)).bind fun b0=>bif b0 then ((lP N a0 a6 a2 (((IntKind.i64.wrap ((IntKind.u64.wrap (a1+a3)).fdiv (2 ^ 1)))+a2) - a6)).bind fun b5=>eL N a8 a1 a3 a6 a2 b5) else (eL N a8 a1 a3 a6 a2 a0))
def cV (N:Nat)(b0:V6->Int->Int->Int->Option V6)(a1 a2 a3:Int)(a0:V6):Nat->Int->Int->Option V6
 |0,_,_=>none
 |b5+1,a6,a8=>bif decide (a6<a8) then (aE (in64 (a6+a8)) (aE (in64 ((((IntKind.i64.wrap ((IntKind.u64.wrap (a1+a3)).fdiv (2 ^ 1)))+a2) - 1) - (IntKind.i64.wrap ((IntKind.u64.wrap (a6+a8)).fdiv (2 ^ 1))))) ((ap a0 ((((IntKind.i64.wrap ((IntKind.u64.wrap (a1+a3)).fdiv (2 ^ 1)))+a2) - 1) - (IntKind.i64.wrap ((IntKind.u64.wrap (a6+a8)).fdiv (2 ^ 1))))).bind fun b6=>(ap a0 (IntKind.i64.wrap ((IntKind.u64.wrap (a6+a8)).fdiv (2 ^ 1)))).bind fun b7=>(rQ N b6 b7).bind fun b9=>bif !(decide (b9<0)) then (aE (in64 ((IntKind.i64.wrap ((IntKind.u64.wrap (a6+a8)).fdiv (2 ^ 1)))+1)) ((cV N b0 a1 a2 a3 a0 b5) ((IntKind.i64.wrap ((IntKind.u64.wrap (a6+a8)).fdiv (2 ^ 1)))+1) a8)) else ((cV N b0 a1 a2 a3 a0 b5) a6 (IntKind.i64.wrap ((IntKind.u64.wrap (a6+a8)).fdiv (2 ^ 1))))))) else (jC N b0 a1 a2 a3 a0 a6)
def eM (a6:V6->Int->Int->Int->Option V6)(a1 a2 a3:Int)(a0:V6)(a8 b0:Int):Option V6:=
 aE (in64 (((IntKind.i64.wrap ((IntKind.u64.wrap (a1+a3)).fdiv (2 ^ 1)))+a2) - 1)) (cV N a6 a1 a2 a3 a0 N a8 b0)
def jE (a6:V6->Int->Int->Int->Option V6)(a1 a2 a3:Int)(a0:V6):Option V6:=
 aE (in64 (a1+a3)) (aE (in64 ((IntKind.i64.wrap ((IntKind.u64.wrap (a1+a3)).fdiv (2 ^ 1)))+a2)) (bif decide ((IntKind.i64.wrap ((IntKind.u64.wrap (a1+a3)).fdiv (2 ^ 1)))<a2) then (aE (in64 (((IntKind.i64.wrap ((IntKind.u64.wrap (a1+a3)).fdiv (2 ^ 1)))+a2) - a3)) (eM N a6 a1 a2 a3 a0 (((IntKind.i64.wrap ((IntKind.u64.wrap (a1+a3)).fdiv (2 ^ 1)))+a2) - a3) (IntKind.i64.wrap ((IntKind.u64.wrap (a1+a3)).fdiv (2 ^ 1))))) else (eM N a6 a1 a2 a3 a0 a1 a2)))
def eI (N:Nat)(b7:V6->Int->Int->Int->Option V6)(a1 a2 a3 b6:Int):Nat->V6->Int->Option V6
 |0,_,_=>none
 |b9+1,a8,a6=>bif decide (b6<a6) then (aE (in64 (a6 - 1)) (aE (in64 (a6 - 1)) ((ap a8 (a6 - 1)).bind fun b0=>(ap a8 a6).bind fun b5=>(ap a8 a6).bind fun c0=>(ap (List.set a8 a6.toNat (⟨b0.XZ,b0.N,b0.S⟩:VI)) (a6 - 1)).bind fun c8=>aE (in64 (a6 - 1)) ((eI N b7 a1 a2 a3 b6 b9) (List.set (List.set a8 a6.toNat (⟨b0.XZ,b0.N,b0.S⟩:VI)) ((a6 - 1).toNat) (⟨b5.XZ,b5.N,b5.S⟩:VI)) (a6 - 1))))) else (some a8)
def jD (a6:V6->Int->Int->Int->Option V6)(a1 a2 a3:Int)(a0:V6)(a8:Int):Option V6:=
 eI N a6 a1 a2 a3 a8 N a0 a2
def cW (N:Nat)(b0:V6->Int->Int->Int->Option V6)(a1 a2 a3:Int)(a0:V6):Nat->Int->Int->Option V6
 |0,_,_=>none
 |b5+1,a6,a8=>bif decide (a6<a8) then (aE (in64 (a6+a8)) ((ap a0 a2).bind fun b6=>(ap a0 (IntKind.i64.wrap ((IntKind.u64.wrap (a6+a8)).fdiv (2 ^ 1)))).bind fun b7=>(rQ N b6 b7).bind fun b9=>bif !(decide (b9<0)) then (aE (in64 ((IntKind.i64.wrap ((IntKind.u64.wrap (a6+a8)).fdiv (2 ^ 1)))+1)) ((cW N b0 a1 a2 a3 a0 b5) ((IntKind.i64.wrap ((IntKind.u64.wrap (a6+a8)).fdiv (2 ^ 1)))+1) a8)) else ((cW N b0 a1 a2 a3 a0 b5) a6 (IntKind.i64.wrap ((IntKind.u64.wrap (a6+a8)).fdiv (2 ^ 1)))))) else (jD N b0 a1 a2 a3 a0 a6)
def fC (a6:V6->Int->Int->Int->Option V6)(a1 a2 a3:Int)(a0:V6):Option V6:=
 aE (in64 (a3 - a2)) (bif decide (a3 - a2=1) then (cW N a6 a1 a2 a3 a0 N a1 a2) else (jE N a6 a1 a2 a3 a0))
def eJ (N:Nat)(b6:V6->Int->Int->Int->Option V6)(a1 a2 a3 p7:Int):Nat->V6->Int->Option V6
 |0,_,_=>none
 |b7+1,a8,a6=>aE (in64 (p7 - 1)) (bif decide (a6<p7 - 1) then (aE (in64 (a6+1)) (aE (in64 (a6+1)) ((ap a8 (a6+1)).bind fun b0=>(ap a8 a6).bind fun b5=>(ap a8 a6).bind fun b9=>(ap (List.set a8 a6.toNat (⟨b0.XZ,b0.N,b0.S⟩:VI)) (a6+1)).bind fun c0=>aE (in64 (a6+1)) ((eJ N b6 a1 a2 a3 p7 b7) (List.set (List.set a8 a6.toNat (⟨b0.XZ,b0.N,b0.S⟩:VI)) ((a6+1).toNat) (⟨b5.XZ,b5.N,b5.S⟩:VI)) (a6+1))))) else (some a8))
def kr (a6:V6->Int->Int->Int->Option V6)(a1 a2 a3:Int)(a0:V6)(p7:Int):Option V6:=
 eJ N a6 a1 a2 a3 p7 N a0 a1
def cl (N:Nat)(a8:V6->Int->Int->Int->Option V6)(a1 a2 a3:Int)(a0:V6):Nat->Int->Int->Option V6
 |0,_,_=>none
 |m8+1,p9,a6=>bif decide (p9<a6) then (aE (in64 (p9+a6)) ((ap a0 (IntKind.i64.wrap ((IntKind.u64.wrap (p9+a6)).fdiv (2 ^ 1)))).bind fun b0=>(ap a0 a1).bind fun b5=>(rQ N b0 b5).bind fun b6=>bif decide (b6<0) then (aE (in64 ((IntKind.i64.wrap ((IntKind.u64.wrap (p9+a6)).fdiv (2 ^ 1)))+1)) ((cl N a8 a1 a2 a3 a0 m8) ((IntKind.i64.wrap ((IntKind.u64.wrap (p9+a6)).fdiv (2 ^ 1)))+1) a6)) else ((cl N a8 a1 a2 a3 a0 m8) p9 (IntKind.i64.wrap ((IntKind.u64.wrap (p9+a6)).fdiv (2 ^ 1)))))) else (kr N a8 a1 a2 a3 a0 p9)
def am (N:Nat):Nat->V6->Int->Int->Int->Option V6
 |0,_,_,_,_=>none
 |m2+1,a0,a1,a2,a3=>aE (in64 (a2 - a1)) (bif decide (a2 - a1=1) then (cl N (am N m2) a1 a2 a3 a0 N a2 a3) else (fC N (am N m2) a1 a2 a3 a0))
theorem pC {N m2:Nat}{a0:V6}:am N (m2+1) a0 a1 a2 a3=aE (in64 (a2 - a1)) (bif decide (a2 - a1=1) then (cl N (am N m2) a1 a2 a3 a0 N a2 a3) else (fC N (am N m2) a1 a2 a3 a0)):=rfl
def bu (a0:V6)(a1 a2 a3:Int):Option V6:=am N N a0 a1 a2 a3
theorem pB {N:Nat}: ∀(m0:Nat) {a0:V6} {a1:Int} {a2:Int} {a3:Int} {r:V6} (h:am N m0 a0 a1 a2 a3=some r) {A1:Option Addr} {n1 c1:Nat},Okc Wc 217 [Y A1 n1 c1,iV a1,iV a2,iV a3,.func (.func 135) #[] #[]] ([oN A1 n1 c1 a0]) (fun u post=>u=.tuple #[]/\post=[oN A1 n1 c1 r]):=by
 intro m0
 induction m0 with
 |zero=>intro a0 a1 a2 a3 r h A1 n1 c1;exact az h
 | succ m2 ih=>
  intro a0 a1 a2 a3 r h A1 n1 c1;rw [pC] at h;refine Gf Tryz.func217 J J ?_;simp only [uz];refine ai (fun s L=>fC N (am N m2) a1 a2 a3 a0=some r/\s=[(0,Y A1 n1 c1),(1,iV a1),(2,iV a2),(3,iV a3),(4,.func (.func 135) #[] #[])]/\L=[oN A1 n1 c1 a0]) ?_ ?_
  ·refine ab ?_;obtain ⟨q4,h⟩:=ac h;refine dI h ?_ ?_<;>intro h
   ·refine ab ?_;refine ai (fun s L=> ∃p7,kr N (am N m2) a1 a2 a3 a0 p7=some r/\s=[(0,Y A1 n1 c1),(1,iV a1),(2,iV a2),(3,iV a3),(4,.func (.func 135) #[] #[]),(10,iV p7)]/\L=[oN A1 n1 c1 a0]) ?_ ?_
    ·refine ab ?_;refine lK (fun m s L=> ∃(p9:Int) (e0:Int),cl N (am N m2) a1 a2 a3 a0 m p9 e0=some r/\s=[(0,Y A1 n1 c1),(1,iV a1),(2,iV a2),(3,iV a3),(4,.func (.func 135) #[] #[]),(10,iV p9),(11,iV e0)]/\L=[oN A1 n1 c1 a0]) N ?_;rintro m8 _ _ ⟨p9,e0,h,rfl,rfl⟩;rw [cl.eq_2] at h;refine sZ ?_;refine gH J h ?_ ?_<;>intro h
     ·refine ab ?_;obtain ⟨k0,h⟩:=ac h;refine ab ?_;refine gE (Ck J J Vw) ?_;refine gE (H9 (v:=(IntKind.u64.wrap (p9+e0)).fdiv (2 ^ 1)) J J (fun _=>J)) ?_;refine dU (Ck J J Ex) ?_;refine dY [] ?_;refine ab ?_;obtain ⟨k2,h6,h7,h8,h⟩:=aM h;refine ab ?_;obtain ⟨k3,h9,i0,i1,h⟩:=aM h;refine ab ?_;obtain ⟨k4,k,h⟩:=aa h;refine zD 9 J (iS (tc k) J J J (aR) qa) ?_;rintro _ _ ⟨_,⟨rfl,rfl⟩,rfl⟩;refine ⟨_,ah _,ah _,?_⟩;refine dI h ?_ ?_<;>intro h
      ·refine ab ?_;obtain ⟨k5,h⟩:=ac h;exact lY
      exact lY
     exact jY
    rintro _ _ ⟨p7,h,rfl,rfl⟩;refine sZ ?_;refine lK (fun m s L=> ∃(e1:V6) (a6:Int),eJ N (am N m2) a1 a2 a3 p7 m e1 a6=some r/\s=[(0,Y A1 n1 c1),(1,iV a1),(2,iV a2),(3,iV a3),(4,.func (.func 135) #[] #[]),(10,iV p7),(13,iV a6)]/\L=[oN A1 n1 c1 e1]) N ?_;rintro k6 _ _ ⟨e1,a6,h,rfl,rfl⟩;rw [eJ.eq_2] at h;refine sZ ?_;obtain ⟨k7,h⟩:=ac h;refine dI h ?_ ?_<;>intro h
    ·refine sY ?_;obtain ⟨e2,h⟩:=ac h;obtain ⟨h4,h⟩:=ac h;obtain ⟨a8,e9,f1,f2,h⟩:=aM h;obtain ⟨b0,f3,f4,f9,h⟩:=aM h;refine gQ (t:=[(0,Y A1 n1 c1),(1,iV a1),(2,iV a2),(3,iV a3),(4,.func (.func 135) #[] #[]),(10,iV p7),(13,iV a6)]) ?_ lj (ah _)
     refine ig I 14 [2,3,4] [0,1,2,4,9,13] [61,62,63,64,65,66,67,68,69,70,71,72,73,74] [[],[],[],[],[3],[],[],[6],[5,7],[8],[],[],[10,11],[12]] [aV (Y A1 n1 c1),
aV (iV a6),
aV (Y A1 n1 c1),
aV (iV a6),
aV (iV (a6+1)),
aV (Y A1 n1 c1),
aV (iV a6),
aV (iV (a6+1)),
aV (dh (Y A1 n1 c1) ((a6+1).toNat) 3 0),
aV (.agg #[iV a8.XZ,iV a8.N,.string a8.S]),
aV (Y A1 n1 c1),
aV (iV a6),
aV (dh (Y A1 n1 c1) a6.toNat 3 0),
aV (.agg #[iV b0.XZ,iV b0.N,.string b0.S])] [] (ah _) (ia rfl (ia rfl (ia rfl kU))) I rfl rfl ?_ ?_ ?_
     ·refine gZ J ?_ ?_
      ·exact py (ao J) J (ku J (ah _))
      refine gZ J ?_ ?_
      ·exact py (ao J) J (ku J (ah _))
      refine gZ J ?_ ?_
      ·exact py (fF J J e2.1 e2.2) J (ku J (ah _))
      exact kT
     ·refine aH J ?_ ?_
      ·exact wk (iv (us:=[iV b0.XZ,iV b0.N,.string b0.S]) 0 J ak J f9 agg34.out (fun _ _ _ h=>by rw [show _=_ from h];rfl)) J (ku J (ah _))
      refine qR (dp 0 J ak J J Vm size34.out f3 f4) ?_;refine qE (ao J) ?_;refine qE (ao J) ?_;refine aH J ?_ ?_
      ·exact wk (iv (us:=[iV a8.XZ,iV a8.N,.string a8.S]) 0 J ak J f2 agg34.out (fun _ _ _ h=>by rw [show _=_ from h];rfl)) J (ku J (ah _))
      refine qR (dp 0 J ak J J Vm size34.out e9 f1) ?_;refine qE (fF J J h4.1 h4.2) ?_;refine qE (ao J) ?_;refine qE (ao J) ?_;refine qE (fF J J e2.1 e2.2) ?_;refine qE (ao J) ?_;refine qE (ao J) ?_;refine qE (ao J) ?_;refine qE (ao J) ?_;exact di
     refine nB (t:=[(61,Y A1 n1 c1),(62,iV a6),(63,Y A1 n1 c1),(65,iV (a6+1)),(70,.agg #[iV a8.XZ,iV a8.N,.string a8.S]),(74,.agg #[iV b0.XZ,iV b0.N,.string b0.S]),(0,Y A1 n1 c1),(1,iV a1),(2,iV a2),(3,iV a3),(4,.func (.func 135) #[] #[]),(10,iV p7),(13,iV a6)]) (L':=[oN A1 n1 c1 e1]) ?_ lj (ah _);obtain ⟨k8,c8,c9,g0,h⟩:=aM h;refine JT 14 J I (dp 0 J ak J J Vm size34.out c8 c9) J J J ?_;refine r7 15 J I (cF (us:=[iV a8.XZ,iV a8.N,.string a8.S]) (z:=(⟨a8.XZ,a8.N,a8.S⟩:VI)) 0 J J J J size34.out J (toNat_lt c8 c9) J (fun S w vs xk hk hr ho=>by obtain rfl:=XH (hk.symm.trans g0);rw [show _=_ from hr];rfl)) J J ?_;rintro _ _ rfl;refine yg ?_;obtain ⟨k9,d0,d1,g1,h⟩:=aM h;refine JT 16 J I (dp 0 J ak J J Vm size34.out d0 d1) J J J ?_;refine r7 17 J I (cF (us:=[iV b0.XZ,iV b0.N,.string b0.S]) (z:=(⟨b0.XZ,b0.N,b0.S⟩:VI)) 0 J J J J size34.out J (toNat_lt d0 d1) J (fun S w vs xk hk hr ho=>by obtain rfl:=XH (hk.symm.trans g1);rw [show _=_ from hr];rfl)) J J ?_;rintro _ _ rfl;refine yg ?_;refine lh I ?_;refine ab ?_;obtain ⟨l0,h⟩:=ac h;exact lY
    exact eY
   exact jY
  rintro _ _ ⟨h,rfl,rfl⟩;refine ai (fun s L=>jE N (am N m2) a1 a2 a3 a0=some r/\s=[(0,Y A1 n1 c1),(1,iV a1),(2,iV a2),(3,iV a3),(4,.func (.func 135) #[] #[])]/\L=[oN A1 n1 c1 a0]) ?_ ?_
  ·refine ab ?_;obtain ⟨l1,h⟩:=ac h;refine dI h ?_ ?_<;>intro h
   ·refine ab ?_;refine ai (fun s L=> ∃c0,jD N (am N m2) a1 a2 a3 a0 c0=some r/\s=[(0,Y A1 n1 c1),(1,iV a1),(2,iV a2),(3,iV a3),(4,.func (.func 135) #[] #[]),(14,iV c0)]/\L=[oN A1 n1 c1 a0]) ?_ ?_
    ·refine ab ?_;refine lK (fun m s L=> ∃(e3:Int) (e4:Int),cW N (am N m2) a1 a2 a3 a0 m e3 e4=some r/\s=[(0,Y A1 n1 c1),(1,iV a1),(2,iV a2),(3,iV a3),(4,.func (.func 135) #[] #[]),(14,iV e3),(15,iV e4)]/\L=[oN A1 n1 c1 a0]) N ?_;rintro l2 _ _ ⟨e3,e4,h,rfl,rfl⟩;rw [cW.eq_2] at h;refine sZ ?_;refine gH J h ?_ ?_<;>intro h
     ·refine ab ?_;obtain ⟨l3,h⟩:=ac h;refine ab ?_;refine gE (Ck J J Vw) ?_;refine gE (H9 (v:=(IntKind.u64.wrap (e3+e4)).fdiv (2 ^ 1)) J J (fun _=>J)) ?_;refine dU (Ck J J Ex) ?_;refine dY [] ?_;refine ab ?_;obtain ⟨l4,i2,i8,j0,h⟩:=aM h;refine ab ?_;obtain ⟨l5,j1,j2,j3,h⟩:=aM h;refine ab ?_;obtain ⟨l6,k,h⟩:=aa h;refine zD 9 J (iS (tc k) J J J (aR) qa) ?_;rintro _ _ ⟨_,⟨rfl,rfl⟩,rfl⟩;refine ⟨_,ah _,ah _,?_⟩;refine dI h ?_ ?_<;>intro h
      ·refine ab ?_;obtain ⟨l7,h⟩:=ac h;exact lY
      exact lY
     exact jY
    rintro _ _ ⟨c0,h,rfl,rfl⟩;refine sZ ?_;refine lK (fun m s L=> ∃(e5:V6) (b5:Int),eI N (am N m2) a1 a2 a3 c0 m e5 b5=some r/\s=[(0,Y A1 n1 c1),(1,iV a1),(2,iV a2),(3,iV a3),(4,.func (.func 135) #[] #[]),(14,iV c0),(17,iV b5)]/\L=[oN A1 n1 c1 e5]) N ?_;rintro l8 _ _ ⟨e5,b5,h,rfl,rfl⟩;rw [eI.eq_2] at h;refine sZ ?_;refine gH J h ?_ ?_<;>intro h
    ·refine sY ?_;obtain ⟨e6,h⟩:=ac h;obtain ⟨h5,h⟩:=ac h;obtain ⟨b6,g2,g3,g4,h⟩:=aM h;obtain ⟨b7,g5,g6,g7,h⟩:=aM h;refine gQ (t:=[(0,Y A1 n1 c1),(1,iV a1),(2,iV a2),(3,iV a3),(4,.func (.func 135) #[] #[]),(14,iV c0),(17,iV b5)]) ?_ lj (ah _)
     refine ig I 14 [2,3,4] [0,1,2,4,9,13] [113,114,115,116,117,118,119,120,121,122,123,124,125,126] [[],[],[],[],[3],[],[],[6],[5,7],[8],[],[],[10,11],[12]] [aV (Y A1 n1 c1),
aV (iV b5),
aV (Y A1 n1 c1),
aV (iV b5),
aV (iV (b5 - 1)),
aV (Y A1 n1 c1),
aV (iV b5),
aV (iV (b5 - 1)),
aV (dh (Y A1 n1 c1) ((b5 - 1).toNat) 3 0),
aV (.agg #[iV b6.XZ,iV b6.N,.string b6.S]),
aV (Y A1 n1 c1),
aV (iV b5),
aV (dh (Y A1 n1 c1) b5.toNat 3 0),
aV (.agg #[iV b7.XZ,iV b7.N,.string b7.S])] [] (ah _) (ia rfl (ia rfl (ia rfl kU))) I rfl rfl ?_ ?_ ?_
     ·refine gZ J ?_ ?_
      ·exact py (ao J) J (ku J (ah _))
      refine gZ J ?_ ?_
      ·exact py (ao J) J (ku J (ah _))
      refine gZ J ?_ ?_
      ·exact py (wK J J e6.1 e6.2) J (ku J (ah _))
      exact kT
     ·refine aH J ?_ ?_
      ·exact wk (iv (us:=[iV b7.XZ,iV b7.N,.string b7.S]) 0 J ak J g7 agg34.out (fun _ _ _ h=>by rw [show _=_ from h];rfl)) J (ku J (ah _))
      refine qR (dp 0 J ak J J Vm size34.out g5 g6) ?_;refine qE (ao J) ?_;refine qE (ao J) ?_;refine aH J ?_ ?_
      ·exact wk (iv (us:=[iV b6.XZ,iV b6.N,.string b6.S]) 0 J ak J g4 agg34.out (fun _ _ _ h=>by rw [show _=_ from h];rfl)) J (ku J (ah _))
      refine qR (dp 0 J ak J J Vm size34.out g2 g3) ?_;refine qE (wK J J h5.1 h5.2) ?_;refine qE (ao J) ?_;refine qE (ao J) ?_;refine qE (wK J J e6.1 e6.2) ?_;refine qE (ao J) ?_;refine qE (ao J) ?_;refine qE (ao J) ?_;refine qE (ao J) ?_;exact di
     refine nB (t:=[(113,Y A1 n1 c1),(114,iV b5),(115,Y A1 n1 c1),(117,iV (b5 - 1)),(122,.agg #[iV b6.XZ,iV b6.N,.string b6.S]),(126,.agg #[iV b7.XZ,iV b7.N,.string b7.S]),(0,Y A1 n1 c1),(1,iV a1),(2,iV a2),(3,iV a3),(4,.func (.func 135) #[] #[]),(14,iV c0),(17,iV b5)]) (L':=[oN A1 n1 c1 e5]) ?_ lj (ah _);obtain ⟨l9,d2,d3,g8,h⟩:=aM h;refine JT 14 J I (dp 0 J ak J J Vm size34.out d2 d3) J J J ?_;refine r7 15 J I (cF (us:=[iV b6.XZ,iV b6.N,.string b6.S]) (z:=(⟨b6.XZ,b6.N,b6.S⟩:VI)) 0 J J J J size34.out J (toNat_lt d2 d3) J (fun S w vs xk hk hr ho=>by obtain rfl:=XH (hk.symm.trans g8);rw [show _=_ from hr];rfl)) J J ?_;rintro _ _ rfl;refine yg ?_;obtain ⟨m1,d4,d6,g9,h⟩:=aM h;refine JT 16 J I (dp 0 J ak J J Vm size34.out d4 d6) J J J ?_;refine r7 17 J I (cF (us:=[iV b7.XZ,iV b7.N,.string b7.S]) (z:=(⟨b7.XZ,b7.N,b7.S⟩:VI)) 0 J J J J size34.out J (toNat_lt d4 d6) J (fun S w vs xk hk hr ho=>by obtain rfl:=XH (hk.symm.trans g9);rw [show _=_ from hr];rfl)) J J ?_;rintro _ _ rfl;refine yg ?_;refine lh I ?_;refine ab ?_;obtain ⟨m3,h⟩:=ac h;exact lY
    exact eY
   exact jY
  rintro _ _ ⟨h,rfl,rfl⟩;refine ab ?_;obtain ⟨m4,h⟩:=ac h;refine ab ?_;refine gE (Ck J J Vw) ?_;refine gE (H9 (v:=(IntKind.u64.wrap (a1+a3)).fdiv (2 ^ 1)) J J (fun _=>J)) ?_;refine dU (Ck J J Ex) ?_;obtain ⟨m5,h⟩:=ac h;refine ab ?_;refine ai (fun s L=> ∃h0 h1,eM N (am N m2) a1 a2 a3 a0 h0 h1=some r/\s=[(0,Y A1 n1 c1),(1,iV a1),(2,iV a2),(3,iV a3),(4,.func (.func 135) #[] #[]),(18,iV (IntKind.i64.wrap ((IntKind.u64.wrap (a1+a3)).fdiv (2 ^ 1)))),(19,iV ((IntKind.i64.wrap ((IntKind.u64.wrap (a1+a3)).fdiv (2 ^ 1)))+a2)),(20,iV h0),(21,iV h1)]/\L=[oN A1 n1 c1 a0]) ?_ ?_
  ·refine dI h ?_ ?_<;>intro h
   ·refine ab ?_;obtain ⟨m6,h⟩:=ac h;exact jY
   exact jY
  rintro _ _ ⟨h0,h1,h,rfl,rfl⟩;refine ab ?_;obtain ⟨m7,h⟩:=ac h;refine ab ?_;refine ai (fun s L=> ∃b9,jC N (am N m2) a1 a2 a3 a0 b9=some r/\s=[(0,Y A1 n1 c1),(1,iV a1),(2,iV a2),(3,iV a3),(4,.func (.func 135) #[] #[]),(18,iV (IntKind.i64.wrap ((IntKind.u64.wrap (a1+a3)).fdiv (2 ^ 1)))),(19,iV ((IntKind.i64.wrap ((IntKind.u64.wrap (a1+a3)).fdiv (2 ^ 1)))+a2)),(20,iV b9)]/\L=[oN A1 n1 c1 a0]) ?_ ?_
  ·refine ab ?_;refine lK (fun m s L=> ∃(e7:Int) (e8:Int),cV N (am N m2) a1 a2 a3 a0 m e7 e8=some r/\s=[(0,Y A1 n1 c1),(1,iV a1),(2,iV a2),(3,iV a3),(4,.func (.func 135) #[] #[]),(18,iV (IntKind.i64.wrap ((IntKind.u64.wrap (a1+a3)).fdiv (2 ^ 1)))),(19,iV ((IntKind.i64.wrap ((IntKind.u64.wrap (a1+a3)).fdiv (2 ^ 1)))+a2)),(20,iV e7),(21,iV e8),(22,iV (((IntKind.i64.wrap ((IntKind.u64.wrap (a1+a3)).fdiv (2 ^ 1)))+a2) - 1))]/\L=[oN A1 n1 c1 a0]) N ?_;rintro m9 _ _ ⟨e7,e8,h,rfl,rfl⟩;rw [cV.eq_2] at h;refine sZ ?_;refine gH J h ?_ ?_<;>intro h
   ·refine ab ?_;obtain ⟨n0,h⟩:=ac h;refine ab ?_;refine gE (Ck J J Vw) ?_;refine gE (H9 (v:=(IntKind.u64.wrap (e7+e8)).fdiv (2 ^ 1)) J J (fun _=>J)) ?_;refine dU (Ck J J Ex) ?_;refine dY [] ?_;refine ab ?_;obtain ⟨n8,h⟩:=ac h;refine ab ?_;obtain ⟨n9,j4,j5,j6,h⟩:=aM h;refine ab ?_;obtain ⟨o0,j7,j8,j9,h⟩:=aM h;refine ab ?_;obtain ⟨o1,k,h⟩:=aa h;refine zD 11 J (iS (tc k) J J J (aR) qa) ?_;rintro _ _ ⟨_,⟨rfl,rfl⟩,rfl⟩;refine ⟨_,ah _,ah _,?_⟩;refine dI h ?_ ?_<;>intro h
    ·refine ab ?_;obtain ⟨o2,h⟩:=ac h;exact lY
    exact lY
   exact jY
  rintro _ _ ⟨b9,h,rfl,rfl⟩;refine ab ?_;obtain ⟨o3,h⟩:=ac h;refine ab ?_;refine ai (fun s L=> ∃h2,eL N (am N m2) a1 a3 b9 a2 h2=some r/\s=[(0,Y A1 n1 c1),(1,iV a1),(3,iV a3),(4,.func (.func 135) #[] #[]),(18,iV (IntKind.i64.wrap ((IntKind.u64.wrap (a1+a3)).fdiv (2 ^ 1)))),(20,iV b9),(24,iV (((IntKind.i64.wrap ((IntKind.u64.wrap (a1+a3)).fdiv (2 ^ 1)))+a2) - b9))]/\L=[oN A1 n1 c1 h2]) ?_ ?_
  ·refine ab ?_;refine gS 4 185 181 h ?_;intro o4 h;refine dI h ?_ ?_<;>intro h
   ·refine cC h (fun _ k=>rG k) fun o5 h=> ?_
    exact jN
   exact jY
  rintro _ _ ⟨h2,h,rfl,rfl⟩;refine ai (fun s L=> ∃h3,eK N (am N m2) a3 a1 a2 b9 h3=some r/\s=[(0,Y A1 n1 c1),(3,iV a3),(4,.func (.func 135) #[] #[]),(18,iV (IntKind.i64.wrap ((IntKind.u64.wrap (a1+a3)).fdiv (2 ^ 1)))),(24,iV (((IntKind.i64.wrap ((IntKind.u64.wrap (a1+a3)).fdiv (2 ^ 1)))+a2) - b9))]/\L=[oN A1 n1 c1 h3]) ?_ ?_
  ·refine ab ?_;refine gS 4 199 195 h ?_;intro p1 h;refine dI h ?_ ?_<;>intro h
   ·refine cC h (fun _ k=>ih k) fun p2 h=> ?_
    exact jN
   exact jY
  rintro _ _ ⟨h3,h,rfl,rfl⟩;refine ab ?_;refine gS 4 213 209 h ?_;intro p3 h;refine dI h ?_ ?_<;>intro h
  ·refine cC h (fun _ k=>ih k) fun p4 h=> ?_
   exact eN
  exact eY
theorem bI {N:Nat}{a0 r:V6}(h:bu N a0 a1 a2 a3=some r):Okc Wc 217 [Y A1 n1 c1,iV a1,iV a2,iV a3,.func (.func 135) #[] #[]] ([oN A1 n1 c1 a0]) (fun u post=>u=.tuple #[]/\post=[oN A1 n1 c1 r]):=pB N h
def fR (N:Nat)(a6:V6->Int->Option V6)(a1 a8:Int)(b0:V6):Option V6:=
 aE (in64 (a8*2)) (a6 b0 (a8*2))
def qy (a6:V6->Int->Option V6)(a1 a8:Int)(b0:V6):Option V6:=
 aE (in64 (0+a8)) (bif decide (0+a8<a1) then ((bu N b0 0 (0+a8) a1).bind fun b5=>fR N a6 a1 a8 b5) else (fR N a6 a1 a8 b0))
def fQ (N:Nat)(a6:V6->Int->Option V6)(a1 a8:Int)(b0:V6):Option V6:=
 aE (in64 (a8*2)) (a6 b0 (a8*2))
def kM (a6:V6->Int->Option V6)(a1 a8:Int)(p21:V6)(b0:Int):Option V6:=
 aE (in64 (b0+a8)) (bif decide (b0+a8<a1) then ((bu N p21 b0 (b0+a8) a1).bind fun b5=>fQ N a6 a1 a8 b5) else (fQ N a6 a1 a8 p21))
def fN (N:Nat)(a8:V6->Int->Option V6)(a1 a6:Int):Nat->V6->Int->Int->Option V6
 |0,_,_,_=>none
 |b7+1,b6,b5,b0=>bif decide (b0<=a1) then (aE (in64 (b5+a6)) ((bu N b6 b5 (b5+a6) b0).bind fun b9=>aE (in64 (2*a6)) (aE (in64 (b0+(2*a6))) ((fN N a8 a1 a6 b7) b9 b0 (b0+(2*a6)))))) else (kM N a8 a1 a6 b6 b5)
def bc (N:Nat)(a1:Int):Nat->V6->Int->Option V6
 |0,_,_=>none
 |b0+1,a8,a6=>bif decide (a6<a1) then (aE (in64 (2*a6)) (fN N (bc N a1 b0) a1 a6 N a8 0 (2*a6))) else (some a8)
def rE (a1:Int)(a0:V6):Option V6:=
 (cy N a0 0 a1).bind fun a6=>bc N a1 N a6 20
def fP (N:Nat)(a6:V6->Int->Option V6)(a1 a8:Int)(b0:V6):Option V6:=
 aE (in64 (a8*2)) (a6 b0 (a8*2))
def qx (a6:V6->Int->Option V6)(a1 a8:Int)(b0:V6):Option V6:=
 aE (in64 (0+a8)) (bif decide (0+a8<a1) then ((bu N b0 0 (0+a8) a1).bind fun b5=>fP N a6 a1 a8 b5) else (fP N a6 a1 a8 b0))
def fO (N:Nat)(a6:V6->Int->Option V6)(a1 a8:Int)(b0:V6):Option V6:=
 aE (in64 (a8*2)) (a6 b0 (a8*2))
def kL (a6:V6->Int->Option V6)(a1 a8:Int)(b5:V6)(b0:Int):Option V6:=
 aE (in64 (b0+a8)) (bif decide (b0+a8<a1) then ((bu N b5 b0 (b0+a8) a1).bind fun b6=>fO N a6 a1 a8 b6) else (fO N a6 a1 a8 b5))
def fM (N:Nat)(a8:V6->Int->Option V6)(a1 a6:Int):Nat->V6->Int->Int->Option V6
 |0,_,_,_=>none
 |b7+1,b6,b5,b0=>bif decide (b0<=a1) then (aE (in64 (b5+a6)) ((bu N b6 b5 (b5+a6) b0).bind fun b9=>aE (in64 (2*a6)) (aE (in64 (b0+(2*a6))) ((fM N a8 a1 a6 b7) b9 b0 (b0+(2*a6)))))) else (kL N a8 a1 a6 b6 b5)
def ba (N:Nat)(a1:Int):Nat->V6->Int->Option V6
 |0,_,_=>none
 |b0+1,a8,a6=>bif decide (a6<a1) then (aE (in64 (2*a6)) (fM N (ba N a1 b0) a1 a6 N a8 0 (2*a6))) else (some a8)
def ll (a1:Int)(p4:V6)(p5:Int):Option V6:=
 (cy N p4 p5 a1).bind fun a6=>ba N a1 N a6 20
def gl (N:Nat)(a1:Int):Nat->V6->Int->Int->Option V6
 |0,_,_,_=>none
 |m6+1,p7,p8,p9=>bif decide (p9<=a1) then ((cy N p7 p8 p9).bind fun a6=>aE (in64 (p9+20)) ((gl N a1 m6) a6 p9 (p9+20))) else (ll N a1 p7 p8)
def lO (a0:V6)(a1:Int):Option V6:=
 gl N a1 N a0 0 20
theorem rD {N:Nat}{a0 r:V6}(h:lO N a0 a1=some r):Okc Wc 178 [Y A1 n1 c1,iV a1,.func (.func 135) #[] #[]] ([oN A1 n1 c1 a0]) (fun u post=>u=.tuple #[]/\post=[oN A1 n1 c1 r]):=by
 refine bY Tryz.func178 ?_;refine ai (fun s L=>(rE N a1 a0=some r/\s=[(0,Y A1 n1 c1),(1,iV a1),(2,.func (.func 135) #[] #[]),(6,iV 20),(7,iV 0)]/\L=[oN A1 n1 c1 a0])\/(∃p4 p5,ll N a1 p4 p5=some r/\s=[(0,Y A1 n1 c1),(1,iV a1),(2,.func (.func 135) #[] #[]),(6,iV 20),(7,iV p5)]/\L=[oN A1 n1 c1 p4])) ?_ ?_
 ·refine ab ?_;refine lK (fun m s L=> ∃(p7:V6) (p8:Int) (p9:Int),gl N a1 m p7 p8 p9=some r/\s=[(0,Y A1 n1 c1),(1,iV a1),(2,.func (.func 135) #[] #[]),(6,iV 20),(7,iV p8),(8,iV p9)]/\L=[oN A1 n1 c1 p7]) N ?_;rintro m6 _ _ ⟨p7,p8,p9,h,rfl,rfl⟩;rw [gl.eq_2] at h;refine sZ ?_;refine gH J h ?_ ?_<;>intro h
  ·refine cC h (fun _ k=>dB k) fun f2 h=> ?_
   obtain ⟨f3,h⟩:=ac h;exact lY
  refine ab ?_;exact ⟨_,_,.inr (⟨p7,p8,h,J,J⟩),sA,cS [0] 1⟩
 rintro _ _ (⟨h,rfl,rfl⟩|⟨p4,p5,h,rfl,rfl⟩)
 ·refine cC h (fun _ k=>dB k) fun f4 h=> ?_
  refine lK (fun m s L=> ∃(b0:V6) (a6:Int),bc N a1 m b0 a6=some r/\s=[(0,Y A1 n1 c1),(1,iV a1),(2,.func (.func 135) #[] #[]),(6,iV a6)]/\L=[oN A1 n1 c1 b0]) N ?_;rintro b5 _ _ ⟨b0,a6,h,rfl,rfl⟩;rw [bc.eq_2] at h;refine sZ ?_;refine gH J h ?_ ?_<;>intro h
  ·refine ab ?_;obtain ⟨e3,h⟩:=ac h;refine dU (nw J J e3.1 e3.2) ?_;refine ai (fun s L=>(qy N (bc N a1 b5) a1 a6 b0=some r/\s=[(0,Y A1 n1 c1),(1,iV a1),(2,.func (.func 135) #[] #[]),(6,iV a6),(7,iV 0)]/\L=[oN A1 n1 c1 b0])\/(∃p21 d0,kM N (bc N a1 b5) a1 a6 p21 d0=some r/\s=[(0,Y A1 n1 c1),(1,iV a1),(2,.func (.func 135) #[] #[]),(6,iV a6),(7,iV d0)]/\L=[oN A1 n1 c1 p21])) ?_ ?_
   ·refine ab ?_;refine lK (fun m s L=> ∃(b9:V6) (c0:Int) (d1:Int),fN N (bc N a1 b5) a1 a6 m b9 c0 d1=some r/\s=[(0,Y A1 n1 c1),(1,iV a1),(2,.func (.func 135) #[] #[]),(6,iV a6),(7,iV c0),(8,iV d1)]/\L=[oN A1 n1 c1 b9]) N ?_;rintro f9 _ _ ⟨b9,c0,d1,h,rfl,rfl⟩;rw [fN.eq_2] at h;refine sZ ?_;refine gH J h ?_ ?_<;>intro h
    ·refine ab ?_;obtain ⟨g0,h⟩:=ac h
     refine cC h (fun _ k=>bI k) fun g1 h=> ?_
     obtain ⟨e4,h⟩:=ac h;refine gE (nw J J e4.1 e4.2) ?_;obtain ⟨g2,h⟩:=ac h;exact lY
    refine ab ?_;exact ⟨_,_,.inr (⟨b9,c0,h,J,J⟩),sA,cS [0] 1⟩
   rintro _ _ (⟨h,rfl,rfl⟩|⟨p21,d0,h,rfl,rfl⟩)
   ·refine ai (fun s L=> ∃d2,fR N (bc N a1 b5) a1 a6 d2=some r/\s=[(0,Y A1 n1 c1),(1,iV a1),(2,.func (.func 135) #[] #[]),(6,iV a6)]/\L=[oN A1 n1 c1 d2]) ?_ ?_
    ·refine ab ?_;obtain ⟨g3,h⟩:=ac h;refine dI h ?_ ?_<;>intro h
     ·refine cC h (fun _ k=>bI k) fun g4 h=> ?_
      exact jN
     exact jY
    rintro _ _ ⟨d2,h,rfl,rfl⟩;refine ab ?_;obtain ⟨e5,h⟩:=ac h;refine dU (nw J J e5.1 e5.2) ?_;exact lN
   refine ai (fun s L=> ∃d3,fQ N (bc N a1 b5) a1 a6 d3=some r/\s=[(0,Y A1 n1 c1),(1,iV a1),(2,.func (.func 135) #[] #[]),(6,iV a6)]/\L=[oN A1 n1 c1 d3]) ?_ ?_
   ·refine ab ?_;obtain ⟨g5,h⟩:=ac h;refine dI h ?_ ?_<;>intro h
    ·refine cC h (fun _ k=>bI k) fun g6 h=> ?_
     exact jN
    exact jY
   rintro _ _ ⟨d3,h,rfl,rfl⟩;refine ab ?_;obtain ⟨e6,h⟩:=ac h;refine dU (nw J J e6.1 e6.2) ?_;exact lN
  exact eY
 refine cC h (fun _ k=>dB k) fun g7 h=> ?_
 refine lK (fun m s L=> ∃(b6:V6) (a8:Int),ba N a1 m b6 a8=some r/\s=[(0,Y A1 n1 c1),(1,iV a1),(2,.func (.func 135) #[] #[]),(6,iV a8)]/\L=[oN A1 n1 c1 b6]) N ?_;rintro b7 _ _ ⟨b6,a8,h,rfl,rfl⟩;rw [ba.eq_2] at h;refine sZ ?_;refine gH J h ?_ ?_<;>intro h
 ·refine ab ?_;obtain ⟨e7,h⟩:=ac h;refine dU (nw J J e7.1 e7.2) ?_;refine ai (fun s L=>(qx N (ba N a1 b7) a1 a8 b6=some r/\s=[(0,Y A1 n1 c1),(1,iV a1),(2,.func (.func 135) #[] #[]),(6,iV a8),(7,iV 0)]/\L=[oN A1 n1 c1 b6])\/(∃d4 d6,kL N (ba N a1 b7) a1 a8 d4 d6=some r/\s=[(0,Y A1 n1 c1),(1,iV a1),(2,.func (.func 135) #[] #[]),(6,iV a8),(7,iV d6)]/\L=[oN A1 n1 c1 d4])) ?_ ?_
  ·refine ab ?_;refine lK (fun m s L=> ∃(c8:V6) (c9:Int) (e0:Int),fM N (ba N a1 b7) a1 a8 m c8 c9 e0=some r/\s=[(0,Y A1 n1 c1),(1,iV a1),(2,.func (.func 135) #[] #[]),(6,iV a8),(7,iV c9),(8,iV e0)]/\L=[oN A1 n1 c1 c8]) N ?_;rintro g8 _ _ ⟨c8,c9,e0,h,rfl,rfl⟩;rw [fM.eq_2] at h;refine sZ ?_;refine gH J h ?_ ?_<;>intro h
   ·refine ab ?_;obtain ⟨g9,h⟩:=ac h
    refine cC h (fun _ k=>bI k) fun h0 h=> ?_
    obtain ⟨e8,h⟩:=ac h;refine gE (nw J J e8.1 e8.2) ?_;obtain ⟨h1,h⟩:=ac h;exact lY
   refine ab ?_;exact ⟨_,_,.inr (⟨c8,c9,h,J,J⟩),sA,cS [0] 1⟩
  rintro _ _ (⟨h,rfl,rfl⟩|⟨d4,d6,h,rfl,rfl⟩)
  ·refine ai (fun s L=> ∃e1,fP N (ba N a1 b7) a1 a8 e1=some r/\s=[(0,Y A1 n1 c1),(1,iV a1),(2,.func (.func 135) #[] #[]),(6,iV a8)]/\L=[oN A1 n1 c1 e1]) ?_ ?_
   ·refine ab ?_;obtain ⟨h2,h⟩:=ac h;refine dI h ?_ ?_<;>intro h
    ·refine cC h (fun _ k=>bI k) fun h3 h=> ?_
     exact jN
    exact jY
   rintro _ _ ⟨e1,h,rfl,rfl⟩;refine ab ?_;obtain ⟨e9,h⟩:=ac h;refine dU (nw J J e9.1 e9.2) ?_;exact lN
  refine ai (fun s L=> ∃e2,fO N (ba N a1 b7) a1 a8 e2=some r/\s=[(0,Y A1 n1 c1),(1,iV a1),(2,.func (.func 135) #[] #[]),(6,iV a8)]/\L=[oN A1 n1 c1 e2]) ?_ ?_
  ·refine ab ?_;obtain ⟨h4,h⟩:=ac h;refine dI h ?_ ?_<;>intro h
   ·refine cC h (fun _ k=>bI k) fun h5 h=> ?_
    exact jN
   exact jY
  rintro _ _ ⟨e2,h,rfl,rfl⟩;refine ab ?_;obtain ⟨f1,h⟩:=ac h;refine dU (nw J J f1.1 f1.2) ?_;exact lN
 exact eY
def ln (a0:V6):Option V6:=
 (lO N a0 (a0.length:Int)).bind fun y2=>some y2
theorem qz {N:Nat}{a0 r:V6}(h:ln N a0=some r):Okc Wc 134 [Y A1 n1 c1,.func (.func 135) #[] #[]] ([oN A1 n1 c1 a0]) (fun u post=>u=.tuple #[]/\post=[oN A1 n1 c1 r]):=by
 refine bY Tryz.func134 ?_
 refine cC h (fun _ k=>rD k) fun y2 h=> ?_
 exact eN
def BR (p3:V6):Option V6:=
 (ln N p3).bind fun a6=>some a6
def wG (N:Nat)(a6:V6->Int->Option V6)(a0:V6)(p6:Int)(a8:V6):Option V6:=
 aE (in64 (p6+1)) (a6 a8 (p6+1))
def qb (N:Nat)(a0:V6):Nat->V6->Int->Option V6
 |0,_,_=>none
 |m4+1,p5,p6=>bif decide (p6<(a0.length:Int)) then ((ap a0 p6).bind fun a6=>(cU N a6).bind fun a8=>bif a8 then (aE (ci (p5.length+([a6]:List VI).length)) (wG N (qb N a0 m4) a0 p6 (p5++([a6]:List VI)))) else (wG N (qb N a0 m4) a0 p6 p5)) else (BR N p5)
def DB (a0:V6):Option V6:=
 qb N a0 N [] 0
theorem HW {N:Nat}{a0 r:V6}(h:DB N a0=some r):Okc Wc 87 [Y A1 n1 c1] ([Ur A1 n1 c1 a0]) (fun u post=> ∃A0 n0 c0,u=Y A0 n0 c0/\post=[oN A0 n0 c0 r]):=by
 refine bY Tryz.func87 ?_;refine ai (fun s L=> ∃p3 A3 n3 c3,BR N p3=some r/\s=[(2,Y none 0 0),(3,Y A3 n3 c3)]/\L=[oN A3 n3 c3 p3]) ?_ ?_
 ·refine ab ?_;refine ii (fun m s L=> ∃p5 p6 A5 n5 c5,qb N a0 m p5 p6=some r/\s=[(2,Y none 0 0),(3,Y A5 n5 c5),(6,Y A1 n1 c1),(7,iV (a0.length:Int)),(8,iV p6)]/\L=[oN A5 n5 c5 p5,Ur A1 n1 c1 a0]) N _ _ ⟨[],0,none,0,0,h,J,J⟩ sA ((bq Bq 34 _).trans (cS [0,1] 2)) ?_;rintro (_|m4) _ _ ⟨p5,p6,A5,n5,c5,h,rfl,rfl⟩
  ·exact az h
  rw [qb.eq_2] at h;refine ab ?_;refine au ?_;refine gH J h ?_ ?_<;>intro h
  ·refine ab ?_;refine ai (fun s L=> ∃a8 b0 b5 b6,wG N (qb N a0 m4) a0 p6 a8=some r/\s=[(2,Y none 0 0),(3,Y b0 b5 b6),(6,Y A1 n1 c1),(7,iV (a0.length:Int)),(8,iV p6)]/\L=[oN b0 b5 b6 a8,Ur A1 n1 c1 a0]) ?_ ?_
   ·refine ab ?_;obtain ⟨a6,b7,b9,c8,h⟩:=aM h
    refine du fun d0=> ?_
    obtain ⟨d1,k,h⟩:=aa h;refine C7 (oR (td k)) ?_;refine gH J h ?_ ?_<;>intro h
    ·refine ab ?_;refine gD (aL (R:=Bq) (vss:=[[iV a6.XZ,iV a6.N,.string a6.S]]) (xs:=[a6]) J (JL _ _ _) J J (fun _ _ hr=> .cons J All2.nil)) ?_;rintro _ _ ⟨d2,d3,d4,rfl,rfl⟩;obtain ⟨c9,h⟩:=ac h
     refine r9 (aQ 2 0 J J ak J J Vm SM J J c9) fun d6 e0 e1=> ?_
     exact jN
    exact jY
   rintro _ _ ⟨a8,b0,b5,b6,h,rfl,rfl⟩;refine ab ?_;obtain ⟨e2,h⟩:=ac h;exact lY
  exact jY
 rintro _ _ ⟨p3,A3,n3,c3,h,rfl,rfl⟩;refine ab ?_;obtain ⟨e3,k,h⟩:=aa h;refine C7 (oC (qz k)) ?_;exact eN
def Ab (a0:VS)(a1:VN):Option V6:=
 (bU N a0 a1).bind fun y5=>zy y5 (fun y5_0=>some []) (fun y5_1=>(bZ N a0).bind fun b0=>(lB N a0.Yk y5_1.Yj.Yf).bind fun a6=>(DB N a6).bind fun a8=>some a8)
theorem Fd {N:Nat}{a1:VN}{r:V6}(h:Ab N a0 a1=some r){B1 B2 B3:Nat}:Okc Wc 30 [pV B1 0,(aX a1)] ([pDWorld B1 B2 B3 a0]) (fun u post=> ∃A0 n0 c0,u=Y A0 n0 c0/\post=[oN A0 n0 c0 r]):=by
 refine bY Tryz.func30 ?_;intro B4;refine ab ?_;obtain ⟨y5,a6,h⟩:=aa h;rcases y5 with y5_0|y5_1
 ·replace h:=DQ h;refine gD (oR (aP a6)) ?_;rintro _ _ ⟨_,⟨rfl,rfl⟩,rfl⟩;refine sY ?_;refine cN J ?_;refine ab ?_;obtain rfl:=jn h;exact Ai J J ((bq Bq 34 _).trans (cS [0] 3)) ⟨_,_,_,J,J⟩
 replace h:=DP h;refine gD (oR (aP a6)) ?_;rintro _ _ ⟨_,⟨B7,A8,n8,c8,A9,n9,c9,rfl,rfl⟩,rfl⟩;refine sY ?_;refine cE J ?_;refine ab ?_;refine dY [0,2,3,4,5,6] ?_;obtain ⟨a8,k,h⟩:=aa h;refine zD 1 J (oR (dj k)) ?_;rintro _ _ ⟨_,⟨rfl,rfl⟩,rfl⟩;refine ⟨_,ah _,ah _,?_⟩;obtain ⟨b0,k,h⟩:=aa h
 refine yQ 7 J (oR (qr k)) fun b5 b6 b7=> ?_
 obtain ⟨b9,k,h⟩:=aa h
 refine yQ 8 J (oR (HW k)) fun d0 d1 d2=> ?_
 refine zX [9] ?_;exact eY
def rH (N:Nat)(p5:VZ):Option VZ:=
 some p5
def na (N:Nat)(y6:((List VW))):Nat->VZ->Int->Option VZ
 |0,_,_=>none
 |m8+1,p9,a6=>bif decide (a6<(y6.length:Int)) then ((ap y6 a6).bind fun a8=>aE (ci (p9.length+([a8.Yh]:List Int).length)) (aE (in64 (a6+1)) ((na N y6 m8) (p9++([a8.Yh]:List Int)) (a6+1)))) else (rH N p9)
def nU (a0:VH)(a1:Int):Option VZ:=
 (eR N a0 a1).bind fun y6=>na N y6 N [] 0
theorem xD {N:Nat}{a0:VH}{r:VZ}(h:nU N a0 a1=some r):Okc Wc 50 [pV B1 0,iV a1] ([aB B1 191 [Y A2 n2 c2,.map (some M3)],iD bl (Y A2 n2 c2) a0.Yk,nc d9 sP M3 a0.Yy]) (fun u post=> ∃A0 n0 c0,u=Y A0 n0 c0/\post=[fq A0 n0 c0 r]):=by
 refine bY Tryz.func50 ?_;refine ai (fun s L=> ∃p5 A5 n5 c5,rH N p5=some r/\s=[(4,Y none 0 0),(5,Y A5 n5 c5)]/\L=[fq A5 n5 c5 p5]) ?_ ?_
 ·refine ab ?_;obtain ⟨y6,k,h⟩:=aa h
  refine r9 (oR (lz k)) fun A7 n7 c7=> ?_
  refine ii (fun m s L=> ∃p9 a6 A9 n9 c9,na N y6 m p9 a6=some r/\s=[(4,Y none 0 0),(5,Y A9 n9 c9),(10,Y A7 n7 c7),(11,iV (y6.length:Int)),(12,iV a6)]/\L=[fq A9 n9 c9 p9,bh bl 159 (Y A7 n7 c7) y6]) N _ _ ⟨[],0,none,0,0,h,J,J⟩ sA ((bq (jM .i64) 3 _).trans (cS [0,1] 5)) ?_;rintro (_|m8) _ _ ⟨p9,a6,A9,n9,c9,h,rfl,rfl⟩
  ·exact az h
  rw [na.eq_2] at h;refine ab ?_;refine au ?_;refine gH J h ?_ ?_<;>intro h
  ·refine sY ?_;obtain ⟨a8,b0,b5,b6,h⟩:=aM h
   refine du fun b9=> ?_
   refine gD (aL (R:=(jM .i64)) (vss:=[[iV a8.Yh]]) (xs:=[a8.Yh]) J (nA _) J J (fun _ _ hr=> .cons J All2.nil)) ?_;rintro _ _ ⟨c8,d0,d1,rfl,rfl⟩;obtain ⟨b7,h⟩:=ac h
   refine r9 (aQ 2 0 J J ak J J Vn Iw J J b7) fun d2 d3 d4=> ?_
   obtain ⟨d6,h⟩:=ac h;exact lY
  exact jY
 rintro _ _ ⟨p5,A5,n5,c5,h,rfl,rfl⟩;exact eY
theorem wr {N:Nat}{a0:VH}{r:VZ}(h:nU N a0 a1=some r):Okc Wc 50 [pV B1 0,iV a1] ([pDTable B1 a0]) (fun u post=> ∃A0 n0 c0,u=Y A0 n0 c0/\post=[fq A0 n0 c0 r]):=Nz 0 rfl (fun _=>xD h)
def vV (N:Nat)(a6:List VP):Option (List VP):=
 some a6
def qJ (N:Nat)(a8:V6)(b5:VZ)(y5_1:VO)(a0:VS):Nat->(List VP)->Int->Option (List VP)
 |0,_,_=>none
 |b7+1,b0,a6=>bif decide (a6<(a8.length:Int)) then ((ap a8 a6).bind fun b9=>(ap b5 a6).bind fun c0=>(fj N (⟨y5_1.Yj,a0,y5_1.at_⟩:VO) a6 b9 c0).bind fun b6=>aE ((b0.length+([b6]:List VP).length)<=549755813888) (aE (in64 (a6+1)) ((qJ N a8 b5 y5_1 a0 b7) (b0++([b6]:List VP)) (a6+1)))) else (vV N b0)
def yc (a0:VS)(a1:VN):Option (List VP):=
 (bU N a0 a1).bind fun y5=>zy y5 (fun y5_0=>some []) (fun y5_1=>(bZ N a0).bind fun b0=>(nU N a0.Yk y5_1.Yj.Yf).bind fun a6=>(bZ N a0).bind fun b5=>(lB N a0.Yk y5_1.Yj.Yf).bind fun a8=>qJ N a8 a6 y5_1 a0 N [] 0)
theorem DY {N:Nat}{a1:VN}{r:List VP}(h:yc N a0 a1=some r){B1 B2 B3:Nat}:Okc Wc 15 [pV B1 0,(aX a1)] ([pDWorld B1 B2 B3 a0]) (fun u post=> ∃A0 n0 c0,u=Y A0 n0 c0/\post=[bh wv 48 (Y A0 n0 c0) r]):=by
 refine bY Tryz.func15 ?_;intro B4;refine ab ?_;obtain ⟨y5,f1,h⟩:=aa h;rcases y5 with y5_0|y5_1
 ·replace h:=DQ h;refine gD (oR (aP f1)) ?_;rintro _ _ ⟨_,⟨rfl,rfl⟩,rfl⟩;refine sY ?_;refine cN J ?_;refine ab ?_;obtain rfl:=jn h;exact Ai J J ((bq wv 48 _).trans (cS [0] 3)) ⟨_,_,_,J,J⟩
 replace h:=DP h;refine gD (oR (aP f1)) ?_;rintro _ _ ⟨_,⟨B7,A8,n8,c8,A9,n9,c9,rfl,rfl⟩,rfl⟩;refine sY ?_;refine cE J ?_;refine ab ?_;refine dY [0,2,3,4,5,6] ?_;obtain ⟨g1,k,h⟩:=aa h;refine zD 1 J (oR (dj k)) ?_;rintro _ _ ⟨_,⟨rfl,rfl⟩,rfl⟩;refine ⟨_,ah _,ah _,?_⟩;obtain ⟨e0,k,h⟩:=aa h
 refine yQ 7 J (oR (wr k)) fun b7 b9 d0=> ?_
 refine zX [8] ?_;refine ab ?_;refine ai (fun s L=> ∃e1 e2 e3 e4,vV N e1=some r/\s=[(4,Y none 0 0),(7,Y e2 e3 e4)]/\L=[bh wv 48 (Y e2 e3 e4) e1]) ?_ ?_
 ·refine dY [0,2,3,4,5,6,9] ?_;obtain ⟨g2,k,h⟩:=aa h;refine zD 1 J (oR (dj k)) ?_;rintro _ _ ⟨_,⟨rfl,rfl⟩,rfl⟩;refine ⟨_,ah _,ah _,?_⟩;obtain ⟨d1,k,h⟩:=aa h
  refine yQ 7 J (oR (qr k)) fun d2 d3 d4=> ?_
  refine zD 8 J (vT (sj 0 J ak J Vm)) ?_;rintro _ _ ⟨rfl,rfl⟩;refine bf ?_;refine fg I ?_;refine ab ?_;refine ii (fun m s L=> ∃d6 a8 b0 b5 b6,qJ N d1 e0 y5_1 a0 m d6 a8=some r/\s=[(4,Y none 0 0),(5,pV B7 0),(7,Y b0 b5 b6),(8,Y b7 b9 d0),(34,Y d2 d3 d4),(35,iV (d1.length:Int)),(36,iV a8)]/\L=[bh wv 48 (Y b0 b5 b6) d6,fq b7 b9 d0 e0,oN d2 d3 d4 d1,aC A8 n8 c8 y5_1.Yj.Yb,aC A9 n9 c9 y5_1.Yj.Ya,ae B7 103 [iV y5_1.Yj.XZ,iV y5_1.Yj.Yf,iV y5_1.Yj.Ye,iV y5_1.Yj.Yg,Y A8 n8 c8,Y A9 n9 c9,pV B1 0,iV y5_1.at_.XZ,iV y5_1.at_.N,.string y5_1.at_.S],pDWorld B1 B2 B3 a0]) N _ _ ⟨[],0,none,0,0,h,J,J⟩ sA ((bq wv 48 _).trans (cS [0,2,1,4,5,3,7] 8)) ?_;rintro (_|g3) _ _ ⟨d6,a8,b0,b5,b6,h,rfl,rfl⟩
  ·exact az h
  rw [qJ.eq_2] at h;refine ab ?_;refine au ?_;refine gH J h ?_ ?_<;>intro h
  ·refine sY ?_;obtain ⟨a6,f3,f4,f9,h⟩:=aM h
   refine du fun e5=> ?_
   obtain ⟨e6,e7,e8,e9,h⟩:=aM h;refine gQ (t:=[(4,Y none 0 0),(5,pV B7 0),(7,Y b0 b5 b6),(8,Y b7 b9 d0),(9,iV a8),(10,pV e5 0),(34,Y d2 d3 d4),(35,iV (d1.length:Int)),(36,iV a8)]) ?_ lj (ah _)
   refine ig I 8 [0] [0,1,2,3,7] [41,42,43,44,45,46,47,48] [[],[],[],[],[],[],[4,5],[6]] [aV (Y b0 b5 b6),
aV (pV B7 0),
aV (iV a8),
aV (.agg #[iV a6.XZ,iV a6.N,.string a6.S]),
aV (Y b7 b9 d0),
aV (iV a8),
aV (dh (Y b7 b9 d0) a8.toNat 1 0),
aV (iV e6)] [] (ah _) (ia rfl kU) I rfl rfl ?_ ?_ ?_
   ·refine gZ J ?_ ?_
    ·exact py (ao J) J (ku J (ah _))
    exact kT
   ·refine aH J ?_ ?_
    ·exact wk (kR (u:=iV e6) 2 J ak J e9 ya (fun _ _ _ h=>by rw [show _=_ from h];rfl)) J (ku J (ah _))
    refine qR (dp 2 J ak J J Vn size3.out e7 e8) ?_;refine qE (ao J) ?_;refine qE (ao J) ?_;refine qR (jh (us:=[iV a6.XZ,iV a6.N,.string a6.S]) 0 J J agg34.out J) ?_;refine qE (ao J) ?_;refine qE (ao J) ?_;refine qE (ao J) ?_;exact di
   refine nB (t:=[(41,Y b0 b5 b6),(42,pV B7 0),(43,iV a8),(44,.agg #[iV a6.XZ,iV a6.N,.string a6.S]),(48,iV e6),(4,Y none 0 0),(5,pV B7 0),(7,Y b0 b5 b6),(8,Y b7 b9 d0),(9,iV a8),(10,pV e5 0),(34,Y d2 d3 d4),(35,iV (d1.length:Int)),(36,iV a8)]) (L':=[ae e5 34 [iV a6.XZ,iV a6.N,.string a6.S],bh wv 48 (Y b0 b5 b6) d6,fq b7 b9 d0 e0,oN d2 d3 d4 d1,aC A8 n8 c8 y5_1.Yj.Yb,aC A9 n9 c9 y5_1.Yj.Ya,ae B7 103 [iV y5_1.Yj.XZ,iV y5_1.Yj.Yf,iV y5_1.Yj.Ye,iV y5_1.Yj.Yg,Y A8 n8 c8,Y A9 n9 c9,pV B1 0,iV y5_1.at_.XZ,iV y5_1.at_.N,.string y5_1.at_.S],pDWorld B1 B2 B3 a0]) ?_ lj (ah _);obtain ⟨f2,k,h⟩:=aa h;refine qu 8 J I (oR (rL k)) J J J ?_;rintro _ _ ⟨_,⟨rfl,rfl⟩,rfl⟩;refine qu 9 J I (aL (R:=wv) (vss:=[(km f2)]) (xs:=[f2]) J (Pi _ _ _ _ _ _ _ _ _ _ _ _ _) J J (fun _ _ hr=> .cons J All2.nil)) J J J ?_;rintro _ _ ⟨g4,g5,g6,rfl,rfl⟩;obtain ⟨g0,h⟩:=ac h;refine qu 10 J I (E6 2 0 J J ak J J Tryz.underlying40 Ua J J J g0) J J J ?_;rintro _ _ ⟨g7,g8,g9,rfl,rfl⟩;refine D4 11 J I (mi J) J J J ?_;refine lh I ?_;refine ab ?_;obtain ⟨h0,h⟩:=ac h;exact lY
  exact jY
 rintro _ _ ⟨e1,e2,e3,e4,h,rfl,rfl⟩;exact eY
def ni (a0:VS)(a1:VN):Option VS:=
 (bU N a0 a1).bind fun y5=>zy y5 (fun y5_0=>some a0) (fun y5_1=>(bn N (⟨(⟨y5_1.Yj.XZ,y5_1.Yj.Yf,bO .i64 y5_1.Yj.Ye 1,y5_1.Yj.Yg,y5_1.Yj.Yb,y5_1.Yj.Ya⟩:VJ),a0,y5_1.at_⟩:VO) false).bind fun a6=>some a6.w_)
theorem wW {N:Nat}{a1:VN}{r:VS}(h:ni N a0 a1=some r){B1 B2 B3:Nat}:Okc Wc 31 [pV B1 0,(aX a1)] ([oDWorld B1 B2 B3 a0]) (fun u post=>u=.tuple #[]/\post=[oDWorld B1 B2 B3 r]):=by
 refine bY Tryz.func31 ?_;intro B4;refine ab ?_;obtain ⟨y5,a6,h⟩:=aa h;rcases y5 with y5_0|y5_1
 ·replace h:=DQ h;refine gD (oR (aP a6)) ?_;rintro _ _ ⟨_,⟨rfl,rfl⟩,rfl⟩;refine ab ?_;refine cE J ?_;exact eY
 replace h:=DP h;refine gD (oR (aP a6)) ?_;rintro _ _ ⟨_,⟨B6,A7,n7,c7,A8,n8,c8,rfl,rfl⟩,rfl⟩;refine ab ?_;refine cN J ?_;refine ab ?_;refine dU (Ah J J) ?_
 refine Su h (fun _ k=>fK k) fun a8 b0 b5 b6 b7 b9 c0 h=> ?_
 exact eN
def xW (N:Nat)(a0:VN)(p4:Int):Option VF:=
 some (⟨51,p4,a0,(⟨0,0,⟨#[]⟩⟩:VN),(⟨0,0,⟨#[]⟩⟩:VN)⟩:VF)
def ER (a0:VN)(a1:Int):Option VF:=
 bif decide (a1.tmod 8<0) then (aE (in64 ((a1.tmod 8)+8)) (xW N a0 ((a1.tmod 8)+8))) else (xW N a0 (a1.tmod 8))
theorem IS {N:Nat}{a0:VN}{r:VF}(h:ER N a0 a1=some r):Okc Wc 33 [(aX a0),iV a1] ([]) (fun u post=>u=(qP r)/\post=[]):=by
 refine bY Tryz.func33 ?_;intro B1
 refine du fun B2=> ?_
 refine dU (pf J J (by decide)) ?_;refine ai (fun s L=> ∃p4,xW N a0 p4=some r/\s=[(2,pV B1 0),(4,pV B2 0),(5,iV p4)]/\L=[ae B1 29 (eE a0),ae B2 36 [iV 0,iV 0,iV 0,iV 0,.string (⟨#[]⟩),iV 0,iV 0,.string (⟨#[]⟩),iV 0,iV 0,.string (⟨#[]⟩)]]) ?_ ?_
 ·refine dI h ?_ ?_<;>intro h
  ·refine ab ?_;obtain ⟨q6,h⟩:=ac h;exact jY
  exact jY
 rintro _ _ ⟨p4,h,rfl,rfl⟩;exact eY
def bi (N:Nat)(a0:VF)(a1:Int):Option Bool:=
 some (!decide (aq .i64 a0.Has a1=0))
theorem cr {N:Nat}{a0:VF}{r:Bool}(h:bi N a0 a1=some r):Okc Wc 181 [(qP a0),iV a1] ([]) (fun u post=>u=.bool r/\post=[]):=by
 refine bY Tryz.func181 ?_;intro B1;refine ab ?_;refine dU (cx J J) ?_;exact eN
end Go.Proofs.YthhiddkljcacaaaGreat
namespace Go.Proofs.YthhiddkljcacaaaGreat
variable (N:Nat){a1 a2 a3:Int}{a0:VS}
variable {A1 A2 A3 A4 A5 A6 A7:Option Addr}{B1 B2 B3 B4 B6 M3 M7 c1 c2 c3 c4 c5 c6 c7 n1 n2 n3 n4 n5 n6 n7:Nat}
open Go.RowKit Asn
set_option maxRecDepth 20000
def qf (N:Nat)(a6:Int):Option Int:=
 some a6
def rp (a0:VF)(p7:Int):Option Int:=
 (bi N a0 32).bind fun a6=>bif a6 then (qf N (dK .i64 p7 4)) else (qf N p7)
def rq (a0:VF)(p3:Int):Option Int:=
 (bi N a0 16).bind fun y8=>bif y8 then (rp N a0 (dK .i64 p3 2)) else (rp N a0 p3)
def tj (a0:VF):Option Int:=
 (bi N a0 2).bind fun y4=>bif y4 then (rq N a0 (dK .i64 0 1)) else (rq N a0 0)
theorem Gn {N:Nat}{a0:VF}{r:Int}(h:tj N a0=some r):Okc Wc 183 [(qP a0)] ([]) (fun u post=>u=iV r/\post=[]):=by
 refine bY Tryz.func183 ?_;intro B1;refine ab ?_;refine ai (fun s L=> ∃p3,rq N a0 p3=some r/\s=[(1,pV B1 0),(2,iV 0),(3,iV p3)]/\L=[ae B1 36 (ur a0)]) ?_ ?_
 ·refine cR h (fun _ k=>cr k) fun y4 h=> ?_
  refine gH J h ?_ ?_<;>intro h
  ·refine ab ?_;refine dU (qU J J) ?_;exact jN
  exact jY
 rintro _ _ ⟨p3,h,rfl,rfl⟩;refine ai (fun s L=> ∃p7,rp N a0 p7=some r/\s=[(1,pV B1 0),(2,iV 0),(3,iV p7)]/\L=[ae B1 36 (ur a0)]) ?_ ?_
 ·refine cR h (fun _ k=>cr k) fun y8 h=> ?_
  refine gH J h ?_ ?_<;>intro h
  ·refine ab ?_;refine dU (qU J J) ?_;exact jN
  exact jY
 rintro _ _ ⟨p7,h,rfl,rfl⟩;refine ai (fun s L=> ∃a6,qf N a6=some r/\s=[(2,iV 0),(3,iV a6)]/\L=[]) ?_ ?_
 ·refine cR h (fun _ k=>cr k) fun a8 h=> ?_
  refine gH J h ?_ ?_<;>intro h
  ·refine ab ?_;refine dU (qU J J) ?_;exact jN
  exact jY
 rintro _ _ ⟨a6,h,rfl,rfl⟩;exact eY
def oO (N:Nat)(a1:VI)(a8 a6:Int)(a2:VF)(b0 b5:Int)(b6:ByteArray)(b7 b9:Int)(c0:ByteArray)(c8 c9:Int)(d0:ByteArray):Option VP:=
 some (⟨a1,dK .i64 (bO .i64 a8 a6) (aq .i64 a2.Yh a6),(⟨b0,b5,b6⟩:VN),(⟨b7,b9,c0⟩:VN),(⟨c8,c9,d0⟩:VN)⟩:VP)
def oP (a2:VF)(a1:VI)(a6 a8 b0 b5:Int)(b6:ByteArray)(c8 c9:Int)(d0:ByteArray)(b7 b9:Int)(c0:ByteArray):Option VP:=
 (bi N a2 8).bind fun d1=>bif d1 then (oO N a1 a6 a8 a2 b0 b5 b6 b7 b9 c0 a2.Yr.XZ a2.Yr.N a2.Yr.S) else (oO N a1 a6 a8 a2 b0 b5 b6 b7 b9 c0 c8 c9 d0)
def oQ (a2:VF)(a1:VI)(a6 a8 c8 c9:Int)(p13:ByteArray)(b0 b5:Int)(b6:ByteArray)(b7 b9:Int)(c0:ByteArray):Option VP:=
 (bi N a2 4).bind fun d0=>bif d0 then (oP N a2 a1 a6 a8 b7 b9 c0 b0 b5 b6 a2.Yp.XZ a2.Yp.N a2.Yp.S) else (oP N a2 a1 a6 a8 b7 b9 c0 b0 b5 b6 c8 c9 p13)
def oS (a2:VF)(a1:VI)(p21 c0:Int)(c8:ByteArray)(a6 a8:Int)(p13:ByteArray)(b0 b5:Int)(b6:ByteArray)(b7:Int):Option VP:=
 (tj N a2).bind fun b9=>(bi N a2 1).bind fun c9=>bif c9 then (oQ N a2 a1 b7 b9 a6 a8 p13 b0 b5 b6 a2.Value.XZ a2.Value.N a2.Value.S) else (oQ N a2 a1 b7 b9 a6 a8 p13 b0 b5 b6 p21 c0 c8)
def oT (b6:Bool)(a0:VP)(a2:VF)(a1:VI)(a6 a8:Int)(p13:ByteArray)(b0 b5:Int)(b7:ByteArray)(b9 p21 c0:Int)(c8:ByteArray):Option VP:=
 bif b6 then (oS N a2 a1 p21 c0 c8 a6 a8 p13 b0 b5 b7 (dK .i64 (dK .i64 b9 (aq .i64 a0.Yh 6)) 8)) else (oS N a2 a1 p21 c0 c8 a6 a8 p13 b0 b5 b7 (dK .i64 b9 (aq .i64 a0.Yh 6)))
def oU (a0:VP)(b6:Bool)(a2:VF)(a1:VI)(a6 a8:Int)(p13:ByteArray)(b0 b5:Int)(b7:ByteArray):Option VP:=
 (bif !b6 then (some (!(!decide (aq .i64 a0.Yh 8=0)))) else (some false)).bind fun b9=>bif b9 then (oT N b6 a0 a2 a1 a6 a8 p13 b0 b5 b7 (aq .i64 a0.Yh 1) a0.Value.XZ a0.Value.N a0.Value.S) else (oT N b6 a0 a2 a1 a6 a8 p13 b0 b5 b7 0 0 0 (⟨#[]⟩))
def oD (a0:VP)(a1:VI)(a2:VF):Option VP:=
 (bi N a2 12).bind fun y5=>(bif y5 then (some true) else ((bif !decide (aq .i64 a0.Yh 8=0) then ((bi N a2 3).bind fun y8=>some (!y8)) else (some false)).bind fun b7=>some b7)).bind fun b6=>(bif b6 then (some (!decide (aq .i64 a0.Yh 8=0))) else (some false)).bind fun a6=>bif a6 then (oU N a0 b6 a2 a1 a0.Yp.XZ a0.Yp.N a0.Yp.S a0.Yr.XZ a0.Yr.N a0.Yr.S) else (oU N a0 b6 a2 a1 0 0 (⟨#[]⟩) 0 0 (⟨#[]⟩))
theorem yA {N:Nat}{a0:VP}{a1:VI}{a2:VF}{r:VP}(h:oD N a0 a1 a2=some r):Okc Wc 140 [(pe a0),(nv a1),(qP a2)] ([]) (fun u post=>u=(pe r)/\post=[]):=by
 refine bY Tryz.func140 ?_;intro B1
 refine du fun B2=> ?_
 intro B3
 refine du fun B4=> ?_
 refine dU (cx J J) ?_
 refine cR h (fun _ k=>cr k) fun y5 h=> ?_
 refine AU 7 24 17 h (fun _ g6 h=> ?_) fun b6 h=> ?_
 ·refine ab ?_
  refine qo 4 23 19 h (fun _ g7 h=> ?_) fun b7 h=> ?_
  ·refine cR h (fun _ k=>cr k) fun y8 h=> ?_
   exact gY
  exact gY
 refine du fun B9=> ?_
 refine ai (fun s L=> ∃b5 b9 p13 a6 a8 b0,oU N a0 b6 a2 a1 b5 b9 p13 a6 a8 b0=some r/\s=[(3,pV B1 0),(5,pV B3 0),(6,pV B4 0),(7,.bool (!decide (aq .i64 a0.Yh 8=0))),(8,.bool b6),(9,pV B9 0)]/\L=[ae B1 48 (km a0),ae B3 36 (ur a2),ae B4 48 [iV 0,iV 0,.string (⟨#[]⟩),iV 0,iV 0,iV 0,.string (⟨#[]⟩),iV 0,iV 0,.string (⟨#[]⟩),iV 0,iV 0,.string (⟨#[]⟩)],ae B9 48 [iV a1.XZ,iV a1.N,.string a1.S,iV 0,iV 0,iV 0,.string (⟨#[]⟩),iV b5,iV b9,.string p13,iV a6,iV a8,.string b0]]) ?_ ?_
 ·refine ab ?_;refine gS 2 30 28 h ?_;intro e5 h;refine dI h ?_ ?_<;>intro h
  ·refine bm I ([ae B4 48 [iV 0,iV 0,.string (⟨#[]⟩),iV 0,iV 0,iV 0,.string (⟨#[]⟩),iV 0,iV 0,.string (⟨#[]⟩),iV 0,iV 0,.string (⟨#[]⟩)],ae B3 36 (ur a2),ae B2 34 (BT a1),ae B1 48 (km a0)]) (cS [1,2,3,4] 5) ?_;refine ab ?_;refine zO 5 J (ar (us:=eE a0.Yp) (cs':=[iV a1.XZ,iV a1.N,.string a1.S,iV 0,iV 0,iV 0,.string (⟨#[]⟩),iV a0.Yp.XZ,iV a0.Yp.N,.string a0.Yp.S,iV 0,iV 0,.string (⟨#[]⟩)]) 0 J J J J size29.out J J J) ?_;rintro _ _ rfl;refine bf ?_;refine ab ?_;refine zO 7 J (ar (us:=eE a0.Yr) (cs':=[iV a1.XZ,iV a1.N,.string a1.S,iV 0,iV 0,iV 0,.string (⟨#[]⟩),iV a0.Yp.XZ,iV a0.Yp.N,.string a0.Yp.S,iV a0.Yr.XZ,iV a0.Yr.N,.string a0.Yr.S]) 0 J J J J size29.out J J J) ?_;rintro _ _ rfl;refine bf ?_;exact jY
  exact jY
 rintro _ _ ⟨b5,b9,p13,a6,a8,b0,h,rfl,rfl⟩;refine ai (fun s L=> ∃e1 p21 d2 d3,oT N b6 a0 a2 a1 b5 b9 p13 a6 a8 b0 e1 p21 d2 d3=some r/\s=[(3,pV B1 0),(5,pV B3 0),(6,pV B4 0),(8,.bool b6),(9,pV B9 0)]/\L=[ae B1 48 (km a0),ae B3 36 (ur a2),ae B4 48 [iV 0,iV 0,.string (⟨#[]⟩),iV 0,iV 0,iV 0,.string (⟨#[]⟩),iV 0,iV 0,.string (⟨#[]⟩),iV 0,iV 0,.string (⟨#[]⟩)],ae B9 48 [iV a1.XZ,iV a1.N,.string a1.S,iV e1,iV p21,iV d2,.string d3,iV b5,iV b9,.string p13,iV a6,iV a8,.string b0]]) ?_ ?_
 ·refine ab ?_;refine gS 3 42 39 h ?_;intro e6 h;refine dI h ?_ ?_<;>intro h
  ·refine ab ?_;refine dU (cx J J) ?_;exact jN
  exact jY
 rintro _ _ ⟨e1,p21,d2,d3,h,rfl,rfl⟩;refine ab ?_;refine gE (cx J J) ?_;refine dU (qU J J) ?_;refine ai (fun s L=> ∃c0,oS N a2 a1 p21 d2 d3 b5 b9 p13 a6 a8 b0 c0=some r/\s=[(5,pV B3 0),(6,pV B4 0),(9,pV B9 0)]/\L=[ae B3 36 (ur a2),ae B4 48 [iV 0,iV 0,.string (⟨#[]⟩),iV 0,iV 0,iV 0,.string (⟨#[]⟩),iV 0,iV 0,.string (⟨#[]⟩),iV 0,iV 0,.string (⟨#[]⟩)],ae B9 48 [iV a1.XZ,iV a1.N,.string a1.S,iV c0,iV p21,iV d2,.string d3,iV b5,iV b9,.string p13,iV a6,iV a8,.string b0]]) ?_ ?_
 ·refine dI h ?_ ?_<;>intro h
  ·refine ab ?_;refine dU (qU J J) ?_;exact jN
  exact jY
 rintro _ _ ⟨c0,h,rfl,rfl⟩
 refine cR h (fun _ k=>Gn k) fun c8 h=> ?_
 refine dU (Ah J J) ?_;refine gE (cx J J) ?_;refine dU (qU J J) ?_;refine ai (fun s L=> ∃c9 d0 d1,oQ N a2 a1 c0 c8 b5 b9 p13 a6 a8 b0 c9 d0 d1=some r/\s=[(5,pV B3 0),(6,pV B4 0),(9,pV B9 0)]/\L=[ae B3 36 (ur a2),ae B4 48 [iV 0,iV 0,.string (⟨#[]⟩),iV 0,iV 0,iV 0,.string (⟨#[]⟩),iV 0,iV 0,.string (⟨#[]⟩),iV 0,iV 0,.string (⟨#[]⟩)],ae B9 48 [iV a1.XZ,iV a1.N,.string a1.S,iV (dK .i64 (bO .i64 c0 c8) (aq .i64 a2.Yh c8)),iV c9,iV d0,.string d1,iV b5,iV b9,.string p13,iV a6,iV a8,.string b0]]) ?_ ?_
 ·refine cR h (fun _ k=>cr k) fun e7 h=> ?_
  refine gH J h ?_ ?_<;>intro h
  ·exact jY
  exact jY
 rintro _ _ ⟨c9,d0,d1,h,rfl,rfl⟩;refine ai (fun s L=> ∃d4 d6 e0,oP N a2 a1 c0 c8 c9 d0 d1 a6 a8 b0 d4 d6 e0=some r/\s=[(5,pV B3 0),(6,pV B4 0),(9,pV B9 0)]/\L=[ae B3 36 (ur a2),ae B4 48 [iV 0,iV 0,.string (⟨#[]⟩),iV 0,iV 0,iV 0,.string (⟨#[]⟩),iV 0,iV 0,.string (⟨#[]⟩),iV 0,iV 0,.string (⟨#[]⟩)],ae B9 48 [iV a1.XZ,iV a1.N,.string a1.S,iV (dK .i64 (bO .i64 c0 c8) (aq .i64 a2.Yh c8)),iV c9,iV d0,.string d1,iV d4,iV d6,.string e0,iV a6,iV a8,.string b0]]) ?_ ?_
 ·refine cR h (fun _ k=>cr k) fun e8 h=> ?_
  refine gH J h ?_ ?_<;>intro h
  ·exact jY
  exact jY
 rintro _ _ ⟨d4,d6,e0,h,rfl,rfl⟩;refine ai (fun s L=> ∃e2 e3 e4,oO N a1 c0 c8 a2 c9 d0 d1 d4 d6 e0 e2 e3 e4=some r/\s=[(6,pV B4 0),(9,pV B9 0)]/\L=[ae B4 48 [iV 0,iV 0,.string (⟨#[]⟩),iV 0,iV 0,iV 0,.string (⟨#[]⟩),iV 0,iV 0,.string (⟨#[]⟩),iV 0,iV 0,.string (⟨#[]⟩)],ae B9 48 [iV a1.XZ,iV a1.N,.string a1.S,iV (dK .i64 (bO .i64 c0 c8) (aq .i64 a2.Yh c8)),iV c9,iV d0,.string d1,iV d4,iV d6,.string e0,iV e2,iV e3,.string e4]]) ?_ ?_
 ·refine cR h (fun _ k=>cr k) fun e9 h=> ?_
  refine gH J h ?_ ?_<;>intro h
  ·exact jY
  exact jY
 rintro _ _ ⟨e2,e3,e4,h,rfl,rfl⟩;exact eY
def va (a0:VF)(a1:VI):Option VP:=
 (oD N (⟨(⟨0,0,⟨#[]⟩⟩:VI),0,(⟨0,0,⟨#[]⟩⟩:VN),(⟨0,0,⟨#[]⟩⟩:VN),(⟨0,0,⟨#[]⟩⟩:VN)⟩:VP) a1 a0).bind fun y4=>some y4
theorem Ib {N:Nat}{a0:VF}{a1:VI}{r:VP}(h:va N a0 a1=some r):Okc Wc 138 [(qP a0),(nv a1)] ([]) (fun u post=>u=(pe r)/\post=[]):=by
 refine bY Tryz.func138 ?_;intro B1
 refine du fun B2=> ?_
 intro B3
 refine cR h (fun _ k=>yA k) fun y4 h=> ?_
 exact eN
def qg (N:Nat)(a0 a1:VN):Option Bool:=
 some (decide (a0=a1))
theorem vu {N:Nat}{a0 a1:VN}{r:Bool}(h:qg N a0 a1=some r):Okc Wc 182 [(aX a0),(aX a1)] ([]) (fun u post=>u=.bool r/\post=[]):=by
 refine bY Tryz.func182 ?_;intro B1
 refine du fun B2=> ?_
 refine dU (wg (x:=a0) (y:=a1) J J) ?_;exact eN
def px (a0:VP)(a1:VF):Option Bool:=
 (bi N a1 32).bind fun y3=>(bif y3 then (some (!decide (aq .i64 a1.Yh 4=0))) else (some false)).bind fun b4=>(bif b4 then (some true) else ((bi N a1 16).bind fun y6=>(bif y6 then (some (!decide (aq .i64 (Im .i64 a1.Yh a0.Yh) 2=0))) else (some false)).bind fun b7=>some b7)).bind fun b5=>bif b5 then (some true) else (bif !decide (aq .i64 a0.Yh 8=0) then ((bi N a1 3).bind fun a6=>(bif a6 then (some true) else ((bi N a1 4).bind fun a8=>(bif a8 then ((qg N a1.Yp a0.Yp).bind fun b0=>some (!b0)) else (some false)).bind fun b6=>some b6)).bind fun b9=>(bif b9 then (some true) else ((bi N a1 8).bind fun c0=>(bif c0 then ((qg N a1.Yr a0.Yr).bind fun c8=>some (!c8)) else (some false)).bind fun c9=>some c9)).bind fun d0=>some d0) else ((bi N a1 12).bind fun d1=>bif d1 then (some true) else ((bif decide (aq .i64 a0.Yh 1=0) then ((bi N a1 2).bind fun d2=>(bif d2 then (some (!decide (aq .i64 a1.Yh 1=0))) else (some false)).bind fun d3=>(bif d3 then (some true) else ((bi N a1 1).bind fun d4=>(bif d4 then ((qg N a1.Value a0.Value).bind fun d6=>some (!d6)) else (some false)).bind fun e0=>some e0)).bind fun e1=>some e1) else (some false)).bind fun e2=>some e2)))
theorem Ia {N:Nat}{a0:VP}{a1:VF}{r:Bool}(h:px N a0 a1=some r):Okc Wc 139 [(pe a0),(qP a1)] ([]) (fun u post=>u=.bool r/\post=[]):=by
 refine bY Tryz.func139 ?_;intro B1
 refine du fun B2=> ?_
 refine sZ ?_
 refine cR h (fun _ k=>cr k) fun y3 h=> ?_
 refine qo 5 12 7 h (fun _ g4 h=> ?_) fun b4 h=> ?_
 ·refine ab ?_;refine gT (cx J J) J (el g4 J) J ?_;exact gY
 refine ab ?_
 refine AU 12 25 13 h (fun _ g5 h=> ?_) fun b5 h=> ?_
 ·refine cR h (fun _ k=>cr k) fun y6 h=> ?_
  refine qo 8 24 16 h (fun _ g7 h=> ?_) fun b7 h=> ?_
  ·refine ab ?_;refine gT (KQ J J) J (el g7 J) J ?_;refine gT (cx J J) J (el g7 J) J ?_;exact gY
  exact gY
 refine dI h ?_ ?_<;>intro h
 ·exact eY
 refine sY ?_;refine dU (cx J J) ?_;refine gH J h ?_ ?_<;>intro h
 ·refine cR h (fun _ k=>cr k) fun a8 h=> ?_
  refine AU 11 43 32 h (fun _ b0 h=> ?_) fun b6 h=> ?_
  ·refine cR h (fun _ k=>cr k) fun b9 h=> ?_
   refine qo 7 42 35 h (fun _ c0 h=> ?_) fun c8 h=> ?_
   ·refine cR h (fun _ k=>vu k) fun c9 h=> ?_
    exact gY
   exact gY
  refine ab ?_
  refine AU 11 55 44 h (fun _ d0 h=> ?_) fun d1 h=> ?_
  ·refine cR h (fun _ k=>cr k) fun d2 h=> ?_
   refine qo 7 54 47 h (fun _ d3 h=> ?_) fun d4 h=> ?_
   ·refine cR h (fun _ k=>vu k) fun d6 h=> ?_
    exact gY
   exact gY
  exact eY
 refine sY ?_
 refine cR h (fun _ k=>cr k) fun e0 h=> ?_
 refine gH J h ?_ ?_<;>intro h
 ·exact eY
 refine ab ?_;refine dU (cx J J) ?_
 refine qo 21 83 62 h (fun _ e1 h=> ?_) fun e2 h=> ?_
 ·refine cR h (fun _ k=>cr k) fun e3 h=> ?_
  refine qo 5 70 65 h (fun _ a6 h=> ?_) fun e4 h=> ?_
  ·refine ab ?_;refine gT (cx J J) J (el a6 J) J ?_;exact gY
  refine ab ?_
  refine AU 11 82 71 h (fun _ e5 h=> ?_) fun e6 h=> ?_
  ·refine cR h (fun _ k=>cr k) fun e7 h=> ?_
   refine qo 7 81 74 h (fun _ e8 h=> ?_) fun e9 h=> ?_
   ·refine cR h (fun _ k=>vu k) fun f1 h=> ?_
    exact gY
   exact gY
  exact gY
 exact eY
def lM (a0:VP)(a1 a2:Bool)(a3:VI)(a4:VF):Option (VP×Bool):=
 bif !a1 then (bif !a2 then (some ((⟨(⟨0,0,⟨#[]⟩⟩:VI),0,(⟨0,0,⟨#[]⟩⟩:VN),(⟨0,0,⟨#[]⟩⟩:VN),(⟨0,0,⟨#[]⟩⟩:VN)⟩:VP),false)) else ((va N a4 a3).bind fun y7=>some (y7,true))) else ((bif decide (aq .i64 a0.Yh 4=0) then ((px N a0 a4).bind fun y9=>some y9) else (some false)).bind fun b8=>bif b8 then (some ((⟨(⟨0,0,⟨#[]⟩⟩:VI),0,(⟨0,0,⟨#[]⟩⟩:VN),(⟨0,0,⟨#[]⟩⟩:VN),(⟨0,0,⟨#[]⟩⟩:VN)⟩:VP),false)) else ((oD N a0 a3 a4).bind fun a6=>some (a6,true)))
theorem Gp {N:Nat}{a0:VP}{a1 a2:Bool}{a3:VI}{a4:VF}{r:VP×Bool}(h:lM N a0 a1 a2 a3 a4=some r):Okc Wc 90 [(pe a0),.bool a1,.bool a2,(nv a3),(qP a4)] ([]) (fun u post=>u=.tuple #[(pe r.1),.bool r.2]/\post=[]):=by
 refine bY Tryz.func90 ?_;intro B1
 refine du fun B2=> ?_
 intro B3
 refine du fun B4=> ?_
 refine sZ ?_;refine gH J h ?_ ?_<;>intro h
 ·refine sZ ?_;refine gH J h ?_ ?_<;>intro h
  ·exact eY
  refine cR h (fun _ k=>Ib k) fun y7 h=> ?_
  exact eN
 refine sY ?_;refine dU (cx J J) ?_
 refine qo 4 28 24 h (fun _ g8 h=> ?_) fun b8 h=> ?_
 ·refine cR h (fun _ k=>Ia k) fun y9 h=> ?_
  exact gY
 refine dI h ?_ ?_<;>intro h
 ·exact eY
 refine cR h (fun _ k=>yA k) fun a6 h=> ?_
 exact eN
def jw (a0:VS)(a1:VN)(a2:VI)(a3:VF):Option (Bool×VS):=
 (bU N a0 a1).bind fun y7=>zy y7 (fun y7_0=>some (false,a0)) (fun y7_1=>(cU N a2).bind fun b5=>bif !b5 then (some (false,a0)) else ((cJ N (⟨y7_1.Yj,a0,y7_1.at_⟩:VO) a2).bind fun a6=>(lM N a6.1 a6.2.2 (!decide (aq .i64 y7_1.Yj.Ye 1=0)) a2 a3).bind fun a8=>bif a8.2 then ((fW N (⟨y7_1.Yj,a0,y7_1.at_⟩:VO) a8.1).bind fun b0=>some (b0.1,b0.2.w_)) else (some (false,a0))))
theorem vW {N:Nat}{a1:VN}{a2:VI}{a3:VF}{r:Bool×VS}(h:jw N a0 a1 a2 a3=some r){B1 B2 B3:Nat}:Okc Wc 32 [pV B1 0,(aX a1),(nv a2),(qP a3)] ([oDWorld B1 B2 B3 a0]) (fun u post=>u=.bool r.1/\post=[oDWorld B1 B2 B3 r.2]):=by
 refine bY Tryz.func32 ?_;intro B4
 refine du fun B5=> ?_
 intro B6;refine ab ?_;obtain ⟨y7,b9,h⟩:=aa h;rcases y7 with y7_0|y7_1
 ·replace h:=DQ h;refine gD (oR (aP b9)) ?_;rintro _ _ ⟨_,⟨rfl,rfl⟩,rfl⟩;refine sY ?_;refine cN J ?_;exact eY
 replace h:=DP h;refine gD (oR (aP b9)) ?_;rintro _ _ ⟨_,⟨B8,A9,n9,c9,c0,c8,d0,rfl,rfl⟩,rfl⟩;refine sY ?_
 refine cR h (fun _ k=>td k) fun d2 h=> ?_
 refine gH J h ?_ ?_<;>intro h
 ·exact eY
 refine cR h (fun _ k=>nW k) fun a8 h=> ?_
 intro b6;refine ab ?_;refine au ?_;obtain ⟨a6,b7,h⟩:=aa h;refine gQ (t:=[(6,pV B5 0),(7,pV B6 0),(8,.bool false),(9,pV B8 0),(10,.bool true),(11,pV b6 0),(13,.bool a8.2.2)]) ?_ lj (ah _)
 refine ig I 16 [14] [13,14,15] [36,37,38,39,40,41,42,43,44,45,46,47,35,48,49,14] [[],[],[],[2],[3],[4],[5],[6],[7],[],[],[0,1,8,9,10],[11],[12],[12],[]] [aV ((pe a8.1)),
aV (.bool a8.2.2),
aV (pV B8 0),
aV (pV B8 0),
aV (pV B8 0),
aV (pV B8 2),
aV (iV y7_1.Yj.Ye),
aV (iV (aq .i64 y7_1.Yj.Ye 1)),
aV (.bool (!decide (aq .i64 y7_1.Yj.Ye 1=0))),
aV ((nv a2)),
aV ((qP a3)),
aV (.tuple #[(pe a6.1),.bool a6.2]),
aV (.tuple #[(pe a6.1),.bool a6.2]),
aV ((pe a6.1)),
aV (.bool a6.2),
aX1 (fun (b0:Nat)=>pV b0 0) (fun b0=> [ae b0 48 [iV 0,iV 0,.string (⟨#[]⟩),iV 0,iV 0,iV 0,.string (⟨#[]⟩),iV 0,iV 0,.string (⟨#[]⟩),iV 0,iV 0,.string (⟨#[]⟩)]])] [] (ah _) (ia rfl kU) I rfl rfl ?_ ?_ ?_
 ·refine gZ J ?_ ?_
  ·exact py (uy J J) J (ku J (ah _))
  exact kT
 ·refine aH J ?_ ?_
  ·refine xr (dz zero48.out J) J ?_;rintro _ _ ⟨d1,rfl,rfl⟩;exact Sr d1 (ah _)
  refine qE (uy J J) ?_;refine qE (uy J J) ?_;refine qE (ao J) ?_;refine aH J ?_ ?_
  ·refine xr (oR (Gp b7)) J ?_;rintro _ _ ⟨_,⟨rfl,rfl⟩,rfl⟩;exact ku J (ah _)
  refine qR (jh (us:=ur a3) 4 J J agg36.out J) ?_;refine qR (jh (us:=BT a2) 5 J J agg34.out J) ?_;refine qE (RE J J) ?_;refine qE (cx J J) ?_;refine qR (bM 1 J J ya J) ?_;refine qE (jW J LB) ?_;refine qE (sC J Jt) ?_;refine qE (bF J) ?_;refine qE (ao J) ?_;refine qE (ao J) ?_;refine qR (jh (us:=km a8.1) 0 J J agg48.out J) ?_;exact di
 intro b0;refine nB (t:=[(48,(pe a6.1)),(49,.bool a6.2),(14,pV b0 0),(6,pV B5 0),(7,pV B6 0),(8,.bool false),(9,pV B8 0),(10,.bool true),(11,pV b6 0),(13,.bool a8.2.2)]) (L':=[ae b0 48 [iV 0,iV 0,.string (⟨#[]⟩),iV 0,iV 0,iV 0,.string (⟨#[]⟩),iV 0,iV 0,.string (⟨#[]⟩),iV 0,iV 0,.string (⟨#[]⟩)],ae b6 48 (km a8.1),ae B8 103 [iV y7_1.Yj.XZ,iV y7_1.Yj.Yf,iV y7_1.Yj.Ye,iV y7_1.Yj.Yg,Y A9 n9 c9,Y c0 c8 d0,pV B1 0,iV y7_1.at_.XZ,iV y7_1.at_.N,.string y7_1.at_.S],aC A9 n9 c9 y7_1.Yj.Yb,aC c0 c8 d0 y7_1.Yj.Ya,ae B6 36 (ur a3),ae B5 34 (BT a2),ae B4 29 (eE a1),oDWorld B1 B2 B3 a0]) ?_ lj (ah _);refine r7 16 J I (ar (us:=km a6.1) (cs':=km a6.1) 0 J J J J size48.out J J J) J J ?_;rintro _ _ rfl;refine D4 17 J I (mi J) J J J ?_;refine lh I ?_;refine ab ?_;refine wQ 51 J (fun b5=> ?_) (fun b5=> ?_)
 ·replace h:=qi b5 h;refine ab ?_;obtain ⟨d3,k,h⟩:=aa h;refine LT (oC (sN k)) J (el b5 J) J ?_;rintro _ _ ⟨_,⟨d4,d6,e0,e1,e2,e3,rfl,rfl⟩,rfl⟩;exact eY
 replace h:=qj b5 h;exact eY
def BF (a0:VS)(a1:VN):Option Bool:=
 (bU N a0 a1).bind fun y5=>zy y5 (fun y5_0=>some false) (fun y5_1=>some (!decide (aq .i64 y5_1.Yj.Ye 1=0)))
theorem Gi {N:Nat}{a1:VN}{r:Bool}(h:BF N a0 a1=some r){B1 B2 B3:Nat}:Okc Wc 18 [pV B1 0,(aX a1)] ([pDWorld B1 B2 B3 a0]) (fun u post=>u=.bool r/\post=[]):=by
 refine bY Tryz.func18 ?_;intro B4;refine ab ?_;obtain ⟨y5,a6,h⟩:=aa h;rcases y5 with y5_0|y5_1
 ·replace h:=DQ h;refine gD (oR (aP a6)) ?_;rintro _ _ ⟨_,⟨rfl,rfl⟩,rfl⟩;exact eY
 replace h:=DP h;refine gD (oR (aP a6)) ?_;rintro _ _ ⟨_,⟨B6,A7,n7,c7,A8,n8,c8,rfl,rfl⟩,rfl⟩;refine ab ?_;refine dU (cx J J) ?_;exact eN
def rA:Option Bool:=
 (lZ N).bind fun y1=>(eW N y1 (⟨1,0,⟨#[]⟩⟩:VN) 1).bind fun y5=>(Al N (⟨#[97]⟩:ByteArray)).bind fun y7=>(jP N y5.2.2 y5.1 y7 (⟨3,1,⟨#[]⟩⟩:VN) 7).bind fun y8=>(jP N y8.2 y5.1 (⟨0,5,⟨#[]⟩⟩:VI) (⟨0,0,⟨#[]⟩⟩:VN) 7).bind fun y9=>(Ab N y9.2 y5.1).bind fun a6=>(yc N y9.2 y5.1).bind fun a8=>(ni N y9.2 y5.1).bind fun b5=>(Al N (⟨#[98]⟩:ByteArray)).bind fun b6=>(ER N (⟨0,0,⟨#[]⟩⟩:VN) 7).bind fun b7=>(jw N b5 y5.1 b6 b7).bind fun b0=>(bif y5.2.1 then (some y8.1) else (some false)).bind fun b9=>(bif b9 then (some y9.1) else (some false)).bind fun c0=>(bif c0 then (some (!b0.1)) else (some false)).bind fun c8=>(bif c8 then (some (decide ((a6.length:Int)=2))) else (some false)).bind fun c9=>(bif c9 then ((ap a6 0).bind fun d0=>some (decide (d0.N=5))) else (some false)).bind fun d1=>(bif d1 then ((ap a6 1).bind fun d2=>some (d2.S.toList==(⟨#[97]⟩:ByteArray).toList)) else (some false)).bind fun d3=>(bif d3 then (some (decide ((a8.length:Int)=2))) else (some false)).bind fun d4=>(bif d4 then ((ap a8 0).bind fun d6=>some (d6.Yl.S.toList==(⟨#[97]⟩:ByteArray).toList)) else (some false)).bind fun e0=>(bif e0 then ((ap a8 0).bind fun e1=>some (decide (e1.Value.N=1))) else (some false)).bind fun e2=>(bif e2 then ((BF N b0.2 y5.1).bind fun e3=>some (!e3)) else (some false)).bind fun e4=>some e4
theorem AZ {N:Nat}{r:Bool}(h:rA N=some r):Okc Wc 8 [] ([]) (fun u post=>u=.bool r/\post=[]):=by
 refine bY Tryz.func8 ?_;obtain ⟨y1,k,h⟩:=aa h;refine gD (oC (xx k)) ?_;rintro _ _ ⟨_,⟨B2,B3,B4,rfl,rfl⟩,rfl⟩;refine sY ?_;refine dU (dZ J Vt) ?_;refine cE J ?_;refine ab ?_;obtain ⟨y5,k,h⟩:=aa h;refine C7 (oC (vm k)) ?_;intro B6;refine ab ?_;refine dY [0,1] ?_;refine zE 3 J (ny J (bld_29_0_1 _ _).out) ?_;obtain ⟨y7,k,h⟩:=aa h;refine zD 2 J (oR (Dm k)) ?_;rintro _ _ ⟨_,⟨rfl,rfl⟩,rfl⟩;refine ⟨_,ah _,ah _,?_⟩;obtain ⟨y8,k,h⟩:=aa h;refine Rn 4 J I I (oC (vl k)) ?_;rintro _ _ ⟨_,⟨rfl,rfl⟩,rfl⟩;refine zX [5] ?_;refine ab ?_;obtain ⟨y9,k,h⟩:=aa h;refine C7 (oC (vl k)) ?_;refine dY [0,1,3,4] ?_;obtain ⟨d3,k,h⟩:=aa h
 refine yQ 2 J (oR (Fd k)) fun d4 d6 e0=> ?_
 obtain ⟨e1,k,h⟩:=aa h
 refine yQ 5 J (oR (DY k)) fun e2 e3 e4=> ?_
 refine zX [6,7] ?_;refine ab ?_;obtain ⟨e9,k,h⟩:=aa h;refine C7 (oC (wW k)) ?_;refine au ?_;refine bm I ([bh wv 48 (Y e2 e3 e4) e1,oN d4 d6 e0 d3,ae B6 29 [iV y5.1.XZ,iV y5.1.N,.string y5.1.S]]) (cS [1,2,3] 4) ?_;refine zY [0,1] ?_;refine zE 3 J (ny J bld_29_.out) ?_;obtain ⟨f1,k,h⟩:=aa h;refine zD 2 J (oR (Dm k)) ?_;rintro _ _ ⟨_,⟨rfl,rfl⟩,rfl⟩;refine bf ?_;obtain ⟨f2,k,h⟩:=aa h;refine zD 4 J (oR (IS k)) ?_;rintro _ _ ⟨_,⟨rfl,rfl⟩,rfl⟩;refine bf ?_;obtain ⟨f3,k,h⟩:=aa h;refine zD 5 J (oC (vW k)) ?_;rintro _ _ ⟨_,⟨rfl,rfl⟩,rfl⟩;refine bf ?_;refine zX [6] ?_;refine ab ?_;refine gS 2 46 44 h ?_;intro f4 h;refine ab ?_;refine gS 2 49 47 h ?_;intro f9 h;refine ab ?_;refine gS 3 53 50 h ?_;intro g0 h;refine ab ?_;refine gS 4 58 54 h ?_;intro g1 h;refine ab ?_
 refine Lv 6 65 59 h (fun _ d1 h=> ?_) (fun _ d1 h=> ?_) fun g2 h=> ?_
 ·refine ab ?_;obtain ⟨g3,b7,b9,e5,h⟩:=aM h;refine ab ?_;refine sG (ox 2 J ak J (toNat_lt b7 b9) LD) J (el d1 J) J ?_;exact gY
 ·exact gY
 refine ab ?_
 refine Lv 6 72 66 h (fun _ c0 h=> ?_) (fun _ c0 h=> ?_) fun g4 h=> ?_
 ·refine ab ?_;obtain ⟨g5,c8,c9,e6,h⟩:=aM h;refine ab ?_;refine sG (ox 2 J ak J (toNat_lt c8 c9) H8) J (el c0 J) J ?_;refine ab ?_;refine gT (rS J J) J (el c0 J) J ?_;exact gY
 ·exact gY
 refine ab ?_;refine gS 4 77 73 h ?_;intro g6 h;refine ab ?_
 refine Lv 7 85 78 h (fun _ b6 h=> ?_) (fun _ b6 h=> ?_) fun g7 h=> ?_
 ·refine ab ?_;obtain ⟨g8,a6,a8,e7,h⟩:=aM h;refine ab ?_;refine sG (vh 1 J ak J (toNat_lt a6 a8) LA) J (el b6 J) J ?_;refine sG (ox 1 J ak J (toNat_lt a6 a8) H8) J (el b6 J) J ?_;refine ab ?_;refine gT (rS J J) J (el b6 J) J ?_;exact gY
 ·exact gY
 refine ab ?_
 refine Lv 7 93 86 h (fun _ d0 h=> ?_) (fun _ d0 h=> ?_) fun g9 h=> ?_
 ·refine ab ?_;obtain ⟨h0,b0,b5,e8,h⟩:=aM h;refine ab ?_;refine sG (ox 1 J ak J (toNat_lt b0 b5) Lz) J (el d0 J) J ?_;refine sG (ox 1 J ak J (toNat_lt b0 b5) Ce) J (el d0 J) J ?_;exact gY
 ·exact gY
 refine ab ?_
 refine Lv 5 99 94 h (fun _ d2 h=> ?_) (fun _ d2 h=> ?_) fun h1 h=> ?_
 ·refine ab ?_;obtain ⟨h2,k,h⟩:=aa h;refine gU (oR (Gi k)) (el d2 J) ?_;exact gY
 ·exact gY
 exact eY
def jV (a0:VU):Option VY:=
 (aG N a0).bind fun y8=>bif y8 then (some []) else ((cu N a0.Ym).bind fun a6=>some a6)
theorem AG {N:Nat}{a0:VU}{r:VY}(h:jV N a0=some r):Okc Wc 34 [pV B1 0] ([aB B1 128 [Y A2 n2 c2,Y A3 n3 c3,Y A4 n4 c4,Y A5 n5 c5,pV B6 0],bB A2 n2 c2 a0.m_.Yd,bB A3 n3 c3 a0.m_.Yc,aZ A4 n4 c4 a0.Ym,aZ A5 n5 c5 a0.Yt,aB B6 186 [.map (some M7)],nc cj fv M7 a0.Ys.at_]) (fun u post=> ∃A0 n0 c0,u=Y A0 n0 c0/\post=[aC A0 n0 c0 r]):=by
 refine bY Tryz.func34 ?_;refine sZ ?_
 refine cR h (fun _ k=>bW k) fun y8 h=> ?_
 refine gH J h ?_ ?_<;>intro h
 ·refine ab ?_;obtain rfl:=jn h;exact Ai J J ((bq av 29 _).trans (cS [0] 8)) ⟨_,_,_,J,J⟩
 refine LL h (fun _ k=>fw k) fun a6 a8 b0 b5 h=> ?_
 exact eN
theorem yr {N:Nat}{a0:VU}{r:VY}(h:jV N a0=some r):Okc Wc 34 [pV B1 0] ([pDHeap B1 a0]) (fun u post=> ∃A0 n0 c0,u=Y A0 n0 c0/\post=[aC A0 n0 c0 r]):=Nz 0 rfl (fun _=>AG h)
def cH (a0:VS):Option Int:=
 (jV N a0.Yi).bind fun y7=>some (y7.length:Int)
theorem nV {N:Nat}{r:Int}(h:cH N a0=some r):Okc Wc 9 [pV B1 0] ([aB B1 85 (tD a0 B2 B3 A4 n4 c4 A5 n5 c5 A6 n6 c6),pDHeap B2 a0.Yi,pDTable B3 a0.Yk,iD sX (Y A4 n4 c4) a0.Yv,iD nH (Y A5 n5 c5) a0.Yw,iD sX (Y A6 n6 c6) a0.Yx]) (fun u post=>u=iV r/\post=[]):=by
 refine bY Tryz.func9 ?_;refine sZ ?_;refine dU (dZ J Vt) ?_;refine cE J ?_
 refine LL h (fun _ k=>yr k) fun y7 A8 n8 c8 h=> ?_
 exact eN
theorem xm {N:Nat}{r:Int}(h:cH N a0=some r){B1 B2 B3:Nat}:Okc Wc 9 [pV B1 0] ([pDWorld B1 B2 B3 a0]) (fun u post=>u=iV r/\post=[]):=Nz 0 rfl (fun _=>nV h)
def i6 (a0:VS)(a1:VN):Option (Int×VS):=
 (eA N a0.Yi a1).bind fun y8=>some (y8.1,(⟨a0.Yu,a0.Yn,(),y8.2,a0.Yk,a0.Yv,a0.Yo,a0.YB,a0.YC,a0.Yw,a0.Yx⟩:VS))
theorem zH {N:Nat}{a1:VN}{r:Int×VS}(h:i6 N a0 a1=some r):Okc Wc 11 [pV B1 0,(aX a1)] ([ae B1 85 (tD a0 B2 B3 A4 n4 c4 A5 n5 c5 A6 n6 c6),oDHeap B2 a0.Yi,oDTable B3 a0.Yk,iB A4 n4 c4 a0.Yv,sO A5 n5 c5 a0.Yw,iB A6 n6 c6 a0.Yx]) (fun u post=> ∃A0 n0 c0 A1 n1 c1 A2 n2 c2,u=iV r.1/\post=[ae B1 85 (tD r.2 B2 B3 A0 n0 c0 A1 n1 c1 A2 n2 c2),oDHeap B2 r.2.Yi,oDTable B3 r.2.Yk,iB A0 n0 c0 r.2.Yv,sO A1 n1 c1 r.2.Yw,iB A2 n2 c2 r.2.Yx]):=by
 refine bY Tryz.func11 ?_;intro B7;refine sY ?_;refine dU (dZ J Vt) ?_;refine cE J ?_;refine ab ?_;refine au ?_;refine bm I ([ae B7 29 (eE a1),ae B1 85 (tD a0 B2 B3 A4 n4 c4 A5 n5 c5 A6 n6 c6),oDTable B3 a0.Yk,iB A4 n4 c4 a0.Yv,sO A5 n5 c5 a0.Yw,iB A6 n6 c6 a0.Yx]) (cS [0,1,3,4,5,6] 7) ?_;refine ab ?_;obtain ⟨y8,k,h⟩:=aa h;refine zD 5 J (oC (cq k)) ?_;rintro _ _ ⟨_,⟨rfl,rfl⟩,rfl⟩;refine bf ?_;exact eY
theorem xl {N:Nat}{a1:VN}{r:Int×VS}(h:i6 N a0 a1=some r){B1 B2 B3:Nat}:Okc Wc 11 [pV B1 0,(aX a1)] ([oDWorld B1 B2 B3 a0]) (fun u post=>u=iV r.1/\post=[oDWorld B1 B2 B3 r.2]):=IY 0 rfl (fun _=>zH h)
def aD (a0:VS)(a1:Int):Option VN:=
 (bK N a0.Yi a1).bind fun y8=>some y8
theorem Bl {N:Nat}{r:VN}(h:aD N a0 a1=some r):Okc Wc 16 [pV B1 0,iV a1] ([aB B1 85 (tD a0 B2 B3 A4 n4 c4 A5 n5 c5 A6 n6 c6),pDHeap B2 a0.Yi,pDTable B3 a0.Yk,iD sX (Y A4 n4 c4) a0.Yv,iD nH (Y A5 n5 c5) a0.Yw,iD sX (Y A6 n6 c6) a0.Yx]) (fun u post=>u=(aX r)/\post=[]):=by
 refine bY Tryz.func16 ?_;intro B7;refine sY ?_;refine dU (dZ J Vt) ?_;refine cE J ?_
 refine cR h (fun _ k=>ft k) fun y8 h=> ?_
 exact eN
theorem bT {N:Nat}{r:VN}(h:aD N a0 a1=some r){B1 B2 B3:Nat}:Okc Wc 16 [pV B1 0,iV a1] ([pDWorld B1 B2 B3 a0]) (fun u post=>u=(aX r)/\post=[]):=Nz 0 rfl (fun _=>Bl h)
def dF (N:Nat)(a0:VS):Option Int:=
 some a0.Yo
theorem xO {N:Nat}{r:Int}(h:dF N a0=some r):Okc Wc 19 [pV B1 0] ([aB B1 85 (tD a0 B2 B3 A4 n4 c4 A5 n5 c5 A6 n6 c6),pDHeap B2 a0.Yi,pDTable B3 a0.Yk,iD sX (Y A4 n4 c4) a0.Yv,iD nH (Y A5 n5 c5) a0.Yw,iD sX (Y A6 n6 c6) a0.Yx]) (fun u post=>u=iV r/\post=[]):=by
 refine bY Tryz.func19 ?_;refine sZ ?_;refine dU (dZ J Vt) ?_;refine cE J ?_;exact eY
theorem lD {N:Nat}{r:Int}(h:dF N a0=some r){B1 B2 B3:Nat}:Okc Wc 19 [pV B1 0] ([pDWorld B1 B2 B3 a0]) (fun u post=>u=iV r/\post=[]):=Nz 0 rfl (fun _=>xO h)
def ja (a0:VS)(a1:VN):Option VN:=
 (bU N a0 a1).bind fun y6=>zy y6 (fun y6_0=>some (⟨0,0,⟨#[]⟩⟩:VN)) (fun y6_1=>(ap y6_1.Yj.Yb 0).bind fun a6=>some a6)
theorem sk {N:Nat}{a1 r:VN}(h:ja N a0 a1=some r){B1 B2 B3:Nat}:Okc Wc 20 [pV B1 0,(aX a1)] ([pDWorld B1 B2 B3 a0]) (fun u post=>u=(aX r)/\post=[]):=by
 refine bY Tryz.func20 ?_;intro B4
 refine du fun B5=> ?_
 obtain ⟨y6,a6,h⟩:=aa h;rcases y6 with y6_0|y6_1
 ·replace h:=DQ h;refine gD (oR (aP a6)) ?_;rintro _ _ ⟨_,⟨rfl,rfl⟩,rfl⟩;refine sY ?_;refine cN J ?_;exact eY
 replace h:=DP h;refine gD (oR (aP a6)) ?_;rintro _ _ ⟨_,⟨B7,A8,n8,c8,A9,n9,c9,rfl,rfl⟩,rfl⟩;refine sY ?_;refine cE J ?_;refine ab ?_;obtain ⟨b6,a8,b0,b5,h⟩:=aM h;exact eY
def tJ (a0:VS)(a1:Int)(a2:VN):Option VN:=
 bif decide (a2.XZ=7) then (aE (in64 (a1+a2.N)) ((aD N a0 (a1+a2.N)).bind fun y8=>some y8)) else (some a2)
theorem yT {N:Nat}{a2 r:VN}(h:tJ N a0 a1 a2=some r){B1 B2 B3:Nat}:Okc Wc 40 [pV B1 0,iV a1,(aX a2)] ([pDWorld B1 B2 B3 a0]) (fun u post=>u=(aX r)/\post=[]):=by
 refine bY Tryz.func40 ?_;intro B4
 refine du fun B5=> ?_
 refine sZ ?_;refine gH J h ?_ ?_<;>intro h
 ·refine ab ?_;obtain ⟨q7,h⟩:=ac h
  refine cR h (fun _ k=>bT k) fun y8 h=> ?_
  exact eN
 exact eY
def dW (a0:VH)(a1:Int)(a2:VI):Option (Int×Int×VH):=
 (fh N a0 a1 a2 0).bind fun y5=>bif !decide (y5=0) then (some (0,y5,a0)) else ((dm N a0 a1 a2).bind fun y7=>bif !y7.2.2 then (some (0,3,a0)) else ((gm N a0 a1 y7.1).bind fun y9=>(eR N a0 a1).bind fun a6=>aE (in64 (y7.1+1)) (aE ((0:Int)<=y7.1+1/\(y7.1+1).toNat<=a6.length/\a6.length<=a6.length) ((jG N a0 y9 ((a6.drop ((y7.1+1).toNat)).take (a6.length - (y7.1+1).toNat))).bind fun a8=>some (a8.1,a8.2.1,a8.2.2)))))
theorem wq {N:Nat}{a0:VH}{a2:VI}{r:Int×Int×VH}(h:dW N a0 a1 a2=some r):Okc Wc 94 [pV B1 0,iV a1,(nv a2)] ([ae B1 191 [Y A2 n2 c2,.map (some M3)],bh bl 159 (Y A2 n2 c2) a0.Yk,ax d9 sP M3 a0.Yy]) (fun u post=> ∃A0 n0 c0 M1,u=.tuple #[iV r.1,iV r.2.1]/\post=[ae B1 191 [Y A0 n0 c0,.map (some M1)],bh bl 159 (Y A0 n0 c0) r.2.2.Yk,ax d9 sP M1 r.2.2.Yy]):=by
 refine bY Tryz.func94 ?_;intro B4;refine sY ?_
 refine cR h (fun _ k=>mZ k) fun y5 h=> ?_
 refine gH J h ?_ ?_<;>intro h
 ·exact eY
 refine cR h (fun _ k=>kB k) fun y7 h=> ?_
 refine sZ ?_;refine gH J h ?_ ?_<;>intro h
 ·exact eY
 refine cR h (fun _ k=>qp k) fun y9 h=> ?_
 refine LL h (fun _ k=>lz k) fun a8 b5 b6 b7 h=> ?_
 obtain ⟨b9,h⟩:=ac h;refine ab ?_;refine r8 (bL 0 J) ?_;obtain ⟨a6,h⟩:=ac h;refine RM 0 J (l:=(y7.1+1).toNat) (h:=a8.length) a6.2.1 a6.2.2 ?_;rintro c8 c9 d0 b0;refine gR (zd 1 J b0 J Vp size159.out J (by rw [Wt a6.1];rfl) a6.2.1) ?_;obtain ⟨d1,k,h⟩:=aa h;refine gD (oC (oX k)) ?_;rintro _ _ ⟨_,⟨d2,d3,d4,d6,rfl,rfl⟩,rfl⟩;exact eY
theorem vg {N:Nat}{a0:VH}{a2:VI}{r:Int×Int×VH}(h:dW N a0 a1 a2=some r):Okc Wc 94 [pV B1 0,iV a1,(nv a2)] ([oDTable B1 a0]) (fun u post=>u=.tuple #[iV r.1,iV r.2.1]/\post=[oDTable B1 r.2.2]):=IY 0 rfl (fun _=>wq h)
def oJ (a0:VS)(a1:VN)(a2:VI):Option (Bool×VS):=
 (bU N a0 a1).bind fun y6=>zy y6 (fun y6_0=>some (false,a0)) (fun y6_1=>(cJ N (⟨y6_1.Yj,a0,y6_1.at_⟩:VO) a2).bind fun a6=>bif !a6.2.2 then (some (true,a0)) else (bif decide (aq .i64 a6.1.Yh 4=0) then (some (false,a0)) else ((bZ N a0).bind fun b6=>(dW N a0.Yk y6_1.Yj.Yf a2).bind fun a8=>bif !decide (a8.2.1=0) then (some (false,(⟨a0.Yu,a0.Yn,(),a0.Yi,a8.2.2,a0.Yv,a0.Yo,a0.YB,a0.YC,a0.Yw,a0.Yx⟩:VS))) else (aE (in64 (a6.2.1+1)) (aE (in64 (a6.2.1+2)) ((oF N y6_1.Yj.Yb (a6.2.1+1) (a6.2.1+2)).bind fun b0=>(bn N (⟨(⟨y6_1.Yj.XZ,a8.1,y6_1.Yj.Ye,y6_1.Yj.Yg,b0,y6_1.Yj.Ya⟩:VJ),(⟨a0.Yu,a0.Yn,(),a0.Yi,a8.2.2,a0.Yv,a0.Yo,a0.YB,a0.YC,a0.Yw,a0.Yx⟩:VS),y6_1.at_⟩:VO) true).bind fun b5=>some (true,b5.w_)))))))
theorem CU {N:Nat}{a1:VN}{a2:VI}{r:Bool×VS}(h:oJ N a0 a1 a2=some r){B1 B2 B3:Nat}:Okc Wc 41 [pV B1 0,(aX a1),(nv a2)] ([oDWorld B1 B2 B3 a0]) (fun u post=>u=.bool r.1/\post=[oDWorld B1 B2 B3 r.2]):=by
 refine bY Tryz.func41 ?_;intro B4
 refine du fun B5=> ?_
 obtain ⟨y6,a6,h⟩:=aa h;rcases y6 with y6_0|y6_1
 ·replace h:=DQ h;refine gD (oR (aP a6)) ?_;rintro _ _ ⟨_,⟨rfl,rfl⟩,rfl⟩;refine sY ?_;refine cN J ?_;exact eY
 replace h:=DP h;refine gD (oR (aP a6)) ?_;rintro _ _ ⟨_,⟨B7,A8,n8,c8,A9,n9,c9,rfl,rfl⟩,rfl⟩;refine sY ?_;refine cE J ?_
 refine cR h (fun _ k=>nW k) fun a8 h=> ?_
 intro b0;refine sY ?_;refine gH J h ?_ ?_<;>intro h
 ·exact eY
 refine sY ?_;refine dU (cx J J) ?_;refine gH J h ?_ ?_<;>intro h
 ·exact eY
 refine ab ?_;refine au ?_;refine bm I ([ae b0 48 (km a8.1),ae B7 103 [iV y6_1.Yj.XZ,iV y6_1.Yj.Yf,iV y6_1.Yj.Ye,iV y6_1.Yj.Yg,Y A8 n8 c8,Y A9 n9 c9,pV B1 0,iV y6_1.at_.XZ,iV y6_1.at_.N,.string y6_1.at_.S],aC A8 n8 c8 y6_1.Yj.Yb,aC A9 n9 c9 y6_1.Yj.Ya,ae B5 34 (BT a2),ae B4 29 (eE a1)]) (cS [0,1,2,3,4,5] 7) ?_;refine zY [0,2,3,4,5,6,7] ?_;obtain ⟨b5,k,h⟩:=aa h;refine zD 1 J (oR (dj k)) ?_;rintro _ _ ⟨_,⟨rfl,rfl⟩,rfl⟩;refine bf ?_;refine lg ((cS [6,0,1,2,3,4,5] 7).trans Ay) (cS [2,3,4,5,6,7] 8) ?_;obtain ⟨b6,k,h⟩:=aa h;refine zD 8 J (oC (vg k)) ?_;rintro _ _ ⟨_,⟨rfl,rfl⟩,rfl⟩;refine bf ?_;refine lg (AQ) (cS [1,2,3,4,5,6] 7) ?_;refine zX [9,10,11,12,13] ?_;refine sY ?_;refine gH J h ?_ ?_<;>intro h
 ·exact eY
 refine ab ?_;obtain ⟨b7,h⟩:=ac h;refine ab ?_;obtain ⟨b9,h⟩:=ac h;refine ab ?_;obtain ⟨c0,k,h⟩:=aa h
 refine r9 (oC (CH (R:=av) k)) fun d0 d1 d2=> ?_
 refine Su h (fun _ k=>fK k) fun d3 d4 d6 e0 e1 e2 e3 h=> ?_
 exact eN
def qX (a0:VS)(a1 a2:Int):Option VN:=
 bif decide (a2<0) then (some (⟨1,0,⟨#[]⟩⟩:VN)) else (aE (in64 (a1+a2)) ((aD N a0 (a1+a2)).bind fun y7=>some y7))
theorem Eu {N:Nat}{r:VN}(h:qX N a0 a1 a2=some r){B1 B2 B3:Nat}:Okc Wc 43 [pV B1 0,iV a1,iV a2] ([pDWorld B1 B2 B3 a0]) (fun u post=>u=(aX r)/\post=[]):=by
 refine bY Tryz.func43 ?_;intro B4;refine sY ?_;refine gH J h ?_ ?_<;>intro h
 ·exact eY
 refine ab ?_;obtain ⟨q6,h⟩:=ac h
 refine cR h (fun _ k=>bT k) fun y7 h=> ?_
 exact eN
def kE (a0:VS)(a2:VN)(y6_1:VO):Option (Bool×VS):=
 (ap y6_1.Yj.Yb 0).bind fun b0=>(bn N (⟨(⟨y6_1.Yj.XZ,y6_1.Yj.Yf,y6_1.Yj.Ye,y6_1.Yj.Yg,List.set y6_1.Yj.Yb ((0:Int).toNat) (⟨a2.XZ,a2.N,a2.S⟩:VN),y6_1.Yj.Ya⟩:VJ),a0,y6_1.at_⟩:VO) true).bind fun a6=>(gb N a6.w_ a2).bind fun a8=>some (true,a8)
def kD (N:Nat)(a0:VS)(a1 a2:VN)(y6_1:VO):Nat->Int->Int->ByteArray->Option (Bool×VS)
 |0,_,_,_=>none
 |b6+1,a6,b0,b5=>bif decide (a6=7) then (bif decide ((⟨a6,b0,b5⟩:VN)=a1) then (some (false,a0)) else ((ja N a0 (⟨a6,b0,b5⟩:VN)).bind fun a8=>(kD N a0 a1 a2 y6_1 b6) a8.XZ a8.N a8.S)) else (kE N a0 a2 y6_1)
def mF (a0:VS)(a1 a2:VN):Option (Bool×VS):=
 (bU N a0 a1).bind fun y6=>zy y6 (fun y6_0=>some (false,a0)) (fun y6_1=>(nJ N a0 a2).bind fun a6=>bif !a6 then (some (false,a0)) else ((ap y6_1.Yj.Yb 0).bind fun a8=>bif decide (a8=a2) then (some (true,a0)) else (bif decide (aq .i64 y6_1.Yj.Ye 1=0) then (some (false,a0)) else (kD N a0 a1 a2 y6_1 N a2.XZ a2.N a2.S))))
theorem AA {N:Nat}{a1 a2:VN}{r:Bool×VS}(h:mF N a0 a1 a2=some r){B1 B2 B3:Nat}:Okc Wc 42 [pV B1 0,(aX a1),(aX a2)] ([oDWorld B1 B2 B3 a0]) (fun u post=>u=.bool r.1/\post=[oDWorld B1 B2 B3 r.2]):=by
 refine bY Tryz.func42 ?_;intro B4
 refine du fun B5=> ?_
 obtain ⟨y6,c0,h⟩:=aa h;rcases y6 with y6_0|y6_1
 ·replace h:=DQ h;refine gD (oR (aP c0)) ?_;rintro _ _ ⟨_,⟨rfl,rfl⟩,rfl⟩;refine sY ?_;refine cN J ?_;exact eY
 replace h:=DP h;refine gD (oR (aP c0)) ?_;rintro _ _ ⟨_,⟨B7,A8,n8,c8,A9,n9,c9,rfl,rfl⟩,rfl⟩;refine sY ?_
 refine cR h (fun _ k=>Aa k) fun d4 h=> ?_
 refine gH J h ?_ ?_<;>intro h
 ·exact eY
 refine ab ?_;refine au ?_;refine dY [] ?_;refine ab ?_;obtain ⟨d0,d1,d2,d3,h⟩:=aM h;refine ab ?_;refine zE 8 J (wg (x:=d0) (y:=a2) J J) ?_;refine dI h ?_ ?_<;>intro h
 ·exact eY
 refine sY ?_;refine dU (cx J J) ?_;refine gH J h ?_ ?_<;>intro h
 ·exact eY
 refine ab ?_;refine ai (fun s L=>kE N a0 a2 y6_1=some r/\s=[(0,pV B1 0),(5,pV B5 0),(6,.bool false),(7,pV B7 0)]/\L=[oDWorld B1 B2 B3 a0,ae B5 29 (eE a2),aC A8 n8 c8 y6_1.Yj.Yb,aC A9 n9 c9 y6_1.Yj.Ya,ae B7 103 [iV y6_1.Yj.XZ,iV y6_1.Yj.Yf,iV y6_1.Yj.Ye,iV y6_1.Yj.Yg,Y A8 n8 c8,Y A9 n9 c9,pV B1 0,iV y6_1.at_.XZ,iV y6_1.at_.N,.string y6_1.at_.S]]) ?_ ?_
 ·refine du fun d6=> ?_
  refine lK (fun m s L=> ∃(a6:Int) (a8:Int) (b0:ByteArray) (b5:Nat),kD N a0 a1 a2 y6_1 m a6 a8 b0=some r/\s=[(0,pV B1 0),(4,pV B4 0),(5,pV B5 0),(6,.bool false),(7,pV B7 0),(9,pV b5 0)]/\L=[ae b5 29 [iV a6,iV a8,.string b0],oDWorld B1 B2 B3 a0,ae B4 29 (eE a1),ae B5 29 (eE a2),aC A8 n8 c8 y6_1.Yj.Yb,aC A9 n9 c9 y6_1.Yj.Ya,ae B7 103 [iV y6_1.Yj.XZ,iV y6_1.Yj.Yf,iV y6_1.Yj.Ye,iV y6_1.Yj.Yg,Y A8 n8 c8,Y A9 n9 c9,pV B1 0,iV y6_1.at_.XZ,iV y6_1.at_.N,.string y6_1.at_.S]]) N ?_;rintro e0 _ _ ⟨a6,a8,b0,b5,h,rfl,rfl⟩;rw [kD.eq_2] at h;refine sZ ?_;refine gH J h ?_ ?_<;>intro h
  ·refine sY ?_;refine dU (wg (x:=(⟨a6,a8,b0⟩:VN)) (y:=a1) J J) ?_;refine gH J h ?_ ?_<;>intro h
   ·exact eY
   refine sY ?_;intro e1
   refine cR h (fun _ k=>sk k) fun e2 h=> ?_
   exact lN
  exact jY
 rintro _ _ ⟨h,rfl,rfl⟩;refine dY [] ?_;refine ab ?_;obtain ⟨e3,b6,b7,b9,h⟩:=aM h;refine ab ?_;refine oV 7 J I I (cF (us:=eE a2) (z:=(⟨a2.XZ,a2.N,a2.S⟩:VN)) 2 J J J J size29.out J (toNat_lt b6 b7) J (fun S w vs xk hk hr ho=>by obtain rfl:=XH (hk.symm.trans b9);rw [show _=_ from hr];rfl)) ?_;rintro _ _ rfl
 refine Su h (fun _ k=>fK k) fun e4 e5 e6 e7 e8 e9 f1 h=> ?_
 refine cC h (fun _ k=>yb k) fun f2 h=> ?_
 exact eN
def fI (N:Nat)(a0:Int)(a1:VS):Option Bool:=
 (bif decide (0<a0) then (aE (a0≠0) (some (decide (a1.Yu.YG.tmod a0=0)))) else (some false)).bind fun b8=>some b8
theorem pH {N:Nat}{a0:Int}{a1:VS}{r:Bool}(h:fI N a0 a1=some r):Okc Wc 44 [iV a0,pV B1 0] ([aB B1 23 [pV B2 0],aB B2 85 (tD a1 B3 B4 A5 n5 c5 A6 n6 c6 A7 n7 c7),pDHeap B3 a1.Yi,pDTable B4 a1.Yk,iD sX (Y A5 n5 c5) a1.Yv,iD nH (Y A6 n6 c6) a1.Yw,iD sX (Y A7 n7 c7) a1.Yx]) (fun u post=>u=.bool r/\post=[]):=by
 refine bY Tryz.func44 ?_
 refine qo 9 15 6 h (fun _ g8 h=> ?_) fun b8 h=> ?_
 ·refine ab ?_;obtain ⟨q9,h⟩:=ac h;refine gT (pf J J q9) J (el g8 J) J ?_;exact gY
 exact eY
theorem ot {r:Bool}: ∀v post,((fun (u:Value) (post:Wa)=>u=.bool r/\post=[])) v post-> ∀c∈post,mT c:=by
 rintro _ _ ⟨rfl,rfl⟩;exact aR
def iT (a0:Int)(a1:VR):Option Bool:=
 (jL N a1 a0).bind fun y4=>some (!y4)
theorem BL {N:Nat}{a0:Int}{a1:VR}{r:Bool}(h:iT N a0 a1=some r):Okc Wc 191 [iV a0,pV B1 0] ([aB B1 125 [Y A2 n2 c2,Y A3 n3 c3],bB A2 n2 c2 a1.Yd,bB A3 n3 c3 a1.Yc]) (fun u post=>u=.bool r/\post=[]):=by
 refine bY Tryz.func191 ?_
 refine cR h (fun _ k=>lF k) fun y4 h=> ?_
 exact eN
def sq (a0:VR)(a6:VZ):Option Int:=
 (bD N a6 (fun x=>iT N x a0)).bind fun a8=>bif a8 then (some 50) else (some 0)
def oL (N:Nat)(a6:VZ->Int->Option Int)(a1:VY)(a8:Int)(a0:VR)(b0:VZ):Option Int:=
 aE (in64 (a8+1)) (a6 b0 (a8+1))
def fA (N:Nat)(a1:VY)(a0:VR):Nat->VZ->Int->Option Int
 |0,_,_=>none
 |b5+1,a6,a8=>bif decide (a8<(a1.length:Int)) then ((ap a1 a8).bind fun b0=>(bif decide (b0.XZ=7) then (some true) else (some (decide (b0.XZ=9)))).bind fun b6=>bif b6 then (aE (ci (a6.length+([b0.N]:List Int).length)) (oL N (fA N a1 a0 b5) a1 a8 a0 (a6++([b0.N]:List Int)))) else (oL N (fA N a1 a0 b5) a1 a8 a0 a6)) else (sq N a0 a6)
def pX (a1:VY)(a0:VR)(p6:VZ):Option Int:=
 fA N a1 a0 N p6 0
def sr (N:Nat)(a8:VZ->Int->Option Int)(a0:VR)(a6:Int)(a1:VY)(b0:VZ):Option Int:=
 aE (in64 (a6+1)) (a8 b0 (a6+1))
def lU (N:Nat)(b7:VZ->Int->Option Int)(a0:VR)(b9:Int)(b0:V7)(a1:VY):Nat->VZ->Int->Option Int
 |0,_,_=>none
 |c8+1,a6,a8=>bif decide (a8<(b0.length:Int)) then ((ap b0 a8).bind fun b5=>(fd N b5).bind fun c9=>bif !c9 then (some 51) else ((iH N b5).bind fun b6=>aE (ci (a6.length+b6.length)) ((mj N b5).bind fun c0=>aE (ci ((a6++b6).length+c0.length)) (aE (in64 (a8+1)) ((lU N b7 a0 b9 b0 a1 c8) ((a6++b6)++c0) (a8+1)))))) else (sr N b7 a0 b9 a1 a6)
def nm (N:Nat)(a0:VR)(a1:VY):Nat->VZ->Int->Option Int
 |0,_,_=>none
 |m8+1,p9,a6=>bif decide (a6<(([a0.Yd,a0.Yc]:List V7).length:Int)) then ((ap ([a0.Yd,a0.Yc]:List V7) a6).bind fun a8=>lU N (nm N a0 a1 m8) a0 a6 a8 a1 N p9 0) else (pX N a1 a0 p9)
def mh (a0:VR)(a1:VY):Option Int:=
 nm N a0 a1 N [] 0
theorem Fm {N:Nat}{a0:VR}{a1:VY}{r:Int}(h:mh N a0 a1=some r):Okc Wc 147 [.agg #[Y A1 n1 c1,Y A2 n2 c2],Y A3 n3 c3] ([bB A1 n1 c1 a0.Yd,bB A2 n2 c2 a0.Yc,aZ A3 n3 c3 a1]) (fun u post=>u=iV r/\post=[]):=by
 refine bY Tryz.func147 ?_;intro B4;refine ab ?_;refine ai (fun s L=> ∃p6 A6 n6 c6,pX N a1 a0 p6=some r/\s=[(1,Y A3 n3 c3),(2,pV B4 0),(4,iV 0),(5,Y A6 n6 c6)]/\L=[aZ A3 n3 c3 a1,fq A6 n6 c6 p6,bB A1 n1 c1 a0.Yd,bB A2 n2 c2 a0.Yc,ae B4 125 [Y A1 n1 c1,Y A2 n2 c2]]) ?_ ?_
 ·refine ab ?_
  refine r9 (aL (R:=(Rep.sl ei)) (vss:=[[Y A1 n1 c1],[Y A2 n2 c2]]) (xs:=[a0.Yd,a0.Yc]) J (He _ _ _ _ _ _) J J (fun _ _ hr=> .cons (⟨_,J,hr 1 _ J J⟩) (.cons (⟨_,J,hr 2 _ J J⟩) All2.nil))) fun A7 n7 c7=> ?_
  refine ii (fun m s L=> ∃p9 a6 A9 n9 c9,nm N a0 a1 m p9 a6=some r/\s=[(1,Y A3 n3 c3),(2,pV B4 0),(4,iV 0),(5,Y A9 n9 c9),(16,Y A7 n7 c7),(17,iV (([a0.Yd,a0.Yc]:List V7).length:Int)),(18,iV a6)]/\L=[aZ A3 n3 c3 a1,fq A9 n9 c9 p9,bh (Rep.sl ei) 123 (Y A7 n7 c7) ([a0.Yd,a0.Yc]:List V7),bB A1 n1 c1 a0.Yd,bB A2 n2 c2 a0.Yc,ae B4 125 [Y A1 n1 c1,Y A2 n2 c2]]) N _ _ ⟨[],0,none,0,0,h,J,J⟩ sA ((bq (jM .i64) 3 _).trans (cS [5,0,1,3,4,2] 6)) ?_;rintro (_|m8) _ _ ⟨p9,a6,A9,n9,c9,h,rfl,rfl⟩
  ·exact az h
  rw [nm.eq_2] at h;refine ab ?_;refine au ?_;refine gH J h ?_ ?_<;>intro h
  ·refine ab ?_;refine ai (fun s L=> ∃d6 e0 e1 e2,sr N (nm N a0 a1 m8) a0 a6 a1 d6=some r/\s=[(1,Y A3 n3 c3),(2,pV B4 0),(4,iV 0),(5,Y e0 e1 e2),(16,Y A7 n7 c7),(17,iV (([a0.Yd,a0.Yc]:List V7).length:Int)),(18,iV a6)]/\L=[aZ A3 n3 c3 a1,fq e0 e1 e2 d6,bh (Rep.sl ei) 123 (Y A7 n7 c7) ([a0.Yd,a0.Yc]:List V7),bB A1 n1 c1 a0.Yd,bB A2 n2 c2 a0.Yc,ae B4 125 [Y A1 n1 c1,Y A2 n2 c2]]) ?_ ?_
   ·refine ab ?_;obtain ⟨b0,g7,g8,e3,h⟩:=aM h;refine ab ?_
    refine r9 (N8 (R':=ei) (ys:=b0) 2 J ak J e3 HK (fun _ _ _ h=>by obtain ⟨u,e,k⟩:=h;exact ⟨u,by rw [e];rfl,k⟩)) fun b6 b7 b9=> ?_
    refine ii (fun m s L=> ∃e4 c0 e5 e6 e7,lU N (nm N a0 a1 m8) a0 a6 b0 a1 m e4 c0=some r/\s=[(1,Y A3 n3 c3),(2,pV B4 0),(4,iV 0),(5,Y e5 e6 e7),(16,Y A7 n7 c7),(17,iV (([a0.Yd,a0.Yc]:List V7).length:Int)),(18,iV a6),(22,Y b6 b7 b9),(23,iV (b0.length:Int)),(24,iV c0)]/\L=[aZ A3 n3 c3 a1,fq e5 e6 e7 e4,bh (Rep.sl ei) 123 (Y A7 n7 c7) ([a0.Yd,a0.Yc]:List V7),bB b6 b7 b9 b0,bB A1 n1 c1 a0.Yd,bB A2 n2 c2 a0.Yc,ae B4 125 [Y A1 n1 c1,Y A2 n2 c2]]) N _ _ ⟨p9,0,A9,n9,c9,h,J,J⟩ sA (cS [1,2,3,0,4,5,6] 7) ?_;rintro (_|h9) _ _ ⟨e4,c0,e5,e6,e7,h,rfl,rfl⟩
    ·exact az h
    rw [lU.eq_2] at h;refine ab ?_;refine au ?_;refine gH J h ?_ ?_<;>intro h
    ·refine sY ?_;obtain ⟨a8,g9,h0,e8,h⟩:=aM h;refine ab ?_;refine Cu 3 J e8 (kj a8) ?_;rintro _ _ ⟨c8,d0,d1,d2,d3,d4,rfl,rfl⟩;refine H3 (sW (us:=(gk a8 c8 d0 d1 d2 d3 d4)) 0 J J agg45.out J) ?_;intro h1;refine sY ?_;obtain ⟨i0,k,h⟩:=aa h;refine C7 (oR (ko k)) ?_;refine gH J h ?_ ?_<;>intro h
     ·exact eY
     refine ab ?_;refine bm I ([ae h1 45 (gk a8 c8 d0 d1 d2 d3 d4),NO (dh (Y b6 b7 b9) c0.toNat 6 0) (gk a8 c8 d0 d1 d2 d3 d4),aZ c8 d0 d1 a8.Yb,aZ d2 d3 d4 a8.Ya,aZ A3 n3 c3 a1,bh (Rep.sl ei) 123 (Y A7 n7 c7) ([a0.Yd,a0.Yc]:List V7),bB b6 b7 b9 b0,bB A1 n1 c1 a0.Yd,bB A2 n2 c2 a0.Yc,ae B4 125 [Y A1 n1 c1,Y A2 n2 c2]]) (cS [0,1,2,3,4,6,7,8,9,10] 11) ?_;refine yY [0,1,4] ?_;obtain ⟨i1,k,h⟩:=aa h;refine zD 2 J (oR (ml k)) ?_;rintro _ _ ⟨_,⟨i2,i8,j0,rfl,rfl⟩,rfl⟩;refine Ka (cS [1,2,3,4,5,7,8,9,10,11] 12) ?_;obtain ⟨h2,h⟩:=ac h;refine zD 3 J (aQ 6 0 J J ak J J Vn Iw J J h2) ?_;rintro _ _ ⟨j1,j2,j3,rfl,rfl⟩;refine Ka (cS [1,2,3,4,5,7,8,9,10,11] 12) ?_;obtain ⟨j4,k,h⟩:=aa h;refine zD 5 J (oR (uE k)) ?_;rintro _ _ ⟨_,⟨j5,j6,j7,rfl,rfl⟩,rfl⟩;refine Ka (cS [2,3,4,5,6,8,9,10,11,12] 13) ?_;obtain ⟨h3,h⟩:=ac h;refine zD 6 J (aQ 7 0 J J ak J J Vn Iw J J h3) ?_;rintro _ _ ⟨j8,j9,k0,rfl,rfl⟩;refine Ka (cS [2,3,4,5,6,8,9,10,11,12] 13) ?_;refine zE 7 J (mi J) ?_;refine fg I ?_;refine ab ?_;obtain ⟨k2,h⟩:=ac h;exact lY
    exact jY
   rintro _ _ ⟨d6,e0,e1,e2,h,rfl,rfl⟩;refine ab ?_;obtain ⟨k3,h⟩:=ac h;exact lY
  exact jY
 rintro _ _ ⟨p6,A6,n6,c6,h,rfl,rfl⟩;refine ai (fun s L=> ∃e9 f1 f2 f3,sq N a0 e9=some r/\s=[(2,pV B4 0),(4,iV 0),(5,Y f1 f2 f3)]/\L=[fq f1 f2 f3 e9,bB A1 n1 c1 a0.Yd,bB A2 n2 c2 a0.Yc,ae B4 125 [Y A1 n1 c1,Y A2 n2 c2]]) ?_ ?_
 ·refine ab ?_;refine ii (fun m s L=> ∃f4 b5 f9 g0 g1,fA N a1 a0 m f4 b5=some r/\s=[(2,pV B4 0),(4,iV 0),(5,Y f9 g0 g1),(40,Y A3 n3 c3),(41,iV (a1.length:Int)),(42,iV b5)]/\L=[fq f9 g0 g1 f4,aZ A3 n3 c3 a1,bB A1 n1 c1 a0.Yd,bB A2 n2 c2 a0.Yc,ae B4 125 [Y A1 n1 c1,Y A2 n2 c2]]) N _ _ ⟨p6,0,A6,n6,c6,h,J,J⟩ sA (cS [1,0,2,3,4] 5) ?_;rintro (_|h4) _ _ ⟨f4,b5,f9,g0,g1,h,rfl,rfl⟩
  ·exact az h
  rw [fA.eq_2] at h;refine ab ?_;refine au ?_;refine gH J h ?_ ?_<;>intro h
  ·refine ab ?_;refine ai (fun s L=> ∃g2 g3 g4 g5,oL N (fA N a1 a0 h4) a1 b5 a0 g2=some r/\s=[(2,pV B4 0),(4,iV 0),(5,Y g3 g4 g5),(40,Y A3 n3 c3),(41,iV (a1.length:Int)),(42,iV b5)]/\L=[fq g3 g4 g5 g2,aZ A3 n3 c3 a1,bB A1 n1 c1 a0.Yd,bB A2 n2 c2 a0.Yc,ae B4 125 [Y A1 n1 c1,Y A2 n2 c2]]) ?_ ?_
   ·refine ab ?_;obtain ⟨g6,h5,h6,h7,h⟩:=aM h
    refine du fun k4=> ?_
    refine gS 4 53 49 h ?_;intro k5 h;refine dI h ?_ ?_<;>intro h
    ·refine ab ?_;refine gD (aL (R:=(jM .i64)) (vss:=[[iV g6.N]]) (xs:=[g6.N]) J (nA _) J J (fun _ _ hr=> .cons J All2.nil)) ?_;rintro _ _ ⟨k6,k7,k8,rfl,rfl⟩;obtain ⟨h8,h⟩:=ac h
     refine r9 (aQ 2 0 J J ak J J Vn Iw J J h8) fun k9 l0 l1=> ?_
     exact jN
    exact jY
   rintro _ _ ⟨g2,g3,g4,g5,h,rfl,rfl⟩;refine ab ?_;obtain ⟨l2,h⟩:=ac h;exact lY
  exact jY
 rintro _ _ ⟨e9,f1,f2,f3,h,rfl,rfl⟩;refine sZ ?_;refine gE (eB J) ?_;obtain ⟨l3,k,h⟩:=aa h;refine C7 (oR (eQ k ⟨t9 J (t9 J (t9 J aR)),191, #[], #[pV B4 0],J,call191.out,fun _ _ hh=>BL hh⟩)) ?_;refine gH J h ?_ ?_<;>intro h
 ·exact eY
 exact eY
end Go.Proofs.YthhiddkljcacaaaGreat