/- Merged texts: part 7. No conditions of their own. -/
import Derived.Test.YtanojiedimeegaaGreatDoorG6
namespace Go.Proofs.YtanojiedimeegaaGreatDoor
theorem LU:type_of% Tryz.underlying279:=Tryz.underlying279
variable {A1 A10 A12 A13 A14 A3 A4 A5 A6:Option Addr} {B1 B2 B7 B9 M11 M8 c1 c10 c12 c13 c14 c3 c4 c5 c6 n1 n10 n12 n13 n14 n3 n4 n5 n6:Nat}
open Go.RowKit Asn
set_option maxRecDepth 20000
def qJ (N:Nat)(a0:Md)(p39:(List Me)):Option (List Me):=
 some p39
def ky (N:Nat)(y41:((List Mn)))(y36:((List Int)))(y16_1:(Ml))(a0:Md):Nat→(List Me)→(List Mn)→Int→Option (List Me)
 |0,_,_,_=>none
 |m44+1,p45,p46,p47=>bif decide (p47<(y41.length:Int)) then ((bU p46 p47).bind fun x50=>(bU y36 p47).bind fun x52=>(fU N (⟨y16_1.Cell,a0,y16_1.at_⟩:Ml) p47 x50 x52).bind fun y53=>cR ((p45.length+([y53]:List Me).length)≤549755813888) (cR (bK (p47+1)) ((ky N y41 y36 y16_1 a0 m44) (p45++([y53]:List Me)) p46 (p47+1)))) else (qJ N a0 p45)
def fE (N:Nat)(a0:Md)(a1:Mg):Option (List Me):=
 (dc N a0 a1).bind fun y16=>AA y16 (fun y16_0=>some []) (fun y16_1=>(dg N a0).bind fun y35=>(fQ N a0.shapes_ y16_1.Cell.Shape).bind fun y36=>(dg N a0).bind fun y40=>(ec N a0.shapes_ y16_1.Cell.Shape).bind fun y41=>ky N y41 y36 y16_1 a0 N [] y41 0)
set_option maxHeartbeats 4000000 in
theorem jg {N:Nat}{a0:Md}{a1:Mg}{r:(List Me)}(h:fE N a0 a1=some r):Okc Tryz.prog 105 [pV B1 0,(aZ a1)] ([bv A12 n12 c12 a0.symbols_,cE A13 n13 c13 a0.events_,bv A14 n14 c14 a0.out_,aj B1 151 (Wk a0 B2 B9 A12 n12 c12 A13 n13 c13 A14 n14 c14),aj B2 199 [I A3 n3 c3,I A4 n4 c4,I A5 n5 c5,I A6 n6 c6,pV B7 0],bx A3 n3 c3 a0.heap_.m_.Young,bx A4 n4 c4 a0.heap_.m_.Old,ba A5 n5 c5 a0.heap_.roots_,ba A6 n6 c6 a0.heap_.pending_,aj B7 247 [.map (some M8)],aJ cv cx M8 a0.heap_.set_.at_,aj B9 205 [I A10 n10 c10,.map (some M11)],cI A10 n10 c10 a0.shapes_.shapes_,aJ aG cu M11 a0.shapes_.next_]) (fun u post=> ∃A500 n500 c500,u=I A500 n500 c500∧post=[nI A500 n500 c500 r,aj B1 151 (Wk a0 B2 B9 A12 n12 c12 A13 n13 c13 A14 n14 c14),aj B2 199 [I A3 n3 c3,I A4 n4 c4,I A5 n5 c5,I A6 n6 c6,pV B7 0],bx A3 n3 c3 a0.heap_.m_.Young,bx A4 n4 c4 a0.heap_.m_.Old,ba A5 n5 c5 a0.heap_.roots_,ba A6 n6 c6 a0.heap_.pending_,aj B7 247 [.map (some M8)],aJ cv cx M8 a0.heap_.set_.at_,aj B9 205 [I A10 n10 c10,.map (some M11)],cI A10 n10 c10 a0.shapes_.shapes_,aJ aG cu M11 a0.shapes_.next_]):=by
 refine br Tryz.func105 J J ?_;simp only [aS];refine Y ?_;refine gD (aL J J) ?_;rintro _ _ ⟨B15,rfl,rfl⟩;refine Y ?_;refine gR (ab (us:=av a1) 0 J J aD J) ?_;obtain ⟨y16,hy16,h⟩:=aa h;rcases y16 with y16_0|y16_1
 ·replace h:=BQ h;refine gD (aE (bO hy16) eL J (aC [1,2,3] [4,5,6,7,8,9,10,11,12,13,14] [0,1,2,3] 15 J)) ?_;rintro _ _ ⟨_,⟨rfl,rfl⟩,rfl⟩;refine Y ?_;refine az ?_;refine Y ?_;refine eN J ?_;refine Y ?_;obtain rfl:=ap h;exact aO J J ((dY kM 42 _).trans (cS [0,1,2,3,4,5,6,7,8,9,10,11] 16)) ⟨_,_,_,J,J⟩
 replace h:=BP h;refine gD (aE (bO hy16) eL J (aC [1,2,3] [4,5,6,7,8,9,10,11,12,13,14] [0,1,2,3] 15 J)) ?_;rintro _ _ ⟨_,⟨B18,A19,n19,c19,A20,n20,c20,rfl,rfl⟩,rfl⟩;refine Y ?_;refine az ?_;refine Y ?_;refine fI J ?_;refine Y ?_;refine az ?_;refine bF V _ (ae _) ?_;refine zE 0 J (aw J) ?_;refine zE 2 J (aw J) ?_;refine zE 3 J (bf J) ?_;refine zE 4 J (dN J fF) ?_;refine zE 5 J (cb J nO) ?_;refine zR 6 J (aY 0 J J dv J) ?_;obtain ⟨y35,hy35,h⟩:=aa h;refine zD 1 J (al (dW hy35) tz J (hD (aB (i:=3) J) (hD (aB (i:=4) J) (hD (aq (i:=5) J) (hD (aq (i:=6) J) (hD (aq (i:=7) J) (hD (aq (i:=8) J) (hD (aB (i:=9) J) (hD (bc (i:=10) J) (hD (aB (i:=11) J) (hD (aq (i:=12) J) (hD (bc (i:=13) J) (hD (ao (i:=15) J J) (hD (ao (i:=16) J J) (hD (ao (i:=17) J J) ac)))))))))))))) dA) ?_;rintro _ _ ⟨_,⟨rfl,rfl⟩,rfl⟩;refine ⟨_,ae _,ae _,?_⟩;obtain ⟨y36,hy36,h⟩:=aa h;refine zD 7 J (al (sg hy36) IK J (hD (aB (i:=11) J) (hD (aq (i:=12) J) (hD (bc (i:=13) J) ac))) rj) ?_;rintro _ _ ⟨_,⟨A37,n37,c37,rfl,rfl⟩,rfl⟩;refine dB (cS [1,2,3,4,5,6,7,8,9,10,11,12,13,14,15,16,17,18] 19) ?_;refine zE 8 J (be J) ?_;refine bz V ?_;refine eg ?_
 refine aW (fun s L=> ∃p39 A39 n39 c39,qJ N a0 p39=some r∧s=[(4,I none 0 0),(7,I A39 n39 c39)]∧L=[nI A39 n39 c39 p39,bv A12 n12 c12 a0.symbols_,cE A13 n13 c13 a0.events_,bv A14 n14 c14 a0.out_,aj B1 151 (Wk a0 B2 B9 A12 n12 c12 A13 n13 c13 A14 n14 c14),bx A3 n3 c3 a0.heap_.m_.Young,bx A4 n4 c4 a0.heap_.m_.Old,ba A5 n5 c5 a0.heap_.roots_,ba A6 n6 c6 a0.heap_.pending_,aj B2 199 [I A3 n3 c3,I A4 n4 c4,I A5 n5 c5,I A6 n6 c6,pV B7 0],cI A10 n10 c10 a0.shapes_.shapes_,aJ aG cu M11 a0.shapes_.next_,aj B9 205 [I A10 n10 c10,.map (some M11)],aJ cv cx M8 a0.heap_.set_.at_,aj B7 247 [.map (some M8)]]) ?_ ?_
 ·refine az ?_;obtain ⟨y40,hy40,h⟩:=aa h;obtain ⟨y41,hy41,h⟩:=aa h;refine f3 (t:=[(0,pV B1 0),(4,I none 0 0),(5,pV B18 0),(7,I none 0 0),(8,I A37 n37 c37)]) ?_ jd (ae _)
  refine fX V 10 [] [7,8,9] [27,28,29,30,31,32,33,34,35,36] [[],[0],[],[2],[3],[4],[5],[1,6],[7],[]] [aV (pV B1 0),
aV (pV B9 0),
aV (pV B18 0),
aV (pV B18 0),
aV (pV B18 0),
aV (pV B18 1),
aV (iV y16_1.Cell.Shape),
aX3 (fun (A43:Option Addr) (n43 c43:Nat)=> I A43 n43 c43) (fun A43 n43 c43=> [gw A43 n43 c43 y41]),
aV (iV (y41.length:Int)),
aV (iV 0)] [] (ae _) (iY) V rfl rfl ?_ ?_ ?_
  ·exact iX
  ·refine am J ?_ ?_
   ·exact bW (aw J) J (bh J (ae _))
   refine am J ?_ ?_
   ·intro A43 n43 c43;exact fa (bG 0 J aA J LT) J (bh J (ae _))
   refine am J ?_ ?_
   ·refine kV (al (ox hy41) EG J (hD (aB (i:=12) J) (hD (aq (i:=13) J) (hD (bc (i:=14) J) ac))) mG) J ?_;rintro _ _ ⟨_,⟨A42,n42,c42,rfl,rfl⟩,rfl⟩;exact If A42 n42 c42 (ae _)
   refine am J ?_ ?_
   ·exact fa (aY 1 J J dv J) J (bh J (ae _))
   refine am J ?_ ?_
   ·exact bW (cb J nO) J (bh J (ae _))
   refine am J ?_ ?_
   ·exact bW (dN J fF) J (bh J (ae _))
   refine am J ?_ ?_
   ·exact bW (bf J) J (bh J (ae _))
   refine am J ?_ ?_
   ·exact bW (aw J) J (bh J (ae _))
   refine am J ?_ ?_
   ·refine kV (al (dW hy40) tz J (hD (aB (i:=4) J) (hD (aB (i:=5) J) (hD (aq (i:=6) J) (hD (aq (i:=7) J) (hD (aq (i:=8) J) (hD (aq (i:=9) J) (hD (aB (i:=10) J) (hD (bc (i:=11) J) (hD (aB (i:=12) J) (hD (aq (i:=13) J) (hD (bc (i:=14) J) (hD (ao (i:=16) J J) (hD (ao (i:=17) J J) (hD (ao (i:=18) J J) ac)))))))))))))) dA) J ?_;rintro _ _ ⟨_,⟨rfl,rfl⟩,rfl⟩;exact bh J (ae _)
   refine am J ?_ ?_
   ·exact bW (aw J) J (bh J (ae _))
   exact dJ
  intro A43 n43 c43;refine lM (t:=[(34,I A43 n43 c43),(35,iV (y41.length:Int)),(36,iV 0),(0,pV B1 0),(4,I none 0 0),(5,pV B18 0),(7,I none 0 0),(8,I A37 n37 c37)]) (L':=[gw A43 n43 c43 y41,dH (nX .i64) 3 (I A37 n37 c37) y36,aj B18 140 [iV y16_1.Cell.Kind,iV y16_1.Cell.Shape,iV y16_1.Cell.Flags,iV y16_1.Cell.Age,I A19 n19 c19,I A20 n20 c20,pV B1 0,iV y16_1.at_.Kind,iV y16_1.at_.N,.string y16_1.at_.S],ba A19 n19 c19 y16_1.Cell.Slots,ba A20 n20 c20 y16_1.Cell.More,aj B1 151 (Wk a0 B2 B9 A12 n12 c12 A13 n13 c13 A14 n14 c14),aj B2 199 [I A3 n3 c3,I A4 n4 c4,I A5 n5 c5,I A6 n6 c6,pV B7 0],bx A3 n3 c3 a0.heap_.m_.Young,bx A4 n4 c4 a0.heap_.m_.Old,ba A5 n5 c5 a0.heap_.roots_,ba A6 n6 c6 a0.heap_.pending_,aj B7 247 [.map (some M8)],aJ cv cx M8 a0.heap_.set_.at_,aj B9 205 [I A10 n10 c10,.map (some M11)],cI A10 n10 c10 a0.shapes_.shapes_,aJ aG cu M11 a0.shapes_.next_,aj B15 30 (av a1),bv A12 n12 c12 a0.symbols_,cE A13 n13 c13 a0.events_,bv A14 n14 c14 a0.out_]) ?_ jd (ae _);refine jb V ?_;refine Y ?_
  refine bN (fun m s L=> ∃p45 p46 p47 A45 n45 c45 A46 n46 c46,ky N y41 y36 y16_1 a0 m p45 p46 p47=some r∧s=[(4,I none 0 0),(5,pV B18 0),(7,I A45 n45 c45),(8,I A37 n37 c37),(34,I A46 n46 c46),(35,iV (y41.length:Int)),(36,iV p47)]∧L=[nI A45 n45 c45 p45,dH (nX .i64) 3 (I A37 n37 c37) y36,gw A46 n46 c46 p46,ba A19 n19 c19 y16_1.Cell.Slots,ba A20 n20 c20 y16_1.Cell.More,aj B18 140 [iV y16_1.Cell.Kind,iV y16_1.Cell.Shape,iV y16_1.Cell.Flags,iV y16_1.Cell.Age,I A19 n19 c19,I A20 n20 c20,pV B1 0,iV y16_1.at_.Kind,iV y16_1.at_.N,.string y16_1.at_.S],bv A12 n12 c12 a0.symbols_,cE A13 n13 c13 a0.events_,bv A14 n14 c14 a0.out_,aj B1 151 (Wk a0 B2 B9 A12 n12 c12 A13 n13 c13 A14 n14 c14),bx A3 n3 c3 a0.heap_.m_.Young,bx A4 n4 c4 a0.heap_.m_.Old,ba A5 n5 c5 a0.heap_.roots_,ba A6 n6 c6 a0.heap_.pending_,aj B2 199 [I A3 n3 c3,I A4 n4 c4,I A5 n5 c5,I A6 n6 c6,pV B7 0],cI A10 n10 c10 a0.shapes_.shapes_,aJ aG cu M11 a0.shapes_.next_,aj B9 205 [I A10 n10 c10,.map (some M11)],aJ cv cx M8 a0.heap_.set_.at_,aj B7 247 [.map (some M8)]]) N _ _ ⟨[],y41,0,none,0,0,A43,n43,c43,h,J,J⟩ sA ((dY kM 42 _).trans (cS [0,2,1,4,5,3,18,19,20,6,8,9,10,11,7,15,16,14,13,12] 21)) ?_
  rintro (_|m44) _ _ ⟨p45,p46,p47,A45,n45,c45,A46,n46,c46,h,rfl,rfl⟩
  ·exact bg h
  rw [ky.eq_2] at h;refine Y ?_;refine az ?_;refine au J (fun g49=> ?_) (fun g49=> ?_)
  ·replace h:=ah g49 h;refine Y ?_;refine az ?_;refine Y ?_;obtain ⟨x50,hx50,h⟩:=aa h;obtain ⟨lx50,ux50,hx50⟩:=aI hx50;refine gR (bp 2 J aA J J LT ck lx50 ux50) ?_;refine gR (bj (us:=[iV x50.Kind,iV x50.N,.string x50.S]) 2 J aA J hx50 bB (fun _ _ _ h=>by rw [show _=_ from h];rfl)) ?_;refine gD (aH nU J) ?_;rintro _ _ ⟨B51,rfl,rfl⟩;refine Y ?_;refine gO (ar (us:=[iV x50.Kind,iV x50.N,.string x50.S]) (cs':=[iV x50.Kind,iV x50.N,.string x50.S]) 0 J J J J ck J J J) ?_;rintro _ _ rfl;refine bL ?_;refine Y ?_;obtain ⟨x52,hx52,h⟩:=aa h;obtain ⟨lx52,ux52,hx52⟩:=aI hx52;refine f3 (t:=[(4,I none 0 0),(5,pV B18 0),(7,I A45 n45 c45),(8,I A37 n37 c37),(9,iV p47),(10,pV B51 0),(34,I A46 n46 c46),(35,iV (y41.length:Int)),(36,iV p47)]) ?_ jd (ae _)
   refine fX V 8 [0] [0,1,2,3,7] [41,42,43,44,45,46,47,48] [[],[],[],[],[],[],[4,5],[6]] [aV (I A45 n45 c45),
aV (pV B18 0),
aV (iV p47),
aV (.agg #[iV x50.Kind,iV x50.N,.string x50.S]),
aV (I A37 n37 c37),
aV (iV p47),
aV (eA (I A37 n37 c37) p47.toNat 1 0),
aV (iV x52)] [] (ae _) (d6 rfl iY) V rfl rfl ?_ ?_ ?_
   ·refine d5 J ?_ ?_
    ·exact js (aw J) J (bh J (ae _))
    exact iX
   ·refine am J ?_ ?_
    ·exact fa (eX (u:=iV x52) 2 J aA J hx52 dv (fun _ _ _ h=>by rw [show _=_ from h];rfl)) J (bh J (ae _))
    refine am J ?_ ?_
    ·exact fa (bp 2 J aA J J LQ gz lx52 ux52) J (bh J (ae _))
    refine am J ?_ ?_
    ·exact bW (aw J) J (bh J (ae _))
    refine am J ?_ ?_
    ·exact bW (aw J) J (bh J (ae _))
    refine am J ?_ ?_
    ·exact fa (ab (us:=[iV x50.Kind,iV x50.N,.string x50.S]) 0 J J bB J) J (bh J (ae _))
    refine am J ?_ ?_
    ·exact bW (aw J) J (bh J (ae _))
    refine am J ?_ ?_
    ·exact bW (aw J) J (bh J (ae _))
    refine am J ?_ ?_
    ·exact bW (aw J) J (bh J (ae _))
    exact dJ
   refine lM (t:=[(41,I A45 n45 c45),(42,pV B18 0),(43,iV p47),(44,.agg #[iV x50.Kind,iV x50.N,.string x50.S]),(48,iV x52),(4,I none 0 0),(5,pV B18 0),(7,I A45 n45 c45),(8,I A37 n37 c37),(9,iV p47),(10,pV B51 0),(34,I A46 n46 c46),(35,iV (y41.length:Int)),(36,iV p47)]) (L':=[aj B51 24 [iV x50.Kind,iV x50.N,.string x50.S],nI A45 n45 c45 p45,dH (nX .i64) 3 (I A37 n37 c37) y36,gw A46 n46 c46 p46,ba A19 n19 c19 y16_1.Cell.Slots,ba A20 n20 c20 y16_1.Cell.More,aj B18 140 [iV y16_1.Cell.Kind,iV y16_1.Cell.Shape,iV y16_1.Cell.Flags,iV y16_1.Cell.Age,I A19 n19 c19,I A20 n20 c20,pV B1 0,iV y16_1.at_.Kind,iV y16_1.at_.N,.string y16_1.at_.S],bv A12 n12 c12 a0.symbols_,cE A13 n13 c13 a0.events_,bv A14 n14 c14 a0.out_,aj B1 151 (Wk a0 B2 B9 A12 n12 c12 A13 n13 c13 A14 n14 c14),bx A3 n3 c3 a0.heap_.m_.Young,bx A4 n4 c4 a0.heap_.m_.Old,ba A5 n5 c5 a0.heap_.roots_,ba A6 n6 c6 a0.heap_.pending_,aj B2 199 [I A3 n3 c3,I A4 n4 c4,I A5 n5 c5,I A6 n6 c6,pV B7 0],cI A10 n10 c10 a0.shapes_.shapes_,aJ aG cu M11 a0.shapes_.next_,aj B9 205 [I A10 n10 c10,.map (some M11)],aJ cv cx M8 a0.heap_.set_.at_,aj B7 247 [.map (some M8)]]) ?_ jd (ae _);obtain ⟨y53,hy53,h⟩:=aa h
   refine wS 8 J V (al (nF hy53) Es J (hD (aB (i:=6) J) (hD (aq (i:=4) J) (hD (aq (i:=5) J) (hD (aB (i:=10) J) (hD (aB (i:=15) J) (hD (aq (i:=11) J) (hD (aq (i:=12) J) (hD (aq (i:=13) J) (hD (aq (i:=14) J) (hD (aB (i:=20) J) (hD (bc (i:=19) J) (hD (aB (i:=18) J) (hD (aq (i:=16) J) (hD (bc (i:=17) J) (hD (ao (i:=7) J J) (hD (ao (i:=8) J J) (hD (ao (i:=9) J J) ac))))))))))))))))) lW) J J J ?_;rintro _ _ ⟨_,⟨rfl,rfl⟩,rfl⟩;refine wS 9 J V (bP (R:=kM) (vss:=[(aP y53)]) (xs:=[y53]) J (vy _ _ _ _ _ _ _ _ _ _ _ _ _) J J (fun _ _ hr=> .cons J All2.nil)) J J J ?_;rintro _ _ ⟨A54,n54,c54,rfl,rfl⟩;obtain ⟨q55,h⟩:=ay h;refine wS 10 J V (pp 2 0 J J aA J J LO Hk J J J q55) J J J ?_;rintro _ _ ⟨A56,n56,c56,rfl,rfl⟩;refine tN 11 J V (be J) J J J ?_;refine jb V ?_;refine Y ?_;obtain ⟨q57,h⟩:=ay h;refine gE (bE J J q57.1 q57.2) ?_;refine Y ?_;exact ⟨m44,_,_,Mw _,⟨p45++([y53]:List Me),p46,p47+1,A56,n56,c56,A46,n46,c46,h,J,J⟩,sA,cS [2,3,4,5,6,7,8,9,10,11,12,13,14,15,16,17,18,19,20,21] 22⟩
  replace h:=ai g49 h;refine Y ?_;exact ⟨_,_,⟨p45,A45,n45,c45,h,J,J⟩,sA,cS [0,6,7,8,9,10,11,12,13,14,15,16,17,18,19] 20⟩
 rintro _ _ ⟨p39,A39,n39,c39,h,rfl,rfl⟩;refine Y ?_;obtain rfl:=ap h;exact aO J J (cS [0,4,9,5,6,7,8,14,13,12,10,11] 15) ⟨_,_,_,J,J⟩
def qI (N:Nat)(a1:Mg):Option (List Me):=
 (eQ N a1).bind fun y2=>some []
theorem uQ {N:Nat}{a1:Mg}{r:(List Me)}(h:qI N a1=some r):Okc Tryz.prog 105 [.pointer none,(aZ a1)] ([]) (fun u post=> ∃A0 n0 c0,u=I A0 n0 c0∧post=[nI A0 n0 c0 r]):=by
 refine br Tryz.func105 J J ?_;simp only [aS];refine Y ?_;refine gD (aL J J) ?_;rintro _ _ ⟨B1,rfl,rfl⟩;refine Y ?_;refine gR (ab (us:=av a1) 0 J J aD J) ?_;obtain ⟨y2,hy2,h⟩:=aa h;refine gD (al (fm hy2) eL J (ac) ef) ?_;rintro _ _ ⟨_,⟨rfl,rfl⟩,rfl⟩;refine Y ?_;refine az ?_;refine Y ?_;refine eN J ?_;refine Y ?_;obtain rfl:=ap h;exact aO J J ((dY kM 42 _).trans (cS [0] 2)) ⟨_,_,_,J,J⟩
theorem tI {r:(List Me)}: ∀v post,((fun (u:Value) (post:List Chunk)=> ∃A0 n0 c0,u=I A0 n0 c0∧post=[nI A0 n0 c0 r])) v post→ ∀c∈post,bV c:=by
 rintro _ _ ⟨_,_,_,rfl,rfl⟩;exact hD dk (ac)
def rt (N:Nat)(p7:Int):Option (Int×Bool):=
 bif decide (4294967294<p7) then (some (0,false)) else (some (p7,true))
def oP (N:Nat)(a0:ByteArray):Nat→Int→Int→Option (Int×Bool)
 |0,_,_=>none
 |m8+1,p9,p10=>bif decide (p10<(a0.size:Int)) then ((xe a0 p10).bind fun x12=>(bif decide (x12<48) then (some true) else ((xe a0 p10).bind fun x14=>some (decide (57<x14)))).bind fun b13=>bif b13 then (some (0,false)) else (cR (bK (10*p9)) ((xe a0 p10).bind fun x17=>cR (bK ((10*p9)+(IntKind.i64.wrap (IntKind.u8.wrap (x17 - 48))))) (cR (bK (p10+1)) ((oP N a0 m8) ((10*p9)+(IntKind.i64.wrap (IntKind.u8.wrap (x17 - 48)))) (p10+1)))))) else (rt N p9)
def qa (N:Nat)(a0:ByteArray):Option (Int×Bool):=
 (bif a0.toList==(⟨#[]⟩:ByteArray).toList then (some true) else (some (decide (10<(a0.size:Int))))).bind fun b1=>(bif b1 then (some true) else ((xe a0 0).bind fun x3=>(bif decide (x3=48) then (some (decide (1<(a0.size:Int)))) else (some false)).bind fun b4=>some b4)).bind fun b2=>bif b2 then (some (0,false)) else (oP N a0 N 0 0)
set_option maxHeartbeats 4000000 in
theorem AT {N:Nat}{a0:ByteArray}{r:(Int×Bool)}(h:qa N a0=some r):Okc Tryz.prog 151 [.string a0] ([]) (fun u post=>u=.tuple #[iV r.1,.bool r.2]∧post=[]):=by
 refine br Tryz.func151 J J ?_;simp only [aS];refine Y ?_;refine az ?_;refine Y ?_;refine gE (qW J J) ?_;refine Y ?_;obtain ⟨b1,hb1,h⟩:=aa h;refine aN 4 12 b1 ?_ ?_
 ·clear h;refine aK 8 J (fun g1=> ?_) (fun g1=> ?_)
  ·have h:=ah g1 hb1;refine Y ?_;obtain rfl:=ap h;exact ad sA (cS [] 0)
  have h:=ai g1 hb1;refine Y ?_;refine d3 (ls J Ex) J (cU g1 J) J ?_;refine Y ?_;obtain rfl:=ap h;exact ad sA (cS [] 0)
 refine Y ?_;obtain ⟨b2,hb2,h⟩:=aa h;refine aN 9 22 b2 ?_ ?_
 ·clear h;refine aK 13 J (fun g2=> ?_) (fun g2=> ?_)
  ·have h:=ah g2 hb2;refine Y ?_;obtain rfl:=ap h;exact ad sA (cS [] 0)
  have h:=ai g2 hb2;refine Y ?_;obtain ⟨x3,hx3,h⟩:=aa h;refine d3 (o3 J J Ex hx3) J (cU g2 J) J ?_;refine Y ?_;obtain ⟨b4,hb4,h⟩:=aa h;refine aN 4 21 b4 ?_ ?_
  ·clear h;refine aK 17 J (fun g4=> ?_) (fun g4=> ?_)
   ·have h:=ah g4 hb4;refine Y ?_;refine d3 (ls J Ex) J (bq g4 J) J ?_;refine Y ?_;obtain rfl:=ap h;exact ad sA (cS [] 0)
   have h:=ai g4 hb4;refine Y ?_;obtain rfl:=ap h;exact ad sA (cS [] 0)
  refine Y ?_;obtain rfl:=ap h;exact ad sA (cS [] 0)
 refine Y ?_;refine au J (fun g5=> ?_) (fun g5=> ?_)
 ·replace h:=ah g5 h;refine Y ?_;obtain rfl:=ap h;exact cT J J J (cS [] 0) ⟨J,J⟩
 replace h:=ai g5 h;refine Y ?_;refine aW (fun s L=> ∃p7,rt N p7=some r∧s=[(2,iV 0),(3,.bool false),(4,iV p7)]∧L=[]) ?_ ?_
 ·refine Y ?_;refine gE (ls J Ex) ?_;refine Y ?_;refine bN (fun m s L=> ∃p9 p10,oP N a0 m p9 p10=some r∧s=[(0,.string a0),(2,iV 0),(3,.bool false),(4,iV p9),(24,iV (a0.size:Int)),(25,iV p10)]∧L=[]) N _ _ ⟨0,0,h,J,J⟩ sA (cS [] 0) ?_;rintro (_|m8) _ _ ⟨p9,p10,h,rfl,rfl⟩
  ·exact bg h
  rw [oP.eq_2] at h;refine Y ?_;refine az ?_;refine au J (fun g11=> ?_) (fun g11=> ?_)
  ·replace h:=ah g11 h;refine Y ?_;refine az ?_;refine Y ?_;refine az ?_;refine Y ?_;obtain ⟨x12,hx12,h⟩:=aa h;refine gE (o3 J J Ex hx12) ?_;refine Y ?_;obtain ⟨b13,hb13,h⟩:=aa h;refine aN 5 37 b13 ?_ ?_
   ·clear h;refine aK 32 J (fun g13=> ?_) (fun g13=> ?_)
    ·have h:=ah g13 hb13;refine Y ?_;obtain rfl:=ap h;exact ad sA (cS [] 0)
    have h:=ai g13 hb13;refine Y ?_;obtain ⟨x14,hx14,h⟩:=aa h;refine d3 (o3 J J Ex hx14) J (cU g13 J) J ?_;refine Y ?_;obtain rfl:=ap h;exact ad sA (cS [] 0)
   refine Y ?_;refine au J (fun g15=> ?_) (fun g15=> ?_)
   ·replace h:=ah g15 h;refine Y ?_;obtain rfl:=ap h;exact cT J J J (cS [] 0) ⟨J,J⟩
   replace h:=ai g15 h;refine Y ?_;obtain ⟨q16,h⟩:=ay h;refine gE (pG J J q16.1 q16.2) ?_;refine Y ?_;obtain ⟨x17,hx17,h⟩:=aa h;refine gE (o3 J J Ex hx17) ?_;refine gE (Ib J J) ?_;refine gE (rN J J EM) ?_;obtain ⟨q18,h⟩:=ay h;refine gE (bE J J q18.1 q18.2) ?_;refine Y ?_;obtain ⟨q19,h⟩:=ay h;refine gE (bE J J q19.1 q19.2) ?_;refine Y ?_;exact ⟨m8,_,_,Mw _,⟨(10*p9)+(IntKind.i64.wrap (IntKind.u8.wrap (x17 - 48))),p10+1,h,J,J⟩,sA,cS [] 0⟩
  replace h:=ai g11 h;refine Y ?_;exact ⟨_,_,⟨p9,h,J,J⟩,sA,cS [] 0⟩
 rintro _ _ ⟨p7,h,rfl,rfl⟩;refine az ?_;refine Y ?_;refine au J (fun g20=> ?_) (fun g20=> ?_)
 ·replace h:=ah g20 h;refine Y ?_;obtain rfl:=ap h;exact cT J J J (cS [] 0) ⟨J,J⟩
 replace h:=ai g20 h;refine Y ?_;obtain rfl:=ap h;exact cT J J J (cS [] 0) ⟨J,J⟩
theorem yC {r:(Int×Bool)}: ∀v post,((fun (u:Value) (post:List Chunk)=>u=.tuple #[iV r.1,.bool r.2]∧post=[])) v post→ ∀c∈post,bV c:=by
 rintro _ _ ⟨rfl,rfl⟩;exact ac
def er (N:Nat)(a0:Mn):Option Bool:=
 bif decide (a0.Kind=0) then ((bif a0.S.toList==(⟨#[]⟩:ByteArray).toList then (some (decide (0≤a0.N))) else (some false)).bind fun b3=>(bif b3 then (some (decide (a0.N≤4294967294))) else (some false)).bind fun b4=>some b4) else (bif decide (a0.Kind=1) then ((qa N a0.S).bind fun y6=>(bif decide (a0.N=0) then (some (decide ((a0.S.size:Int)≤65536))) else (some false)).bind fun b7=>(bif b7 then (some (!y6.2)) else (some false)).bind fun b8=>some b8) else (bif decide (a0.Kind=2) then ((bif a0.S.toList==(⟨#[]⟩:ByteArray).toList then (some (decide (1≤a0.N))) else (some false)).bind fun b10=>some b10) else (some false)))
set_option maxHeartbeats 4000000 in
theorem i4 {N:Nat}{a0:Mn}{r:Bool}(h:er N a0=some r):Okc Tryz.prog 99 [(eZ a0)] ([]) (fun u post=>u=.bool r∧post=[]):=by
 refine br Tryz.func99 J J ?_;simp only [aS];refine Y ?_;refine gD (aL J J) ?_;rintro _ _ ⟨B1,rfl,rfl⟩;refine Y ?_;refine az ?_;refine Y ?_;refine au J (fun g2=> ?_) (fun g2=> ?_)
 ·replace h:=ah g2 h;refine Y ?_;refine gE (qW J J) ?_;refine Y ?_;obtain ⟨b3,hb3,h⟩:=aa h;refine aN 4 16 b3 ?_ ?_
  ·clear h;refine aK 12 J (fun g3=> ?_) (fun g3=> ?_)
   ·have h:=ah g3 hb3;refine Y ?_;obtain rfl:=ap h;exact ad sA (cS [0] 1)
   have h:=ai g3 hb3;refine Y ?_;obtain rfl:=ap h;exact ad sA (cS [0] 1)
  refine Y ?_;obtain ⟨b4,hb4,h⟩:=aa h;refine aN 4 21 b4 ?_ ?_
  ·clear h;refine aK 17 J (fun g4=> ?_) (fun g4=> ?_)
   ·have h:=ah g4 hb4;refine Y ?_;obtain rfl:=ap h;exact ad sA (cS [0] 1)
   have h:=ai g4 hb4;refine Y ?_;obtain rfl:=ap h;exact ad sA (cS [0] 1)
  refine Y ?_;obtain rfl:=ap h;exact aO J J (cS [] 1) ⟨J,J⟩
 replace h:=ai g2 h;refine Y ?_;refine au J (fun g5=> ?_) (fun g5=> ?_)
 ·replace h:=ah g5 h;refine Y ?_;obtain ⟨y6,hy6,h⟩:=aa h;refine gD (al (AT hy6) IL J (ac) yC) ?_;rintro _ _ ⟨_,⟨rfl,rfl⟩,rfl⟩;refine Y ?_;obtain ⟨b7,hb7,h⟩:=aa h;refine aN 5 38 b7 ?_ ?_
  ·clear h;refine aK 33 J (fun g7=> ?_) (fun g7=> ?_)
   ·have h:=ah g7 hb7;refine Y ?_;refine d3 (ls J Ex) J (bq g7 J) J ?_;refine Y ?_;obtain rfl:=ap h;exact ad sA (cS [0] 1)
   have h:=ai g7 hb7;refine Y ?_;obtain rfl:=ap h;exact ad sA (cS [0] 1)
  refine Y ?_;obtain ⟨b8,hb8,h⟩:=aa h;refine aN 3 42 b8 ?_ ?_
  ·clear h;refine aK 39 J (fun g8=> ?_) (fun g8=> ?_)
   ·have h:=ah g8 hb8;refine Y ?_;obtain rfl:=ap h;exact ad sA (cS [0] 1)
   have h:=ai g8 hb8;refine Y ?_;obtain rfl:=ap h;exact ad sA (cS [0] 1)
  refine Y ?_;obtain rfl:=ap h;exact aO J J (cS [] 1) ⟨J,J⟩
 replace h:=ai g5 h;refine Y ?_;refine au J (fun g9=> ?_) (fun g9=> ?_)
 ·replace h:=ah g9 h;refine Y ?_;refine gE (qW J J) ?_;refine Y ?_;obtain ⟨b10,hb10,h⟩:=aa h;refine aN 4 52 b10 ?_ ?_
  ·clear h;refine aK 48 J (fun g10=> ?_) (fun g10=> ?_)
   ·have h:=ah g10 hb10;refine Y ?_;obtain rfl:=ap h;exact ad sA (cS [0] 1)
   have h:=ai g10 hb10;refine Y ?_;obtain rfl:=ap h;exact ad sA (cS [0] 1)
  refine Y ?_;obtain rfl:=ap h;exact aO J J (cS [] 1) ⟨J,J⟩
 replace h:=ai g9 h;refine Y ?_;obtain rfl:=ap h;exact aO J J (cS [] 1) ⟨J,J⟩
theorem ge {r:Bool}: ∀v post,((fun (u:Value) (post:List Chunk)=>u=.bool r∧post=[])) v post→ ∀c∈post,bV c:=by
 rintro _ _ ⟨rfl,rfl⟩;exact ac
def qh (N:Nat)(a0:Int):Option Bool:=
 some (!decide (a0=a0))
theorem vm {N:Nat}{a0:Int}{r:Bool}(h:qh N a0=some r):Okc Tryz.prog 232 [iV a0] ([]) (fun u post=>u=.bool r∧post=[]):=by
 refine br Tryz.func232 J J ?_;simp only [aS];refine Y ?_;obtain rfl:=ap h;exact aO J J (cS [] 0) ⟨J,J⟩
theorem sP {r:Bool}: ∀v post,((fun (u:Value) (post:List Chunk)=>u=.bool r∧post=[])) v post→ ∀c∈post,bV c:=by
 rintro _ _ ⟨rfl,rfl⟩;exact ac
def lj (N:Nat)(a0:Int)(a1:Int):Option Int:=
 (qh N a0).bind fun y1=>(qh N a1).bind fun y2=>bif y1 then (bif y2 then (some 0) else (some (-1))) else (bif y2 then (some 1) else (bif decide (a0<a1) then (some (-1)) else (bif decide (a1<a0) then (some 1) else (some 0))))
set_option maxHeartbeats 4000000 in
theorem sQ {N:Nat}{a0:Int}{a1:Int}{r:Int}(h:lj N a0 a1=some r):Okc Tryz.prog 208 [iV a0,iV a1] ([]) (fun u post=>u=iV r∧post=[]):=by
 refine br Tryz.func208 J J ?_;simp only [aS];refine Y ?_;obtain ⟨y1,hy1,h⟩:=aa h;refine gD (al (vm hy1) Ej J (ac) sP) ?_;rintro _ _ ⟨_,⟨rfl,rfl⟩,rfl⟩;refine Y ?_;obtain ⟨y2,hy2,h⟩:=aa h;refine gD (al (vm hy2) Ej J (ac) sP) ?_;rintro _ _ ⟨_,⟨rfl,rfl⟩,rfl⟩;refine Y ?_;refine az ?_;refine Y ?_;refine au J (fun g3=> ?_) (fun g3=> ?_)
 ·replace h:=ah g3 h;refine az ?_;refine Y ?_;refine au J (fun g4=> ?_) (fun g4=> ?_)
  ·replace h:=ah g4 h;refine Y ?_;obtain rfl:=ap h;exact aO J J (cS [] 0) ⟨J,J⟩
  replace h:=ai g4 h;refine Y ?_;obtain rfl:=ap h;exact aO J J (cS [] 0) ⟨J,J⟩
 replace h:=ai g3 h;refine Y ?_;refine az ?_;refine Y ?_;refine au J (fun g5=> ?_) (fun g5=> ?_)
 ·replace h:=ah g5 h;refine Y ?_;obtain rfl:=ap h;exact aO J J (cS [] 0) ⟨J,J⟩
 replace h:=ai g5 h;refine Y ?_;refine az ?_;refine Y ?_;refine au J (fun g6=> ?_) (fun g6=> ?_)
 ·replace h:=ah g6 h;refine Y ?_;obtain rfl:=ap h;exact aO J J (cS [] 0) ⟨J,J⟩
 replace h:=ai g6 h;refine Y ?_;refine az ?_;refine Y ?_;refine au J (fun g7=> ?_) (fun g7=> ?_)
 ·replace h:=ah g7 h;refine Y ?_;obtain rfl:=ap h;exact aO J J (cS [] 0) ⟨J,J⟩
 replace h:=ai g7 h;refine Y ?_;obtain rfl:=ap h;exact aO J J (cS [] 0) ⟨J,J⟩
theorem rb {r:Int}: ∀v post,((fun (u:Value) (post:List Chunk)=>u=iV r∧post=[])) v post→ ∀c∈post,bV c:=by
 rintro _ _ ⟨rfl,rfl⟩;exact ac
def kk (N:Nat)(a0:Mn)(a1:Mn):Option Int:=
 (bif decide (a0.Kind=0) then (some (decide (a1.Kind=0))) else (some false)).bind fun b3=>bif b3 then ((lj N a0.N a1.N).bind fun y5=>some y5) else ((lj N a0.Kind a1.Kind).bind fun y6=>some y6)
theorem oN {N:Nat}{a0:Mn}{a1:Mn}{r:Int}(h:kk N a0 a1=some r):Okc Tryz.prog 161 [(eZ a0),(eZ a1)] ([]) (fun u post=>u=iV r∧post=[]):=by
 refine br Tryz.func161 J J ?_;simp only [aS];refine Y ?_;refine gD (aL J J) ?_;rintro _ _ ⟨B1,rfl,rfl⟩;refine gD (aL J J) ?_;rintro _ _ ⟨B2,rfl,rfl⟩;refine Y ?_;refine az ?_;refine Y ?_;obtain ⟨b3,hb3,h⟩:=aa h;refine aN 4 12 b3 ?_ ?_
 ·clear h;refine aK 8 J (fun g3=> ?_) (fun g3=> ?_)
  ·have h:=ah g3 hb3;refine Y ?_;obtain rfl:=ap h;exact ad sA (cS [0,1] 2)
  have h:=ai g3 hb3;refine Y ?_;obtain rfl:=ap h;exact ad sA (cS [0,1] 2)
 refine Y ?_;refine au J (fun g4=> ?_) (fun g4=> ?_)
 ·replace h:=ah g4 h;refine Y ?_;obtain ⟨y5,hy5,h⟩:=aa h;refine gD (al (sQ hy5) Em J (ac) rb) ?_;rintro _ _ ⟨_,⟨rfl,rfl⟩,rfl⟩;refine Y ?_;obtain rfl:=ap h;exact aO J J (cS [] 2) ⟨J,J⟩
 replace h:=ai g4 h;refine Y ?_;obtain ⟨y6,hy6,h⟩:=aa h;refine gD (al (sQ hy6) Em J (ac) rb) ?_;rintro _ _ ⟨_,⟨rfl,rfl⟩,rfl⟩;refine Y ?_;obtain rfl:=ap h;exact aO J J (cS [] 2) ⟨J,J⟩
theorem md {r:Int}: ∀v post,((fun (u:Value) (post:List Chunk)=>u=iV r∧post=[])) v post→ ∀c∈post,bV c:=by
 rintro _ _ ⟨rfl,rfl⟩;exact ac
def dR (N:Nat)(kb3:(List Mn)→Int→Option (List Mn))(a1:Int)(a2:Int)(p5:Int)(p8:(List Mn)):Option (List Mn):=
 cR (bK (p5+1)) (kb3 p8 (p5+1))
def cW (N:Nat)(kb3:(List Mn)→Int→Option (List Mn))(a1:Int)(a2:Int)(p5:Int):Nat→(List Mn)→Int→Option (List Mn)
 |0,_,_=>none
 |m9+1,p10,p11=>(bif decide (a1<p11) then ((bU p10 p11).bind fun x13=>cR (bK (p11 - 1)) ((bU p10 (p11 - 1)).bind fun x15=>(kk N x13 x15).bind fun y16=>some (decide (y16<0)))) else (some false)).bind fun b12=>bif b12 then (cR (bK (p11 - 1)) (cR (bK (p11 - 1)) ((bU p10 (p11 - 1)).bind fun x20=>(bU p10 p11).bind fun x21=>(bU p10 p11).bind fun x22=>(bU (List.set p10 p11.toNat (⟨x20.Kind,x20.N,x20.S⟩:Mn)) (p11 - 1)).bind fun x23=>cR (bK (p11 - 1)) ((cW N kb3 a1 a2 p5 m9) (List.set (List.set p10 p11.toNat (⟨x20.Kind,x20.N,x20.S⟩:Mn)) ((p11 - 1).toNat) (⟨x21.Kind,x21.N,x21.S⟩:Mn)) (p11 - 1))))) else (dR N kb3 a1 a2 p5 p10)
def cg (N:Nat)(a1:Int)(a2:Int):Nat→(List Mn)→Int→Option (List Mn)
 |0,_,_=>none
 |m3+1,p4,p5=>bif decide (p5<a2) then (cW N (cg N a1 a2 m3) a1 a2 p5 N p4 p5) else (some p4)
def cj (N:Nat)(a0:(List Mn))(a1:Int)(a2:Int):Option (List Mn):=
 cR (bK (a1+1)) (cg N a1 a2 N a0 (a1+1))
set_option maxHeartbeats 4000000 in
theorem dQ {N:Nat}{a0:(List Mn)}{a1:Int}{a2:Int}{r:(List Mn)}(h:cj N a0 a1 a2=some r):Okc Tryz.prog 230 [I A1 n1 c1,iV a1,iV a2,.func (.func 161) #[] #[]] ([gw A1 n1 c1 a0]) (fun u post=>u=.tuple #[]∧post=[gw A1 n1 c1 r]):=by
 refine br Tryz.func230 J J ?_;simp only [aS];refine Y ?_;obtain ⟨q2,h⟩:=ay h;refine gE (bE J J q2.1 q2.2) ?_;refine Y ?_;refine bN (fun m s L=> ∃p4 p5,cg N a1 a2 m p4 p5=some r∧s=[(0,I A1 n1 c1),(1,iV a1),(2,iV a2),(3,.func (.func 161) #[] #[]),(8,iV p5)]∧L=[gw A1 n1 c1 p4]) N _ _ ⟨a0,a1+1,h,J,J⟩ sA (cS [0] 1) ?_;rintro (_|m3) _ _ ⟨p4,p5,h,rfl,rfl⟩
 ·exact bg h
 rw [cg.eq_2] at h;refine az ?_;refine Y ?_;refine au J (fun g6=> ?_) (fun g6=> ?_)
 ·replace h:=ah g6 h;refine Y ?_;refine aW (fun s L=> ∃p8,dR N (cg N a1 a2 m3) a1 a2 p5 p8=some r∧s=[(0,I A1 n1 c1),(1,iV a1),(2,iV a2),(3,.func (.func 161) #[] #[]),(8,iV p5)]∧L=[gw A1 n1 c1 p8]) ?_ ?_
  ·refine Y ?_;refine bN (fun m s L=> ∃p10 p11,cW N (cg N a1 a2 m3) a1 a2 p5 m p10 p11=some r∧s=[(0,I A1 n1 c1),(1,iV a1),(2,iV a2),(3,.func (.func 161) #[] #[]),(8,iV p5),(9,iV p11)]∧L=[gw A1 n1 c1 p10]) N _ _ ⟨p4,p5,h,J,J⟩ sA (cS [0] 1) ?_;rintro (_|m9) _ _ ⟨p10,p11,h,rfl,rfl⟩
   ·exact bg h
   rw [cW.eq_2] at h;refine az ?_;refine az ?_;refine bF V _ (ae _) ?_;refine zE 0 J (aw J) ?_;refine zE 1 J (aw J) ?_;refine zE 2 J (Jk J J) ?_;refine zE 3 J (aw J) ?_;obtain ⟨b12,hb12,h⟩:=aa h;refine iL (fun l=>(((((((((((((l.setIfInBounds 4 true).setIfInBounds 5 true).setIfInBounds 6 true).setIfInBounds 7 true).setIfInBounds 8 true).setIfInBounds 9 true).setIfInBounds 10 true).setIfInBounds 11 true).setIfInBounds 12 true).setIfInBounds 13 true).setIfInBounds 14 true).setIfInBounds 15 true).setIfInBounds 16 true)) 0 34 b12 (fun rest=> ?_) ?_
   ·clear h;refine jS 21 J (fun g12=> ?_) (fun g12=> ?_)
    ·have h:=ah g12 hb12;refine dZ 4 J V (aw J) (bq g12 J) J ?_;refine dZ 5 J V (aw J) (bq g12 J) J ?_;refine dZ 6 J V (aw J) (bq g12 J) J ?_;obtain ⟨x13,hx13,h⟩:=aa h;obtain ⟨lx13,ux13,hx13⟩:=aI hx13;refine kK 7 J V (bp 0 J aA J J LT ck lx13 ux13) (bq g12 J) J ?_;refine kK 8 J V (bj (us:=[iV x13.Kind,iV x13.N,.string x13.S]) 0 J aA J hx13 bB (fun _ _ _ h=>by rw [show _=_ from h];rfl)) (bq g12 J) J ?_;refine dZ 9 J V (aw J) (bq g12 J) J ?_;refine dZ 10 J V (aw J) (bq g12 J) J ?_;obtain ⟨q14,h⟩:=ay h;refine dZ 11 J V (dl J J q14.1 q14.2) (bq g12 J) J ?_;obtain ⟨x15,hx15,h⟩:=aa h;obtain ⟨lx15,ux15,hx15⟩:=aI hx15;refine kK 12 J V (bp 0 J aA J J LT ck lx15 ux15) (bq g12 J) J ?_;refine kK 13 J V (bj (us:=[iV x15.Kind,iV x15.N,.string x15.S]) 0 J aA J hx15 bB (fun _ _ _ h=>by rw [show _=_ from h];rfl)) (bq g12 J) J ?_;obtain ⟨y16,hy16,h⟩:=aa h;refine ot 14 J V (dM (oN hy16) xI J J J (ac) md) J (bq g12 J) J ?_;rintro _ _ ⟨_,⟨rfl,rfl⟩,rfl⟩;refine ⟨_,ae _,ae _,?_⟩;refine dZ 15 J V (Ag J J) (bq g12 J) J ?_;refine zE 16 J (eh g12 J J) ?_;obtain rfl:=ap h
     exact ft rest (cY J (aF (aF (aF (aF (aF (aF (aF (aF (aF (aF (aF (aF (aF bX J) J) J) J) J) J) J) J) J) J) J) J) J)) (ae _) (ae _)
    have h:=ai g12 hb12;refine cC 4 J V (fq g12 J) J ?_;refine cC 5 J V (fq g12 J) J ?_;refine cC 6 J V (fq g12 J) J ?_;refine cC 7 J V (fq g12 J) J ?_;refine cC 8 J V (fq g12 J) J ?_;refine cC 9 J V (fq g12 J) J ?_;refine cC 10 J V (fq g12 J) J ?_;refine cC 11 J V (fq g12 J) J ?_;refine cC 12 J V (fq g12 J) J ?_;refine cC 13 J V (fq g12 J) J ?_;refine cC 14 J V (fq g12 J) J ?_;refine cC 15 J V (fq g12 J) J ?_;refine zE 16 J (ei g12 J J) ?_;obtain rfl:=ap h;exact ft rest (cY J (aF (aF (aF (aF (aF (aF (aF (aF (aF (aF (aF (aF (aF bX J) J) J) J) J) J) J) J) J) J) J) J) J)) (ae _) (ae _)
   refine bz V ?_;refine eg ?_;refine au J (fun g17=> ?_) (fun g17=> ?_)
   ·replace h:=ah g17 h;refine Y ?_;refine az ?_;refine dV ?_;obtain ⟨q18,h⟩:=ay h;obtain ⟨q19,h⟩:=ay h;obtain ⟨x20,hx20,h⟩:=aa h;obtain ⟨lx20,ux20,hx20⟩:=aI hx20;obtain ⟨x21,hx21,h⟩:=aa h;obtain ⟨lx21,ux21,hx21⟩:=aI hx21;refine f3 (t:=[(0,I A1 n1 c1),(1,iV a1),(2,iV a2),(3,.func (.func 161) #[] #[]),(8,iV p5),(9,iV p11)]) ?_ jd (ae _)
    refine fX V 14 [2,3,4] [0,1,2,4,9,13] [37,38,39,40,41,42,43,44,45,46,47,48,49,50] [[],[],[],[],[3],[],[],[6],[5,7],[8],[],[],[10,11],[12]] [aV (I A1 n1 c1),
 aV (iV p11),
 aV (I A1 n1 c1),
 aV (iV p11),
 aV (iV (p11 - 1)),
 aV (I A1 n1 c1),
 aV (iV p11),
 aV (iV (p11 - 1)),
 aV (eA (I A1 n1 c1) ((p11 - 1).toNat) 3 0),
 aV (.agg #[iV x20.Kind,iV x20.N,.string x20.S]),
 aV (I A1 n1 c1),
 aV (iV p11),
 aV (eA (I A1 n1 c1) p11.toNat 3 0),
 aV (.agg #[iV x21.Kind,iV x21.N,.string x21.S])] [] (ae _) (d6 rfl (d6 rfl (d6 rfl iY))) V rfl rfl ?_ ?_ ?_
    ·refine d5 J ?_ ?_
     ·exact js (aw J) J (bh J (ae _))
     refine d5 J ?_ ?_
     ·exact js (aw J) J (bh J (ae _))
     refine d5 J ?_ ?_
     ·exact js (dl J J q18.1 q18.2) J (bh J (ae _))
     exact iX
    ·refine am J ?_ ?_
     ·exact fa (bj (us:=[iV x21.Kind,iV x21.N,.string x21.S]) 0 J aA J hx21 bB (fun _ _ _ h=>by rw [show _=_ from h];rfl)) J (bh J (ae _))
     refine am J ?_ ?_
     ·exact fa (bp 0 J aA J J LT ck lx21 ux21) J (bh J (ae _))
     refine am J ?_ ?_
     ·exact bW (aw J) J (bh J (ae _))
     refine am J ?_ ?_
     ·exact bW (aw J) J (bh J (ae _))
     refine am J ?_ ?_
     ·exact fa (bj (us:=[iV x20.Kind,iV x20.N,.string x20.S]) 0 J aA J hx20 bB (fun _ _ _ h=>by rw [show _=_ from h];rfl)) J (bh J (ae _))
     refine am J ?_ ?_
     ·exact fa (bp 0 J aA J J LT ck lx20 ux20) J (bh J (ae _))
     refine am J ?_ ?_
     ·exact bW (dl J J q19.1 q19.2) J (bh J (ae _))
     refine am J ?_ ?_
     ·exact bW (aw J) J (bh J (ae _))
     refine am J ?_ ?_
     ·exact bW (aw J) J (bh J (ae _))
     refine am J ?_ ?_
     ·exact bW (dl J J q18.1 q18.2) J (bh J (ae _))
     refine am J ?_ ?_
     ·exact bW (aw J) J (bh J (ae _))
     refine am J ?_ ?_
     ·exact bW (aw J) J (bh J (ae _))
     refine am J ?_ ?_
     ·exact bW (aw J) J (bh J (ae _))
     refine am J ?_ ?_
     ·exact bW (aw J) J (bh J (ae _))
     exact dJ
    refine lM (t:=[(37,I A1 n1 c1),(38,iV p11),(39,I A1 n1 c1),(41,iV (p11 - 1)),(46,.agg #[iV x20.Kind,iV x20.N,.string x20.S]),(50,.agg #[iV x21.Kind,iV x21.N,.string x21.S]),(0,I A1 n1 c1),(1,iV a1),(2,iV a2),(3,.func (.func 161) #[] #[]),(8,iV p5),(9,iV p11)]) (L':=[gw A1 n1 c1 p10]) ?_ jd (ae _);obtain ⟨x22,hx22,h⟩:=aa h;obtain ⟨lx22,ux22,hx22⟩:=aI hx22;refine CP 14 J V (bp 0 J aA J J LT ck lx22 ux22) J J J ?_;refine lm 15 J V (cZ (us:=[iV x20.Kind,iV x20.N,.string x20.S]) (z:=(⟨x20.Kind,x20.N,x20.S⟩:Mn)) 0 J J J J ck J (toNat_lt lx22 ux22) J (fun S w vs xk hk hr ho=>by obtain rfl:=Option.some.inj (hk.symm.trans hx22);rw [show _=_ from hr];rfl)) J J ?_;rintro _ _ rfl;obtain ⟨x23,hx23,h⟩:=aa h;obtain ⟨lx23,ux23,hx23⟩:=aI hx23;refine CP 16 J V (bp 0 J aA J J LT ck lx23 ux23) J J J ?_;refine lm 17 J V (cZ (us:=[iV x21.Kind,iV x21.N,.string x21.S]) (z:=(⟨x21.Kind,x21.N,x21.S⟩:Mn)) 0 J J J J ck J (toNat_lt lx23 ux23) J (fun S w vs xk hk hr ho=>by obtain rfl:=Option.some.inj (hk.symm.trans hx23);rw [show _=_ from hr];rfl)) J J ?_;rintro _ _ rfl;refine jb V ?_;refine Y ?_;obtain ⟨q24,h⟩:=ay h;refine gE (dl J J q24.1 q24.2) ?_;refine Y ?_
    exact ⟨m9,_,_,Mw _,⟨List.set (List.set p10 p11.toNat (⟨x20.Kind,x20.N,x20.S⟩:Mn)) ((p11 - 1).toNat) (⟨x21.Kind,x21.N,x21.S⟩:Mn),p11 - 1,h,J,J⟩,sA,cS [0] 1⟩
   replace h:=ai g17 h;refine Y ?_;exact ⟨_,_,⟨p10,h,J,J⟩,sA,cS [0] 1⟩
  rintro _ _ ⟨p8,h,rfl,rfl⟩;refine Y ?_;obtain ⟨q25,h⟩:=ay h;refine gE (bE J J q25.1 q25.2) ?_;refine Y ?_;exact ⟨m3,_,_,Mw _,⟨p8,p5+1,h,J,J⟩,sA,cS [0] 1⟩
 replace h:=ai g6 h;refine Y ?_;obtain rfl:=ap h;exact ez J (cS [0] 1) ⟨J,J⟩
def du (N:Nat)(a1:Int)(a2:Int)(a3:Int):Nat→(List Mn)→Int→Option (List Mn)
 |0,_,_=>none
 |m2+1,p3,p4=>bif decide (p4<a3) then (cR (bK (a1+p4)) (cR (bK (a2+p4)) (cR (bK (a2+p4)) ((bU p3 (a2+p4)).bind fun x9=>cR (bK (a1+p4)) ((bU p3 (a1+p4)).bind fun x11=>(bU p3 (a1+p4)).bind fun x12=>(bU (List.set p3 ((a1+p4).toNat) (⟨x9.Kind,x9.N,x9.S⟩:Mn)) (a2+p4)).bind fun x13=>cR (bK (p4+1)) ((du N a1 a2 a3 m2) (List.set (List.set p3 ((a1+p4).toNat) (⟨x9.Kind,x9.N,x9.S⟩:Mn)) ((a2+p4).toNat) (⟨x11.Kind,x11.N,x11.S⟩:Mn)) (p4+1))))))) else (some p3)
def cV (N:Nat)(a0:(List Mn))(a1:Int)(a2:Int)(a3:Int):Option (List Mn):=
 du N a1 a2 a3 N a0 0
theorem eD {N:Nat}{a0:(List Mn)}{a1:Int}{a2:Int}{a3:Int}{r:(List Mn)}(h:cV N a0 a1 a2 a3=some r):Okc Tryz.prog 254 [I A1 n1 c1,iV a1,iV a2,iV a3,.func (.func 161) #[] #[]] ([gw A1 n1 c1 a0]) (fun u post=>u=.tuple #[]∧post=[gw A1 n1 c1 r]):=by
 refine br Tryz.func254 J J ?_;simp only [aS];refine Y ?_;refine bN (fun m s L=> ∃p3 p4,du N a1 a2 a3 m p3 p4=some r∧s=[(0,I A1 n1 c1),(1,iV a1),(2,iV a2),(3,iV a3),(10,iV p4)]∧L=[gw A1 n1 c1 p3]) N _ _ ⟨a0,0,h,J,J⟩ sA (cS [0] 1) ?_;rintro (_|m2) _ _ ⟨p3,p4,h,rfl,rfl⟩
 ·exact bg h
 rw [du.eq_2] at h;refine az ?_;refine Y ?_;refine au J (fun g5=> ?_) (fun g5=> ?_)
 ·replace h:=ah g5 h;refine Y ?_;refine az ?_;refine dV ?_;obtain ⟨q6,h⟩:=ay h;obtain ⟨q7,h⟩:=ay h;obtain ⟨q8,h⟩:=ay h;obtain ⟨x9,hx9,h⟩:=aa h;obtain ⟨lx9,ux9,hx9⟩:=aI hx9;obtain ⟨q10,h⟩:=ay h;obtain ⟨x11,hx11,h⟩:=aa h;obtain ⟨lx11,ux11,hx11⟩:=aI hx11;refine f3 (t:=[(0,I A1 n1 c1),(1,iV a1),(2,iV a2),(3,iV a3),(10,iV p4)]) ?_ jd (ae _)
  refine fX V 20 [4,5,6,7] [0,3,4,7,13,19] [16,17,18,19,20,21,22,23,24,25,26,27,28,29,30,31,32,33,34,35] [[],[],[],[1,2],[],[],[],[5,6],[],[],[],[9,10],[8,11],[12],[],[],[],[15,16],[14,17],[18]] [aV (I A1 n1 c1),
 aV (iV a1),
 aV (iV p4),
 aV (iV (a1+p4)),
 aV (I A1 n1 c1),
 aV (iV a2),
 aV (iV p4),
 aV (iV (a2+p4)),
 aV (I A1 n1 c1),
 aV (iV a2),
 aV (iV p4),
 aV (iV (a2+p4)),
 aV (eA (I A1 n1 c1) ((a2+p4).toNat) 3 0),
 aV (.agg #[iV x9.Kind,iV x9.N,.string x9.S]),
 aV (I A1 n1 c1),
 aV (iV a1),
 aV (iV p4),
 aV (iV (a1+p4)),
 aV (eA (I A1 n1 c1) ((a1+p4).toNat) 3 0),
 aV (.agg #[iV x11.Kind,iV x11.N,.string x11.S])] [] (ae _) (d6 rfl (d6 rfl (d6 rfl (d6 rfl iY)))) V rfl rfl ?_ ?_ ?_
  ·refine d5 J ?_ ?_
   ·exact js (aw J) J (bh J (ae _))
   refine d5 J ?_ ?_
   ·exact js (aw J) J (bh J (ae _))
   refine d5 J ?_ ?_
   ·exact js (aw J) J (bh J (ae _))
   refine d5 J ?_ ?_
   ·exact js (bE J J q7.1 q7.2) J (bh J (ae _))
   exact iX
  ·refine am J ?_ ?_
   ·exact fa (bj (us:=[iV x11.Kind,iV x11.N,.string x11.S]) 0 J aA J hx11 bB (fun _ _ _ h=>by rw [show _=_ from h];rfl)) J (bh J (ae _))
   refine am J ?_ ?_
   ·exact fa (bp 0 J aA J J LT ck lx11 ux11) J (bh J (ae _))
   refine am J ?_ ?_
   ·exact bW (bE J J q10.1 q10.2) J (bh J (ae _))
   refine am J ?_ ?_
   ·exact bW (aw J) J (bh J (ae _))
   refine am J ?_ ?_
   ·exact bW (aw J) J (bh J (ae _))
   refine am J ?_ ?_
   ·exact bW (aw J) J (bh J (ae _))
   refine am J ?_ ?_
   ·exact fa (bj (us:=[iV x9.Kind,iV x9.N,.string x9.S]) 0 J aA J hx9 bB (fun _ _ _ h=>by rw [show _=_ from h];rfl)) J (bh J (ae _))
   refine am J ?_ ?_
   ·exact fa (bp 0 J aA J J LT ck lx9 ux9) J (bh J (ae _))
   refine am J ?_ ?_
   ·exact bW (bE J J q8.1 q8.2) J (bh J (ae _))
   refine am J ?_ ?_
   ·exact bW (aw J) J (bh J (ae _))
   refine am J ?_ ?_
   ·exact bW (aw J) J (bh J (ae _))
   refine am J ?_ ?_
   ·exact bW (aw J) J (bh J (ae _))
   refine am J ?_ ?_
   ·exact bW (bE J J q7.1 q7.2) J (bh J (ae _))
   refine am J ?_ ?_
   ·exact bW (aw J) J (bh J (ae _))
   refine am J ?_ ?_
   ·exact bW (aw J) J (bh J (ae _))
   refine am J ?_ ?_
   ·exact bW (aw J) J (bh J (ae _))
   refine am J ?_ ?_
   ·exact bW (bE J J q6.1 q6.2) J (bh J (ae _))
   refine am J ?_ ?_
   ·exact bW (aw J) J (bh J (ae _))
   refine am J ?_ ?_
   ·exact bW (aw J) J (bh J (ae _))
   refine am J ?_ ?_
   ·exact bW (aw J) J (bh J (ae _))
   exact dJ
  refine lM (t:=[(16,I A1 n1 c1),(19,iV (a1+p4)),(20,I A1 n1 c1),(23,iV (a2+p4)),(29,.agg #[iV x9.Kind,iV x9.N,.string x9.S]),(35,.agg #[iV x11.Kind,iV x11.N,.string x11.S]),(0,I A1 n1 c1),(1,iV a1),(2,iV a2),(3,iV a3),(10,iV p4)]) (L':=[gw A1 n1 c1 p3]) ?_ jd (ae _);obtain ⟨x12,hx12,h⟩:=aa h;obtain ⟨lx12,ux12,hx12⟩:=aI hx12;refine CP 20 J V (bp 0 J aA J J LT ck lx12 ux12) J J J ?_;refine lm 21 J V (cZ (us:=[iV x9.Kind,iV x9.N,.string x9.S]) (z:=(⟨x9.Kind,x9.N,x9.S⟩:Mn)) 0 J J J J ck J (toNat_lt lx12 ux12) J (fun S w vs xk hk hr ho=>by obtain rfl:=Option.some.inj (hk.symm.trans hx12);rw [show _=_ from hr];rfl)) J J ?_;rintro _ _ rfl;obtain ⟨x13,hx13,h⟩:=aa h;obtain ⟨lx13,ux13,hx13⟩:=aI hx13;refine CP 22 J V (bp 0 J aA J J LT ck lx13 ux13) J J J ?_;refine lm 23 J V (cZ (us:=[iV x11.Kind,iV x11.N,.string x11.S]) (z:=(⟨x11.Kind,x11.N,x11.S⟩:Mn)) 0 J J J J ck J (toNat_lt lx13 ux13) J (fun S w vs xk hk hr ho=>by obtain rfl:=Option.some.inj (hk.symm.trans hx13);rw [show _=_ from hr];rfl)) J J ?_;rintro _ _ rfl;refine jb V ?_;refine Y ?_;obtain ⟨q14,h⟩:=ay h;refine gE (bE J J q14.1 q14.2) ?_;refine Y ?_;exact ⟨m2,_,_,Mw _,⟨List.set (List.set p3 ((a1+p4).toNat) (⟨x9.Kind,x9.N,x9.S⟩:Mn)) ((a2+p4).toNat) (⟨x11.Kind,x11.N,x11.S⟩:Mn),p4+1,h,J,J⟩,sA,cS [0] 1⟩
 replace h:=ai g5 h;refine Y ?_;obtain rfl:=ap h;exact ez J (cS [0] 1) ⟨J,J⟩
def fB (N:Nat)(a2:Int)(p5:(List Mn))(p6:Int):Option (List Mn):=
 cR (bK (a2 - p6)) ((cV N p5 (a2 - p6) a2 p6).bind fun y22=>some y22)
def df (N:Nat)(a2:Int):Nat→(List Mn)→Int→Int→Option (List Mn)
 |0,_,_,_=>none
 |m7+1,p8,p9,p10=>bif !decide (p9=p10) then (bif decide (p10<p9) then (cR (bK (a2 - p9)) ((cV N p8 (a2 - p9) a2 p10).bind fun y14=>cR (bK (p9 - p10)) ((df N a2 m7) y14 (p9 - p10) p10))) else (cR (bK (a2 - p9)) (cR (bK (a2+p10)) (cR (bK ((a2+p10) - p9)) ((cV N p8 (a2 - p9) ((a2+p10) - p9) p9).bind fun y19=>cR (bK (p10 - p9)) ((df N a2 m7) y19 p9 (p10 - p9))))))) else (fB N a2 p8 p9)
def d4 (N:Nat)(a0:(List Mn))(a1:Int)(a2:Int)(a3:Int):Option (List Mn):=
 cR (bK (a2 - a1)) (cR (bK (a3 - a2)) (df N a2 N a0 (a2 - a1) (a3 - a2)))
set_option maxHeartbeats 4000000 in
theorem ny {N:Nat}{a0:(List Mn)}{a1:Int}{a2:Int}{a3:Int}{r:(List Mn)}(h:d4 N a0 a1 a2 a3=some r):Okc Tryz.prog 243 [I A1 n1 c1,iV a1,iV a2,iV a3,.func (.func 161) #[] #[]] ([gw A1 n1 c1 a0]) (fun u post=>u=.tuple #[]∧post=[gw A1 n1 c1 r]):=by
 refine br Tryz.func243 J J ?_;simp only [aS];refine Y ?_;obtain ⟨q2,h⟩:=ay h;refine gE (dl J J q2.1 q2.2) ?_;refine Y ?_;obtain ⟨q3,h⟩:=ay h;refine gE (dl J J q3.1 q3.2) ?_;refine Y ?_;refine aW (fun s L=> ∃p5 p6,fB N a2 p5 p6=some r∧s=[(0,I A1 n1 c1),(2,iV a2),(4,.func (.func 161) #[] #[]),(10,iV p6)]∧L=[gw A1 n1 c1 p5]) ?_ ?_
 ·refine dV ?_;refine bN (fun m s L=> ∃p8 p9 p10,df N a2 m p8 p9 p10=some r∧s=[(0,I A1 n1 c1),(2,iV a2),(4,.func (.func 161) #[] #[]),(10,iV p9),(11,iV p10)]∧L=[gw A1 n1 c1 p8]) N _ _ ⟨a0,a2 - a1,a3 - a2,h,J,J⟩ sA (cS [0] 1) ?_;rintro (_|m7) _ _ ⟨p8,p9,p10,h,rfl,rfl⟩
  ·exact bg h
  rw [df.eq_2] at h;refine az ?_;refine Y ?_;refine au J (fun g11=> ?_) (fun g11=> ?_)
  ·replace h:=ah g11 h;refine Y ?_;refine au J (fun g12=> ?_) (fun g12=> ?_)
   ·replace h:=ah g12 h;refine Y ?_;obtain ⟨q13,h⟩:=ay h;refine gE (dl J J q13.1 q13.2) ?_;refine Y ?_;obtain ⟨y14,hy14,h⟩:=aa h;refine gD (aE (eD hy14) Bm J (aC [] [0] [] 1 J)) ?_;rintro _ _ ⟨_,⟨rfl,rfl⟩,rfl⟩;refine Y ?_;obtain ⟨q15,h⟩:=ay h;refine gE (dl J J q15.1 q15.2) ?_;refine Y ?_;exact ⟨m7,_,_,Mw _,⟨y14,p9 - p10,p10,h,J,J⟩,sA,cS [0] 1⟩
   replace h:=ai g12 h;refine Y ?_;obtain ⟨q16,h⟩:=ay h;refine gE (dl J J q16.1 q16.2) ?_;refine Y ?_;obtain ⟨q17,h⟩:=ay h;refine gE (bE J J q17.1 q17.2) ?_;refine Y ?_;obtain ⟨q18,h⟩:=ay h;refine gE (dl J J q18.1 q18.2) ?_;refine Y ?_;obtain ⟨y19,hy19,h⟩:=aa h;refine gD (aE (eD hy19) Bm J (aC [] [0] [] 1 J)) ?_;rintro _ _ ⟨_,⟨rfl,rfl⟩,rfl⟩;refine Y ?_;obtain ⟨q20,h⟩:=ay h;refine gE (dl J J q20.1 q20.2) ?_;refine Y ?_;exact ⟨m7,_,_,Mw _,⟨y19,p9,p10 - p9,h,J,J⟩,sA,cS [0] 1⟩
  replace h:=ai g11 h;refine Y ?_;exact ⟨_,_,⟨p8,p9,h,J,J⟩,sA,cS [0] 1⟩
 rintro _ _ ⟨p5,p6,h,rfl,rfl⟩;refine Y ?_;obtain ⟨q21,h⟩:=ay h;refine gE (dl J J q21.1 q21.2) ?_;refine Y ?_;obtain ⟨y22,hy22,h⟩:=aa h;refine gD (aE (eD hy22) Bm J (aC [] [0] [] 1 J)) ?_;rintro _ _ ⟨_,⟨rfl,rfl⟩,rfl⟩;refine bL ?_;refine jT ?_;obtain rfl:=ap h;exact ez J (cS [0] 1) ⟨J,J⟩
def cM (N:Nat)(kb2:(List Mn)→Int→Int→Int→Option (List Mn))(a3:Int)(a1:Int)(a2:Int)(p65:Int)(p84:(List Mn)):Option (List Mn):=
 (bif decide ((IntKind.i64.wrap ((IntKind.u64.wrap (a1+a3)).fdiv (2 ^ 1)))<((IntKind.i64.wrap ((IntKind.u64.wrap (a1+a3)).fdiv (2 ^ 1)))+a2) - p65) then (some (decide (((IntKind.i64.wrap ((IntKind.u64.wrap (a1+a3)).fdiv (2 ^ 1)))+a2) - p65<a3))) else (some false)).bind fun b88=>bif b88 then ((kb2 p84 (IntKind.i64.wrap ((IntKind.u64.wrap (a1+a3)).fdiv (2 ^ 1))) (((IntKind.i64.wrap ((IntKind.u64.wrap (a1+a3)).fdiv (2 ^ 1)))+a2) - p65) a3).bind fun y90=>some y90) else (some p84)
def cN (N:Nat)(kb2:(List Mn)→Int→Int→Int→Option (List Mn))(a1:Int)(a3:Int)(p65:Int)(a2:Int)(p79:(List Mn)):Option (List Mn):=
 (bif decide (a1<p65) then (some (decide (p65<(IntKind.i64.wrap ((IntKind.u64.wrap (a1+a3)).fdiv (2 ^ 1)))))) else (some false)).bind fun b85=>bif b85 then ((kb2 p79 a1 p65 (IntKind.i64.wrap ((IntKind.u64.wrap (a1+a3)).fdiv (2 ^ 1)))).bind fun y87=>cM N kb2 a3 a1 a2 p65 y87) else (cM N kb2 a3 a1 a2 p65 p79)
def dq (N:Nat)(kb2:(List Mn)→Int→Int→Int→Option (List Mn))(a1:Int)(a2:Int)(a3:Int)(a0:(List Mn))(p65:Int):Option (List Mn):=
 cR (bK (((IntKind.i64.wrap ((IntKind.u64.wrap (a1+a3)).fdiv (2 ^ 1)))+a2) - p65)) ((bif decide (p65<a2) then (some (decide (a2<((IntKind.i64.wrap ((IntKind.u64.wrap (a1+a3)).fdiv (2 ^ 1)))+a2) - p65))) else (some false)).bind fun b80=>bif b80 then ((d4 N a0 p65 a2 (((IntKind.i64.wrap ((IntKind.u64.wrap (a1+a3)).fdiv (2 ^ 1)))+a2) - p65)).bind fun y82=>cN N kb2 a1 a3 p65 a2 y82) else (cN N kb2 a1 a3 p65 a2 a0))
def cK (N:Nat)(kb2:(List Mn)→Int→Int→Int→Option (List Mn))(a1:Int)(a2:Int)(a3:Int)(a0:(List Mn)):Nat→Int→Int→Option (List Mn)
 |0,_,_=>none
 |m66+1,p67,p68=>bif decide (p67<p68) then (cR (bK (p67+p68)) (cR (bK ((((IntKind.i64.wrap ((IntKind.u64.wrap (a1+a3)).fdiv (2 ^ 1)))+a2) - 1) - (IntKind.i64.wrap ((IntKind.u64.wrap (p67+p68)).fdiv (2 ^ 1))))) ((bU a0 ((((IntKind.i64.wrap ((IntKind.u64.wrap (a1+a3)).fdiv (2 ^ 1)))+a2) - 1) - (IntKind.i64.wrap ((IntKind.u64.wrap (p67+p68)).fdiv (2 ^ 1))))).bind fun x72=>(bU a0 (IntKind.i64.wrap ((IntKind.u64.wrap (p67+p68)).fdiv (2 ^ 1)))).bind fun x73=>(kk N x72 x73).bind fun y74=>bif !(decide (y74<0)) then (cR (bK ((IntKind.i64.wrap ((IntKind.u64.wrap (p67+p68)).fdiv (2 ^ 1)))+1)) ((cK N kb2 a1 a2 a3 a0 m66) ((IntKind.i64.wrap ((IntKind.u64.wrap (p67+p68)).fdiv (2 ^ 1)))+1) p68)) else ((cK N kb2 a1 a2 a3 a0 m66) p67 (IntKind.i64.wrap ((IntKind.u64.wrap (p67+p68)).fdiv (2 ^ 1))))))) else (dq N kb2 a1 a2 a3 a0 p67)
def dr (N:Nat)(kb2:(List Mn)→Int→Int→Int→Option (List Mn))(a1:Int)(a2:Int)(a3:Int)(a0:(List Mn))(p59:Int)(p60:Int):Option (List Mn):=
 cR (bK (((IntKind.i64.wrap ((IntKind.u64.wrap (a1+a3)).fdiv (2 ^ 1)))+a2) - 1)) (cK N kb2 a1 a2 a3 a0 N p59 p60)
def dt (N:Nat)(kb2:(List Mn)→Int→Int→Int→Option (List Mn))(a1:Int)(a2:Int)(a3:Int)(a0:(List Mn)):Option (List Mn):=
 cR (bK (a1+a3)) (cR (bK ((IntKind.i64.wrap ((IntKind.u64.wrap (a1+a3)).fdiv (2 ^ 1)))+a2)) (bif decide ((IntKind.i64.wrap ((IntKind.u64.wrap (a1+a3)).fdiv (2 ^ 1)))<a2) then (cR (bK (((IntKind.i64.wrap ((IntKind.u64.wrap (a1+a3)).fdiv (2 ^ 1)))+a2) - a3)) (dr N kb2 a1 a2 a3 a0 (((IntKind.i64.wrap ((IntKind.u64.wrap (a1+a3)).fdiv (2 ^ 1)))+a2) - a3) (IntKind.i64.wrap ((IntKind.u64.wrap (a1+a3)).fdiv (2 ^ 1))))) else (dr N kb2 a1 a2 a3 a0 a1 a2)))
def dn (N:Nat)(kb2:(List Mn)→Int→Int→Int→Option (List Mn))(a1:Int)(a2:Int)(a3:Int)(p34:Int):Nat→(List Mn)→Int→Option (List Mn)
 |0,_,_=>none
 |m45+1,p46,p47=>bif decide (p34<p47) then (cR (bK (p47 - 1)) (cR (bK (p47 - 1)) ((bU p46 (p47 - 1)).bind fun x51=>(bU p46 p47).bind fun x52=>(bU p46 p47).bind fun x53=>(bU (List.set p46 p47.toNat (⟨x51.Kind,x51.N,x51.S⟩:Mn)) (p47 - 1)).bind fun x54=>cR (bK (p47 - 1)) ((dn N kb2 a1 a2 a3 p34 m45) (List.set (List.set p46 p47.toNat (⟨x51.Kind,x51.N,x51.S⟩:Mn)) ((p47 - 1).toNat) (⟨x52.Kind,x52.N,x52.S⟩:Mn)) (p47 - 1))))) else (some p46)
def gN (N:Nat)(kb2:(List Mn)→Int→Int→Int→Option (List Mn))(a1:Int)(a2:Int)(a3:Int)(a0:(List Mn))(p34:Int):Option (List Mn):=
 dn N kb2 a1 a2 a3 p34 N a0 a2
def cL (N:Nat)(kb2:(List Mn)→Int→Int→Int→Option (List Mn))(a1:Int)(a2:Int)(a3:Int)(a0:(List Mn)):Nat→Int→Int→Option (List Mn)
 |0,_,_=>none
 |m35+1,p36,p37=>bif decide (p36<p37) then (cR (bK (p36+p37)) ((bU a0 a2).bind fun x40=>(bU a0 (IntKind.i64.wrap ((IntKind.u64.wrap (p36+p37)).fdiv (2 ^ 1)))).bind fun x41=>(kk N x40 x41).bind fun y42=>bif !(decide (y42<0)) then (cR (bK ((IntKind.i64.wrap ((IntKind.u64.wrap (p36+p37)).fdiv (2 ^ 1)))+1)) ((cL N kb2 a1 a2 a3 a0 m35) ((IntKind.i64.wrap ((IntKind.u64.wrap (p36+p37)).fdiv (2 ^ 1)))+1) p37)) else ((cL N kb2 a1 a2 a3 a0 m35) p36 (IntKind.i64.wrap ((IntKind.u64.wrap (p36+p37)).fdiv (2 ^ 1)))))) else (gN N kb2 a1 a2 a3 a0 p36)
def dC (N:Nat)(kb2:(List Mn)→Int→Int→Int→Option (List Mn))(a1:Int)(a2:Int)(a3:Int)(a0:(List Mn)):Option (List Mn):=
 cR (bK (a3 - a2)) (bif decide (a3 - a2=1) then (cL N kb2 a1 a2 a3 a0 N a1 a2) else (dt N kb2 a1 a2 a3 a0))
def dp (N:Nat)(kb2:(List Mn)→Int→Int→Int→Option (List Mn))(a1:Int)(a2:Int)(a3:Int)(p7:Int):Nat→(List Mn)→Int→Option (List Mn)
 |0,_,_=>none
 |m18+1,p19,p20=>cR (bK (p7 - 1)) (bif decide (p20<p7 - 1) then (cR (bK (p20+1)) (cR (bK (p20+1)) ((bU p19 (p20+1)).bind fun x25=>(bU p19 p20).bind fun x26=>(bU p19 p20).bind fun x27=>(bU (List.set p19 p20.toNat (⟨x25.Kind,x25.N,x25.S⟩:Mn)) (p20+1)).bind fun x28=>cR (bK (p20+1)) ((dp N kb2 a1 a2 a3 p7 m18) (List.set (List.set p19 p20.toNat (⟨x25.Kind,x25.N,x25.S⟩:Mn)) ((p20+1).toNat) (⟨x26.Kind,x26.N,x26.S⟩:Mn)) (p20+1))))) else (some p19))
def ij (N:Nat)(kb2:(List Mn)→Int→Int→Int→Option (List Mn))(a1:Int)(a2:Int)(a3:Int)(a0:(List Mn))(p7:Int):Option (List Mn):=
 dp N kb2 a1 a2 a3 p7 N a0 a1
def cz (N:Nat)(kb2:(List Mn)→Int→Int→Int→Option (List Mn))(a1:Int)(a2:Int)(a3:Int)(a0:(List Mn)):Nat→Int→Int→Option (List Mn)
 |0,_,_=>none
 |m8+1,p9,p10=>bif decide (p9<p10) then (cR (bK (p9+p10)) ((bU a0 (IntKind.i64.wrap ((IntKind.u64.wrap (p9+p10)).fdiv (2 ^ 1)))).bind fun x13=>(bU a0 a1).bind fun x14=>(kk N x13 x14).bind fun y15=>bif decide (y15<0) then (cR (bK ((IntKind.i64.wrap ((IntKind.u64.wrap (p9+p10)).fdiv (2 ^ 1)))+1)) ((cz N kb2 a1 a2 a3 a0 m8) ((IntKind.i64.wrap ((IntKind.u64.wrap (p9+p10)).fdiv (2 ^ 1)))+1) p10)) else ((cz N kb2 a1 a2 a3 a0 m8) p9 (IntKind.i64.wrap ((IntKind.u64.wrap (p9+p10)).fdiv (2 ^ 1)))))) else (ij N kb2 a1 a2 a3 a0 p9)
def aQ (N:Nat):Nat→(List Mn)→Int→Int→Int→Option (List Mn)
 |0,_,_,_,_=>none
 |m2+1,a0,a1,a2,a3=>cR (bK (a2 - a1)) (bif decide (a2 - a1=1) then (cz N (aQ N m2) a1 a2 a3 a0 N a2 a3) else (dC N (aQ N m2) a1 a2 a3 a0))
theorem gM {N m2:Nat}{a0:(List Mn)}{a1:Int}{a2:Int}{a3:Int}:aQ N (m2+1) a0 a1 a2 a3=cR (bK (a2 - a1)) (bif decide (a2 - a1=1) then (cz N (aQ N m2) a1 a2 a3 a0 N a2 a3) else (dC N (aQ N m2) a1 a2 a3 a0)):=rfl
def bY (N:Nat)(a0:(List Mn))(a1:Int)(a2:Int)(a3:Int):Option (List Mn):=aQ N N a0 a1 a2 a3
set_option maxHeartbeats 4000000 in
theorem lQ {N:Nat}: ∀(m0:Nat) {a0:(List Mn)} {a1:Int} {a2:Int} {a3:Int} {r:(List Mn)} (h:aQ N m0 a0 a1 a2 a3=some r) {A1:Option Addr} {n1 c1:Nat},Okc Tryz.prog 231 [I A1 n1 c1,iV a1,iV a2,iV a3,.func (.func 161) #[] #[]] ([gw A1 n1 c1 a0]) (fun u post=>u=.tuple #[]∧post=[gw A1 n1 c1 r]):=by
 intro m0
 induction m0 with
 |zero=>intro a0 a1 a2 a3 r h A1 n1 c1;exact bg h
 | succ m2 ih=>
  intro a0 a1 a2 a3 r h A1 n1 c1;rw [gM] at h;refine br Tryz.func231 J J ?_;simp only [aS];refine aW (fun s L=>dC N (aQ N m2) a1 a2 a3 a0=some r∧s=[(0,I A1 n1 c1),(1,iV a1),(2,iV a2),(3,iV a3),(4,.func (.func 161) #[] #[])]∧L=[gw A1 n1 c1 a0]) ?_ ?_
  ·refine Y ?_;obtain ⟨q4,h⟩:=ay h;refine gE (dl J J q4.1 q4.2) ?_;refine Y ?_;refine au J (fun g5=> ?_) (fun g5=> ?_)
   ·replace h:=ah g5 h;refine Y ?_;refine aW (fun s L=> ∃p7,ij N (aQ N m2) a1 a2 a3 a0 p7=some r∧s=[(0,I A1 n1 c1),(1,iV a1),(2,iV a2),(3,iV a3),(4,.func (.func 161) #[] #[]),(10,iV p7)]∧L=[gw A1 n1 c1 a0]) ?_ ?_
    ·refine dV ?_;refine bN (fun m s L=> ∃p9 p10,cz N (aQ N m2) a1 a2 a3 a0 m p9 p10=some r∧s=[(0,I A1 n1 c1),(1,iV a1),(2,iV a2),(3,iV a3),(4,.func (.func 161) #[] #[]),(10,iV p9),(11,iV p10)]∧L=[gw A1 n1 c1 a0]) N _ _ ⟨a2,a3,h,J,J⟩ sA (cS [0] 1) ?_;rintro (_|m8) _ _ ⟨p9,p10,h,rfl,rfl⟩
     ·exact bg h
     rw [cz.eq_2] at h;refine az ?_;refine Y ?_;refine au J (fun g11=> ?_) (fun g11=> ?_)
     ·replace h:=ah g11 h;refine Y ?_;obtain ⟨q12,h⟩:=ay h;refine gE (bE J J q12.1 q12.2) ?_;refine gE (rN J J LU) ?_;refine gE (AZ (v:=(IntKind.u64.wrap (p9+p10)).fdiv (2 ^ 1)) J J (fun _=>J)) ?_;refine gE (rN J J EM) ?_;refine Y ?_;refine az ?_;refine bF V _ (ae _) ?_;refine zE 0 J (aw J) ?_;refine zE 1 J (aw J) ?_;refine zE 2 J (aw J) ?_;obtain ⟨x13,hx13,h⟩:=aa h;obtain ⟨lx13,ux13,hx13⟩:=aI hx13;refine zR 3 J (bp 0 J aA J J LT ck lx13 ux13) ?_;refine zR 4 J (bj (us:=[iV x13.Kind,iV x13.N,.string x13.S]) 0 J aA J hx13 bB (fun _ _ _ h=>by rw [show _=_ from h];rfl)) ?_;refine zE 5 J (aw J) ?_;refine zE 6 J (aw J) ?_;obtain ⟨x14,hx14,h⟩:=aa h;obtain ⟨lx14,ux14,hx14⟩:=aI hx14;refine zR 7 J (bp 0 J aA J J LT ck lx14 ux14) ?_;refine zR 8 J (bj (us:=[iV x14.Kind,iV x14.N,.string x14.S]) 0 J aA J hx14 bB (fun _ _ _ h=>by rw [show _=_ from h];rfl)) ?_;obtain ⟨y15,hy15,h⟩:=aa h;refine zD 9 J (dM (oN hy15) xI J J J (ac) md) ?_;rintro _ _ ⟨_,⟨rfl,rfl⟩,rfl⟩;refine ⟨_,ae _,ae _,?_⟩;refine zE 10 J (Ag J J) ?_;refine bz V ?_;refine eg ?_;refine au J (fun g16=> ?_) (fun g16=> ?_)
      ·replace h:=ah g16 h;refine Y ?_;obtain ⟨q17,h⟩:=ay h;refine gE (bE J J q17.1 q17.2) ?_;refine Y ?_;exact ⟨m8,_,_,Mw _,⟨(IntKind.i64.wrap ((IntKind.u64.wrap (p9+p10)).fdiv (2 ^ 1)))+1,p10,h,J,J⟩,sA,cS [0] 1⟩
      replace h:=ai g16 h;refine Y ?_;exact ⟨m8,_,_,Mw _,⟨p9,(IntKind.i64.wrap ((IntKind.u64.wrap (p9+p10)).fdiv (2 ^ 1))),h,J,J⟩,sA,cS [0] 1⟩
     replace h:=ai g11 h;refine Y ?_;exact ⟨_,_,⟨p9,h,J,J⟩,sA,cS [0] 1⟩
    rintro _ _ ⟨p7,h,rfl,rfl⟩;refine az ?_;refine Y ?_;refine bN (fun m s L=> ∃p19 p20,dp N (aQ N m2) a1 a2 a3 p7 m p19 p20=some r∧s=[(0,I A1 n1 c1),(1,iV a1),(2,iV a2),(3,iV a3),(4,.func (.func 161) #[] #[]),(10,iV p7),(13,iV p20)]∧L=[gw A1 n1 c1 p19]) N _ _ ⟨a0,a1,h,J,J⟩ sA (cS [0] 1) ?_;rintro (_|m18) _ _ ⟨p19,p20,h,rfl,rfl⟩
    ·exact bg h
    rw [dp.eq_2] at h;refine az ?_;refine Y ?_;obtain ⟨q21,h⟩:=ay h;refine gE (dl J J q21.1 q21.2) ?_;refine Y ?_;refine au J (fun g22=> ?_) (fun g22=> ?_)
    ·replace h:=ah g22 h;refine Y ?_;refine az ?_;refine dV ?_;obtain ⟨q23,h⟩:=ay h;obtain ⟨q24,h⟩:=ay h;obtain ⟨x25,hx25,h⟩:=aa h;obtain ⟨lx25,ux25,hx25⟩:=aI hx25;obtain ⟨x26,hx26,h⟩:=aa h;obtain ⟨lx26,ux26,hx26⟩:=aI hx26;refine f3 (t:=[(0,I A1 n1 c1),(1,iV a1),(2,iV a2),(3,iV a3),(4,.func (.func 161) #[] #[]),(10,iV p7),(13,iV p20)]) ?_ jd (ae _)
     refine fX V 14 [2,3,4] [0,1,2,4,9,13] [61,62,63,64,65,66,67,68,69,70,71,72,73,74] [[],[],[],[],[3],[],[],[6],[5,7],[8],[],[],[10,11],[12]] [aV (I A1 n1 c1),
aV (iV p20),
aV (I A1 n1 c1),
aV (iV p20),
aV (iV (p20+1)),
aV (I A1 n1 c1),
aV (iV p20),
aV (iV (p20+1)),
aV (eA (I A1 n1 c1) ((p20+1).toNat) 3 0),
aV (.agg #[iV x25.Kind,iV x25.N,.string x25.S]),
aV (I A1 n1 c1),
aV (iV p20),
aV (eA (I A1 n1 c1) p20.toNat 3 0),
aV (.agg #[iV x26.Kind,iV x26.N,.string x26.S])] [] (ae _) (d6 rfl (d6 rfl (d6 rfl iY))) V rfl rfl ?_ ?_ ?_
     ·refine d5 J ?_ ?_
      ·exact js (aw J) J (bh J (ae _))
      refine d5 J ?_ ?_
      ·exact js (aw J) J (bh J (ae _))
      refine d5 J ?_ ?_
      ·exact js (bE J J q23.1 q23.2) J (bh J (ae _))
      exact iX
     ·refine am J ?_ ?_
      ·exact fa (bj (us:=[iV x26.Kind,iV x26.N,.string x26.S]) 0 J aA J hx26 bB (fun _ _ _ h=>by rw [show _=_ from h];rfl)) J (bh J (ae _))
      refine am J ?_ ?_
      ·exact fa (bp 0 J aA J J LT ck lx26 ux26) J (bh J (ae _))
      refine am J ?_ ?_
      ·exact bW (aw J) J (bh J (ae _))
      refine am J ?_ ?_
      ·exact bW (aw J) J (bh J (ae _))
      refine am J ?_ ?_
      ·exact fa (bj (us:=[iV x25.Kind,iV x25.N,.string x25.S]) 0 J aA J hx25 bB (fun _ _ _ h=>by rw [show _=_ from h];rfl)) J (bh J (ae _))
      refine am J ?_ ?_
      ·exact fa (bp 0 J aA J J LT ck lx25 ux25) J (bh J (ae _))
      refine am J ?_ ?_
      ·exact bW (bE J J q24.1 q24.2) J (bh J (ae _))
      refine am J ?_ ?_
      ·exact bW (aw J) J (bh J (ae _))
      refine am J ?_ ?_
      ·exact bW (aw J) J (bh J (ae _))
      refine am J ?_ ?_
      ·exact bW (bE J J q23.1 q23.2) J (bh J (ae _))
      refine am J ?_ ?_
      ·exact bW (aw J) J (bh J (ae _))
      refine am J ?_ ?_
      ·exact bW (aw J) J (bh J (ae _))
      refine am J ?_ ?_
      ·exact bW (aw J) J (bh J (ae _))
      refine am J ?_ ?_
      ·exact bW (aw J) J (bh J (ae _))
      exact dJ
     refine lM (t:=[(61,I A1 n1 c1),(62,iV p20),(63,I A1 n1 c1),(65,iV (p20+1)),(70,.agg #[iV x25.Kind,iV x25.N,.string x25.S]),(74,.agg #[iV x26.Kind,iV x26.N,.string x26.S]),(0,I A1 n1 c1),(1,iV a1),(2,iV a2),(3,iV a3),(4,.func (.func 161) #[] #[]),(10,iV p7),(13,iV p20)]) (L':=[gw A1 n1 c1 p19]) ?_ jd (ae _);obtain ⟨x27,hx27,h⟩:=aa h;obtain ⟨lx27,ux27,hx27⟩:=aI hx27;refine CP 14 J V (bp 0 J aA J J LT ck lx27 ux27) J J J ?_;refine lm 15 J V (cZ (us:=[iV x25.Kind,iV x25.N,.string x25.S]) (z:=(⟨x25.Kind,x25.N,x25.S⟩:Mn)) 0 J J J J ck J (toNat_lt lx27 ux27) J (fun S w vs xk hk hr ho=>by obtain rfl:=Option.some.inj (hk.symm.trans hx27);rw [show _=_ from hr];rfl)) J J ?_;rintro _ _ rfl;refine wJ ?_;obtain ⟨x28,hx28,h⟩:=aa h;obtain ⟨lx28,ux28,hx28⟩:=aI hx28;refine CP 16 J V (bp 0 J aA J J LT ck lx28 ux28) J J J ?_;refine lm 17 J V (cZ (us:=[iV x26.Kind,iV x26.N,.string x26.S]) (z:=(⟨x26.Kind,x26.N,x26.S⟩:Mn)) 0 J J J J ck J (toNat_lt lx28 ux28) J (fun S w vs xk hk hr ho=>by obtain rfl:=Option.some.inj (hk.symm.trans hx28);rw [show _=_ from hr];rfl)) J J ?_;rintro _ _ rfl;refine wJ ?_;refine jb V ?_;refine Y ?_;obtain ⟨q29,h⟩:=ay h;refine gE (bE J J q29.1 q29.2) ?_;refine Y ?_
     exact ⟨m18,_,_,Mw _,⟨List.set (List.set p19 p20.toNat (⟨x25.Kind,x25.N,x25.S⟩:Mn)) ((p20+1).toNat) (⟨x26.Kind,x26.N,x26.S⟩:Mn),p20+1,h,J,J⟩,sA,cS [0] 1⟩
    replace h:=ai g22 h;refine Y ?_;obtain rfl:=ap h;exact Ai J (cS [0] 1) ⟨J,J⟩
   replace h:=ai g5 h;refine Y ?_;exact ⟨_,_,⟨h,J,J⟩,sA,cS [0] 1⟩
  rintro _ _ ⟨h,rfl,rfl⟩;refine aW (fun s L=>dt N (aQ N m2) a1 a2 a3 a0=some r∧s=[(0,I A1 n1 c1),(1,iV a1),(2,iV a2),(3,iV a3),(4,.func (.func 161) #[] #[])]∧L=[gw A1 n1 c1 a0]) ?_ ?_
  ·refine Y ?_;obtain ⟨q31,h⟩:=ay h;refine gE (dl J J q31.1 q31.2) ?_;refine Y ?_;refine au J (fun g32=> ?_) (fun g32=> ?_)
   ·replace h:=ah g32 h;refine Y ?_;refine aW (fun s L=> ∃p34,gN N (aQ N m2) a1 a2 a3 a0 p34=some r∧s=[(0,I A1 n1 c1),(1,iV a1),(2,iV a2),(3,iV a3),(4,.func (.func 161) #[] #[]),(14,iV p34)]∧L=[gw A1 n1 c1 a0]) ?_ ?_
    ·refine dV ?_;refine bN (fun m s L=> ∃p36 p37,cL N (aQ N m2) a1 a2 a3 a0 m p36 p37=some r∧s=[(0,I A1 n1 c1),(1,iV a1),(2,iV a2),(3,iV a3),(4,.func (.func 161) #[] #[]),(14,iV p36),(15,iV p37)]∧L=[gw A1 n1 c1 a0]) N _ _ ⟨a1,a2,h,J,J⟩ sA (cS [0] 1) ?_;rintro (_|m35) _ _ ⟨p36,p37,h,rfl,rfl⟩
     ·exact bg h
     rw [cL.eq_2] at h;refine az ?_;refine Y ?_;refine au J (fun g38=> ?_) (fun g38=> ?_)
     ·replace h:=ah g38 h;refine Y ?_;obtain ⟨q39,h⟩:=ay h;refine gE (bE J J q39.1 q39.2) ?_;refine gE (rN J J LU) ?_;refine gE (AZ (v:=(IntKind.u64.wrap (p36+p37)).fdiv (2 ^ 1)) J J (fun _=>J)) ?_;refine gE (rN J J EM) ?_;refine Y ?_;refine az ?_;refine bF V _ (ae _) ?_;refine zE 0 J (aw J) ?_;refine zE 1 J (aw J) ?_;refine zE 2 J (aw J) ?_;obtain ⟨x40,hx40,h⟩:=aa h;obtain ⟨lx40,ux40,hx40⟩:=aI hx40;refine zR 3 J (bp 0 J aA J J LT ck lx40 ux40) ?_;refine zR 4 J (bj (us:=[iV x40.Kind,iV x40.N,.string x40.S]) 0 J aA J hx40 bB (fun _ _ _ h=>by rw [show _=_ from h];rfl)) ?_;refine zE 5 J (aw J) ?_;refine zE 6 J (aw J) ?_;obtain ⟨x41,hx41,h⟩:=aa h;obtain ⟨lx41,ux41,hx41⟩:=aI hx41;refine zR 7 J (bp 0 J aA J J LT ck lx41 ux41) ?_;refine zR 8 J (bj (us:=[iV x41.Kind,iV x41.N,.string x41.S]) 0 J aA J hx41 bB (fun _ _ _ h=>by rw [show _=_ from h];rfl)) ?_;obtain ⟨y42,hy42,h⟩:=aa h;refine zD 9 J (dM (oN hy42) xI J J J (ac) md) ?_;rintro _ _ ⟨_,⟨rfl,rfl⟩,rfl⟩;refine ⟨_,ae _,ae _,?_⟩;refine zE 10 J (Ag J J) ?_;refine zE 11 J (Ba J) ?_;refine bz V ?_;refine eg ?_;refine au J (fun g43=> ?_) (fun g43=> ?_)
      ·replace h:=ah g43 h;refine Y ?_;obtain ⟨q44,h⟩:=ay h;refine gE (bE J J q44.1 q44.2) ?_;refine Y ?_;exact ⟨m35,_,_,Mw _,⟨(IntKind.i64.wrap ((IntKind.u64.wrap (p36+p37)).fdiv (2 ^ 1)))+1,p37,h,J,J⟩,sA,cS [0] 1⟩
      replace h:=ai g43 h;refine Y ?_;exact ⟨m35,_,_,Mw _,⟨p36,(IntKind.i64.wrap ((IntKind.u64.wrap (p36+p37)).fdiv (2 ^ 1))),h,J,J⟩,sA,cS [0] 1⟩
     replace h:=ai g38 h;refine Y ?_;exact ⟨_,_,⟨p36,h,J,J⟩,sA,cS [0] 1⟩
    rintro _ _ ⟨p34,h,rfl,rfl⟩;refine az ?_;refine Y ?_;refine bN (fun m s L=> ∃p46 p47,dn N (aQ N m2) a1 a2 a3 p34 m p46 p47=some r∧s=[(0,I A1 n1 c1),(1,iV a1),(2,iV a2),(3,iV a3),(4,.func (.func 161) #[] #[]),(14,iV p34),(17,iV p47)]∧L=[gw A1 n1 c1 p46]) N _ _ ⟨a0,a2,h,J,J⟩ sA (cS [0] 1) ?_;rintro (_|m45) _ _ ⟨p46,p47,h,rfl,rfl⟩
    ·exact bg h
    rw [dn.eq_2] at h;refine az ?_;refine Y ?_;refine au J (fun g48=> ?_) (fun g48=> ?_)
    ·replace h:=ah g48 h;refine Y ?_;refine az ?_;refine dV ?_;obtain ⟨q49,h⟩:=ay h;obtain ⟨q50,h⟩:=ay h;obtain ⟨x51,hx51,h⟩:=aa h;obtain ⟨lx51,ux51,hx51⟩:=aI hx51;obtain ⟨x52,hx52,h⟩:=aa h;obtain ⟨lx52,ux52,hx52⟩:=aI hx52;refine f3 (t:=[(0,I A1 n1 c1),(1,iV a1),(2,iV a2),(3,iV a3),(4,.func (.func 161) #[] #[]),(14,iV p34),(17,iV p47)]) ?_ jd (ae _)
     refine fX V 14 [2,3,4] [0,1,2,4,9,13] [113,114,115,116,117,118,119,120,121,122,123,124,125,126] [[],[],[],[],[3],[],[],[6],[5,7],[8],[],[],[10,11],[12]] [aV (I A1 n1 c1),
aV (iV p47),
aV (I A1 n1 c1),
aV (iV p47),
aV (iV (p47 - 1)),
aV (I A1 n1 c1),
aV (iV p47),
aV (iV (p47 - 1)),
aV (eA (I A1 n1 c1) ((p47 - 1).toNat) 3 0),
aV (.agg #[iV x51.Kind,iV x51.N,.string x51.S]),
aV (I A1 n1 c1),
aV (iV p47),
aV (eA (I A1 n1 c1) p47.toNat 3 0),
aV (.agg #[iV x52.Kind,iV x52.N,.string x52.S])] [] (ae _) (d6 rfl (d6 rfl (d6 rfl iY))) V rfl rfl ?_ ?_ ?_
     ·refine d5 J ?_ ?_
      ·exact js (aw J) J (bh J (ae _))
      refine d5 J ?_ ?_
      ·exact js (aw J) J (bh J (ae _))
      refine d5 J ?_ ?_
      ·exact js (dl J J q49.1 q49.2) J (bh J (ae _))
      exact iX
     ·refine am J ?_ ?_
      ·exact fa (bj (us:=[iV x52.Kind,iV x52.N,.string x52.S]) 0 J aA J hx52 bB (fun _ _ _ h=>by rw [show _=_ from h];rfl)) J (bh J (ae _))
      refine am J ?_ ?_
      ·exact fa (bp 0 J aA J J LT ck lx52 ux52) J (bh J (ae _))
      refine am J ?_ ?_
      ·exact bW (aw J) J (bh J (ae _))
      refine am J ?_ ?_
      ·exact bW (aw J) J (bh J (ae _))
      refine am J ?_ ?_
      ·exact fa (bj (us:=[iV x51.Kind,iV x51.N,.string x51.S]) 0 J aA J hx51 bB (fun _ _ _ h=>by rw [show _=_ from h];rfl)) J (bh J (ae _))
      refine am J ?_ ?_
      ·exact fa (bp 0 J aA J J LT ck lx51 ux51) J (bh J (ae _))
      refine am J ?_ ?_
      ·exact bW (dl J J q50.1 q50.2) J (bh J (ae _))
      refine am J ?_ ?_
      ·exact bW (aw J) J (bh J (ae _))
      refine am J ?_ ?_
      ·exact bW (aw J) J (bh J (ae _))
      refine am J ?_ ?_
      ·exact bW (dl J J q49.1 q49.2) J (bh J (ae _))
      refine am J ?_ ?_
      ·exact bW (aw J) J (bh J (ae _))
      refine am J ?_ ?_
      ·exact bW (aw J) J (bh J (ae _))
      refine am J ?_ ?_
      ·exact bW (aw J) J (bh J (ae _))
      refine am J ?_ ?_
      ·exact bW (aw J) J (bh J (ae _))
      exact dJ
     refine lM (t:=[(113,I A1 n1 c1),(114,iV p47),(115,I A1 n1 c1),(117,iV (p47 - 1)),(122,.agg #[iV x51.Kind,iV x51.N,.string x51.S]),(126,.agg #[iV x52.Kind,iV x52.N,.string x52.S]),(0,I A1 n1 c1),(1,iV a1),(2,iV a2),(3,iV a3),(4,.func (.func 161) #[] #[]),(14,iV p34),(17,iV p47)]) (L':=[gw A1 n1 c1 p46]) ?_ jd (ae _);obtain ⟨x53,hx53,h⟩:=aa h;obtain ⟨lx53,ux53,hx53⟩:=aI hx53;refine CP 14 J V (bp 0 J aA J J LT ck lx53 ux53) J J J ?_;refine lm 15 J V (cZ (us:=[iV x51.Kind,iV x51.N,.string x51.S]) (z:=(⟨x51.Kind,x51.N,x51.S⟩:Mn)) 0 J J J J ck J (toNat_lt lx53 ux53) J (fun S w vs xk hk hr ho=>by obtain rfl:=Option.some.inj (hk.symm.trans hx53);rw [show _=_ from hr];rfl)) J J ?_;rintro _ _ rfl;refine wJ ?_;obtain ⟨x54,hx54,h⟩:=aa h;obtain ⟨lx54,ux54,hx54⟩:=aI hx54;refine CP 16 J V (bp 0 J aA J J LT ck lx54 ux54) J J J ?_;refine lm 17 J V (cZ (us:=[iV x52.Kind,iV x52.N,.string x52.S]) (z:=(⟨x52.Kind,x52.N,x52.S⟩:Mn)) 0 J J J J ck J (toNat_lt lx54 ux54) J (fun S w vs xk hk hr ho=>by obtain rfl:=Option.some.inj (hk.symm.trans hx54);rw [show _=_ from hr];rfl)) J J ?_;rintro _ _ rfl;refine wJ ?_;refine jb V ?_;refine Y ?_;obtain ⟨q55,h⟩:=ay h;refine gE (dl J J q55.1 q55.2) ?_;refine Y ?_
     exact ⟨m45,_,_,Mw _,⟨List.set (List.set p46 p47.toNat (⟨x51.Kind,x51.N,x51.S⟩:Mn)) ((p47 - 1).toNat) (⟨x52.Kind,x52.N,x52.S⟩:Mn),p47 - 1,h,J,J⟩,sA,cS [0] 1⟩
    replace h:=ai g48 h;refine Y ?_;obtain rfl:=ap h;exact Ai J (cS [0] 1) ⟨J,J⟩
   replace h:=ai g32 h;refine Y ?_;exact ⟨_,_,⟨h,J,J⟩,sA,cS [0] 1⟩
  rintro _ _ ⟨h,rfl,rfl⟩;refine Y ?_;obtain ⟨q56,h⟩:=ay h;refine gE (bE J J q56.1 q56.2) ?_;refine gE (rN J J LU) ?_;refine gE (AZ (v:=(IntKind.u64.wrap (a1+a3)).fdiv (2 ^ 1)) J J (fun _=>J)) ?_;refine gE (rN J J EM) ?_;refine Y ?_;obtain ⟨q57,h⟩:=ay h;refine gE (bE J J q57.1 q57.2) ?_;refine Y ?_;refine aW (fun s L=> ∃p59 p60,dr N (aQ N m2) a1 a2 a3 a0 p59 p60=some r∧s=[(0,I A1 n1 c1),(1,iV a1),(2,iV a2),(3,iV a3),(4,.func (.func 161) #[] #[]),(18,iV (IntKind.i64.wrap ((IntKind.u64.wrap (a1+a3)).fdiv (2 ^ 1)))),(19,iV ((IntKind.i64.wrap ((IntKind.u64.wrap (a1+a3)).fdiv (2 ^ 1)))+a2)),(20,iV p59),(21,iV p60)]∧L=[gw A1 n1 c1 a0]) ?_ ?_
  ·refine Y ?_;refine au J (fun g61=> ?_) (fun g61=> ?_)
   ·replace h:=ah g61 h;refine Y ?_;obtain ⟨q62,h⟩:=ay h;refine gE (dl J J q62.1 q62.2) ?_;refine Y ?_;exact ⟨_,_,⟨((IntKind.i64.wrap ((IntKind.u64.wrap (a1+a3)).fdiv (2 ^ 1)))+a2) - a3,(IntKind.i64.wrap ((IntKind.u64.wrap (a1+a3)).fdiv (2 ^ 1))),h,J,J⟩,sA,cS [0] 1⟩
   replace h:=ai g61 h;refine Y ?_;exact ⟨_,_,⟨a1,a2,h,J,J⟩,sA,cS [0] 1⟩
  rintro _ _ ⟨p59,p60,h,rfl,rfl⟩;refine Y ?_;obtain ⟨q63,h⟩:=ay h;refine gE (dl J J q63.1 q63.2) ?_;refine Y ?_;refine aW (fun s L=> ∃p65,dq N (aQ N m2) a1 a2 a3 a0 p65=some r∧s=[(0,I A1 n1 c1),(1,iV a1),(2,iV a2),(3,iV a3),(4,.func (.func 161) #[] #[]),(18,iV (IntKind.i64.wrap ((IntKind.u64.wrap (a1+a3)).fdiv (2 ^ 1)))),(19,iV ((IntKind.i64.wrap ((IntKind.u64.wrap (a1+a3)).fdiv (2 ^ 1)))+a2)),(20,iV p65)]∧L=[gw A1 n1 c1 a0]) ?_ ?_
  ·refine dV ?_;refine bN (fun m s L=> ∃p67 p68,cK N (aQ N m2) a1 a2 a3 a0 m p67 p68=some r∧s=[(0,I A1 n1 c1),(1,iV a1),(2,iV a2),(3,iV a3),(4,.func (.func 161) #[] #[]),(18,iV (IntKind.i64.wrap ((IntKind.u64.wrap (a1+a3)).fdiv (2 ^ 1)))),(19,iV ((IntKind.i64.wrap ((IntKind.u64.wrap (a1+a3)).fdiv (2 ^ 1)))+a2)),(20,iV p67),(21,iV p68),(22,iV (((IntKind.i64.wrap ((IntKind.u64.wrap (a1+a3)).fdiv (2 ^ 1)))+a2) - 1))]∧L=[gw A1 n1 c1 a0]) N _ _ ⟨p59,p60,h,J,J⟩ sA (cS [0] 1) ?_;rintro (_|m66) _ _ ⟨p67,p68,h,rfl,rfl⟩
   ·exact bg h
   rw [cK.eq_2] at h;refine az ?_;refine Y ?_;refine au J (fun g69=> ?_) (fun g69=> ?_)
   ·replace h:=ah g69 h;refine Y ?_;obtain ⟨q70,h⟩:=ay h;refine gE (bE J J q70.1 q70.2) ?_;refine gE (rN J J LU) ?_;refine gE (AZ (v:=(IntKind.u64.wrap (p67+p68)).fdiv (2 ^ 1)) J J (fun _=>J)) ?_;refine gE (rN J J EM) ?_;refine Y ?_;refine az ?_;refine bF V _ (ae _) ?_;refine zE 0 J (aw J) ?_;refine zE 1 J (aw J) ?_;refine zE 2 J (aw J) ?_;refine zE 3 J (aw J) ?_;obtain ⟨q71,h⟩:=ay h;refine zE 4 J (dl J J q71.1 q71.2) ?_;obtain ⟨x72,hx72,h⟩:=aa h;obtain ⟨lx72,ux72,hx72⟩:=aI hx72;refine zR 5 J (bp 0 J aA J J LT ck lx72 ux72) ?_;refine zR 6 J (bj (us:=[iV x72.Kind,iV x72.N,.string x72.S]) 0 J aA J hx72 bB (fun _ _ _ h=>by rw [show _=_ from h];rfl)) ?_;refine zE 7 J (aw J) ?_;refine zE 8 J (aw J) ?_;obtain ⟨x73,hx73,h⟩:=aa h;obtain ⟨lx73,ux73,hx73⟩:=aI hx73;refine zR 9 J (bp 0 J aA J J LT ck lx73 ux73) ?_;refine zR 10 J (bj (us:=[iV x73.Kind,iV x73.N,.string x73.S]) 0 J aA J hx73 bB (fun _ _ _ h=>by rw [show _=_ from h];rfl)) ?_;obtain ⟨y74,hy74,h⟩:=aa h;refine zD 11 J (dM (oN hy74) xI J J J (ac) md) ?_;rintro _ _ ⟨_,⟨rfl,rfl⟩,rfl⟩;refine ⟨_,ae _,ae _,?_⟩;refine zE 12 J (Ag J J) ?_;refine zE 13 J (Ba J) ?_;refine bz V ?_;refine eg ?_;refine au J (fun g75=> ?_) (fun g75=> ?_)
    ·replace h:=ah g75 h;refine Y ?_;obtain ⟨q76,h⟩:=ay h;refine gE (bE J J q76.1 q76.2) ?_;refine Y ?_;exact ⟨m66,_,_,Mw _,⟨(IntKind.i64.wrap ((IntKind.u64.wrap (p67+p68)).fdiv (2 ^ 1)))+1,p68,h,J,J⟩,sA,cS [0] 1⟩
    replace h:=ai g75 h;refine Y ?_;exact ⟨m66,_,_,Mw _,⟨p67,(IntKind.i64.wrap ((IntKind.u64.wrap (p67+p68)).fdiv (2 ^ 1))),h,J,J⟩,sA,cS [0] 1⟩
   replace h:=ai g69 h;refine Y ?_;exact ⟨_,_,⟨p67,h,J,J⟩,sA,cS [0] 1⟩
  rintro _ _ ⟨p65,h,rfl,rfl⟩;refine Y ?_;obtain ⟨q77,h⟩:=ay h;refine gE (dl J J q77.1 q77.2) ?_;refine Y ?_;refine aW (fun s L=> ∃p79,cN N (aQ N m2) a1 a3 p65 a2 p79=some r∧s=[(0,I A1 n1 c1),(1,iV a1),(3,iV a3),(4,.func (.func 161) #[] #[]),(18,iV (IntKind.i64.wrap ((IntKind.u64.wrap (a1+a3)).fdiv (2 ^ 1)))),(20,iV p65),(24,iV (((IntKind.i64.wrap ((IntKind.u64.wrap (a1+a3)).fdiv (2 ^ 1)))+a2) - p65))]∧L=[gw A1 n1 c1 p79]) ?_ ?_
  ·refine Y ?_;obtain ⟨b80,hb80,h⟩:=aa h;refine aN 4 185 b80 ?_ ?_
   ·clear h;refine aK 181 J (fun g80=> ?_) (fun g80=> ?_)
    ·have h:=ah g80 hb80;refine Y ?_;obtain rfl:=ap h;exact ad sA (cS [0] 1)
    have h:=ai g80 hb80;refine Y ?_;obtain rfl:=ap h;exact ad sA (cS [0] 1)
   refine Y ?_;refine au J (fun g81=> ?_) (fun g81=> ?_)
   ·replace h:=ah g81 h;refine Y ?_;obtain ⟨y82,hy82,h⟩:=aa h;refine gD (aE (ny hy82) Iq J (aC [] [0] [] 1 J)) ?_;rintro _ _ ⟨_,⟨rfl,rfl⟩,rfl⟩;refine bL ?_;refine Y ?_;exact ⟨_,_,⟨y82,h,J,J⟩,sA,cS [0] 1⟩
   replace h:=ai g81 h;refine Y ?_;exact ⟨_,_,⟨a0,h,J,J⟩,sA,cS [0] 1⟩
  rintro _ _ ⟨p79,h,rfl,rfl⟩;refine aW (fun s L=> ∃p84,cM N (aQ N m2) a3 a1 a2 p65 p84=some r∧s=[(0,I A1 n1 c1),(3,iV a3),(4,.func (.func 161) #[] #[]),(18,iV (IntKind.i64.wrap ((IntKind.u64.wrap (a1+a3)).fdiv (2 ^ 1)))),(24,iV (((IntKind.i64.wrap ((IntKind.u64.wrap (a1+a3)).fdiv (2 ^ 1)))+a2) - p65))]∧L=[gw A1 n1 c1 p84]) ?_ ?_
  ·refine Y ?_;obtain ⟨b85,hb85,h⟩:=aa h;refine aN 4 199 b85 ?_ ?_
   ·clear h;refine aK 195 J (fun g85=> ?_) (fun g85=> ?_)
    ·have h:=ah g85 hb85;refine Y ?_;obtain rfl:=ap h;exact ad sA (cS [0] 1)
    have h:=ai g85 hb85;refine Y ?_;obtain rfl:=ap h;exact ad sA (cS [0] 1)
   refine Y ?_;refine au J (fun g86=> ?_) (fun g86=> ?_)
   ·replace h:=ah g86 h;refine Y ?_;obtain ⟨y87,hy87,h⟩:=aa h;refine gD (aE (ih hy87) qj J (aC [] [0] [] 1 J)) ?_;rintro _ _ ⟨_,⟨rfl,rfl⟩,rfl⟩;refine bL ?_;refine Y ?_;exact ⟨_,_,⟨y87,h,J,J⟩,sA,cS [0] 1⟩
   replace h:=ai g86 h;refine Y ?_;exact ⟨_,_,⟨p79,h,J,J⟩,sA,cS [0] 1⟩
  rintro _ _ ⟨p84,h,rfl,rfl⟩;refine Y ?_;obtain ⟨b88,hb88,h⟩:=aa h;refine aN 4 213 b88 ?_ ?_
  ·clear h;refine aK 209 J (fun g88=> ?_) (fun g88=> ?_)
   ·have h:=ah g88 hb88;refine Y ?_;obtain rfl:=ap h;exact ad sA (cS [0] 1)
   have h:=ai g88 hb88;refine Y ?_;obtain rfl:=ap h;exact ad sA (cS [0] 1)
  refine Y ?_;refine au J (fun g89=> ?_) (fun g89=> ?_)
  ·replace h:=ah g89 h;refine Y ?_;obtain ⟨y90,hy90,h⟩:=aa h;refine gD (aE (ih hy90) qj J (aC [] [0] [] 1 J)) ?_;rintro _ _ ⟨_,⟨rfl,rfl⟩,rfl⟩;refine bL ?_;refine jT ?_;obtain rfl:=ap h;exact ez J (cS [0] 1) ⟨J,J⟩
  replace h:=ai g89 h;refine ne ?_;obtain rfl:=ap h;exact ez J (cS [0] 1) ⟨J,J⟩
theorem cy {N:Nat}{a0:(List Mn)}{a1:Int}{a2:Int}{a3:Int}{r:(List Mn)}(h:bY N a0 a1 a2 a3=some r):Okc Tryz.prog 231 [I A1 n1 c1,iV a1,iV a2,iV a3,.func (.func 161) #[] #[]] ([gw A1 n1 c1 a0]) (fun u post=>u=.tuple #[]∧post=[gw A1 n1 c1 r]):=lQ N h
def fh (N:Nat)(kb14:(List Mn)→Int→Option (List Mn))(a1:Int)(p16:Int)(p33:(List Mn)):Option (List Mn):=
 cR (bK (p16*2)) (kb14 p33 (p16*2))
def mK (N:Nat)(kb14:(List Mn)→Int→Option (List Mn))(a1:Int)(p16:Int)(p15:(List Mn)):Option (List Mn):=
 cR (bK (0+p16)) (bif decide (0+p16<a1) then ((bY N p15 0 (0+p16) a1).bind fun y36=>fh N kb14 a1 p16 y36) else (fh N kb14 a1 p16 p15))
def fg (N:Nat)(kb14:(List Mn)→Int→Option (List Mn))(a1:Int)(p16:Int)(p39:(List Mn)):Option (List Mn):=
 cR (bK (p16*2)) (kb14 p39 (p16*2))
def iz (N:Nat)(kb14:(List Mn)→Int→Option (List Mn))(a1:Int)(p16:Int)(p21:(List Mn))(p22:Int):Option (List Mn):=
 cR (bK (p22+p16)) (bif decide (p22+p16<a1) then ((bY N p21 p22 (p22+p16) a1).bind fun y42=>fg N kb14 a1 p16 y42) else (fg N kb14 a1 p16 p21))
def fc (N:Nat)(kb14:(List Mn)→Int→Option (List Mn))(a1:Int)(p16:Int):Nat→(List Mn)→Int→Int→Option (List Mn)
 |0,_,_,_=>none
 |m23+1,p24,p25,p26=>bif decide (p26≤a1) then (cR (bK (p25+p16)) ((bY N p24 p25 (p25+p16) p26).bind fun y29=>cR (bK (2*p16)) (cR (bK (p26+(2*p16))) ((fc N kb14 a1 p16 m23) y29 p26 (p26+(2*p16)))))) else (iz N kb14 a1 p16 p24 p25)
def bZ (N:Nat)(a1:Int):Nat→(List Mn)→Int→Option (List Mn)
 |0,_,_=>none
 |m14+1,p15,p16=>bif decide (p16<a1) then (cR (bK (2*p16)) (fc N (bZ N a1 m14) a1 p16 N p15 0 (2*p16))) else (some p15)
def nw (N:Nat)(a1:Int)(a0:(List Mn)):Option (List Mn):=
 (cj N a0 0 a1).bind fun y13=>bZ N a1 N y13 20
def fd (N:Nat)(kb45:(List Mn)→Int→Option (List Mn))(a1:Int)(p47:Int)(p64:(List Mn)):Option (List Mn):=
 cR (bK (p47*2)) (kb45 p64 (p47*2))
def mJ (N:Nat)(kb45:(List Mn)→Int→Option (List Mn))(a1:Int)(p47:Int)(p46:(List Mn)):Option (List Mn):=
 cR (bK (0+p47)) (bif decide (0+p47<a1) then ((bY N p46 0 (0+p47) a1).bind fun y67=>fd N kb45 a1 p47 y67) else (fd N kb45 a1 p47 p46))
def dL (N:Nat)(kb45:(List Mn)→Int→Option (List Mn))(a1:Int)(p47:Int)(p70:(List Mn)):Option (List Mn):=
 cR (bK (p47*2)) (kb45 p70 (p47*2))
def fe (N:Nat)(kb45:(List Mn)→Int→Option (List Mn))(a1:Int)(p47:Int)(p52:(List Mn))(p53:Int):Option (List Mn):=
 cR (bK (p53+p47)) (bif decide (p53+p47<a1) then ((bY N p52 p53 (p53+p47) a1).bind fun y73=>dL N kb45 a1 p47 y73) else (dL N kb45 a1 p47 p52))
def dK (N:Nat)(kb45:(List Mn)→Int→Option (List Mn))(a1:Int)(p47:Int):Nat→(List Mn)→Int→Int→Option (List Mn)
 |0,_,_,_=>none
 |m54+1,p55,p56,p57=>bif decide (p57≤a1) then (cR (bK (p56+p47)) ((bY N p55 p56 (p56+p47) p57).bind fun y60=>cR (bK (2*p47)) (cR (bK (p57+(2*p47))) ((dK N kb45 a1 p47 m54) y60 p57 (p57+(2*p47)))))) else (fe N kb45 a1 p47 p55 p56)
def bM (N:Nat)(a1:Int):Nat→(List Mn)→Int→Option (List Mn)
 |0,_,_=>none
 |m45+1,p46,p47=>bif decide (p47<a1) then (cR (bK (2*p47)) (dK N (bM N a1 m45) a1 p47 N p46 0 (2*p47))) else (some p46)
def fA (N:Nat)(a1:Int)(p4:(List Mn))(p5:Int):Option (List Mn):=
 (cj N p4 p5 a1).bind fun y44=>bM N a1 N y44 20
def dT (N:Nat)(a1:Int):Nat→(List Mn)→Int→Int→Option (List Mn)
 |0,_,_,_=>none
 |m6+1,p7,p8,p9=>bif decide (p9≤a1) then ((cj N p7 p8 p9).bind fun y11=>cR (bK (p9+20)) ((dT N a1 m6) y11 p9 (p9+20))) else (fA N a1 p7 p8)
def fM (N:Nat)(a0:(List Mn))(a1:Int):Option (List Mn):=
 dT N a1 N a0 0 20
set_option maxHeartbeats 4000000 in
theorem nv {N:Nat}{a0:(List Mn)}{a1:Int}{r:(List Mn)}(h:fM N a0 a1=some r):Okc Tryz.prog 207 [I A1 n1 c1,iV a1,.func (.func 161) #[] #[]] ([gw A1 n1 c1 a0]) (fun u post=>u=.tuple #[]∧post=[gw A1 n1 c1 r]):=by
 refine br Tryz.func207 J J ?_;simp only [aS];refine Y ?_;refine aW (fun s L=>(nw N a1 a0=some r∧s=[(0,I A1 n1 c1),(1,iV a1),(2,.func (.func 161) #[] #[]),(6,iV 20),(7,iV 0)]∧L=[gw A1 n1 c1 a0])∨(∃p4 p5,fA N a1 p4 p5=some r∧s=[(0,I A1 n1 c1),(1,iV a1),(2,.func (.func 161) #[] #[]),(6,iV 20),(7,iV p5)]∧L=[gw A1 n1 c1 p4])) ?_ ?_
 ·refine dV ?_;refine bN (fun m s L=> ∃p7 p8 p9,dT N a1 m p7 p8 p9=some r∧s=[(0,I A1 n1 c1),(1,iV a1),(2,.func (.func 161) #[] #[]),(6,iV 20),(7,iV p8),(8,iV p9)]∧L=[gw A1 n1 c1 p7]) N _ _ ⟨a0,0,20,h,J,J⟩ sA (cS [0] 1) ?_;rintro (_|m6) _ _ ⟨p7,p8,p9,h,rfl,rfl⟩
  ·exact bg h
  rw [dT.eq_2] at h;refine az ?_;refine Y ?_;refine au J (fun g10=> ?_) (fun g10=> ?_)
  ·replace h:=ah g10 h;refine Y ?_;obtain ⟨y11,hy11,h⟩:=aa h;refine gD (aE (dQ hy11) Bn J (aC [] [0] [] 1 J)) ?_;rintro _ _ ⟨_,⟨rfl,rfl⟩,rfl⟩;refine Y ?_;obtain ⟨q12,h⟩:=ay h;refine gE (bE J J q12.1 q12.2) ?_;refine Y ?_;exact ⟨m6,_,_,Mw _,⟨y11,p9,p9+20,h,J,J⟩,sA,cS [0] 1⟩
  replace h:=ai g10 h;refine Y ?_;exact ⟨_,_,.inr (⟨p7,p8,h,J,J⟩),sA,cS [0] 1⟩
 rintro _ _ (⟨h,rfl,rfl⟩|⟨p4,p5,h,rfl,rfl⟩)
 ·refine Y ?_;obtain ⟨y13,hy13,h⟩:=aa h;refine gD (aE (dQ hy13) Bn J (aC [] [0] [] 1 J)) ?_;rintro _ _ ⟨_,⟨rfl,rfl⟩,rfl⟩;refine Y ?_;refine bN (fun m s L=> ∃p15 p16,bZ N a1 m p15 p16=some r∧s=[(0,I A1 n1 c1),(1,iV a1),(2,.func (.func 161) #[] #[]),(6,iV p16)]∧L=[gw A1 n1 c1 p15]) N _ _ ⟨y13,20,h,J,J⟩ sA (cS [0] 1) ?_;rintro (_|m14) _ _ ⟨p15,p16,h,rfl,rfl⟩
  ·exact bg h
  rw [bZ.eq_2] at h;refine az ?_;refine Y ?_;refine au J (fun g17=> ?_) (fun g17=> ?_)
  ·replace h:=ah g17 h;refine Y ?_;obtain ⟨q18,h⟩:=ay h;refine gE (pG J J q18.1 q18.2) ?_;refine Y ?_;refine aW (fun s L=>(mK N (bZ N a1 m14) a1 p16 p15=some r∧s=[(0,I A1 n1 c1),(1,iV a1),(2,.func (.func 161) #[] #[]),(6,iV p16),(7,iV 0)]∧L=[gw A1 n1 c1 p15])∨(∃p21 p22,iz N (bZ N a1 m14) a1 p16 p21 p22=some r∧s=[(0,I A1 n1 c1),(1,iV a1),(2,.func (.func 161) #[] #[]),(6,iV p16),(7,iV p22)]∧L=[gw A1 n1 c1 p21])) ?_ ?_
   ·refine dV ?_;refine bN (fun m s L=> ∃p24 p25 p26,fc N (bZ N a1 m14) a1 p16 m p24 p25 p26=some r∧s=[(0,I A1 n1 c1),(1,iV a1),(2,.func (.func 161) #[] #[]),(6,iV p16),(7,iV p25),(8,iV p26)]∧L=[gw A1 n1 c1 p24]) N _ _ ⟨p15,0,2*p16,h,J,J⟩ sA (cS [0] 1) ?_;rintro (_|m23) _ _ ⟨p24,p25,p26,h,rfl,rfl⟩
    ·exact bg h
    rw [fc.eq_2] at h;refine az ?_;refine Y ?_;refine au J (fun g27=> ?_) (fun g27=> ?_)
    ·replace h:=ah g27 h;refine Y ?_;obtain ⟨q28,h⟩:=ay h;refine gE (bE J J q28.1 q28.2) ?_;refine Y ?_;obtain ⟨y29,hy29,h⟩:=aa h;refine gD (aE (cy hy29) qj J (aC [] [0] [] 1 J)) ?_;rintro _ _ ⟨_,⟨rfl,rfl⟩,rfl⟩;refine bL ?_;refine Y ?_;obtain ⟨q30,h⟩:=ay h;refine gE (pG J J q30.1 q30.2) ?_;obtain ⟨q31,h⟩:=ay h;refine gE (bE J J q31.1 q31.2) ?_;refine Y ?_;exact ⟨m23,_,_,Mw _,⟨y29,p26,p26+(2*p16),h,J,J⟩,sA,cS [0] 1⟩
    replace h:=ai g27 h;refine Y ?_;exact ⟨_,_,.inr (⟨p24,p25,h,J,J⟩),sA,cS [0] 1⟩
   rintro _ _ (⟨h,rfl,rfl⟩|⟨p21,p22,h,rfl,rfl⟩)
   ·refine aW (fun s L=> ∃p33,fh N (bZ N a1 m14) a1 p16 p33=some r∧s=[(0,I A1 n1 c1),(1,iV a1),(2,.func (.func 161) #[] #[]),(6,iV p16)]∧L=[gw A1 n1 c1 p33]) ?_ ?_
    ·refine Y ?_;obtain ⟨q34,h⟩:=ay h;refine gE (bE J J q34.1 q34.2) ?_;refine Y ?_;refine au J (fun g35=> ?_) (fun g35=> ?_)
     ·replace h:=ah g35 h;refine Y ?_;obtain ⟨y36,hy36,h⟩:=aa h;refine gD (aE (cy hy36) qj J (aC [] [0] [] 1 J)) ?_;rintro _ _ ⟨_,⟨rfl,rfl⟩,rfl⟩;refine Y ?_;exact ⟨_,_,⟨y36,h,J,J⟩,sA,cS [0] 1⟩
     replace h:=ai g35 h;refine Y ?_;exact ⟨_,_,⟨p15,h,J,J⟩,sA,cS [0] 1⟩
    rintro _ _ ⟨p33,h,rfl,rfl⟩;refine Y ?_;obtain ⟨q37,h⟩:=ay h;refine gE (pG J J q37.1 q37.2) ?_;refine Y ?_;exact ⟨m14,_,_,Mw _,⟨p33,p16*2,h,J,J⟩,sA,cS [0] 1⟩
   refine aW (fun s L=> ∃p39,fg N (bZ N a1 m14) a1 p16 p39=some r∧s=[(0,I A1 n1 c1),(1,iV a1),(2,.func (.func 161) #[] #[]),(6,iV p16)]∧L=[gw A1 n1 c1 p39]) ?_ ?_
   ·refine Y ?_;obtain ⟨q40,h⟩:=ay h;refine gE (bE J J q40.1 q40.2) ?_;refine Y ?_;refine au J (fun g41=> ?_) (fun g41=> ?_)
    ·replace h:=ah g41 h;refine Y ?_;obtain ⟨y42,hy42,h⟩:=aa h;refine gD (aE (cy hy42) qj J (aC [] [0] [] 1 J)) ?_;rintro _ _ ⟨_,⟨rfl,rfl⟩,rfl⟩;refine Y ?_;exact ⟨_,_,⟨y42,h,J,J⟩,sA,cS [0] 1⟩
    replace h:=ai g41 h;refine Y ?_;exact ⟨_,_,⟨p21,h,J,J⟩,sA,cS [0] 1⟩
   rintro _ _ ⟨p39,h,rfl,rfl⟩;refine Y ?_;obtain ⟨q43,h⟩:=ay h;refine gE (pG J J q43.1 q43.2) ?_;refine Y ?_;exact ⟨m14,_,_,Mw _,⟨p39,p16*2,h,J,J⟩,sA,cS [0] 1⟩
  replace h:=ai g17 h;refine Y ?_;obtain rfl:=ap h;exact ez J (cS [0] 1) ⟨J,J⟩
 refine Y ?_;obtain ⟨y44,hy44,h⟩:=aa h;refine gD (aE (dQ hy44) Bn J (aC [] [0] [] 1 J)) ?_;rintro _ _ ⟨_,⟨rfl,rfl⟩,rfl⟩;refine bL ?_;refine Y ?_;refine bN (fun m s L=> ∃p46 p47,bM N a1 m p46 p47=some r∧s=[(0,I A1 n1 c1),(1,iV a1),(2,.func (.func 161) #[] #[]),(6,iV p47)]∧L=[gw A1 n1 c1 p46]) N _ _ ⟨y44,20,h,J,J⟩ sA (cS [0] 1) ?_;rintro (_|m45) _ _ ⟨p46,p47,h,rfl,rfl⟩
 ·exact bg h
 rw [bM.eq_2] at h;refine az ?_;refine Y ?_;refine au J (fun g48=> ?_) (fun g48=> ?_)
 ·replace h:=ah g48 h;refine Y ?_;obtain ⟨q49,h⟩:=ay h;refine gE (pG J J q49.1 q49.2) ?_;refine Y ?_;refine aW (fun s L=>(mJ N (bM N a1 m45) a1 p47 p46=some r∧s=[(0,I A1 n1 c1),(1,iV a1),(2,.func (.func 161) #[] #[]),(6,iV p47),(7,iV 0)]∧L=[gw A1 n1 c1 p46])∨(∃p52 p53,fe N (bM N a1 m45) a1 p47 p52 p53=some r∧s=[(0,I A1 n1 c1),(1,iV a1),(2,.func (.func 161) #[] #[]),(6,iV p47),(7,iV p53)]∧L=[gw A1 n1 c1 p52])) ?_ ?_
  ·refine dV ?_;refine bN (fun m s L=> ∃p55 p56 p57,dK N (bM N a1 m45) a1 p47 m p55 p56 p57=some r∧s=[(0,I A1 n1 c1),(1,iV a1),(2,.func (.func 161) #[] #[]),(6,iV p47),(7,iV p56),(8,iV p57)]∧L=[gw A1 n1 c1 p55]) N _ _ ⟨p46,0,2*p47,h,J,J⟩ sA (cS [0] 1) ?_;rintro (_|m54) _ _ ⟨p55,p56,p57,h,rfl,rfl⟩
   ·exact bg h
   rw [dK.eq_2] at h;refine az ?_;refine Y ?_;refine au J (fun g58=> ?_) (fun g58=> ?_)
   ·replace h:=ah g58 h;refine Y ?_;obtain ⟨q59,h⟩:=ay h;refine gE (bE J J q59.1 q59.2) ?_;refine Y ?_;obtain ⟨y60,hy60,h⟩:=aa h;refine gD (aE (cy hy60) qj J (aC [] [0] [] 1 J)) ?_;rintro _ _ ⟨_,⟨rfl,rfl⟩,rfl⟩;refine Y ?_;obtain ⟨q61,h⟩:=ay h;refine gE (pG J J q61.1 q61.2) ?_;obtain ⟨q62,h⟩:=ay h;refine gE (bE J J q62.1 q62.2) ?_;refine Y ?_;exact ⟨m54,_,_,Mw _,⟨y60,p57,p57+(2*p47),h,J,J⟩,sA,cS [0] 1⟩
   replace h:=ai g58 h;refine Y ?_;exact ⟨_,_,.inr (⟨p55,p56,h,J,J⟩),sA,cS [0] 1⟩
  rintro _ _ (⟨h,rfl,rfl⟩|⟨p52,p53,h,rfl,rfl⟩)
  ·refine aW (fun s L=> ∃p64,fd N (bM N a1 m45) a1 p47 p64=some r∧s=[(0,I A1 n1 c1),(1,iV a1),(2,.func (.func 161) #[] #[]),(6,iV p47)]∧L=[gw A1 n1 c1 p64]) ?_ ?_
   ·refine Y ?_;obtain ⟨q65,h⟩:=ay h;refine gE (bE J J q65.1 q65.2) ?_;refine Y ?_;refine au J (fun g66=> ?_) (fun g66=> ?_)
    ·replace h:=ah g66 h;refine Y ?_;obtain ⟨y67,hy67,h⟩:=aa h;refine gD (aE (cy hy67) qj J (aC [] [0] [] 1 J)) ?_;rintro _ _ ⟨_,⟨rfl,rfl⟩,rfl⟩;refine Y ?_;exact ⟨_,_,⟨y67,h,J,J⟩,sA,cS [0] 1⟩
    replace h:=ai g66 h;refine Y ?_;exact ⟨_,_,⟨p46,h,J,J⟩,sA,cS [0] 1⟩
   rintro _ _ ⟨p64,h,rfl,rfl⟩;refine Y ?_;obtain ⟨q68,h⟩:=ay h;refine gE (pG J J q68.1 q68.2) ?_;refine Y ?_;exact ⟨m45,_,_,Mw _,⟨p64,p47*2,h,J,J⟩,sA,cS [0] 1⟩
  refine aW (fun s L=> ∃p70,dL N (bM N a1 m45) a1 p47 p70=some r∧s=[(0,I A1 n1 c1),(1,iV a1),(2,.func (.func 161) #[] #[]),(6,iV p47)]∧L=[gw A1 n1 c1 p70]) ?_ ?_
  ·refine Y ?_;obtain ⟨q71,h⟩:=ay h;refine gE (bE J J q71.1 q71.2) ?_;refine Y ?_;refine au J (fun g72=> ?_) (fun g72=> ?_)
   ·replace h:=ah g72 h;refine Y ?_;obtain ⟨y73,hy73,h⟩:=aa h;refine gD (aE (cy hy73) qj J (aC [] [0] [] 1 J)) ?_;rintro _ _ ⟨_,⟨rfl,rfl⟩,rfl⟩;refine bL ?_;refine Y ?_;exact ⟨_,_,⟨y73,h,J,J⟩,sA,cS [0] 1⟩
   replace h:=ai g72 h;refine Y ?_;exact ⟨_,_,⟨p52,h,J,J⟩,sA,cS [0] 1⟩
  rintro _ _ ⟨p70,h,rfl,rfl⟩;refine Y ?_;obtain ⟨q74,h⟩:=ay h;refine gE (pG J J q74.1 q74.2) ?_;refine Y ?_;exact ⟨m45,_,_,Mw _,⟨p70,p47*2,h,J,J⟩,sA,cS [0] 1⟩
 replace h:=ai g48 h;refine Y ?_;obtain rfl:=ap h;exact ez J (cS [0] 1) ⟨J,J⟩
def dU (N:Nat)(a0:(List Mn)):Option (List Mn):=
 (fM N a0 (a0.length:Int)).bind fun y2=>some y2
theorem mL {N:Nat}{a0:(List Mn)}{r:(List Mn)}(h:dU N a0=some r):Okc Tryz.prog 160 [I A1 n1 c1,.func (.func 161) #[] #[]] ([gw A1 n1 c1 a0]) (fun u post=>u=.tuple #[]∧post=[gw A1 n1 c1 r]):=by
 refine br Tryz.func160 J J ?_;simp only [aS];refine Y ?_;refine gR (bG 0 J aA J LT) ?_;refine Y ?_;obtain ⟨y2,hy2,h⟩:=aa h;refine gD (aE (nv hy2) IA J (aC [] [0] [] 1 J)) ?_;rintro _ _ ⟨_,⟨rfl,rfl⟩,rfl⟩;refine jT ?_;obtain rfl:=ap h;exact ez J (cS [0] 1) ⟨J,J⟩
def rq (N:Nat)(p3:(List Mn)):Option (List Mn):=
 (dU N p3).bind fun y19=>some y19
def oO (N:Nat)(kb4:(List Mn)→Int→Option (List Mn))(a0:(List Mn))(p6:Int)(p10:(List Mn)):Option (List Mn):=
 cR (bK (p6+1)) (kb4 p10 (p6+1))
def kA (N:Nat)(a0:(List Mn)):Nat→(List Mn)→Int→Option (List Mn)
 |0,_,_=>none
 |m4+1,p5,p6=>bif decide (p6<(a0.length:Int)) then ((bU a0 p6).bind fun x11=>(er N x11).bind fun y13=>bif y13 then (cR (fu (p5.length+([x11]:List Mn).length)) (oO N (kA N a0 m4) a0 p6 (p5++([x11]:List Mn)))) else (oO N (kA N a0 m4) a0 p6 p5)) else (rq N p5)
def nH (N:Nat)(a0:(List Mn)):Option (List Mn):=
 kA N a0 N [] 0
theorem rp {N:Nat}{a0:(List Mn)}{r:(List Mn)}(h:nH N a0=some r):Okc Tryz.prog 106 [I A1 n1 c1] ([pc kc (I A1 n1 c1) a0]) (fun u post=> ∃A0 n0 c0,u=I A0 n0 c0∧post=[gw A0 n0 c0 r]):=by
 refine br Tryz.func106 J J ?_;simp only [aS];refine Y ?_;refine aW (fun s L=> ∃p3 A3 n3 c3,rq N p3=some r∧s=[(2,I none 0 0),(3,I A3 n3 c3)]∧L=[gw A3 n3 c3 p3]) ?_ ?_
 ·refine Y ?_;refine gR (bG 0 J aU J LT) ?_;refine Y ?_;refine bN (fun m s L=> ∃p5 p6 A5 n5 c5,kA N a0 m p5 p6=some r∧s=[(2,I none 0 0),(3,I A5 n5 c5),(6,I A1 n1 c1),(7,iV (a0.length:Int)),(8,iV p6)]∧L=[gw A5 n5 c5 p5,pc kc (I A1 n1 c1) a0]) N _ _ ⟨[],0,none,0,0,h,J,J⟩ sA ((dY kc 24 _).trans (cS [0,1] 2)) ?_;rintro (_|m4) _ _ ⟨p5,p6,A5,n5,c5,h,rfl,rfl⟩
  ·exact bg h
  rw [kA.eq_2] at h;refine Y ?_;refine az ?_;refine au J (fun g8=> ?_) (fun g8=> ?_)
  ·replace h:=ah g8 h;refine Y ?_;refine aW (fun s L=> ∃p10 A10 n10 c10,oO N (kA N a0 m4) a0 p6 p10=some r∧s=[(2,I none 0 0),(3,I A10 n10 c10),(6,I A1 n1 c1),(7,iV (a0.length:Int)),(8,iV p6)]∧L=[gw A10 n10 c10 p10,pc kc (I A1 n1 c1) a0]) ?_ ?_
   ·refine Y ?_;obtain ⟨x11,hx11,h⟩:=aa h;obtain ⟨lx11,ux11,hx11⟩:=aI hx11;refine gR (bp 1 J aU J J LT ck lx11 ux11) ?_;refine gR (bj (us:=[iV x11.Kind,iV x11.N,.string x11.S]) 1 J aU J hx11 bB (fun _ _ _ h=>by rw [show _=_ from h];rfl)) ?_;refine gD (aH nU J) ?_;rintro _ _ ⟨B12,rfl,rfl⟩;refine gO (ar (us:=[iV x11.Kind,iV x11.N,.string x11.S]) (cs':=[iV x11.Kind,iV x11.N,.string x11.S]) 0 J J J J ck J J J) ?_;rintro _ _ rfl;refine Y ?_;refine gR (ab (us:=[iV x11.Kind,iV x11.N,.string x11.S]) 0 J J bB J) ?_;obtain ⟨y13,hy13,h⟩:=aa h;refine gD (al (i4 hy13) uv J (ac) ge) ?_;rintro _ _ ⟨_,⟨rfl,rfl⟩,rfl⟩;refine Y ?_;refine au J (fun g14=> ?_) (fun g14=> ?_)
    ·replace h:=ah g14 h;refine Y ?_;refine gR (ab (us:=[iV x11.Kind,iV x11.N,.string x11.S]) 0 J J bB J) ?_;refine gD (bP (R:=kc) (vss:=[[iV x11.Kind,iV x11.N,.string x11.S]]) (xs:=[x11]) J (nQ _ _ _) J J (fun _ _ hr=> .cons J All2.nil)) ?_;rintro _ _ ⟨A15,n15,c15,rfl,rfl⟩;obtain ⟨q16,h⟩:=ay h;refine gD (da 2 0 J J aA J J LT BE J J q16) ?_;rintro _ _ ⟨A17,n17,c17,rfl,rfl⟩;refine Y ?_;exact ⟨_,_,⟨p5++([x11]:List Mn),A17,n17,c17,h,J,J⟩,sA,cS [2,3] 4⟩
    replace h:=ai g14 h;refine Y ?_;exact ⟨_,_,⟨p5,A5,n5,c5,h,J,J⟩,sA,cS [1,2] 3⟩
   rintro _ _ ⟨p10,A10,n10,c10,h,rfl,rfl⟩;refine fH ?_;obtain ⟨q18,h⟩:=ay h;refine gE (bE J J q18.1 q18.2) ?_;refine Y ?_;exact ⟨m4,_,_,Mw _,⟨p10,p6+1,A10,n10,c10,h,J,J⟩,sA,cS [0,1] 2⟩
  replace h:=ai g8 h;refine Y ?_;exact ⟨_,_,⟨p5,A5,n5,c5,h,J,J⟩,sA,cS [0] 2⟩
 rintro _ _ ⟨p3,A3,n3,c3,h,rfl,rfl⟩;refine Y ?_;obtain ⟨y19,hy19,h⟩:=aa h;refine gD (aE (mL hy19) IJ J (aC [] [0] [] 1 J)) ?_;rintro _ _ ⟨_,⟨rfl,rfl⟩,rfl⟩;refine bL ?_;refine Y ?_;obtain rfl:=ap h;exact aO J J (cS [0] 1) ⟨_,_,_,J,J⟩
theorem px {r:(List Mn)}: ∀v post,((fun (u:Value) (post:List Chunk)=> ∃A0 n0 c0,u=I A0 n0 c0∧post=[gw A0 n0 c0 r])) v post→ ∀c∈post,bV c:=by
 rintro _ _ ⟨_,_,_,rfl,rfl⟩;exact hD dk (ac)
end Go.Proofs.YtanojiedimeegaaGreatDoor