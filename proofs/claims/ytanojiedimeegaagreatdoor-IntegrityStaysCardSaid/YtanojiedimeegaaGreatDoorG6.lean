/- Merged texts: part 6. No conditions of their own. -/
import Derived.Test.YtanojiedimeegaaGreatDoorG5
namespace Go.Proofs.YtanojiedimeegaaGreatDoor
theorem ME:type_of% Tryz.underlying279:=Tryz.underlying279
variable {A1 A10 A12 A13 A14 A3 A4 A5 A6:Option Addr} {B1 B2 B7 B9 M11 M8 c1 c10 c12 c13 c14 c3 c4 c5 c6 n1 n10 n12 n13 n14 n3 n4 n5 n6:Nat}
open Go.RowKit Asn
set_option maxRecDepth 20000
def pD (N:Nat)(a0:MT)(p39:(List MX)):Option (List MX):=
 some p39
def kF (N:Nat)(y41:((List MM)))(y36:((List Int)))(y16_1:(MP))(a0:MT):Nat→(List MX)→(List MM)→Int→Option (List MX)
 |0,_,_,_=>none
 |m44+1,p45,p46,p47=>bif decide (p47<(y41.length:Int)) then ((bR p46 p47).bind fun x50=>(bR y36 p47).bind fun x52=>(eu N (⟨y16_1.Cell,a0,y16_1.at_⟩:MP) p47 x50 x52).bind fun y53=>dq ((p45.length+([y53]:List MX).length)≤549755813888) (dq (bQ (p47+1)) ((kF N y41 y36 y16_1 a0 m44) (p45++([y53]:List MX)) p46 (p47+1)))) else (pD N a0 p45)
def eF (N:Nat)(a0:MT)(a1:MQ):Option (List MX):=
 (dv N a0 a1).bind fun y16=>AV y16 (fun y16_0=>some []) (fun y16_1=>(cK N a0).bind fun y35=>(gr N a0.shapes_ y16_1.Cell.Shape).bind fun y36=>(cK N a0).bind fun y40=>(eP N a0.shapes_ y16_1.Cell.Shape).bind fun y41=>kF N y41 y36 y16_1 a0 N [] y41 0)
set_option maxHeartbeats 4000000 in
theorem jC {N:Nat}{a0:MT}{a1:MQ}{r:(List MX)}(h:eF N a0 a1=some r):Okc Tryz.prog 105 [pV B1 0,(bz a1)] ([bm A12 n12 c12 a0.symbols_,cH A13 n13 c13 a0.events_,bm A14 n14 c14 a0.out_,ac B1 151 (dm a0 B2 B9 A12 n12 c12 A13 n13 c13 A14 n14 c14),ac B2 199 [I A3 n3 c3,I A4 n4 c4,I A5 n5 c5,I A6 n6 c6,pV B7 0],bw A3 n3 c3 a0.heap_.m_.Young,bw A4 n4 c4 a0.heap_.m_.Old,aX A5 n5 c5 a0.heap_.roots_,aX A6 n6 c6 a0.heap_.pending_,ac B7 247 [.map (some M8)],aG cz cC M8 a0.heap_.set_.at_,ac B9 205 [I A10 n10 c10,.map (some M11)],cL A10 n10 c10 a0.shapes_.shapes_,aG aD cy M11 a0.shapes_.next_]) (fun u post=> ∃A500 n500 c500,u=I A500 n500 c500∧post=[dr dx 42 (I A500 n500 c500) r,ac B1 151 (dm a0 B2 B9 A12 n12 c12 A13 n13 c13 A14 n14 c14),ac B2 199 [I A3 n3 c3,I A4 n4 c4,I A5 n5 c5,I A6 n6 c6,pV B7 0],bw A3 n3 c3 a0.heap_.m_.Young,bw A4 n4 c4 a0.heap_.m_.Old,aX A5 n5 c5 a0.heap_.roots_,aX A6 n6 c6 a0.heap_.pending_,ac B7 247 [.map (some M8)],aG cz cC M8 a0.heap_.set_.at_,ac B9 205 [I A10 n10 c10,.map (some M11)],cL A10 n10 c10 a0.shapes_.shapes_,aG aD cy M11 a0.shapes_.next_]):=by
 refine bD Tryz.func105 J J ?_;simp only [aW];refine U ?_
 refine gB (aO J J) fun B15=> ?_
 refine U ?_;refine gR (ah (us:=au a1) 0 J J aH J) ?_;obtain ⟨y16,hy16,h⟩:=aa h;rcases y16 with y16_0|y16_1
 ·replace h:=Cn h;refine gV (aA (bP hy16) ir J (az [1,2,3] [4,5,6,7,8,9,10,11,12,13,14] [0,1,2,3] 15 J)) ?_;refine U ?_;refine aB ?_;refine U ?_;refine kC J ?_;refine U ?_;obtain rfl:=am h;exact aL J J ((gA dx 42 _).trans (cS [0,1,2,3,4,5,6,7,8,9,10,11] 16)) ⟨_,_,_,J,J⟩
 replace h:=Cm h;refine gD (aA (bP hy16) ir J (az [1,2,3] [4,5,6,7,8,9,10,11,12,13,14] [0,1,2,3] 15 J)) ?_;rintro _ _ ⟨_,⟨B18,A19,n19,c19,A20,n20,c20,rfl,rfl⟩,rfl⟩;refine U ?_;refine aB ?_;refine U ?_;refine ia J ?_;refine U ?_;refine aB ?_;refine bK V _ (ae _) ?_;refine zE 0 J (aq J) ?_;refine zE 2 J (aq J) ?_;refine zE 3 J (bc J) ?_;refine zE 4 J (ef J gc) ?_;refine zE 5 J (ci J nk) ?_;refine zR 6 J (aY 0 J J dH J) ?_;obtain ⟨y35,k,h⟩:=aa h;refine zD 1 J (ap (eD k) sg J (hD (ax (i:=3) J) (hD (ax (i:=4) J) (hD (ao (i:=5) J) (hD (ao (i:=6) J) (hD (ao (i:=7) J) (hD (ao (i:=8) J) (hD (ax (i:=9) J) (hD (aU (i:=10) J) (hD (ax (i:=11) J) (hD (ao (i:=12) J) (hD (aU (i:=13) J) (hD (al (i:=15) J J) (hD (al (i:=16) J J) (hD (al (i:=17) J J) aj)))))))))))))) dU) ?_;rintro _ _ ⟨_,⟨rfl,rfl⟩,rfl⟩;refine ⟨_,ae _,ae _,?_⟩;obtain ⟨y36,k,h⟩:=aa h;refine zD 7 J (ap (qX k) IC J (hD (ax (i:=11) J) (hD (ao (i:=12) J) (hD (aU (i:=13) J) aj))) pX) ?_;rintro _ _ ⟨_,⟨A37,n37,c37,rfl,rfl⟩,rfl⟩;refine eg (cS [1,2,3,4,5,6,7,8,9,10,11,12,13,14,15,16,17,18] 19) ?_;refine zE 8 J (bj J) ?_;refine bC V ?_;refine fa ?_
 refine ba (fun s L=> ∃p39 A39 n39 c39,pD N a0 p39=some r∧s=[(4,I none 0 0),(7,I A39 n39 c39)]∧L=[dr dx 42 (I A39 n39 c39) p39,bm A12 n12 c12 a0.symbols_,cH A13 n13 c13 a0.events_,bm A14 n14 c14 a0.out_,ac B1 151 (dm a0 B2 B9 A12 n12 c12 A13 n13 c13 A14 n14 c14),bw A3 n3 c3 a0.heap_.m_.Young,bw A4 n4 c4 a0.heap_.m_.Old,aX A5 n5 c5 a0.heap_.roots_,aX A6 n6 c6 a0.heap_.pending_,ac B2 199 [I A3 n3 c3,I A4 n4 c4,I A5 n5 c5,I A6 n6 c6,pV B7 0],cL A10 n10 c10 a0.shapes_.shapes_,aG aD cy M11 a0.shapes_.next_,ac B9 205 [I A10 n10 c10,.map (some M11)],aG cz cC M8 a0.heap_.set_.at_,ac B7 247 [.map (some M8)]]) ?_ ?_
 ·refine aB ?_;obtain ⟨y40,hy40,h⟩:=aa h;obtain ⟨y41,hy41,h⟩:=aa h;refine iQ (t:=[(0,pV B1 0),(4,I none 0 0),(5,pV B18 0),(7,I none 0 0),(8,I A37 n37 c37)]) ?_ ki (ae _)
  refine ik V 10 [] [7,8,9] [27,28,29,30,31,32,33,34,35,36] [[],[0],[],[2],[3],[4],[5],[1,6],[7],[]] [aV (pV B1 0),
aV (pV B9 0),
aV (pV B18 0),
aV (pV B18 0),
aV (pV B18 0),
aV (pV B18 1),
aV (iV y16_1.Cell.Shape),
aX3 (fun (A43:Option Addr) (n43 c43:Nat)=> I A43 n43 c43) (fun A43 n43 c43=> [ju A43 n43 c43 y41]),
aV (iV (y41.length:Int)),
aV (iV 0)] [] (ae _) (jP) V rfl rfl ?_ ?_ ?_
  ·exact jO
  ·refine ak J ?_ ?_
   ·exact cb (aq J) J (bg J (ae _))
   refine ak J ?_ ?_
   ·intro A43 n43 c43;exact gi (bL 0 J aC J MD) J (bg J (ae _))
   refine ak J ?_ ?_
   ·refine lH (ap (nD hy41) DY J (hD (ax (i:=12) J) (hD (ao (i:=13) J) (hD (aU (i:=14) J) aj))) mt) J ?_;rintro _ _ ⟨_,⟨A42,n42,c42,rfl,rfl⟩,rfl⟩;exact H7 A42 n42 c42 (ae _)
   refine ak J ?_ ?_
   ·exact gi (aY 1 J J dH J) J (bg J (ae _))
   refine ak J ?_ ?_
   ·exact cb (ci J nk) J (bg J (ae _))
   refine ak J ?_ ?_
   ·exact cb (ef J gc) J (bg J (ae _))
   refine ak J ?_ ?_
   ·exact cb (bc J) J (bg J (ae _))
   refine ak J ?_ ?_
   ·exact cb (aq J) J (bg J (ae _))
   refine ak J ?_ ?_
   ·refine lH (ap (eD hy40) sg J (hD (ax (i:=4) J) (hD (ax (i:=5) J) (hD (ao (i:=6) J) (hD (ao (i:=7) J) (hD (ao (i:=8) J) (hD (ao (i:=9) J) (hD (ax (i:=10) J) (hD (aU (i:=11) J) (hD (ax (i:=12) J) (hD (ao (i:=13) J) (hD (aU (i:=14) J) (hD (al (i:=16) J J) (hD (al (i:=17) J J) (hD (al (i:=18) J J) aj)))))))))))))) dU) J ?_;rintro _ _ ⟨_,⟨rfl,rfl⟩,rfl⟩;exact bg J (ae _)
   refine ak J ?_ ?_
   ·exact cb (aq J) J (bg J (ae _))
   exact eC
  intro A43 n43 c43;refine mq (t:=[(34,I A43 n43 c43),(35,iV (y41.length:Int)),(36,iV 0),(0,pV B1 0),(4,I none 0 0),(5,pV B18 0),(7,I none 0 0),(8,I A37 n37 c37)]) (L':=[ju A43 n43 c43 y41,dr (nw .i64) 3 (I A37 n37 c37) y36,ac B18 140 [iV y16_1.Cell.Kind,iV y16_1.Cell.Shape,iV y16_1.Cell.Flags,iV y16_1.Cell.Age,I A19 n19 c19,I A20 n20 c20,pV B1 0,iV y16_1.at_.Kind,iV y16_1.at_.N,.string y16_1.at_.S],aX A19 n19 c19 y16_1.Cell.Slots,aX A20 n20 c20 y16_1.Cell.More,ac B1 151 (dm a0 B2 B9 A12 n12 c12 A13 n13 c13 A14 n14 c14),ac B2 199 [I A3 n3 c3,I A4 n4 c4,I A5 n5 c5,I A6 n6 c6,pV B7 0],bw A3 n3 c3 a0.heap_.m_.Young,bw A4 n4 c4 a0.heap_.m_.Old,aX A5 n5 c5 a0.heap_.roots_,aX A6 n6 c6 a0.heap_.pending_,ac B7 247 [.map (some M8)],aG cz cC M8 a0.heap_.set_.at_,ac B9 205 [I A10 n10 c10,.map (some M11)],cL A10 n10 c10 a0.shapes_.shapes_,aG aD cy M11 a0.shapes_.next_,ac B15 30 (au a1),bm A12 n12 c12 a0.symbols_,cH A13 n13 c13 a0.events_,bm A14 n14 c14 a0.out_]) ?_ ki (ae _);refine jT V ?_;refine U ?_
  refine cn (fun m s L=> ∃p45 p46 p47 A45 n45 c45 A46 n46 c46,kF N y41 y36 y16_1 a0 m p45 p46 p47=some r∧s=[(4,I none 0 0),(5,pV B18 0),(7,I A45 n45 c45),(8,I A37 n37 c37),(34,I A46 n46 c46),(35,iV (y41.length:Int)),(36,iV p47)]∧L=[dr dx 42 (I A45 n45 c45) p45,dr (nw .i64) 3 (I A37 n37 c37) y36,ju A46 n46 c46 p46,aX A19 n19 c19 y16_1.Cell.Slots,aX A20 n20 c20 y16_1.Cell.More,ac B18 140 [iV y16_1.Cell.Kind,iV y16_1.Cell.Shape,iV y16_1.Cell.Flags,iV y16_1.Cell.Age,I A19 n19 c19,I A20 n20 c20,pV B1 0,iV y16_1.at_.Kind,iV y16_1.at_.N,.string y16_1.at_.S],bm A12 n12 c12 a0.symbols_,cH A13 n13 c13 a0.events_,bm A14 n14 c14 a0.out_,ac B1 151 (dm a0 B2 B9 A12 n12 c12 A13 n13 c13 A14 n14 c14),bw A3 n3 c3 a0.heap_.m_.Young,bw A4 n4 c4 a0.heap_.m_.Old,aX A5 n5 c5 a0.heap_.roots_,aX A6 n6 c6 a0.heap_.pending_,ac B2 199 [I A3 n3 c3,I A4 n4 c4,I A5 n5 c5,I A6 n6 c6,pV B7 0],cL A10 n10 c10 a0.shapes_.shapes_,aG aD cy M11 a0.shapes_.next_,ac B9 205 [I A10 n10 c10,.map (some M11)],aG cz cC M8 a0.heap_.set_.at_,ac B7 247 [.map (some M8)]]) N _ _ ⟨[],y41,0,none,0,0,A43,n43,c43,h,J,J⟩ sA ((gA dx 42 _).trans (cS [0,2,1,4,5,3,18,19,20,6,8,9,10,11,7,15,16,14,13,12] 21)) ?_;rintro (_|m44) _ _ ⟨p45,p46,p47,A45,n45,c45,A46,n46,c46,h,rfl,rfl⟩
  ·exact bu h
  rw [kF.eq_2] at h;refine U ?_;refine aB ?_;refine gH J h (fun h=> ?_) (fun h=> ?_)
  ·refine U ?_;refine aB ?_;refine U ?_;obtain ⟨x50,hx50,h⟩:=aa h;obtain ⟨lx50,ux50,hx50⟩:=aJ hx50;refine gR (bx 2 J aC J J MD cO lx50 ux50) ?_;refine gR (bA (us:=[iV x50.Kind,iV x50.N,.string x50.S]) 2 J aC J hx50 bF (fun _ _ _ h=>by rw [show _=_ from h];rfl)) ?_
   refine gB (aM qP J) fun B51=> ?_
   refine U ?_;refine gW (ar (us:=[iV x50.Kind,iV x50.N,.string x50.S]) (cs':=[iV x50.Kind,iV x50.N,.string x50.S]) 0 J J J J cO J J J) ?_;refine bM ?_;refine U ?_;obtain ⟨x52,hx52,h⟩:=aa h;obtain ⟨lx52,ux52,hx52⟩:=aJ hx52;refine iQ (t:=[(4,I none 0 0),(5,pV B18 0),(7,I A45 n45 c45),(8,I A37 n37 c37),(9,iV p47),(10,pV B51 0),(34,I A46 n46 c46),(35,iV (y41.length:Int)),(36,iV p47)]) ?_ ki (ae _)
   refine ik V 8 [0] [0,1,2,3,7] [41,42,43,44,45,46,47,48] [[],[],[],[],[],[],[4,5],[6]] [aV (I A45 n45 c45),
aV (pV B18 0),
aV (iV p47),
aV (.agg #[iV x50.Kind,iV x50.N,.string x50.S]),
aV (I A37 n37 c37),
aV (iV p47),
aV (fo (I A37 n37 c37) p47.toNat 1 0),
aV (iV x52)] [] (ae _) (eX rfl jP) V rfl rfl ?_ ?_ ?_
   ·refine eW J ?_ ?_
    ·exact kh (aq J) J (bg J (ae _))
    exact jO
   ·refine ak J ?_ ?_
    ·exact gi (fB (u:=iV x52) 2 J aC J hx52 dH (fun _ _ _ h=>by rw [show _=_ from h];rfl)) J (bg J (ae _))
    refine ak J ?_ ?_
    ·exact gi (bx 2 J aC J J MA iM lx52 ux52) J (bg J (ae _))
    refine ak J ?_ ?_
    ·exact cb (aq J) J (bg J (ae _))
    refine ak J ?_ ?_
    ·exact cb (aq J) J (bg J (ae _))
    refine ak J ?_ ?_
    ·exact gi (ah (us:=[iV x50.Kind,iV x50.N,.string x50.S]) 0 J J bF J) J (bg J (ae _))
    refine ak J ?_ ?_
    ·exact cb (aq J) J (bg J (ae _))
    refine ak J ?_ ?_
    ·exact cb (aq J) J (bg J (ae _))
    refine ak J ?_ ?_
    ·exact cb (aq J) J (bg J (ae _))
    exact eC
   refine mq (t:=[(41,I A45 n45 c45),(42,pV B18 0),(43,iV p47),(44,.agg #[iV x50.Kind,iV x50.N,.string x50.S]),(48,iV x52),(4,I none 0 0),(5,pV B18 0),(7,I A45 n45 c45),(8,I A37 n37 c37),(9,iV p47),(10,pV B51 0),(34,I A46 n46 c46),(35,iV (y41.length:Int)),(36,iV p47)]) (L':=[ac B51 24 [iV x50.Kind,iV x50.N,.string x50.S],dr dx 42 (I A45 n45 c45) p45,dr (nw .i64) 3 (I A37 n37 c37) y36,ju A46 n46 c46 p46,aX A19 n19 c19 y16_1.Cell.Slots,aX A20 n20 c20 y16_1.Cell.More,ac B18 140 [iV y16_1.Cell.Kind,iV y16_1.Cell.Shape,iV y16_1.Cell.Flags,iV y16_1.Cell.Age,I A19 n19 c19,I A20 n20 c20,pV B1 0,iV y16_1.at_.Kind,iV y16_1.at_.N,.string y16_1.at_.S],bm A12 n12 c12 a0.symbols_,cH A13 n13 c13 a0.events_,bm A14 n14 c14 a0.out_,ac B1 151 (dm a0 B2 B9 A12 n12 c12 A13 n13 c13 A14 n14 c14),bw A3 n3 c3 a0.heap_.m_.Young,bw A4 n4 c4 a0.heap_.m_.Old,aX A5 n5 c5 a0.heap_.roots_,aX A6 n6 c6 a0.heap_.pending_,ac B2 199 [I A3 n3 c3,I A4 n4 c4,I A5 n5 c5,I A6 n6 c6,pV B7 0],cL A10 n10 c10 a0.shapes_.shapes_,aG aD cy M11 a0.shapes_.next_,ac B9 205 [I A10 n10 c10,.map (some M11)],aG cz cC M8 a0.heap_.set_.at_,ac B7 247 [.map (some M8)]]) ?_ ki (ae _);obtain ⟨y53,k,h⟩:=aa h
   refine vG 8 J V (ap (ni k) DQ J (hD (ax (i:=6) J) (hD (ao (i:=4) J) (hD (ao (i:=5) J) (hD (ax (i:=10) J) (hD (ax (i:=15) J) (hD (ao (i:=11) J) (hD (ao (i:=12) J) (hD (ao (i:=13) J) (hD (ao (i:=14) J) (hD (ax (i:=20) J) (hD (aU (i:=19) J) (hD (ax (i:=18) J) (hD (ao (i:=16) J) (hD (aU (i:=17) J) (hD (al (i:=7) J J) (hD (al (i:=8) J J) (hD (al (i:=9) J J) aj))))))))))))))))) lW) J J J ?_;rintro _ _ ⟨_,⟨rfl,rfl⟩,rfl⟩;refine vG 9 J V (cx (R:=dx) (vss:=[(aR y53)]) (xs:=[y53]) J (BV _ _ _ _ _ _ _ _ _ _ _ _ _) J J (fun _ _ hr=> .cons J All2.nil)) J J J ?_;rintro _ _ ⟨A54,n54,c54,rfl,rfl⟩;obtain ⟨q55,h⟩:=ay h;refine vG 10 J V (sZ 2 0 J J aC J J EM KV J J J q55) J J J ?_;rintro _ _ ⟨A56,n56,c56,rfl,rfl⟩;refine tk 11 J V (bj J) J J J ?_;refine jT V ?_;refine U ?_;obtain ⟨q57,h⟩:=ay h;refine gE (bI J J q57.1 q57.2) ?_;refine U ?_;exact ⟨m44,_,_,Nh _,⟨p45++([y53]:List MX),p46,p47+1,A56,n56,c56,A46,n46,c46,h,J,J⟩,sA,cS [2,3,4,5,6,7,8,9,10,11,12,13,14,15,16,17,18,19,20,21] 22⟩
  refine U ?_;exact ⟨_,_,⟨p45,A45,n45,c45,h,J,J⟩,sA,cS [0,6,7,8,9,10,11,12,13,14,15,16,17,18,19] 20⟩
 rintro _ _ ⟨p39,A39,n39,c39,h,rfl,rfl⟩;refine U ?_;obtain rfl:=am h;exact aL J J (cS [0,4,9,5,6,7,8,14,13,12,10,11] 15) ⟨_,_,_,J,J⟩
def qe (N:Nat)(p7:Int):Option (Int×Bool):=
 bif decide (4294967294<p7) then (some (0,false)) else (some (p7,true))
def nT (N:Nat)(a0:ByteArray):Nat→Int→Int→Option (Int×Bool)
 |0,_,_=>none
 |m8+1,p9,p10=>bif decide (p10<(a0.size:Int)) then ((uQ a0 p10).bind fun x12=>(bif decide (x12<48) then (some true) else ((uQ a0 p10).bind fun x14=>some (decide (57<x14)))).bind fun b13=>bif b13 then (some (0,false)) else (dq (bQ (10*p9)) ((uQ a0 p10).bind fun x17=>dq (bQ ((10*p9)+(IntKind.i64.wrap (IntKind.u8.wrap (x17 - 48))))) (dq (bQ (p10+1)) ((nT N a0 m8) ((10*p9)+(IntKind.i64.wrap (IntKind.u8.wrap (x17 - 48)))) (p10+1)))))) else (qe N p9)
def kw (N:Nat)(a0:ByteArray):Option (Int×Bool):=
 (bif a0.toList==(⟨#[]⟩:ByteArray).toList then (some true) else (some (decide (10<(a0.size:Int))))).bind fun b1=>(bif b1 then (some true) else ((uQ a0 0).bind fun x3=>(bif decide (x3=48) then (some (decide (1<(a0.size:Int)))) else (some false)).bind fun b4=>some b4)).bind fun b2=>bif b2 then (some (0,false)) else (nT N a0 N 0 0)
set_option maxHeartbeats 4000000 in
theorem zZ {N:Nat}{a0:ByteArray}{r:(Int×Bool)}(h:kw N a0=some r):Okc Tryz.prog 151 [.string a0] ([]) (fun u post=>u=.tuple #[iV r.1,.bool r.2]∧post=[]):=by
 refine bD Tryz.func151 J J ?_;simp only [aW];refine U ?_;refine aB ?_;refine U ?_;refine gE (pM J J) ?_;refine U ?_;obtain ⟨b1,hb1,h⟩:=aa h;refine aK 4 12 b1 ?_ ?_
 ·clear h;refine aI 8 J (fun g1=> ?_) (fun g1=> ?_)
  ·have h:=aE g1 hb1;refine U ?_;obtain rfl:=am h;exact ad sA (cS [] 0)
  have h:=aF g1 hb1;refine U ?_;refine fb (lx J hH) J (cX g1 J) J ?_;refine U ?_;obtain rfl:=am h;exact ad sA (cS [] 0)
 refine U ?_;obtain ⟨b2,hb2,h⟩:=aa h;refine aK 9 22 b2 ?_ ?_
 ·clear h;refine aI 13 J (fun g2=> ?_) (fun g2=> ?_)
  ·have h:=aE g2 hb2;refine U ?_;obtain rfl:=am h;exact ad sA (cS [] 0)
  have h:=aF g2 hb2;refine U ?_;obtain ⟨x3,hx3,h⟩:=aa h;refine fb (oc J J hH hx3) J (cX g2 J) J ?_;refine U ?_;obtain ⟨b4,hb4,h⟩:=aa h;refine aK 4 21 b4 ?_ ?_
  ·clear h;refine aI 17 J (fun g4=> ?_) (fun g4=> ?_)
   ·have h:=aE g4 hb4;refine U ?_;refine fb (lx J hH) J (bp g4 J) J ?_;refine U ?_;obtain rfl:=am h;exact ad sA (cS [] 0)
   have h:=aF g4 hb4;refine U ?_;obtain rfl:=am h;exact ad sA (cS [] 0)
  refine U ?_;obtain rfl:=am h;exact ad sA (cS [] 0)
 refine U ?_;refine gH J h (fun h=> ?_) (fun h=> ?_)
 ·refine U ?_;obtain rfl:=am h;exact dc J J J (cS [] 0) ⟨J,J⟩
 refine U ?_;refine ba (fun s L=> ∃p7,qe N p7=some r∧s=[(2,iV 0),(3,.bool false),(4,iV p7)]∧L=[]) ?_ ?_
 ·refine U ?_;refine gE (lx J hH) ?_;refine U ?_;refine cn (fun m s L=> ∃p9 p10,nT N a0 m p9 p10=some r∧s=[(0,.string a0),(2,iV 0),(3,.bool false),(4,iV p9),(24,iV (a0.size:Int)),(25,iV p10)]∧L=[]) N _ _ ⟨0,0,h,J,J⟩ sA (cS [] 0) ?_;rintro (_|m8) _ _ ⟨p9,p10,h,rfl,rfl⟩
  ·exact bu h
  rw [nT.eq_2] at h;refine U ?_;refine aB ?_;refine gH J h (fun h=> ?_) (fun h=> ?_)
  ·refine U ?_;refine aB ?_;refine U ?_;refine aB ?_;refine U ?_;obtain ⟨x12,hx12,h⟩:=aa h;refine gE (oc J J hH hx12) ?_;refine U ?_;obtain ⟨b13,hb13,h⟩:=aa h;refine aK 5 37 b13 ?_ ?_
   ·clear h;refine aI 32 J (fun g13=> ?_) (fun g13=> ?_)
    ·have h:=aE g13 hb13;refine U ?_;obtain rfl:=am h;exact ad sA (cS [] 0)
    have h:=aF g13 hb13;refine U ?_;obtain ⟨x14,hx14,h⟩:=aa h;refine fb (oc J J hH hx14) J (cX g13 J) J ?_;refine U ?_;obtain rfl:=am h;exact ad sA (cS [] 0)
   refine U ?_;refine gH J h (fun h=> ?_) (fun h=> ?_)
   ·refine U ?_;obtain rfl:=am h;exact dc J J J (cS [] 0) ⟨J,J⟩
   refine U ?_;obtain ⟨q16,h⟩:=ay h;refine gE (oJ J J q16.1 q16.2) ?_;refine U ?_;obtain ⟨x17,hx17,h⟩:=aa h;refine gE (oc J J hH hx17) ?_;refine gE (H0 J J) ?_;refine gE (qD J J hJ) ?_;obtain ⟨q18,h⟩:=ay h;refine gE (bI J J q18.1 q18.2) ?_;refine U ?_;obtain ⟨q19,h⟩:=ay h;refine gE (bI J J q19.1 q19.2) ?_;refine U ?_;exact ⟨m8,_,_,Nh _,⟨(10*p9)+(IntKind.i64.wrap (IntKind.u8.wrap (x17 - 48))),p10+1,h,J,J⟩,sA,cS [] 0⟩
  refine U ?_;exact ⟨_,_,⟨p9,h,J,J⟩,sA,cS [] 0⟩
 rintro _ _ ⟨p7,h,rfl,rfl⟩;refine aB ?_;refine U ?_;refine gH J h (fun h=> ?_) (fun h=> ?_)
 ·refine U ?_;obtain rfl:=am h;exact dc J J J (cS [] 0) ⟨J,J⟩
 refine U ?_;obtain rfl:=am h;exact dc J J J (cS [] 0) ⟨J,J⟩
theorem xp {r:(Int×Bool)}:∀(u:Value)(p:List Chunk),u=.tuple #[iV r.1,.bool r.2]∧p=[]→∀c∈p,cM c:=by
 rintro _ _ ⟨rfl,rfl⟩;exact aj
def co (N:Nat)(a0:MM):Option Bool:=
 bif decide (a0.Kind=0) then ((bif a0.S.toList==(⟨#[]⟩:ByteArray).toList then (some (decide (0≤a0.N))) else (some false)).bind fun b3=>(bif b3 then (some (decide (a0.N≤4294967294))) else (some false)).bind fun b4=>some b4) else (bif decide (a0.Kind=1) then ((kw N a0.S).bind fun y6=>(bif decide (a0.N=0) then (some (decide ((a0.S.size:Int)≤65536))) else (some false)).bind fun b7=>(bif b7 then (some (!y6.2)) else (some false)).bind fun b8=>some b8) else (bif decide (a0.Kind=2) then ((bif a0.S.toList==(⟨#[]⟩:ByteArray).toList then (some (decide (1≤a0.N))) else (some false)).bind fun b10=>some b10) else (some false)))
set_option maxHeartbeats 4000000 in
theorem kL {N:Nat}{a0:MM}{r:Bool}(h:co N a0=some r):Okc Tryz.prog 99 [(fT a0)] ([]) (fun u post=>u=.bool r∧post=[]):=by
 refine bD Tryz.func99 J J ?_;simp only [aW];refine U ?_
 refine gB (aO J J) fun B1=> ?_
 refine U ?_;refine aB ?_;refine U ?_;refine gH J h (fun h=> ?_) (fun h=> ?_)
 ·refine U ?_;refine gE (pM J J) ?_;refine U ?_;obtain ⟨b3,hb3,h⟩:=aa h;refine aK 4 16 b3 ?_ ?_
  ·clear h;refine aI 12 J (fun g3=> ?_) (fun g3=> ?_)
   ·have h:=aE g3 hb3;refine U ?_;obtain rfl:=am h;exact ad sA (cS [0] 1)
   have h:=aF g3 hb3;refine U ?_;obtain rfl:=am h;exact ad sA (cS [0] 1)
  refine U ?_;obtain ⟨b4,hb4,h⟩:=aa h;refine aK 4 21 b4 ?_ ?_
  ·clear h;refine aI 17 J (fun g4=> ?_) (fun g4=> ?_)
   ·have h:=aE g4 hb4;refine U ?_;obtain rfl:=am h;exact ad sA (cS [0] 1)
   have h:=aF g4 hb4;refine U ?_;obtain rfl:=am h;exact ad sA (cS [0] 1)
  refine U ?_;obtain rfl:=am h;exact aL J J (cS [] 1) ⟨J,J⟩
 refine U ?_;refine gH J h (fun h=> ?_) (fun h=> ?_)
 ·refine U ?_;obtain ⟨y6,k,h⟩:=aa h;refine gV (ap (zZ k) IE J (aj) xp) ?_;refine U ?_;obtain ⟨b7,hb7,h⟩:=aa h;refine aK 5 38 b7 ?_ ?_
  ·clear h;refine aI 33 J (fun g7=> ?_) (fun g7=> ?_)
   ·have h:=aE g7 hb7;refine U ?_;refine fb (lx J hH) J (bp g7 J) J ?_;refine U ?_;obtain rfl:=am h;exact ad sA (cS [0] 1)
   have h:=aF g7 hb7;refine U ?_;obtain rfl:=am h;exact ad sA (cS [0] 1)
  refine U ?_;obtain ⟨b8,hb8,h⟩:=aa h;refine aK 3 42 b8 ?_ ?_
  ·clear h;refine aI 39 J (fun g8=> ?_) (fun g8=> ?_)
   ·have h:=aE g8 hb8;refine U ?_;obtain rfl:=am h;exact ad sA (cS [0] 1)
   have h:=aF g8 hb8;refine U ?_;obtain rfl:=am h;exact ad sA (cS [0] 1)
  refine U ?_;obtain rfl:=am h;exact aL J J (cS [] 1) ⟨J,J⟩
 refine U ?_;refine gH J h (fun h=> ?_) (fun h=> ?_)
 ·refine U ?_;refine gE (pM J J) ?_;refine U ?_;obtain ⟨b10,hb10,h⟩:=aa h;refine aK 4 52 b10 ?_ ?_
  ·clear h;refine aI 48 J (fun g10=> ?_) (fun g10=> ?_)
   ·have h:=aE g10 hb10;refine U ?_;obtain rfl:=am h;exact ad sA (cS [0] 1)
   have h:=aF g10 hb10;refine U ?_;obtain rfl:=am h;exact ad sA (cS [0] 1)
  refine U ?_;obtain rfl:=am h;exact aL J J (cS [] 1) ⟨J,J⟩
 refine U ?_;obtain rfl:=am h;exact aL J J (cS [] 1) ⟨J,J⟩
theorem i7 {r:Bool}:∀(u:Value)(p:List Chunk),u=.bool r∧p=[]→∀c∈p,cM c:=by
 rintro _ _ ⟨rfl,rfl⟩;exact aj
def pc (N:Nat)(a0:Int):Option Bool:=
 some (!decide (a0=a0))
theorem t9 {N:Nat}{a0:Int}{r:Bool}(h:pc N a0=some r):Okc Tryz.prog 232 [iV a0] ([]) (fun u post=>u=.bool r∧post=[]):=by
 refine bD Tryz.func232 J J ?_;simp only [aW];refine U ?_;obtain rfl:=am h;exact aL J J (cS [] 0) ⟨J,J⟩
theorem rB {r:Bool}:∀(u:Value)(p:List Chunk),u=.bool r∧p=[]→∀c∈p,cM c:=by
 rintro _ _ ⟨rfl,rfl⟩;exact aj
def ln (N:Nat)(a0:Int)(a1:Int):Option Int:=
 (pc N a0).bind fun y1=>(pc N a1).bind fun y2=>bif y1 then (bif y2 then (some 0) else (some (-1))) else (bif y2 then (some 1) else (bif decide (a0<a1) then (some (-1)) else (bif decide (a1<a0) then (some 1) else (some 0))))
set_option maxHeartbeats 4000000 in
theorem rC {N:Nat}{a0:Int}{a1:Int}{r:Int}(h:ln N a0 a1=some r):Okc Tryz.prog 208 [iV a0,iV a1] ([]) (fun u post=>u=iV r∧post=[]):=by
 refine bD Tryz.func208 J J ?_;simp only [aW];refine U ?_;obtain ⟨y1,k,h⟩:=aa h;refine gV (ap (t9 k) DI J (aj) rB) ?_;refine U ?_;obtain ⟨y2,k,h⟩:=aa h;refine gV (ap (t9 k) DI J (aj) rB) ?_;refine U ?_;refine aB ?_;refine U ?_;refine gH J h (fun h=> ?_) (fun h=> ?_)
 ·refine aB ?_;refine U ?_;refine gH J h (fun h=> ?_) (fun h=> ?_)
  ·refine U ?_;obtain rfl:=am h;exact aL J J (cS [] 0) ⟨J,J⟩
  refine U ?_;obtain rfl:=am h;exact aL J J (cS [] 0) ⟨J,J⟩
 refine U ?_;refine aB ?_;refine U ?_;refine gH J h (fun h=> ?_) (fun h=> ?_)
 ·refine U ?_;obtain rfl:=am h;exact aL J J (cS [] 0) ⟨J,J⟩
 refine U ?_;refine aB ?_;refine U ?_;refine gH J h (fun h=> ?_) (fun h=> ?_)
 ·refine U ?_;obtain rfl:=am h;exact aL J J (cS [] 0) ⟨J,J⟩
 refine U ?_;refine aB ?_;refine U ?_;refine gH J h (fun h=> ?_) (fun h=> ?_)
 ·refine U ?_;obtain rfl:=am h;exact aL J J (cS [] 0) ⟨J,J⟩
 refine U ?_;obtain rfl:=am h;exact aL J J (cS [] 0) ⟨J,J⟩
theorem pQ {r:Int}:∀(u:Value)(p:List Chunk),u=iV r∧p=[]→∀c∈p,cM c:=by
 rintro _ _ ⟨rfl,rfl⟩;exact aj
def ku (N:Nat)(a0:MM)(a1:MM):Option Int:=
 (bif decide (a0.Kind=0) then (some (decide (a1.Kind=0))) else (some false)).bind fun b3=>bif b3 then ((ln N a0.N a1.N).bind fun y5=>some y5) else ((ln N a0.Kind a1.Kind).bind fun y6=>some y6)
theorem nR {N:Nat}{a0:MM}{a1:MM}{r:Int}(h:ku N a0 a1=some r):Okc Tryz.prog 161 [(fT a0),(fT a1)] ([]) (fun u post=>u=iV r∧post=[]):=by
 refine bD Tryz.func161 J J ?_;simp only [aW];refine U ?_
 refine gB (aO J J) fun B1=> ?_
 refine gB (aO J J) fun B2=> ?_
 refine U ?_;refine aB ?_;refine U ?_;obtain ⟨b3,hb3,h⟩:=aa h;refine aK 4 12 b3 ?_ ?_
 ·clear h;refine aI 8 J (fun g3=> ?_) (fun g3=> ?_)
  ·have h:=aE g3 hb3;refine U ?_;obtain rfl:=am h;exact ad sA (cS [0,1] 2)
  have h:=aF g3 hb3;refine U ?_;obtain rfl:=am h;exact ad sA (cS [0,1] 2)
 refine U ?_;refine gH J h (fun h=> ?_) (fun h=> ?_)
 ·refine U ?_;obtain ⟨y5,k,h⟩:=aa h;refine gV (ap (rC k) DL J (aj) pQ) ?_;refine U ?_;obtain rfl:=am h;exact aL J J (cS [] 2) ⟨J,J⟩
 refine U ?_;obtain ⟨y6,k,h⟩:=aa h;refine gV (ap (rC k) DL J (aj) pQ) ?_;refine U ?_;obtain rfl:=am h;exact aL J J (cS [] 2) ⟨J,J⟩
theorem ma {r:Int}:∀(u:Value)(p:List Chunk),u=iV r∧p=[]→∀c∈p,cM c:=by
 rintro _ _ ⟨rfl,rfl⟩;exact aj
def eo (N:Nat)(kb3:(List MM)→Int→Option (List MM))(a1:Int)(a2:Int)(p5:Int)(p8:(List MM)):Option (List MM):=
 dq (bQ (p5+1)) (kb3 p8 (p5+1))
def df (N:Nat)(kb3:(List MM)→Int→Option (List MM))(a1:Int)(a2:Int)(p5:Int):Nat→(List MM)→Int→Option (List MM)
 |0,_,_=>none
 |m9+1,p10,p11=>(bif decide (a1<p11) then ((bR p10 p11).bind fun x13=>dq (bQ (p11 - 1)) ((bR p10 (p11 - 1)).bind fun x15=>(ku N x13 x15).bind fun y16=>some (decide (y16<0)))) else (some false)).bind fun b12=>bif b12 then (dq (bQ (p11 - 1)) (dq (bQ (p11 - 1)) ((bR p10 (p11 - 1)).bind fun x20=>(bR p10 p11).bind fun x21=>(bR p10 p11).bind fun x22=>(bR (List.set p10 p11.toNat (⟨x20.Kind,x20.N,x20.S⟩:MM)) (p11 - 1)).bind fun x23=>dq (bQ (p11 - 1)) ((df N kb3 a1 a2 p5 m9) (List.set (List.set p10 p11.toNat (⟨x20.Kind,x20.N,x20.S⟩:MM)) ((p11 - 1).toNat) (⟨x21.Kind,x21.N,x21.S⟩:MM)) (p11 - 1))))) else (eo N kb3 a1 a2 p5 p10)
def cj (N:Nat)(a1:Int)(a2:Int):Nat→(List MM)→Int→Option (List MM)
 |0,_,_=>none
 |m3+1,p4,p5=>bif decide (p5<a2) then (df N (cj N a1 a2 m3) a1 a2 p5 N p4 p5) else (some p4)
def cr (N:Nat)(a0:(List MM))(a1:Int)(a2:Int):Option (List MM):=
 dq (bQ (a1+1)) (cj N a1 a2 N a0 (a1+1))
set_option maxHeartbeats 4000000 in
theorem ei {N:Nat}{a0:(List MM)}{a1:Int}{a2:Int}{r:(List MM)}(h:cr N a0 a1 a2=some r):Okc Tryz.prog 230 [I A1 n1 c1,iV a1,iV a2,.func (.func 161) #[] #[]] ([ju A1 n1 c1 a0]) (fun u post=>u=.tuple #[]∧post=[ju A1 n1 c1 r]):=by
 refine bD Tryz.func230 J J ?_;simp only [aW];refine U ?_;obtain ⟨q2,h⟩:=ay h;refine gE (bI J J q2.1 q2.2) ?_;refine U ?_;refine cn (fun m s L=> ∃p4 p5,cj N a1 a2 m p4 p5=some r∧s=[(0,I A1 n1 c1),(1,iV a1),(2,iV a2),(3,.func (.func 161) #[] #[]),(8,iV p5)]∧L=[ju A1 n1 c1 p4]) N _ _ ⟨a0,a1+1,h,J,J⟩ sA (cS [0] 1) ?_;rintro (_|m3) _ _ ⟨p4,p5,h,rfl,rfl⟩
 ·exact bu h
 rw [cj.eq_2] at h;refine aB ?_;refine U ?_;refine gH J h (fun h=> ?_) (fun h=> ?_)
 ·refine U ?_;refine ba (fun s L=> ∃p8,eo N (cj N a1 a2 m3) a1 a2 p5 p8=some r∧s=[(0,I A1 n1 c1),(1,iV a1),(2,iV a2),(3,.func (.func 161) #[] #[]),(8,iV p5)]∧L=[ju A1 n1 c1 p8]) ?_ ?_
  ·refine U ?_;refine cn (fun m s L=> ∃p10 p11,df N (cj N a1 a2 m3) a1 a2 p5 m p10 p11=some r∧s=[(0,I A1 n1 c1),(1,iV a1),(2,iV a2),(3,.func (.func 161) #[] #[]),(8,iV p5),(9,iV p11)]∧L=[ju A1 n1 c1 p10]) N _ _ ⟨p4,p5,h,J,J⟩ sA (cS [0] 1) ?_;rintro (_|m9) _ _ ⟨p10,p11,h,rfl,rfl⟩
   ·exact bu h
   rw [df.eq_2] at h;refine aB ?_;refine aB ?_;refine bK V _ (ae _) ?_;refine zE 0 J (aq J) ?_;refine zE 1 J (aq J) ?_;refine zE 2 J (Jo J J) ?_;refine zE 3 J (aq J) ?_;obtain ⟨b12,hb12,h⟩:=aa h;refine gZ (fun l=>(((((((((((((l.setIfInBounds 4 true).setIfInBounds 5 true).setIfInBounds 6 true).setIfInBounds 7 true).setIfInBounds 8 true).setIfInBounds 9 true).setIfInBounds 10 true).setIfInBounds 11 true).setIfInBounds 12 true).setIfInBounds 13 true).setIfInBounds 14 true).setIfInBounds 15 true).setIfInBounds 16 true)) 0 34 b12 (fun rest=> ?_) ?_
   ·clear h;refine i3 21 J (fun g12=> ?_) (fun g12=> ?_)
    ·have h:=aE g12 hb12;refine dG 4 J V (aq J) (bp g12 J) J ?_;refine dG 5 J V (aq J) (bp g12 J) J ?_;refine dG 6 J V (aq J) (bp g12 J) J ?_;obtain ⟨x13,hx13,h⟩:=aa h;obtain ⟨lx13,ux13,hx13⟩:=aJ hx13;refine kB 7 J V (bx 0 J aC J J MD cO lx13 ux13) (bp g12 J) J ?_;refine kB 8 J V (bA (us:=[iV x13.Kind,iV x13.N,.string x13.S]) 0 J aC J hx13 bF (fun _ _ _ h=>by rw [show _=_ from h];rfl)) (bp g12 J) J ?_;refine dG 9 J V (aq J) (bp g12 J) J ?_;refine dG 10 J V (aq J) (bp g12 J) J ?_;obtain ⟨q14,h⟩:=ay h;refine dG 11 J V (dI J J q14.1 q14.2) (bp g12 J) J ?_;obtain ⟨x15,hx15,h⟩:=aa h;obtain ⟨lx15,ux15,hx15⟩:=aJ hx15;refine kB 12 J V (bx 0 J aC J J MD cO lx15 ux15) (bp g12 J) J ?_;refine kB 13 J V (bA (us:=[iV x15.Kind,iV x15.N,.string x15.S]) 0 J aC J hx15 bF (fun _ _ _ h=>by rw [show _=_ from h];rfl)) (bp g12 J) J ?_;obtain ⟨y16,k,h⟩:=aa h;refine mK 14 J V (fM (nR k) ww J J J (aj) ma) J (bp g12 J) J ?_;rintro _ _ ⟨_,⟨rfl,rfl⟩,rfl⟩;refine ⟨_,ae _,ae _,?_⟩;refine dG 15 J V (ze J J) (bp g12 J) J ?_;refine zE 16 J (d3 g12 J J) ?_;obtain rfl:=am h
     exact eQ rest (cN J (av (av (av (av (av (av (av (av (av (av (av (av (av bU J) J) J) J) J) J) J) J) J) J) J) J) J)) (ae _) (ae _)
    have h:=aF g12 hb12;refine cv 4 J V (fk g12 J) J ?_;refine cv 5 J V (fk g12 J) J ?_;refine cv 6 J V (fk g12 J) J ?_;refine cv 7 J V (fk g12 J) J ?_;refine cv 8 J V (fk g12 J) J ?_;refine cv 9 J V (fk g12 J) J ?_;refine cv 10 J V (fk g12 J) J ?_;refine cv 11 J V (fk g12 J) J ?_;refine cv 12 J V (fk g12 J) J ?_;refine cv 13 J V (fk g12 J) J ?_;refine cv 14 J V (fk g12 J) J ?_;refine cv 15 J V (fk g12 J) J ?_;refine zE 16 J (d4 g12 J J) ?_;obtain rfl:=am h;exact eQ rest (cN J (av (av (av (av (av (av (av (av (av (av (av (av (av bU J) J) J) J) J) J) J) J) J) J) J) J) J)) (ae _) (ae _)
   refine bC V ?_;refine fa ?_;refine gH J h (fun h=> ?_) (fun h=> ?_)
   ·refine U ?_;refine aB ?_;refine eZ ?_;obtain ⟨q18,h⟩:=ay h;obtain ⟨q19,h⟩:=ay h;obtain ⟨x20,hx20,h⟩:=aa h;obtain ⟨lx20,ux20,hx20⟩:=aJ hx20;obtain ⟨x21,hx21,h⟩:=aa h;obtain ⟨lx21,ux21,hx21⟩:=aJ hx21;refine iQ (t:=[(0,I A1 n1 c1),(1,iV a1),(2,iV a2),(3,.func (.func 161) #[] #[]),(8,iV p5),(9,iV p11)]) ?_ ki (ae _)
    refine ik V 14 [2,3,4] [0,1,2,4,9,13] [37,38,39,40,41,42,43,44,45,46,47,48,49,50] [[],[],[],[],[3],[],[],[6],[5,7],[8],[],[],[10,11],[12]] [aV (I A1 n1 c1),
 aV (iV p11),
 aV (I A1 n1 c1),
 aV (iV p11),
 aV (iV (p11 - 1)),
 aV (I A1 n1 c1),
 aV (iV p11),
 aV (iV (p11 - 1)),
 aV (fo (I A1 n1 c1) ((p11 - 1).toNat) 3 0),
 aV (.agg #[iV x20.Kind,iV x20.N,.string x20.S]),
 aV (I A1 n1 c1),
 aV (iV p11),
 aV (fo (I A1 n1 c1) p11.toNat 3 0),
 aV (.agg #[iV x21.Kind,iV x21.N,.string x21.S])] [] (ae _) (eX rfl (eX rfl (eX rfl jP))) V rfl rfl ?_ ?_ ?_
    ·refine eW J ?_ ?_
     ·exact kh (aq J) J (bg J (ae _))
     refine eW J ?_ ?_
     ·exact kh (aq J) J (bg J (ae _))
     refine eW J ?_ ?_
     ·exact kh (dI J J q18.1 q18.2) J (bg J (ae _))
     exact jO
    ·refine ak J ?_ ?_
     ·exact gi (bA (us:=[iV x21.Kind,iV x21.N,.string x21.S]) 0 J aC J hx21 bF (fun _ _ _ h=>by rw [show _=_ from h];rfl)) J (bg J (ae _))
     refine ak J ?_ ?_
     ·exact gi (bx 0 J aC J J MD cO lx21 ux21) J (bg J (ae _))
     refine ak J ?_ ?_
     ·exact cb (aq J) J (bg J (ae _))
     refine ak J ?_ ?_
     ·exact cb (aq J) J (bg J (ae _))
     refine ak J ?_ ?_
     ·exact gi (bA (us:=[iV x20.Kind,iV x20.N,.string x20.S]) 0 J aC J hx20 bF (fun _ _ _ h=>by rw [show _=_ from h];rfl)) J (bg J (ae _))
     refine ak J ?_ ?_
     ·exact gi (bx 0 J aC J J MD cO lx20 ux20) J (bg J (ae _))
     refine ak J ?_ ?_
     ·exact cb (dI J J q19.1 q19.2) J (bg J (ae _))
     refine ak J ?_ ?_
     ·exact cb (aq J) J (bg J (ae _))
     refine ak J ?_ ?_
     ·exact cb (aq J) J (bg J (ae _))
     refine ak J ?_ ?_
     ·exact cb (dI J J q18.1 q18.2) J (bg J (ae _))
     refine ak J ?_ ?_
     ·exact cb (aq J) J (bg J (ae _))
     refine ak J ?_ ?_
     ·exact cb (aq J) J (bg J (ae _))
     refine ak J ?_ ?_
     ·exact cb (aq J) J (bg J (ae _))
     refine ak J ?_ ?_
     ·exact cb (aq J) J (bg J (ae _))
     exact eC
    refine mq (t:=[(37,I A1 n1 c1),(38,iV p11),(39,I A1 n1 c1),(41,iV (p11 - 1)),(46,.agg #[iV x20.Kind,iV x20.N,.string x20.S]),(50,.agg #[iV x21.Kind,iV x21.N,.string x21.S]),(0,I A1 n1 c1),(1,iV a1),(2,iV a2),(3,.func (.func 161) #[] #[]),(8,iV p5),(9,iV p11)]) (L':=[ju A1 n1 c1 p10]) ?_ ki (ae _);obtain ⟨x22,hx22,h⟩:=aa h;obtain ⟨lx22,ux22,hx22⟩:=aJ hx22;refine Cf 14 J V (bx 0 J aC J J MD cO lx22 ux22) J J J ?_;refine lO 15 J V (cZ (us:=[iV x20.Kind,iV x20.N,.string x20.S]) (z:=(⟨x20.Kind,x20.N,x20.S⟩:MM)) 0 J J J J cO J (toNat_lt lx22 ux22) J (fun S w vs xk hk hr ho=>by obtain rfl:=Option.some.inj (hk.symm.trans hx22);rw [show _=_ from hr];rfl)) J J ?_;rintro _ _ rfl;obtain ⟨x23,hx23,h⟩:=aa h;obtain ⟨lx23,ux23,hx23⟩:=aJ hx23;refine Cf 16 J V (bx 0 J aC J J MD cO lx23 ux23) J J J ?_;refine lO 17 J V (cZ (us:=[iV x21.Kind,iV x21.N,.string x21.S]) (z:=(⟨x21.Kind,x21.N,x21.S⟩:MM)) 0 J J J J cO J (toNat_lt lx23 ux23) J (fun S w vs xk hk hr ho=>by obtain rfl:=Option.some.inj (hk.symm.trans hx23);rw [show _=_ from hr];rfl)) J J ?_;rintro _ _ rfl;refine jT V ?_;refine U ?_;obtain ⟨q24,h⟩:=ay h;refine gE (dI J J q24.1 q24.2) ?_;refine U ?_
    exact ⟨m9,_,_,Nh _,⟨List.set (List.set p10 p11.toNat (⟨x20.Kind,x20.N,x20.S⟩:MM)) ((p11 - 1).toNat) (⟨x21.Kind,x21.N,x21.S⟩:MM),p11 - 1,h,J,J⟩,sA,cS [0] 1⟩
   refine U ?_;exact ⟨_,_,⟨p10,h,J,J⟩,sA,cS [0] 1⟩
  rintro _ _ ⟨p8,h,rfl,rfl⟩;refine U ?_;obtain ⟨q25,h⟩:=ay h;refine gE (bI J J q25.1 q25.2) ?_;refine U ?_;exact ⟨m3,_,_,Nh _,⟨p8,p5+1,h,J,J⟩,sA,cS [0] 1⟩
 refine U ?_;obtain rfl:=am h;exact fR J (cS [0] 1) ⟨J,J⟩
def dO (N:Nat)(a1:Int)(a2:Int)(a3:Int):Nat→(List MM)→Int→Option (List MM)
 |0,_,_=>none
 |m2+1,p3,p4=>bif decide (p4<a3) then (dq (bQ (a1+p4)) (dq (bQ (a2+p4)) (dq (bQ (a2+p4)) ((bR p3 (a2+p4)).bind fun x9=>dq (bQ (a1+p4)) ((bR p3 (a1+p4)).bind fun x11=>(bR p3 (a1+p4)).bind fun x12=>(bR (List.set p3 ((a1+p4).toNat) (⟨x9.Kind,x9.N,x9.S⟩:MM)) (a2+p4)).bind fun x13=>dq (bQ (p4+1)) ((dO N a1 a2 a3 m2) (List.set (List.set p3 ((a1+p4).toNat) (⟨x9.Kind,x9.N,x9.S⟩:MM)) ((a2+p4).toNat) (⟨x11.Kind,x11.N,x11.S⟩:MM)) (p4+1))))))) else (some p3)
def da (N:Nat)(a0:(List MM))(a1:Int)(a2:Int)(a3:Int):Option (List MM):=
 dO N a1 a2 a3 N a0 0
theorem fd {N:Nat}{a0:(List MM)}{a1:Int}{a2:Int}{a3:Int}{r:(List MM)}(h:da N a0 a1 a2 a3=some r):Okc Tryz.prog 254 [I A1 n1 c1,iV a1,iV a2,iV a3,.func (.func 161) #[] #[]] ([ju A1 n1 c1 a0]) (fun u post=>u=.tuple #[]∧post=[ju A1 n1 c1 r]):=by
 refine bD Tryz.func254 J J ?_;simp only [aW];refine U ?_;refine cn (fun m s L=> ∃p3 p4,dO N a1 a2 a3 m p3 p4=some r∧s=[(0,I A1 n1 c1),(1,iV a1),(2,iV a2),(3,iV a3),(10,iV p4)]∧L=[ju A1 n1 c1 p3]) N _ _ ⟨a0,0,h,J,J⟩ sA (cS [0] 1) ?_;rintro (_|m2) _ _ ⟨p3,p4,h,rfl,rfl⟩
 ·exact bu h
 rw [dO.eq_2] at h;refine aB ?_;refine U ?_;refine gH J h (fun h=> ?_) (fun h=> ?_)
 ·refine U ?_;refine aB ?_;refine eZ ?_;obtain ⟨q6,h⟩:=ay h;obtain ⟨q7,h⟩:=ay h;obtain ⟨q8,h⟩:=ay h;obtain ⟨x9,hx9,h⟩:=aa h;obtain ⟨lx9,ux9,hx9⟩:=aJ hx9;obtain ⟨q10,h⟩:=ay h;obtain ⟨x11,hx11,h⟩:=aa h;obtain ⟨lx11,ux11,hx11⟩:=aJ hx11;refine iQ (t:=[(0,I A1 n1 c1),(1,iV a1),(2,iV a2),(3,iV a3),(10,iV p4)]) ?_ ki (ae _)
  refine ik V 20 [4,5,6,7] [0,3,4,7,13,19] [16,17,18,19,20,21,22,23,24,25,26,27,28,29,30,31,32,33,34,35] [[],[],[],[1,2],[],[],[],[5,6],[],[],[],[9,10],[8,11],[12],[],[],[],[15,16],[14,17],[18]] [aV (I A1 n1 c1),
 aV (iV a1),
 aV (iV p4),
 aV (iV (a1+p4)),
 aV (I A1 n1 c1),
 aV (iV a2),
 aV (iV p4),
 aV (iV (a2+p4)),
 aV (I A1 n1 c1),
 aV (iV a2),
 aV (iV p4),
 aV (iV (a2+p4)),
 aV (fo (I A1 n1 c1) ((a2+p4).toNat) 3 0),
 aV (.agg #[iV x9.Kind,iV x9.N,.string x9.S]),
 aV (I A1 n1 c1),
 aV (iV a1),
 aV (iV p4),
 aV (iV (a1+p4)),
 aV (fo (I A1 n1 c1) ((a1+p4).toNat) 3 0),
 aV (.agg #[iV x11.Kind,iV x11.N,.string x11.S])] [] (ae _) (eX rfl (eX rfl (eX rfl (eX rfl jP)))) V rfl rfl ?_ ?_ ?_
  ·refine eW J ?_ ?_
   ·exact kh (aq J) J (bg J (ae _))
   refine eW J ?_ ?_
   ·exact kh (aq J) J (bg J (ae _))
   refine eW J ?_ ?_
   ·exact kh (aq J) J (bg J (ae _))
   refine eW J ?_ ?_
   ·exact kh (bI J J q7.1 q7.2) J (bg J (ae _))
   exact jO
  ·refine ak J ?_ ?_
   ·exact gi (bA (us:=[iV x11.Kind,iV x11.N,.string x11.S]) 0 J aC J hx11 bF (fun _ _ _ h=>by rw [show _=_ from h];rfl)) J (bg J (ae _))
   refine ak J ?_ ?_
   ·exact gi (bx 0 J aC J J MD cO lx11 ux11) J (bg J (ae _))
   refine ak J ?_ ?_
   ·exact cb (bI J J q10.1 q10.2) J (bg J (ae _))
   refine ak J ?_ ?_
   ·exact cb (aq J) J (bg J (ae _))
   refine ak J ?_ ?_
   ·exact cb (aq J) J (bg J (ae _))
   refine ak J ?_ ?_
   ·exact cb (aq J) J (bg J (ae _))
   refine ak J ?_ ?_
   ·exact gi (bA (us:=[iV x9.Kind,iV x9.N,.string x9.S]) 0 J aC J hx9 bF (fun _ _ _ h=>by rw [show _=_ from h];rfl)) J (bg J (ae _))
   refine ak J ?_ ?_
   ·exact gi (bx 0 J aC J J MD cO lx9 ux9) J (bg J (ae _))
   refine ak J ?_ ?_
   ·exact cb (bI J J q8.1 q8.2) J (bg J (ae _))
   refine ak J ?_ ?_
   ·exact cb (aq J) J (bg J (ae _))
   refine ak J ?_ ?_
   ·exact cb (aq J) J (bg J (ae _))
   refine ak J ?_ ?_
   ·exact cb (aq J) J (bg J (ae _))
   refine ak J ?_ ?_
   ·exact cb (bI J J q7.1 q7.2) J (bg J (ae _))
   refine ak J ?_ ?_
   ·exact cb (aq J) J (bg J (ae _))
   refine ak J ?_ ?_
   ·exact cb (aq J) J (bg J (ae _))
   refine ak J ?_ ?_
   ·exact cb (aq J) J (bg J (ae _))
   refine ak J ?_ ?_
   ·exact cb (bI J J q6.1 q6.2) J (bg J (ae _))
   refine ak J ?_ ?_
   ·exact cb (aq J) J (bg J (ae _))
   refine ak J ?_ ?_
   ·exact cb (aq J) J (bg J (ae _))
   refine ak J ?_ ?_
   ·exact cb (aq J) J (bg J (ae _))
   exact eC
  refine mq (t:=[(16,I A1 n1 c1),(19,iV (a1+p4)),(20,I A1 n1 c1),(23,iV (a2+p4)),(29,.agg #[iV x9.Kind,iV x9.N,.string x9.S]),(35,.agg #[iV x11.Kind,iV x11.N,.string x11.S]),(0,I A1 n1 c1),(1,iV a1),(2,iV a2),(3,iV a3),(10,iV p4)]) (L':=[ju A1 n1 c1 p3]) ?_ ki (ae _);obtain ⟨x12,hx12,h⟩:=aa h;obtain ⟨lx12,ux12,hx12⟩:=aJ hx12;refine Cf 20 J V (bx 0 J aC J J MD cO lx12 ux12) J J J ?_;refine lO 21 J V (cZ (us:=[iV x9.Kind,iV x9.N,.string x9.S]) (z:=(⟨x9.Kind,x9.N,x9.S⟩:MM)) 0 J J J J cO J (toNat_lt lx12 ux12) J (fun S w vs xk hk hr ho=>by obtain rfl:=Option.some.inj (hk.symm.trans hx12);rw [show _=_ from hr];rfl)) J J ?_;rintro _ _ rfl;obtain ⟨x13,hx13,h⟩:=aa h;obtain ⟨lx13,ux13,hx13⟩:=aJ hx13;refine Cf 22 J V (bx 0 J aC J J MD cO lx13 ux13) J J J ?_;refine lO 23 J V (cZ (us:=[iV x11.Kind,iV x11.N,.string x11.S]) (z:=(⟨x11.Kind,x11.N,x11.S⟩:MM)) 0 J J J J cO J (toNat_lt lx13 ux13) J (fun S w vs xk hk hr ho=>by obtain rfl:=Option.some.inj (hk.symm.trans hx13);rw [show _=_ from hr];rfl)) J J ?_;rintro _ _ rfl;refine jT V ?_;refine U ?_;obtain ⟨q14,h⟩:=ay h;refine gE (bI J J q14.1 q14.2) ?_;refine U ?_;exact ⟨m2,_,_,Nh _,⟨List.set (List.set p3 ((a1+p4).toNat) (⟨x9.Kind,x9.N,x9.S⟩:MM)) ((a2+p4).toNat) (⟨x11.Kind,x11.N,x11.S⟩:MM),p4+1,h,J,J⟩,sA,cS [0] 1⟩
 refine U ?_;obtain rfl:=am h;exact fR J (cS [0] 1) ⟨J,J⟩
def f5 (N:Nat)(a2:Int)(p5:(List MM))(p6:Int):Option (List MM):=
 dq (bQ (a2 - p6)) ((da N p5 (a2 - p6) a2 p6).bind fun y22=>some y22)
def dy (N:Nat)(a2:Int):Nat→(List MM)→Int→Int→Option (List MM)
 |0,_,_,_=>none
 |m7+1,p8,p9,p10=>bif !decide (p9=p10) then (bif decide (p10<p9) then (dq (bQ (a2 - p9)) ((da N p8 (a2 - p9) a2 p10).bind fun y14=>dq (bQ (p9 - p10)) ((dy N a2 m7) y14 (p9 - p10) p10))) else (dq (bQ (a2 - p9)) (dq (bQ (a2+p10)) (dq (bQ ((a2+p10) - p9)) ((da N p8 (a2 - p9) ((a2+p10) - p9) p9).bind fun y19=>dq (bQ (p10 - p9)) ((dy N a2 m7) y19 p9 (p10 - p9))))))) else (f5 N a2 p8 p9)
def eJ (N:Nat)(a0:(List MM))(a1:Int)(a2:Int)(a3:Int):Option (List MM):=
 dq (bQ (a2 - a1)) (dq (bQ (a3 - a2)) (dy N a2 N a0 (a2 - a1) (a3 - a2)))
set_option maxHeartbeats 4000000 in
theorem mY {N:Nat}{a0:(List MM)}{a1:Int}{a2:Int}{a3:Int}{r:(List MM)}(h:eJ N a0 a1 a2 a3=some r):Okc Tryz.prog 243 [I A1 n1 c1,iV a1,iV a2,iV a3,.func (.func 161) #[] #[]] ([ju A1 n1 c1 a0]) (fun u post=>u=.tuple #[]∧post=[ju A1 n1 c1 r]):=by
 refine bD Tryz.func243 J J ?_;simp only [aW];refine U ?_;obtain ⟨q2,h⟩:=ay h;refine gE (dI J J q2.1 q2.2) ?_;refine U ?_;obtain ⟨q3,h⟩:=ay h;refine gE (dI J J q3.1 q3.2) ?_;refine U ?_;refine ba (fun s L=> ∃p5 p6,f5 N a2 p5 p6=some r∧s=[(0,I A1 n1 c1),(2,iV a2),(4,.func (.func 161) #[] #[]),(10,iV p6)]∧L=[ju A1 n1 c1 p5]) ?_ ?_
 ·refine eZ ?_;refine cn (fun m s L=> ∃p8 p9 p10,dy N a2 m p8 p9 p10=some r∧s=[(0,I A1 n1 c1),(2,iV a2),(4,.func (.func 161) #[] #[]),(10,iV p9),(11,iV p10)]∧L=[ju A1 n1 c1 p8]) N _ _ ⟨a0,a2 - a1,a3 - a2,h,J,J⟩ sA (cS [0] 1) ?_;rintro (_|m7) _ _ ⟨p8,p9,p10,h,rfl,rfl⟩
  ·exact bu h
  rw [dy.eq_2] at h;refine aB ?_;refine U ?_;refine gH J h (fun h=> ?_) (fun h=> ?_)
  ·refine U ?_;refine gH J h (fun h=> ?_) (fun h=> ?_)
   ·refine U ?_;obtain ⟨q13,h⟩:=ay h;refine gE (dI J J q13.1 q13.2) ?_;refine U ?_;obtain ⟨y14,k,h⟩:=aa h;refine gV (aA (fd k) AA J (az [] [0] [] 1 J)) ?_;refine U ?_;obtain ⟨q15,h⟩:=ay h;refine gE (dI J J q15.1 q15.2) ?_;refine U ?_;exact ⟨m7,_,_,Nh _,⟨y14,p9 - p10,p10,h,J,J⟩,sA,cS [0] 1⟩
   refine U ?_;obtain ⟨q16,h⟩:=ay h;refine gE (dI J J q16.1 q16.2) ?_;refine U ?_;obtain ⟨q17,h⟩:=ay h;refine gE (bI J J q17.1 q17.2) ?_;refine U ?_;obtain ⟨q18,h⟩:=ay h;refine gE (dI J J q18.1 q18.2) ?_;refine U ?_;obtain ⟨y19,k,h⟩:=aa h;refine gV (aA (fd k) AA J (az [] [0] [] 1 J)) ?_;refine U ?_;obtain ⟨q20,h⟩:=ay h;refine gE (dI J J q20.1 q20.2) ?_;refine U ?_;exact ⟨m7,_,_,Nh _,⟨y19,p9,p10 - p9,h,J,J⟩,sA,cS [0] 1⟩
  refine U ?_;exact ⟨_,_,⟨p8,p9,h,J,J⟩,sA,cS [0] 1⟩
 rintro _ _ ⟨p5,p6,h,rfl,rfl⟩;refine U ?_;obtain ⟨q21,h⟩:=ay h;refine gE (dI J J q21.1 q21.2) ?_;refine U ?_;obtain ⟨y22,k,h⟩:=aa h;refine gV (aA (fd k) AA J (az [] [0] [] 1 J)) ?_;refine bM ?_;refine kU ?_;obtain rfl:=am h;exact fR J (cS [0] 1) ⟨J,J⟩
def cU (N:Nat)(kb2:(List MM)→Int→Int→Int→Option (List MM))(a3:Int)(a1:Int)(a2:Int)(p65:Int)(p84:(List MM)):Option (List MM):=
 (bif decide ((IntKind.i64.wrap ((IntKind.u64.wrap (a1+a3)).fdiv (2 ^ 1)))<((IntKind.i64.wrap ((IntKind.u64.wrap (a1+a3)).fdiv (2 ^ 1)))+a2) - p65) then (some (decide (((IntKind.i64.wrap ((IntKind.u64.wrap (a1+a3)).fdiv (2 ^ 1)))+a2) - p65<a3))) else (some false)).bind fun b88=>bif b88 then ((kb2 p84 (IntKind.i64.wrap ((IntKind.u64.wrap (a1+a3)).fdiv (2 ^ 1))) (((IntKind.i64.wrap ((IntKind.u64.wrap (a1+a3)).fdiv (2 ^ 1)))+a2) - p65) a3).bind fun y90=>some y90) else (some p84)
def cV (N:Nat)(kb2:(List MM)→Int→Int→Int→Option (List MM))(a1:Int)(a3:Int)(p65:Int)(a2:Int)(p79:(List MM)):Option (List MM):=
 (bif decide (a1<p65) then (some (decide (p65<(IntKind.i64.wrap ((IntKind.u64.wrap (a1+a3)).fdiv (2 ^ 1)))))) else (some false)).bind fun b85=>bif b85 then ((kb2 p79 a1 p65 (IntKind.i64.wrap ((IntKind.u64.wrap (a1+a3)).fdiv (2 ^ 1)))).bind fun y87=>cU N kb2 a3 a1 a2 p65 y87) else (cU N kb2 a3 a1 a2 p65 p79)
def dL (N:Nat)(kb2:(List MM)→Int→Int→Int→Option (List MM))(a1:Int)(a2:Int)(a3:Int)(a0:(List MM))(p65:Int):Option (List MM):=
 dq (bQ (((IntKind.i64.wrap ((IntKind.u64.wrap (a1+a3)).fdiv (2 ^ 1)))+a2) - p65)) ((bif decide (p65<a2) then (some (decide (a2<((IntKind.i64.wrap ((IntKind.u64.wrap (a1+a3)).fdiv (2 ^ 1)))+a2) - p65))) else (some false)).bind fun b80=>bif b80 then ((eJ N a0 p65 a2 (((IntKind.i64.wrap ((IntKind.u64.wrap (a1+a3)).fdiv (2 ^ 1)))+a2) - p65)).bind fun y82=>cV N kb2 a1 a3 p65 a2 y82) else (cV N kb2 a1 a3 p65 a2 a0))
def cR (N:Nat)(kb2:(List MM)→Int→Int→Int→Option (List MM))(a1:Int)(a2:Int)(a3:Int)(a0:(List MM)):Nat→Int→Int→Option (List MM)
 |0,_,_=>none
 |m66+1,p67,p68=>bif decide (p67<p68) then (dq (bQ (p67+p68)) (dq (bQ ((((IntKind.i64.wrap ((IntKind.u64.wrap (a1+a3)).fdiv (2 ^ 1)))+a2) - 1) - (IntKind.i64.wrap ((IntKind.u64.wrap (p67+p68)).fdiv (2 ^ 1))))) ((bR a0 ((((IntKind.i64.wrap ((IntKind.u64.wrap (a1+a3)).fdiv (2 ^ 1)))+a2) - 1) - (IntKind.i64.wrap ((IntKind.u64.wrap (p67+p68)).fdiv (2 ^ 1))))).bind fun x72=>(bR a0 (IntKind.i64.wrap ((IntKind.u64.wrap (p67+p68)).fdiv (2 ^ 1)))).bind fun x73=>(ku N x72 x73).bind fun y74=>bif !(decide (y74<0)) then (dq (bQ ((IntKind.i64.wrap ((IntKind.u64.wrap (p67+p68)).fdiv (2 ^ 1)))+1)) ((cR N kb2 a1 a2 a3 a0 m66) ((IntKind.i64.wrap ((IntKind.u64.wrap (p67+p68)).fdiv (2 ^ 1)))+1) p68)) else ((cR N kb2 a1 a2 a3 a0 m66) p67 (IntKind.i64.wrap ((IntKind.u64.wrap (p67+p68)).fdiv (2 ^ 1))))))) else (dL N kb2 a1 a2 a3 a0 p67)
def dM (N:Nat)(kb2:(List MM)→Int→Int→Int→Option (List MM))(a1:Int)(a2:Int)(a3:Int)(a0:(List MM))(p59:Int)(p60:Int):Option (List MM):=
 dq (bQ (((IntKind.i64.wrap ((IntKind.u64.wrap (a1+a3)).fdiv (2 ^ 1)))+a2) - 1)) (cR N kb2 a1 a2 a3 a0 N p59 p60)
def dN (N:Nat)(kb2:(List MM)→Int→Int→Int→Option (List MM))(a1:Int)(a2:Int)(a3:Int)(a0:(List MM)):Option (List MM):=
 dq (bQ (a1+a3)) (dq (bQ ((IntKind.i64.wrap ((IntKind.u64.wrap (a1+a3)).fdiv (2 ^ 1)))+a2)) (bif decide ((IntKind.i64.wrap ((IntKind.u64.wrap (a1+a3)).fdiv (2 ^ 1)))<a2) then (dq (bQ (((IntKind.i64.wrap ((IntKind.u64.wrap (a1+a3)).fdiv (2 ^ 1)))+a2) - a3)) (dM N kb2 a1 a2 a3 a0 (((IntKind.i64.wrap ((IntKind.u64.wrap (a1+a3)).fdiv (2 ^ 1)))+a2) - a3) (IntKind.i64.wrap ((IntKind.u64.wrap (a1+a3)).fdiv (2 ^ 1))))) else (dM N kb2 a1 a2 a3 a0 a1 a2)))
def dJ (N:Nat)(kb2:(List MM)→Int→Int→Int→Option (List MM))(a1:Int)(a2:Int)(a3:Int)(p34:Int):Nat→(List MM)→Int→Option (List MM)
 |0,_,_=>none
 |m45+1,p46,p47=>bif decide (p34<p47) then (dq (bQ (p47 - 1)) (dq (bQ (p47 - 1)) ((bR p46 (p47 - 1)).bind fun x51=>(bR p46 p47).bind fun x52=>(bR p46 p47).bind fun x53=>(bR (List.set p46 p47.toNat (⟨x51.Kind,x51.N,x51.S⟩:MM)) (p47 - 1)).bind fun x54=>dq (bQ (p47 - 1)) ((dJ N kb2 a1 a2 a3 p34 m45) (List.set (List.set p46 p47.toNat (⟨x51.Kind,x51.N,x51.S⟩:MM)) ((p47 - 1).toNat) (⟨x52.Kind,x52.N,x52.S⟩:MM)) (p47 - 1))))) else (some p46)
def iy (N:Nat)(kb2:(List MM)→Int→Int→Int→Option (List MM))(a1:Int)(a2:Int)(a3:Int)(a0:(List MM))(p34:Int):Option (List MM):=
 dJ N kb2 a1 a2 a3 p34 N a0 a2
def cT (N:Nat)(kb2:(List MM)→Int→Int→Int→Option (List MM))(a1:Int)(a2:Int)(a3:Int)(a0:(List MM)):Nat→Int→Int→Option (List MM)
 |0,_,_=>none
 |m35+1,p36,p37=>bif decide (p36<p37) then (dq (bQ (p36+p37)) ((bR a0 a2).bind fun x40=>(bR a0 (IntKind.i64.wrap ((IntKind.u64.wrap (p36+p37)).fdiv (2 ^ 1)))).bind fun x41=>(ku N x40 x41).bind fun y42=>bif !(decide (y42<0)) then (dq (bQ ((IntKind.i64.wrap ((IntKind.u64.wrap (p36+p37)).fdiv (2 ^ 1)))+1)) ((cT N kb2 a1 a2 a3 a0 m35) ((IntKind.i64.wrap ((IntKind.u64.wrap (p36+p37)).fdiv (2 ^ 1)))+1) p37)) else ((cT N kb2 a1 a2 a3 a0 m35) p36 (IntKind.i64.wrap ((IntKind.u64.wrap (p36+p37)).fdiv (2 ^ 1)))))) else (iy N kb2 a1 a2 a3 a0 p36)
def dW (N:Nat)(kb2:(List MM)→Int→Int→Int→Option (List MM))(a1:Int)(a2:Int)(a3:Int)(a0:(List MM)):Option (List MM):=
 dq (bQ (a3 - a2)) (bif decide (a3 - a2=1) then (cT N kb2 a1 a2 a3 a0 N a1 a2) else (dN N kb2 a1 a2 a3 a0))
def dK (N:Nat)(kb2:(List MM)→Int→Int→Int→Option (List MM))(a1:Int)(a2:Int)(a3:Int)(p7:Int):Nat→(List MM)→Int→Option (List MM)
 |0,_,_=>none
 |m18+1,p19,p20=>dq (bQ (p7 - 1)) (bif decide (p20<p7 - 1) then (dq (bQ (p20+1)) (dq (bQ (p20+1)) ((bR p19 (p20+1)).bind fun x25=>(bR p19 p20).bind fun x26=>(bR p19 p20).bind fun x27=>(bR (List.set p19 p20.toNat (⟨x25.Kind,x25.N,x25.S⟩:MM)) (p20+1)).bind fun x28=>dq (bQ (p20+1)) ((dK N kb2 a1 a2 a3 p7 m18) (List.set (List.set p19 p20.toNat (⟨x25.Kind,x25.N,x25.S⟩:MM)) ((p20+1).toNat) (⟨x26.Kind,x26.N,x26.S⟩:MM)) (p20+1))))) else (some p19))
def iL (N:Nat)(kb2:(List MM)→Int→Int→Int→Option (List MM))(a1:Int)(a2:Int)(a3:Int)(a0:(List MM))(p7:Int):Option (List MM):=
 dK N kb2 a1 a2 a3 p7 N a0 a1
def cG (N:Nat)(kb2:(List MM)→Int→Int→Int→Option (List MM))(a1:Int)(a2:Int)(a3:Int)(a0:(List MM)):Nat→Int→Int→Option (List MM)
 |0,_,_=>none
 |m8+1,p9,p10=>bif decide (p9<p10) then (dq (bQ (p9+p10)) ((bR a0 (IntKind.i64.wrap ((IntKind.u64.wrap (p9+p10)).fdiv (2 ^ 1)))).bind fun x13=>(bR a0 a1).bind fun x14=>(ku N x13 x14).bind fun y15=>bif decide (y15<0) then (dq (bQ ((IntKind.i64.wrap ((IntKind.u64.wrap (p9+p10)).fdiv (2 ^ 1)))+1)) ((cG N kb2 a1 a2 a3 a0 m8) ((IntKind.i64.wrap ((IntKind.u64.wrap (p9+p10)).fdiv (2 ^ 1)))+1) p10)) else ((cG N kb2 a1 a2 a3 a0 m8) p9 (IntKind.i64.wrap ((IntKind.u64.wrap (p9+p10)).fdiv (2 ^ 1)))))) else (iL N kb2 a1 a2 a3 a0 p9)
def aN (N:Nat):Nat→(List MM)→Int→Int→Int→Option (List MM)
 |0,_,_,_,_=>none
 |m2+1,a0,a1,a2,a3=>dq (bQ (a2 - a1)) (bif decide (a2 - a1=1) then (cG N (aN N m2) a1 a2 a3 a0 N a2 a3) else (dW N (aN N m2) a1 a2 a3 a0))
theorem iw {N m2:Nat}{a0:(List MM)}{a1:Int}{a2:Int}{a3:Int}:aN N (m2+1) a0 a1 a2 a3=dq (bQ (a2 - a1)) (bif decide (a2 - a1=1) then (cG N (aN N m2) a1 a2 a3 a0 N a2 a3) else (dW N (aN N m2) a1 a2 a3 a0)):=rfl
def bW (N:Nat)(a0:(List MM))(a1:Int)(a2:Int)(a3:Int):Option (List MM):=aN N N a0 a1 a2 a3
set_option maxHeartbeats 4000000 in
theorem lP {N:Nat}: ∀(m0:Nat) {a0:(List MM)} {a1:Int} {a2:Int} {a3:Int} {r:(List MM)} (h:aN N m0 a0 a1 a2 a3=some r) {A1:Option Addr} {n1 c1:Nat},Okc Tryz.prog 231 [I A1 n1 c1,iV a1,iV a2,iV a3,.func (.func 161) #[] #[]] ([ju A1 n1 c1 a0]) (fun u post=>u=.tuple #[]∧post=[ju A1 n1 c1 r]):=by
 intro m0
 induction m0 with
 |zero=>intro a0 a1 a2 a3 r h A1 n1 c1;exact bu h
 | succ m2 ih=>
  intro a0 a1 a2 a3 r h A1 n1 c1;rw [iw] at h;refine bD Tryz.func231 J J ?_;simp only [aW];refine ba (fun s L=>dW N (aN N m2) a1 a2 a3 a0=some r∧s=[(0,I A1 n1 c1),(1,iV a1),(2,iV a2),(3,iV a3),(4,.func (.func 161) #[] #[])]∧L=[ju A1 n1 c1 a0]) ?_ ?_
  ·refine U ?_;obtain ⟨q4,h⟩:=ay h;refine gE (dI J J q4.1 q4.2) ?_;refine U ?_;refine gH J h (fun h=> ?_) (fun h=> ?_)
   ·refine U ?_;refine ba (fun s L=> ∃p7,iL N (aN N m2) a1 a2 a3 a0 p7=some r∧s=[(0,I A1 n1 c1),(1,iV a1),(2,iV a2),(3,iV a3),(4,.func (.func 161) #[] #[]),(10,iV p7)]∧L=[ju A1 n1 c1 a0]) ?_ ?_
    ·refine eZ ?_;refine cn (fun m s L=> ∃p9 p10,cG N (aN N m2) a1 a2 a3 a0 m p9 p10=some r∧s=[(0,I A1 n1 c1),(1,iV a1),(2,iV a2),(3,iV a3),(4,.func (.func 161) #[] #[]),(10,iV p9),(11,iV p10)]∧L=[ju A1 n1 c1 a0]) N _ _ ⟨a2,a3,h,J,J⟩ sA (cS [0] 1) ?_;rintro (_|m8) _ _ ⟨p9,p10,h,rfl,rfl⟩
     ·exact bu h
     rw [cG.eq_2] at h;refine aB ?_;refine U ?_;refine gH J h (fun h=> ?_) (fun h=> ?_)
     ·refine U ?_;obtain ⟨q12,h⟩:=ay h;refine gE (bI J J q12.1 q12.2) ?_;refine gE (qD J J ME) ?_;refine gE (Ak (v:=(IntKind.u64.wrap (p9+p10)).fdiv (2 ^ 1)) J J (fun _=>J)) ?_;refine gE (qD J J hJ) ?_;refine U ?_;refine aB ?_;refine bK V _ (ae _) ?_;refine zE 0 J (aq J) ?_;refine zE 1 J (aq J) ?_;refine zE 2 J (aq J) ?_;obtain ⟨x13,hx13,h⟩:=aa h;obtain ⟨lx13,ux13,hx13⟩:=aJ hx13;refine zR 3 J (bx 0 J aC J J MD cO lx13 ux13) ?_;refine zR 4 J (bA (us:=[iV x13.Kind,iV x13.N,.string x13.S]) 0 J aC J hx13 bF (fun _ _ _ h=>by rw [show _=_ from h];rfl)) ?_;refine zE 5 J (aq J) ?_;refine zE 6 J (aq J) ?_;obtain ⟨x14,hx14,h⟩:=aa h;obtain ⟨lx14,ux14,hx14⟩:=aJ hx14;refine zR 7 J (bx 0 J aC J J MD cO lx14 ux14) ?_;refine zR 8 J (bA (us:=[iV x14.Kind,iV x14.N,.string x14.S]) 0 J aC J hx14 bF (fun _ _ _ h=>by rw [show _=_ from h];rfl)) ?_;obtain ⟨y15,k,h⟩:=aa h;refine zD 9 J (fM (nR k) ww J J J (aj) ma) ?_;rintro _ _ ⟨_,⟨rfl,rfl⟩,rfl⟩;refine ⟨_,ae _,ae _,?_⟩;refine zE 10 J (ze J J) ?_;refine bC V ?_;refine fa ?_;refine gH J h (fun h=> ?_) (fun h=> ?_)
      ·refine U ?_;obtain ⟨q17,h⟩:=ay h;refine gE (bI J J q17.1 q17.2) ?_;refine U ?_;exact ⟨m8,_,_,Nh _,⟨(IntKind.i64.wrap ((IntKind.u64.wrap (p9+p10)).fdiv (2 ^ 1)))+1,p10,h,J,J⟩,sA,cS [0] 1⟩
      refine U ?_;exact ⟨m8,_,_,Nh _,⟨p9,(IntKind.i64.wrap ((IntKind.u64.wrap (p9+p10)).fdiv (2 ^ 1))),h,J,J⟩,sA,cS [0] 1⟩
     refine U ?_;exact ⟨_,_,⟨p9,h,J,J⟩,sA,cS [0] 1⟩
    rintro _ _ ⟨p7,h,rfl,rfl⟩;refine aB ?_;refine U ?_;refine cn (fun m s L=> ∃p19 p20,dK N (aN N m2) a1 a2 a3 p7 m p19 p20=some r∧s=[(0,I A1 n1 c1),(1,iV a1),(2,iV a2),(3,iV a3),(4,.func (.func 161) #[] #[]),(10,iV p7),(13,iV p20)]∧L=[ju A1 n1 c1 p19]) N _ _ ⟨a0,a1,h,J,J⟩ sA (cS [0] 1) ?_;rintro (_|m18) _ _ ⟨p19,p20,h,rfl,rfl⟩
    ·exact bu h
    rw [dK.eq_2] at h;refine aB ?_;refine U ?_;obtain ⟨q21,h⟩:=ay h;refine gE (dI J J q21.1 q21.2) ?_;refine U ?_;refine gH J h (fun h=> ?_) (fun h=> ?_)
    ·refine U ?_;refine aB ?_;refine eZ ?_;obtain ⟨q23,h⟩:=ay h;obtain ⟨q24,h⟩:=ay h;obtain ⟨x25,hx25,h⟩:=aa h;obtain ⟨lx25,ux25,hx25⟩:=aJ hx25;obtain ⟨x26,hx26,h⟩:=aa h;obtain ⟨lx26,ux26,hx26⟩:=aJ hx26;refine iQ (t:=[(0,I A1 n1 c1),(1,iV a1),(2,iV a2),(3,iV a3),(4,.func (.func 161) #[] #[]),(10,iV p7),(13,iV p20)]) ?_ ki (ae _)
     refine ik V 14 [2,3,4] [0,1,2,4,9,13] [61,62,63,64,65,66,67,68,69,70,71,72,73,74] [[],[],[],[],[3],[],[],[6],[5,7],[8],[],[],[10,11],[12]] [aV (I A1 n1 c1),
aV (iV p20),
aV (I A1 n1 c1),
aV (iV p20),
aV (iV (p20+1)),
aV (I A1 n1 c1),
aV (iV p20),
aV (iV (p20+1)),
aV (fo (I A1 n1 c1) ((p20+1).toNat) 3 0),
aV (.agg #[iV x25.Kind,iV x25.N,.string x25.S]),
aV (I A1 n1 c1),
aV (iV p20),
aV (fo (I A1 n1 c1) p20.toNat 3 0),
aV (.agg #[iV x26.Kind,iV x26.N,.string x26.S])] [] (ae _) (eX rfl (eX rfl (eX rfl jP))) V rfl rfl ?_ ?_ ?_
     ·refine eW J ?_ ?_
      ·exact kh (aq J) J (bg J (ae _))
      refine eW J ?_ ?_
      ·exact kh (aq J) J (bg J (ae _))
      refine eW J ?_ ?_
      ·exact kh (bI J J q23.1 q23.2) J (bg J (ae _))
      exact jO
     ·refine ak J ?_ ?_
      ·exact gi (bA (us:=[iV x26.Kind,iV x26.N,.string x26.S]) 0 J aC J hx26 bF (fun _ _ _ h=>by rw [show _=_ from h];rfl)) J (bg J (ae _))
      refine ak J ?_ ?_
      ·exact gi (bx 0 J aC J J MD cO lx26 ux26) J (bg J (ae _))
      refine ak J ?_ ?_
      ·exact cb (aq J) J (bg J (ae _))
      refine ak J ?_ ?_
      ·exact cb (aq J) J (bg J (ae _))
      refine ak J ?_ ?_
      ·exact gi (bA (us:=[iV x25.Kind,iV x25.N,.string x25.S]) 0 J aC J hx25 bF (fun _ _ _ h=>by rw [show _=_ from h];rfl)) J (bg J (ae _))
      refine ak J ?_ ?_
      ·exact gi (bx 0 J aC J J MD cO lx25 ux25) J (bg J (ae _))
      refine ak J ?_ ?_
      ·exact cb (bI J J q24.1 q24.2) J (bg J (ae _))
      refine ak J ?_ ?_
      ·exact cb (aq J) J (bg J (ae _))
      refine ak J ?_ ?_
      ·exact cb (aq J) J (bg J (ae _))
      refine ak J ?_ ?_
      ·exact cb (bI J J q23.1 q23.2) J (bg J (ae _))
      refine ak J ?_ ?_
      ·exact cb (aq J) J (bg J (ae _))
      refine ak J ?_ ?_
      ·exact cb (aq J) J (bg J (ae _))
      refine ak J ?_ ?_
      ·exact cb (aq J) J (bg J (ae _))
      refine ak J ?_ ?_
      ·exact cb (aq J) J (bg J (ae _))
      exact eC
     refine mq (t:=[(61,I A1 n1 c1),(62,iV p20),(63,I A1 n1 c1),(65,iV (p20+1)),(70,.agg #[iV x25.Kind,iV x25.N,.string x25.S]),(74,.agg #[iV x26.Kind,iV x26.N,.string x26.S]),(0,I A1 n1 c1),(1,iV a1),(2,iV a2),(3,iV a3),(4,.func (.func 161) #[] #[]),(10,iV p7),(13,iV p20)]) (L':=[ju A1 n1 c1 p19]) ?_ ki (ae _);obtain ⟨x27,hx27,h⟩:=aa h;obtain ⟨lx27,ux27,hx27⟩:=aJ hx27;refine Cf 14 J V (bx 0 J aC J J MD cO lx27 ux27) J J J ?_;refine lO 15 J V (cZ (us:=[iV x25.Kind,iV x25.N,.string x25.S]) (z:=(⟨x25.Kind,x25.N,x25.S⟩:MM)) 0 J J J J cO J (toNat_lt lx27 ux27) J (fun S w vs xk hk hr ho=>by obtain rfl:=Option.some.inj (hk.symm.trans hx27);rw [show _=_ from hr];rfl)) J J ?_;rintro _ _ rfl;refine vv ?_;obtain ⟨x28,hx28,h⟩:=aa h;obtain ⟨lx28,ux28,hx28⟩:=aJ hx28;refine Cf 16 J V (bx 0 J aC J J MD cO lx28 ux28) J J J ?_;refine lO 17 J V (cZ (us:=[iV x26.Kind,iV x26.N,.string x26.S]) (z:=(⟨x26.Kind,x26.N,x26.S⟩:MM)) 0 J J J J cO J (toNat_lt lx28 ux28) J (fun S w vs xk hk hr ho=>by obtain rfl:=Option.some.inj (hk.symm.trans hx28);rw [show _=_ from hr];rfl)) J J ?_;rintro _ _ rfl;refine vv ?_;refine jT V ?_;refine U ?_;obtain ⟨q29,h⟩:=ay h;refine gE (bI J J q29.1 q29.2) ?_;refine U ?_
     exact ⟨m18,_,_,Nh _,⟨List.set (List.set p19 p20.toNat (⟨x25.Kind,x25.N,x25.S⟩:MM)) ((p20+1).toNat) (⟨x26.Kind,x26.N,x26.S⟩:MM),p20+1,h,J,J⟩,sA,cS [0] 1⟩
    refine U ?_;obtain rfl:=am h;exact zg J (cS [0] 1) ⟨J,J⟩
   refine U ?_;exact ⟨_,_,⟨h,J,J⟩,sA,cS [0] 1⟩
  rintro _ _ ⟨h,rfl,rfl⟩;refine ba (fun s L=>dN N (aN N m2) a1 a2 a3 a0=some r∧s=[(0,I A1 n1 c1),(1,iV a1),(2,iV a2),(3,iV a3),(4,.func (.func 161) #[] #[])]∧L=[ju A1 n1 c1 a0]) ?_ ?_
  ·refine U ?_;obtain ⟨q31,h⟩:=ay h;refine gE (dI J J q31.1 q31.2) ?_;refine U ?_;refine gH J h (fun h=> ?_) (fun h=> ?_)
   ·refine U ?_;refine ba (fun s L=> ∃p34,iy N (aN N m2) a1 a2 a3 a0 p34=some r∧s=[(0,I A1 n1 c1),(1,iV a1),(2,iV a2),(3,iV a3),(4,.func (.func 161) #[] #[]),(14,iV p34)]∧L=[ju A1 n1 c1 a0]) ?_ ?_
    ·refine eZ ?_;refine cn (fun m s L=> ∃p36 p37,cT N (aN N m2) a1 a2 a3 a0 m p36 p37=some r∧s=[(0,I A1 n1 c1),(1,iV a1),(2,iV a2),(3,iV a3),(4,.func (.func 161) #[] #[]),(14,iV p36),(15,iV p37)]∧L=[ju A1 n1 c1 a0]) N _ _ ⟨a1,a2,h,J,J⟩ sA (cS [0] 1) ?_;rintro (_|m35) _ _ ⟨p36,p37,h,rfl,rfl⟩
     ·exact bu h
     rw [cT.eq_2] at h;refine aB ?_;refine U ?_;refine gH J h (fun h=> ?_) (fun h=> ?_)
     ·refine U ?_;obtain ⟨q39,h⟩:=ay h;refine gE (bI J J q39.1 q39.2) ?_;refine gE (qD J J ME) ?_;refine gE (Ak (v:=(IntKind.u64.wrap (p36+p37)).fdiv (2 ^ 1)) J J (fun _=>J)) ?_;refine gE (qD J J hJ) ?_;refine U ?_;refine aB ?_;refine bK V _ (ae _) ?_;refine zE 0 J (aq J) ?_;refine zE 1 J (aq J) ?_;refine zE 2 J (aq J) ?_;obtain ⟨x40,hx40,h⟩:=aa h;obtain ⟨lx40,ux40,hx40⟩:=aJ hx40;refine zR 3 J (bx 0 J aC J J MD cO lx40 ux40) ?_;refine zR 4 J (bA (us:=[iV x40.Kind,iV x40.N,.string x40.S]) 0 J aC J hx40 bF (fun _ _ _ h=>by rw [show _=_ from h];rfl)) ?_;refine zE 5 J (aq J) ?_;refine zE 6 J (aq J) ?_;obtain ⟨x41,hx41,h⟩:=aa h;obtain ⟨lx41,ux41,hx41⟩:=aJ hx41;refine zR 7 J (bx 0 J aC J J MD cO lx41 ux41) ?_;refine zR 8 J (bA (us:=[iV x41.Kind,iV x41.N,.string x41.S]) 0 J aC J hx41 bF (fun _ _ _ h=>by rw [show _=_ from h];rfl)) ?_;obtain ⟨y42,k,h⟩:=aa h;refine zD 9 J (fM (nR k) ww J J J (aj) ma) ?_;rintro _ _ ⟨_,⟨rfl,rfl⟩,rfl⟩;refine ⟨_,ae _,ae _,?_⟩;refine zE 10 J (ze J J) ?_;refine zE 11 J (xC J) ?_;refine bC V ?_;refine fa ?_;refine gH J h (fun h=> ?_) (fun h=> ?_)
      ·refine U ?_;obtain ⟨q44,h⟩:=ay h;refine gE (bI J J q44.1 q44.2) ?_;refine U ?_;exact ⟨m35,_,_,Nh _,⟨(IntKind.i64.wrap ((IntKind.u64.wrap (p36+p37)).fdiv (2 ^ 1)))+1,p37,h,J,J⟩,sA,cS [0] 1⟩
      refine U ?_;exact ⟨m35,_,_,Nh _,⟨p36,(IntKind.i64.wrap ((IntKind.u64.wrap (p36+p37)).fdiv (2 ^ 1))),h,J,J⟩,sA,cS [0] 1⟩
     refine U ?_;exact ⟨_,_,⟨p36,h,J,J⟩,sA,cS [0] 1⟩
    rintro _ _ ⟨p34,h,rfl,rfl⟩;refine aB ?_;refine U ?_;refine cn (fun m s L=> ∃p46 p47,dJ N (aN N m2) a1 a2 a3 p34 m p46 p47=some r∧s=[(0,I A1 n1 c1),(1,iV a1),(2,iV a2),(3,iV a3),(4,.func (.func 161) #[] #[]),(14,iV p34),(17,iV p47)]∧L=[ju A1 n1 c1 p46]) N _ _ ⟨a0,a2,h,J,J⟩ sA (cS [0] 1) ?_;rintro (_|m45) _ _ ⟨p46,p47,h,rfl,rfl⟩
    ·exact bu h
    rw [dJ.eq_2] at h;refine aB ?_;refine U ?_;refine gH J h (fun h=> ?_) (fun h=> ?_)
    ·refine U ?_;refine aB ?_;refine eZ ?_;obtain ⟨q49,h⟩:=ay h;obtain ⟨q50,h⟩:=ay h;obtain ⟨x51,hx51,h⟩:=aa h;obtain ⟨lx51,ux51,hx51⟩:=aJ hx51;obtain ⟨x52,hx52,h⟩:=aa h;obtain ⟨lx52,ux52,hx52⟩:=aJ hx52;refine iQ (t:=[(0,I A1 n1 c1),(1,iV a1),(2,iV a2),(3,iV a3),(4,.func (.func 161) #[] #[]),(14,iV p34),(17,iV p47)]) ?_ ki (ae _)
     refine ik V 14 [2,3,4] [0,1,2,4,9,13] [113,114,115,116,117,118,119,120,121,122,123,124,125,126] [[],[],[],[],[3],[],[],[6],[5,7],[8],[],[],[10,11],[12]] [aV (I A1 n1 c1),
aV (iV p47),
aV (I A1 n1 c1),
aV (iV p47),
aV (iV (p47 - 1)),
aV (I A1 n1 c1),
aV (iV p47),
aV (iV (p47 - 1)),
aV (fo (I A1 n1 c1) ((p47 - 1).toNat) 3 0),
aV (.agg #[iV x51.Kind,iV x51.N,.string x51.S]),
aV (I A1 n1 c1),
aV (iV p47),
aV (fo (I A1 n1 c1) p47.toNat 3 0),
aV (.agg #[iV x52.Kind,iV x52.N,.string x52.S])] [] (ae _) (eX rfl (eX rfl (eX rfl jP))) V rfl rfl ?_ ?_ ?_
     ·refine eW J ?_ ?_
      ·exact kh (aq J) J (bg J (ae _))
      refine eW J ?_ ?_
      ·exact kh (aq J) J (bg J (ae _))
      refine eW J ?_ ?_
      ·exact kh (dI J J q49.1 q49.2) J (bg J (ae _))
      exact jO
     ·refine ak J ?_ ?_
      ·exact gi (bA (us:=[iV x52.Kind,iV x52.N,.string x52.S]) 0 J aC J hx52 bF (fun _ _ _ h=>by rw [show _=_ from h];rfl)) J (bg J (ae _))
      refine ak J ?_ ?_
      ·exact gi (bx 0 J aC J J MD cO lx52 ux52) J (bg J (ae _))
      refine ak J ?_ ?_
      ·exact cb (aq J) J (bg J (ae _))
      refine ak J ?_ ?_
      ·exact cb (aq J) J (bg J (ae _))
      refine ak J ?_ ?_
      ·exact gi (bA (us:=[iV x51.Kind,iV x51.N,.string x51.S]) 0 J aC J hx51 bF (fun _ _ _ h=>by rw [show _=_ from h];rfl)) J (bg J (ae _))
      refine ak J ?_ ?_
      ·exact gi (bx 0 J aC J J MD cO lx51 ux51) J (bg J (ae _))
      refine ak J ?_ ?_
      ·exact cb (dI J J q50.1 q50.2) J (bg J (ae _))
      refine ak J ?_ ?_
      ·exact cb (aq J) J (bg J (ae _))
      refine ak J ?_ ?_
      ·exact cb (aq J) J (bg J (ae _))
      refine ak J ?_ ?_
      ·exact cb (dI J J q49.1 q49.2) J (bg J (ae _))
      refine ak J ?_ ?_
      ·exact cb (aq J) J (bg J (ae _))
      refine ak J ?_ ?_
      ·exact cb (aq J) J (bg J (ae _))
      refine ak J ?_ ?_
      ·exact cb (aq J) J (bg J (ae _))
      refine ak J ?_ ?_
      ·exact cb (aq J) J (bg J (ae _))
      exact eC
     refine mq (t:=[(113,I A1 n1 c1),(114,iV p47),(115,I A1 n1 c1),(117,iV (p47 - 1)),(122,.agg #[iV x51.Kind,iV x51.N,.string x51.S]),(126,.agg #[iV x52.Kind,iV x52.N,.string x52.S]),(0,I A1 n1 c1),(1,iV a1),(2,iV a2),(3,iV a3),(4,.func (.func 161) #[] #[]),(14,iV p34),(17,iV p47)]) (L':=[ju A1 n1 c1 p46]) ?_ ki (ae _);obtain ⟨x53,hx53,h⟩:=aa h;obtain ⟨lx53,ux53,hx53⟩:=aJ hx53;refine Cf 14 J V (bx 0 J aC J J MD cO lx53 ux53) J J J ?_;refine lO 15 J V (cZ (us:=[iV x51.Kind,iV x51.N,.string x51.S]) (z:=(⟨x51.Kind,x51.N,x51.S⟩:MM)) 0 J J J J cO J (toNat_lt lx53 ux53) J (fun S w vs xk hk hr ho=>by obtain rfl:=Option.some.inj (hk.symm.trans hx53);rw [show _=_ from hr];rfl)) J J ?_;rintro _ _ rfl;refine vv ?_;obtain ⟨x54,hx54,h⟩:=aa h;obtain ⟨lx54,ux54,hx54⟩:=aJ hx54;refine Cf 16 J V (bx 0 J aC J J MD cO lx54 ux54) J J J ?_;refine lO 17 J V (cZ (us:=[iV x52.Kind,iV x52.N,.string x52.S]) (z:=(⟨x52.Kind,x52.N,x52.S⟩:MM)) 0 J J J J cO J (toNat_lt lx54 ux54) J (fun S w vs xk hk hr ho=>by obtain rfl:=Option.some.inj (hk.symm.trans hx54);rw [show _=_ from hr];rfl)) J J ?_;rintro _ _ rfl;refine vv ?_;refine jT V ?_;refine U ?_;obtain ⟨q55,h⟩:=ay h;refine gE (dI J J q55.1 q55.2) ?_;refine U ?_
     exact ⟨m45,_,_,Nh _,⟨List.set (List.set p46 p47.toNat (⟨x51.Kind,x51.N,x51.S⟩:MM)) ((p47 - 1).toNat) (⟨x52.Kind,x52.N,x52.S⟩:MM),p47 - 1,h,J,J⟩,sA,cS [0] 1⟩
    refine U ?_;obtain rfl:=am h;exact zg J (cS [0] 1) ⟨J,J⟩
   refine U ?_;exact ⟨_,_,⟨h,J,J⟩,sA,cS [0] 1⟩
  rintro _ _ ⟨h,rfl,rfl⟩;refine U ?_;obtain ⟨q56,h⟩:=ay h;refine gE (bI J J q56.1 q56.2) ?_;refine gE (qD J J ME) ?_;refine gE (Ak (v:=(IntKind.u64.wrap (a1+a3)).fdiv (2 ^ 1)) J J (fun _=>J)) ?_;refine gE (qD J J hJ) ?_;refine U ?_;obtain ⟨q57,h⟩:=ay h;refine gE (bI J J q57.1 q57.2) ?_;refine U ?_;refine ba (fun s L=> ∃p59 p60,dM N (aN N m2) a1 a2 a3 a0 p59 p60=some r∧s=[(0,I A1 n1 c1),(1,iV a1),(2,iV a2),(3,iV a3),(4,.func (.func 161) #[] #[]),(18,iV (IntKind.i64.wrap ((IntKind.u64.wrap (a1+a3)).fdiv (2 ^ 1)))),(19,iV ((IntKind.i64.wrap ((IntKind.u64.wrap (a1+a3)).fdiv (2 ^ 1)))+a2)),(20,iV p59),(21,iV p60)]∧L=[ju A1 n1 c1 a0]) ?_ ?_
  ·refine U ?_;refine gH J h (fun h=> ?_) (fun h=> ?_)
   ·refine U ?_;obtain ⟨q62,h⟩:=ay h;refine gE (dI J J q62.1 q62.2) ?_;refine U ?_;exact ⟨_,_,⟨((IntKind.i64.wrap ((IntKind.u64.wrap (a1+a3)).fdiv (2 ^ 1)))+a2) - a3,(IntKind.i64.wrap ((IntKind.u64.wrap (a1+a3)).fdiv (2 ^ 1))),h,J,J⟩,sA,cS [0] 1⟩
   refine U ?_;exact ⟨_,_,⟨a1,a2,h,J,J⟩,sA,cS [0] 1⟩
  rintro _ _ ⟨p59,p60,h,rfl,rfl⟩;refine U ?_;obtain ⟨q63,h⟩:=ay h;refine gE (dI J J q63.1 q63.2) ?_;refine U ?_;refine ba (fun s L=> ∃p65,dL N (aN N m2) a1 a2 a3 a0 p65=some r∧s=[(0,I A1 n1 c1),(1,iV a1),(2,iV a2),(3,iV a3),(4,.func (.func 161) #[] #[]),(18,iV (IntKind.i64.wrap ((IntKind.u64.wrap (a1+a3)).fdiv (2 ^ 1)))),(19,iV ((IntKind.i64.wrap ((IntKind.u64.wrap (a1+a3)).fdiv (2 ^ 1)))+a2)),(20,iV p65)]∧L=[ju A1 n1 c1 a0]) ?_ ?_
  ·refine eZ ?_;refine cn (fun m s L=> ∃p67 p68,cR N (aN N m2) a1 a2 a3 a0 m p67 p68=some r∧s=[(0,I A1 n1 c1),(1,iV a1),(2,iV a2),(3,iV a3),(4,.func (.func 161) #[] #[]),(18,iV (IntKind.i64.wrap ((IntKind.u64.wrap (a1+a3)).fdiv (2 ^ 1)))),(19,iV ((IntKind.i64.wrap ((IntKind.u64.wrap (a1+a3)).fdiv (2 ^ 1)))+a2)),(20,iV p67),(21,iV p68),(22,iV (((IntKind.i64.wrap ((IntKind.u64.wrap (a1+a3)).fdiv (2 ^ 1)))+a2) - 1))]∧L=[ju A1 n1 c1 a0]) N _ _ ⟨p59,p60,h,J,J⟩ sA (cS [0] 1) ?_;rintro (_|m66) _ _ ⟨p67,p68,h,rfl,rfl⟩
   ·exact bu h
   rw [cR.eq_2] at h;refine aB ?_;refine U ?_;refine gH J h (fun h=> ?_) (fun h=> ?_)
   ·refine U ?_;obtain ⟨q70,h⟩:=ay h;refine gE (bI J J q70.1 q70.2) ?_;refine gE (qD J J ME) ?_;refine gE (Ak (v:=(IntKind.u64.wrap (p67+p68)).fdiv (2 ^ 1)) J J (fun _=>J)) ?_;refine gE (qD J J hJ) ?_;refine U ?_;refine aB ?_;refine bK V _ (ae _) ?_;refine zE 0 J (aq J) ?_;refine zE 1 J (aq J) ?_;refine zE 2 J (aq J) ?_;refine zE 3 J (aq J) ?_;obtain ⟨q71,h⟩:=ay h;refine zE 4 J (dI J J q71.1 q71.2) ?_;obtain ⟨x72,hx72,h⟩:=aa h;obtain ⟨lx72,ux72,hx72⟩:=aJ hx72;refine zR 5 J (bx 0 J aC J J MD cO lx72 ux72) ?_;refine zR 6 J (bA (us:=[iV x72.Kind,iV x72.N,.string x72.S]) 0 J aC J hx72 bF (fun _ _ _ h=>by rw [show _=_ from h];rfl)) ?_;refine zE 7 J (aq J) ?_;refine zE 8 J (aq J) ?_;obtain ⟨x73,hx73,h⟩:=aa h;obtain ⟨lx73,ux73,hx73⟩:=aJ hx73;refine zR 9 J (bx 0 J aC J J MD cO lx73 ux73) ?_;refine zR 10 J (bA (us:=[iV x73.Kind,iV x73.N,.string x73.S]) 0 J aC J hx73 bF (fun _ _ _ h=>by rw [show _=_ from h];rfl)) ?_;obtain ⟨y74,k,h⟩:=aa h;refine zD 11 J (fM (nR k) ww J J J (aj) ma) ?_;rintro _ _ ⟨_,⟨rfl,rfl⟩,rfl⟩;refine ⟨_,ae _,ae _,?_⟩;refine zE 12 J (ze J J) ?_;refine zE 13 J (xC J) ?_;refine bC V ?_;refine fa ?_;refine gH J h (fun h=> ?_) (fun h=> ?_)
    ·refine U ?_;obtain ⟨q76,h⟩:=ay h;refine gE (bI J J q76.1 q76.2) ?_;refine U ?_;exact ⟨m66,_,_,Nh _,⟨(IntKind.i64.wrap ((IntKind.u64.wrap (p67+p68)).fdiv (2 ^ 1)))+1,p68,h,J,J⟩,sA,cS [0] 1⟩
    refine U ?_;exact ⟨m66,_,_,Nh _,⟨p67,(IntKind.i64.wrap ((IntKind.u64.wrap (p67+p68)).fdiv (2 ^ 1))),h,J,J⟩,sA,cS [0] 1⟩
   refine U ?_;exact ⟨_,_,⟨p67,h,J,J⟩,sA,cS [0] 1⟩
  rintro _ _ ⟨p65,h,rfl,rfl⟩;refine U ?_;obtain ⟨q77,h⟩:=ay h;refine gE (dI J J q77.1 q77.2) ?_;refine U ?_;refine ba (fun s L=> ∃p79,cV N (aN N m2) a1 a3 p65 a2 p79=some r∧s=[(0,I A1 n1 c1),(1,iV a1),(3,iV a3),(4,.func (.func 161) #[] #[]),(18,iV (IntKind.i64.wrap ((IntKind.u64.wrap (a1+a3)).fdiv (2 ^ 1)))),(20,iV p65),(24,iV (((IntKind.i64.wrap ((IntKind.u64.wrap (a1+a3)).fdiv (2 ^ 1)))+a2) - p65))]∧L=[ju A1 n1 c1 p79]) ?_ ?_
  ·refine U ?_;obtain ⟨b80,hb80,h⟩:=aa h;refine aK 4 185 b80 ?_ ?_
   ·clear h;refine aI 181 J (fun g80=> ?_) (fun g80=> ?_)
    ·have h:=aE g80 hb80;refine U ?_;obtain rfl:=am h;exact ad sA (cS [0] 1)
    have h:=aF g80 hb80;refine U ?_;obtain rfl:=am h;exact ad sA (cS [0] 1)
   refine U ?_;refine gH J h (fun h=> ?_) (fun h=> ?_)
   ·refine U ?_;obtain ⟨y82,k,h⟩:=aa h;refine gV (aA (mY k) Ij J (az [] [0] [] 1 J)) ?_;refine bM ?_;refine U ?_;exact ⟨_,_,⟨y82,h,J,J⟩,sA,cS [0] 1⟩
   refine U ?_;exact ⟨_,_,⟨a0,h,J,J⟩,sA,cS [0] 1⟩
  rintro _ _ ⟨p79,h,rfl,rfl⟩;refine ba (fun s L=> ∃p84,cU N (aN N m2) a3 a1 a2 p65 p84=some r∧s=[(0,I A1 n1 c1),(3,iV a3),(4,.func (.func 161) #[] #[]),(18,iV (IntKind.i64.wrap ((IntKind.u64.wrap (a1+a3)).fdiv (2 ^ 1)))),(24,iV (((IntKind.i64.wrap ((IntKind.u64.wrap (a1+a3)).fdiv (2 ^ 1)))+a2) - p65))]∧L=[ju A1 n1 c1 p84]) ?_ ?_
  ·refine U ?_;obtain ⟨b85,hb85,h⟩:=aa h;refine aK 4 199 b85 ?_ ?_
   ·clear h;refine aI 195 J (fun g85=> ?_) (fun g85=> ?_)
    ·have h:=aE g85 hb85;refine U ?_;obtain rfl:=am h;exact ad sA (cS [0] 1)
    have h:=aF g85 hb85;refine U ?_;obtain rfl:=am h;exact ad sA (cS [0] 1)
   refine U ?_;refine gH J h (fun h=> ?_) (fun h=> ?_)
   ·refine U ?_;obtain ⟨y87,k,h⟩:=aa h;refine gV (aA (ih k) pf J (az [] [0] [] 1 J)) ?_;refine bM ?_;refine U ?_;exact ⟨_,_,⟨y87,h,J,J⟩,sA,cS [0] 1⟩
   refine U ?_;exact ⟨_,_,⟨p79,h,J,J⟩,sA,cS [0] 1⟩
  rintro _ _ ⟨p84,h,rfl,rfl⟩;refine U ?_;obtain ⟨b88,hb88,h⟩:=aa h;refine aK 4 213 b88 ?_ ?_
  ·clear h;refine aI 209 J (fun g88=> ?_) (fun g88=> ?_)
   ·have h:=aE g88 hb88;refine U ?_;obtain rfl:=am h;exact ad sA (cS [0] 1)
   have h:=aF g88 hb88;refine U ?_;obtain rfl:=am h;exact ad sA (cS [0] 1)
  refine U ?_;refine gH J h (fun h=> ?_) (fun h=> ?_)
  ·refine U ?_;obtain ⟨y90,k,h⟩:=aa h;refine gV (aA (ih k) pf J (az [] [0] [] 1 J)) ?_;refine bM ?_;refine kU ?_;obtain rfl:=am h;exact fR J (cS [0] 1) ⟨J,J⟩
  refine oP ?_;obtain rfl:=am h;exact fR J (cS [0] 1) ⟨J,J⟩
theorem cF {N:Nat}{a0:(List MM)}{a1:Int}{a2:Int}{a3:Int}{r:(List MM)}(h:bW N a0 a1 a2 a3=some r):Okc Tryz.prog 231 [I A1 n1 c1,iV a1,iV a2,iV a3,.func (.func 161) #[] #[]] ([ju A1 n1 c1 a0]) (fun u post=>u=.tuple #[]∧post=[ju A1 n1 c1 r]):=lP N h
def fI (N:Nat)(kb14:(List MM)→Int→Option (List MM))(a1:Int)(p16:Int)(p33:(List MM)):Option (List MM):=
 dq (bQ (p16*2)) (kb14 p33 (p16*2))
def mx (N:Nat)(kb14:(List MM)→Int→Option (List MM))(a1:Int)(p16:Int)(p15:(List MM)):Option (List MM):=
 dq (bQ (0+p16)) (bif decide (0+p16<a1) then ((bW N p15 0 (0+p16) a1).bind fun y36=>fI N kb14 a1 p16 y36) else (fI N kb14 a1 p16 p15))
def fH (N:Nat)(kb14:(List MM)→Int→Option (List MM))(a1:Int)(p16:Int)(p39:(List MM)):Option (List MM):=
 dq (bQ (p16*2)) (kb14 p39 (p16*2))
def i4 (N:Nat)(kb14:(List MM)→Int→Option (List MM))(a1:Int)(p16:Int)(p21:(List MM))(p22:Int):Option (List MM):=
 dq (bQ (p22+p16)) (bif decide (p22+p16<a1) then ((bW N p21 p22 (p22+p16) a1).bind fun y42=>fH N kb14 a1 p16 y42) else (fH N kb14 a1 p16 p21))
def fE (N:Nat)(kb14:(List MM)→Int→Option (List MM))(a1:Int)(p16:Int):Nat→(List MM)→Int→Int→Option (List MM)
 |0,_,_,_=>none
 |m23+1,p24,p25,p26=>bif decide (p26≤a1) then (dq (bQ (p25+p16)) ((bW N p24 p25 (p25+p16) p26).bind fun y29=>dq (bQ (2*p16)) (dq (bQ (p26+(2*p16))) ((fE N kb14 a1 p16 m23) y29 p26 (p26+(2*p16)))))) else (i4 N kb14 a1 p16 p24 p25)
def bX (N:Nat)(a1:Int):Nat→(List MM)→Int→Option (List MM)
 |0,_,_=>none
 |m14+1,p15,p16=>bif decide (p16<a1) then (dq (bQ (2*p16)) (fE N (bX N a1 m14) a1 p16 N p15 0 (2*p16))) else (some p15)
def mX (N:Nat)(a1:Int)(a0:(List MM)):Option (List MM):=
 (cr N a0 0 a1).bind fun y13=>bX N a1 N y13 20
def fF (N:Nat)(kb45:(List MM)→Int→Option (List MM))(a1:Int)(p47:Int)(p64:(List MM)):Option (List MM):=
 dq (bQ (p47*2)) (kb45 p64 (p47*2))
def mw (N:Nat)(kb45:(List MM)→Int→Option (List MM))(a1:Int)(p47:Int)(p46:(List MM)):Option (List MM):=
 dq (bQ (0+p47)) (bif decide (0+p47<a1) then ((bW N p46 0 (0+p47) a1).bind fun y67=>fF N kb45 a1 p47 y67) else (fF N kb45 a1 p47 p46))
def ec (N:Nat)(kb45:(List MM)→Int→Option (List MM))(a1:Int)(p47:Int)(p70:(List MM)):Option (List MM):=
 dq (bQ (p47*2)) (kb45 p70 (p47*2))
def fG (N:Nat)(kb45:(List MM)→Int→Option (List MM))(a1:Int)(p47:Int)(p52:(List MM))(p53:Int):Option (List MM):=
 dq (bQ (p53+p47)) (bif decide (p53+p47<a1) then ((bW N p52 p53 (p53+p47) a1).bind fun y73=>ec N kb45 a1 p47 y73) else (ec N kb45 a1 p47 p52))
def d9 (N:Nat)(kb45:(List MM)→Int→Option (List MM))(a1:Int)(p47:Int):Nat→(List MM)→Int→Int→Option (List MM)
 |0,_,_,_=>none
 |m54+1,p55,p56,p57=>bif decide (p57≤a1) then (dq (bQ (p56+p47)) ((bW N p55 p56 (p56+p47) p57).bind fun y60=>dq (bQ (2*p47)) (dq (bQ (p57+(2*p47))) ((d9 N kb45 a1 p47 m54) y60 p57 (p57+(2*p47)))))) else (fG N kb45 a1 p47 p55 p56)
def bN (N:Nat)(a1:Int):Nat→(List MM)→Int→Option (List MM)
 |0,_,_=>none
 |m45+1,p46,p47=>bif decide (p47<a1) then (dq (bQ (2*p47)) (d9 N (bN N a1 m45) a1 p47 N p46 0 (2*p47))) else (some p46)
def fZ (N:Nat)(a1:Int)(p4:(List MM))(p5:Int):Option (List MM):=
 (cr N p4 p5 a1).bind fun y44=>bN N a1 N y44 20
def ew (N:Nat)(a1:Int):Nat→(List MM)→Int→Int→Option (List MM)
 |0,_,_,_=>none
 |m6+1,p7,p8,p9=>bif decide (p9≤a1) then ((cr N p7 p8 p9).bind fun y11=>dq (bQ (p9+20)) ((ew N a1 m6) y11 p9 (p9+20))) else (fZ N a1 p7 p8)
def gp (N:Nat)(a0:(List MM))(a1:Int):Option (List MM):=
 ew N a1 N a0 0 20
set_option maxHeartbeats 4000000 in
theorem mW {N:Nat}{a0:(List MM)}{a1:Int}{r:(List MM)}(h:gp N a0 a1=some r):Okc Tryz.prog 207 [I A1 n1 c1,iV a1,.func (.func 161) #[] #[]] ([ju A1 n1 c1 a0]) (fun u post=>u=.tuple #[]∧post=[ju A1 n1 c1 r]):=by
 refine bD Tryz.func207 J J ?_;simp only [aW];refine U ?_;refine ba (fun s L=>(mX N a1 a0=some r∧s=[(0,I A1 n1 c1),(1,iV a1),(2,.func (.func 161) #[] #[]),(6,iV 20),(7,iV 0)]∧L=[ju A1 n1 c1 a0])∨(∃p4 p5,fZ N a1 p4 p5=some r∧s=[(0,I A1 n1 c1),(1,iV a1),(2,.func (.func 161) #[] #[]),(6,iV 20),(7,iV p5)]∧L=[ju A1 n1 c1 p4])) ?_ ?_
 ·refine eZ ?_;refine cn (fun m s L=> ∃p7 p8 p9,ew N a1 m p7 p8 p9=some r∧s=[(0,I A1 n1 c1),(1,iV a1),(2,.func (.func 161) #[] #[]),(6,iV 20),(7,iV p8),(8,iV p9)]∧L=[ju A1 n1 c1 p7]) N _ _ ⟨a0,0,20,h,J,J⟩ sA (cS [0] 1) ?_;rintro (_|m6) _ _ ⟨p7,p8,p9,h,rfl,rfl⟩
  ·exact bu h
  rw [ew.eq_2] at h;refine aB ?_;refine U ?_;refine gH J h (fun h=> ?_) (fun h=> ?_)
  ·refine U ?_;obtain ⟨y11,k,h⟩:=aa h;refine gV (aA (ei k) AB J (az [] [0] [] 1 J)) ?_;refine U ?_;obtain ⟨q12,h⟩:=ay h;refine gE (bI J J q12.1 q12.2) ?_;refine U ?_;exact ⟨m6,_,_,Nh _,⟨y11,p9,p9+20,h,J,J⟩,sA,cS [0] 1⟩
  refine U ?_;exact ⟨_,_,.inr (⟨p7,p8,h,J,J⟩),sA,cS [0] 1⟩
 rintro _ _ (⟨h,rfl,rfl⟩|⟨p4,p5,h,rfl,rfl⟩)
 ·refine U ?_;obtain ⟨y13,k,h⟩:=aa h;refine gV (aA (ei k) AB J (az [] [0] [] 1 J)) ?_;refine U ?_;refine cn (fun m s L=> ∃p15 p16,bX N a1 m p15 p16=some r∧s=[(0,I A1 n1 c1),(1,iV a1),(2,.func (.func 161) #[] #[]),(6,iV p16)]∧L=[ju A1 n1 c1 p15]) N _ _ ⟨y13,20,h,J,J⟩ sA (cS [0] 1) ?_;rintro (_|m14) _ _ ⟨p15,p16,h,rfl,rfl⟩
  ·exact bu h
  rw [bX.eq_2] at h;refine aB ?_;refine U ?_;refine gH J h (fun h=> ?_) (fun h=> ?_)
  ·refine U ?_;obtain ⟨q18,h⟩:=ay h;refine gE (oJ J J q18.1 q18.2) ?_;refine U ?_;refine ba (fun s L=>(mx N (bX N a1 m14) a1 p16 p15=some r∧s=[(0,I A1 n1 c1),(1,iV a1),(2,.func (.func 161) #[] #[]),(6,iV p16),(7,iV 0)]∧L=[ju A1 n1 c1 p15])∨(∃p21 p22,i4 N (bX N a1 m14) a1 p16 p21 p22=some r∧s=[(0,I A1 n1 c1),(1,iV a1),(2,.func (.func 161) #[] #[]),(6,iV p16),(7,iV p22)]∧L=[ju A1 n1 c1 p21])) ?_ ?_
   ·refine eZ ?_;refine cn (fun m s L=> ∃p24 p25 p26,fE N (bX N a1 m14) a1 p16 m p24 p25 p26=some r∧s=[(0,I A1 n1 c1),(1,iV a1),(2,.func (.func 161) #[] #[]),(6,iV p16),(7,iV p25),(8,iV p26)]∧L=[ju A1 n1 c1 p24]) N _ _ ⟨p15,0,2*p16,h,J,J⟩ sA (cS [0] 1) ?_;rintro (_|m23) _ _ ⟨p24,p25,p26,h,rfl,rfl⟩
    ·exact bu h
    rw [fE.eq_2] at h;refine aB ?_;refine U ?_;refine gH J h (fun h=> ?_) (fun h=> ?_)
    ·refine U ?_;obtain ⟨q28,h⟩:=ay h;refine gE (bI J J q28.1 q28.2) ?_;refine U ?_;obtain ⟨y29,k,h⟩:=aa h;refine gV (aA (cF k) pf J (az [] [0] [] 1 J)) ?_;refine bM ?_;refine U ?_;obtain ⟨q30,h⟩:=ay h;refine gE (oJ J J q30.1 q30.2) ?_;obtain ⟨q31,h⟩:=ay h;refine gE (bI J J q31.1 q31.2) ?_;refine U ?_;exact ⟨m23,_,_,Nh _,⟨y29,p26,p26+(2*p16),h,J,J⟩,sA,cS [0] 1⟩
    refine U ?_;exact ⟨_,_,.inr (⟨p24,p25,h,J,J⟩),sA,cS [0] 1⟩
   rintro _ _ (⟨h,rfl,rfl⟩|⟨p21,p22,h,rfl,rfl⟩)
   ·refine ba (fun s L=> ∃p33,fI N (bX N a1 m14) a1 p16 p33=some r∧s=[(0,I A1 n1 c1),(1,iV a1),(2,.func (.func 161) #[] #[]),(6,iV p16)]∧L=[ju A1 n1 c1 p33]) ?_ ?_
    ·refine U ?_;obtain ⟨q34,h⟩:=ay h;refine gE (bI J J q34.1 q34.2) ?_;refine U ?_;refine gH J h (fun h=> ?_) (fun h=> ?_)
     ·refine U ?_;obtain ⟨y36,k,h⟩:=aa h;refine gV (aA (cF k) pf J (az [] [0] [] 1 J)) ?_;refine U ?_;exact ⟨_,_,⟨y36,h,J,J⟩,sA,cS [0] 1⟩
     refine U ?_;exact ⟨_,_,⟨p15,h,J,J⟩,sA,cS [0] 1⟩
    rintro _ _ ⟨p33,h,rfl,rfl⟩;refine U ?_;obtain ⟨q37,h⟩:=ay h;refine gE (oJ J J q37.1 q37.2) ?_;refine U ?_;exact ⟨m14,_,_,Nh _,⟨p33,p16*2,h,J,J⟩,sA,cS [0] 1⟩
   refine ba (fun s L=> ∃p39,fH N (bX N a1 m14) a1 p16 p39=some r∧s=[(0,I A1 n1 c1),(1,iV a1),(2,.func (.func 161) #[] #[]),(6,iV p16)]∧L=[ju A1 n1 c1 p39]) ?_ ?_
   ·refine U ?_;obtain ⟨q40,h⟩:=ay h;refine gE (bI J J q40.1 q40.2) ?_;refine U ?_;refine gH J h (fun h=> ?_) (fun h=> ?_)
    ·refine U ?_;obtain ⟨y42,k,h⟩:=aa h;refine gV (aA (cF k) pf J (az [] [0] [] 1 J)) ?_;refine U ?_;exact ⟨_,_,⟨y42,h,J,J⟩,sA,cS [0] 1⟩
    refine U ?_;exact ⟨_,_,⟨p21,h,J,J⟩,sA,cS [0] 1⟩
   rintro _ _ ⟨p39,h,rfl,rfl⟩;refine U ?_;obtain ⟨q43,h⟩:=ay h;refine gE (oJ J J q43.1 q43.2) ?_;refine U ?_;exact ⟨m14,_,_,Nh _,⟨p39,p16*2,h,J,J⟩,sA,cS [0] 1⟩
  refine U ?_;obtain rfl:=am h;exact fR J (cS [0] 1) ⟨J,J⟩
 refine U ?_;obtain ⟨y44,k,h⟩:=aa h;refine gV (aA (ei k) AB J (az [] [0] [] 1 J)) ?_;refine bM ?_;refine U ?_;refine cn (fun m s L=> ∃p46 p47,bN N a1 m p46 p47=some r∧s=[(0,I A1 n1 c1),(1,iV a1),(2,.func (.func 161) #[] #[]),(6,iV p47)]∧L=[ju A1 n1 c1 p46]) N _ _ ⟨y44,20,h,J,J⟩ sA (cS [0] 1) ?_;rintro (_|m45) _ _ ⟨p46,p47,h,rfl,rfl⟩
 ·exact bu h
 rw [bN.eq_2] at h;refine aB ?_;refine U ?_;refine gH J h (fun h=> ?_) (fun h=> ?_)
 ·refine U ?_;obtain ⟨q49,h⟩:=ay h;refine gE (oJ J J q49.1 q49.2) ?_;refine U ?_;refine ba (fun s L=>(mw N (bN N a1 m45) a1 p47 p46=some r∧s=[(0,I A1 n1 c1),(1,iV a1),(2,.func (.func 161) #[] #[]),(6,iV p47),(7,iV 0)]∧L=[ju A1 n1 c1 p46])∨(∃p52 p53,fG N (bN N a1 m45) a1 p47 p52 p53=some r∧s=[(0,I A1 n1 c1),(1,iV a1),(2,.func (.func 161) #[] #[]),(6,iV p47),(7,iV p53)]∧L=[ju A1 n1 c1 p52])) ?_ ?_
  ·refine eZ ?_;refine cn (fun m s L=> ∃p55 p56 p57,d9 N (bN N a1 m45) a1 p47 m p55 p56 p57=some r∧s=[(0,I A1 n1 c1),(1,iV a1),(2,.func (.func 161) #[] #[]),(6,iV p47),(7,iV p56),(8,iV p57)]∧L=[ju A1 n1 c1 p55]) N _ _ ⟨p46,0,2*p47,h,J,J⟩ sA (cS [0] 1) ?_;rintro (_|m54) _ _ ⟨p55,p56,p57,h,rfl,rfl⟩
   ·exact bu h
   rw [d9.eq_2] at h;refine aB ?_;refine U ?_;refine gH J h (fun h=> ?_) (fun h=> ?_)
   ·refine U ?_;obtain ⟨q59,h⟩:=ay h;refine gE (bI J J q59.1 q59.2) ?_;refine U ?_;obtain ⟨y60,k,h⟩:=aa h;refine gV (aA (cF k) pf J (az [] [0] [] 1 J)) ?_;refine U ?_;obtain ⟨q61,h⟩:=ay h;refine gE (oJ J J q61.1 q61.2) ?_;obtain ⟨q62,h⟩:=ay h;refine gE (bI J J q62.1 q62.2) ?_;refine U ?_;exact ⟨m54,_,_,Nh _,⟨y60,p57,p57+(2*p47),h,J,J⟩,sA,cS [0] 1⟩
   refine U ?_;exact ⟨_,_,.inr (⟨p55,p56,h,J,J⟩),sA,cS [0] 1⟩
  rintro _ _ (⟨h,rfl,rfl⟩|⟨p52,p53,h,rfl,rfl⟩)
  ·refine ba (fun s L=> ∃p64,fF N (bN N a1 m45) a1 p47 p64=some r∧s=[(0,I A1 n1 c1),(1,iV a1),(2,.func (.func 161) #[] #[]),(6,iV p47)]∧L=[ju A1 n1 c1 p64]) ?_ ?_
   ·refine U ?_;obtain ⟨q65,h⟩:=ay h;refine gE (bI J J q65.1 q65.2) ?_;refine U ?_;refine gH J h (fun h=> ?_) (fun h=> ?_)
    ·refine U ?_;obtain ⟨y67,k,h⟩:=aa h;refine gV (aA (cF k) pf J (az [] [0] [] 1 J)) ?_;refine U ?_;exact ⟨_,_,⟨y67,h,J,J⟩,sA,cS [0] 1⟩
    refine U ?_;exact ⟨_,_,⟨p46,h,J,J⟩,sA,cS [0] 1⟩
   rintro _ _ ⟨p64,h,rfl,rfl⟩;refine U ?_;obtain ⟨q68,h⟩:=ay h;refine gE (oJ J J q68.1 q68.2) ?_;refine U ?_;exact ⟨m45,_,_,Nh _,⟨p64,p47*2,h,J,J⟩,sA,cS [0] 1⟩
  refine ba (fun s L=> ∃p70,ec N (bN N a1 m45) a1 p47 p70=some r∧s=[(0,I A1 n1 c1),(1,iV a1),(2,.func (.func 161) #[] #[]),(6,iV p47)]∧L=[ju A1 n1 c1 p70]) ?_ ?_
  ·refine U ?_;obtain ⟨q71,h⟩:=ay h;refine gE (bI J J q71.1 q71.2) ?_;refine U ?_;refine gH J h (fun h=> ?_) (fun h=> ?_)
   ·refine U ?_;obtain ⟨y73,k,h⟩:=aa h;refine gV (aA (cF k) pf J (az [] [0] [] 1 J)) ?_;refine bM ?_;refine U ?_;exact ⟨_,_,⟨y73,h,J,J⟩,sA,cS [0] 1⟩
   refine U ?_;exact ⟨_,_,⟨p52,h,J,J⟩,sA,cS [0] 1⟩
  rintro _ _ ⟨p70,h,rfl,rfl⟩;refine U ?_;obtain ⟨q74,h⟩:=ay h;refine gE (oJ J J q74.1 q74.2) ?_;refine U ?_;exact ⟨m45,_,_,Nh _,⟨p70,p47*2,h,J,J⟩,sA,cS [0] 1⟩
 refine U ?_;obtain rfl:=am h;exact fR J (cS [0] 1) ⟨J,J⟩
def ey (N:Nat)(a0:(List MM)):Option (List MM):=
 (gp N a0 (a0.length:Int)).bind fun y2=>some y2
theorem my {N:Nat}{a0:(List MM)}{r:(List MM)}(h:ey N a0=some r):Okc Tryz.prog 160 [I A1 n1 c1,.func (.func 161) #[] #[]] ([ju A1 n1 c1 a0]) (fun u post=>u=.tuple #[]∧post=[ju A1 n1 c1 r]):=by
 refine bD Tryz.func160 J J ?_;simp only [aW];refine U ?_;refine gR (bL 0 J aC J MD) ?_;refine U ?_;obtain ⟨y2,k,h⟩:=aa h;refine gV (aA (mW k) It J (az [] [0] [] 1 J)) ?_;refine kU ?_;obtain rfl:=am h;exact fR J (cS [0] 1) ⟨J,J⟩
def qd (N:Nat)(p3:(List MM)):Option (List MM):=
 (ey N p3).bind fun y19=>some y19
def nS (N:Nat)(kb4:(List MM)→Int→Option (List MM))(a0:(List MM))(p6:Int)(p10:(List MM)):Option (List MM):=
 dq (bQ (p6+1)) (kb4 p10 (p6+1))
def kM (N:Nat)(a0:(List MM)):Nat→(List MM)→Int→Option (List MM)
 |0,_,_=>none
 |m4+1,p5,p6=>bif decide (p6<(a0.length:Int)) then ((bR a0 p6).bind fun x11=>(co N x11).bind fun y13=>bif y13 then (dq (gQ (p5.length+([x11]:List MM).length)) (nS N (kM N a0 m4) a0 p6 (p5++([x11]:List MM)))) else (nS N (kM N a0 m4) a0 p6 p5)) else (qd N p5)
def eA (N:Nat)(a0:(List MM)):Option (List MM):=
 kM N a0 N [] 0
theorem tS {N:Nat}{a0:(List MM)}{r:(List MM)}(h:eA N a0=some r):Okc Tryz.prog 106 [I A1 n1 c1] ([lB nJ (I A1 n1 c1) a0]) (fun u post=> ∃A0 n0 c0,u=I A0 n0 c0∧post=[ju A0 n0 c0 r]):=by
 refine bD Tryz.func106 J J ?_;simp only [aW];refine U ?_;refine ba (fun s L=> ∃p3 A3 n3 c3,qd N p3=some r∧s=[(2,I none 0 0),(3,I A3 n3 c3)]∧L=[ju A3 n3 c3 p3]) ?_ ?_
 ·refine U ?_;refine gR (bL 0 J aS J MD) ?_;refine U ?_;refine cn (fun m s L=> ∃p5 p6 A5 n5 c5,kM N a0 m p5 p6=some r∧s=[(2,I none 0 0),(3,I A5 n5 c5),(6,I A1 n1 c1),(7,iV (a0.length:Int)),(8,iV p6)]∧L=[ju A5 n5 c5 p5,lB nJ (I A1 n1 c1) a0]) N _ _ ⟨[],0,none,0,0,h,J,J⟩ sA ((gA nJ 24 _).trans (cS [0,1] 2)) ?_;rintro (_|m4) _ _ ⟨p5,p6,A5,n5,c5,h,rfl,rfl⟩
  ·exact bu h
  rw [kM.eq_2] at h;refine U ?_;refine aB ?_;refine gH J h (fun h=> ?_) (fun h=> ?_)
  ·refine U ?_;refine ba (fun s L=> ∃p10 A10 n10 c10,nS N (kM N a0 m4) a0 p6 p10=some r∧s=[(2,I none 0 0),(3,I A10 n10 c10),(6,I A1 n1 c1),(7,iV (a0.length:Int)),(8,iV p6)]∧L=[ju A10 n10 c10 p10,lB nJ (I A1 n1 c1) a0]) ?_ ?_
   ·refine U ?_;obtain ⟨x11,hx11,h⟩:=aa h;obtain ⟨lx11,ux11,hx11⟩:=aJ hx11;refine gR (bx 1 J aS J J MD cO lx11 ux11) ?_;refine gR (bA (us:=[iV x11.Kind,iV x11.N,.string x11.S]) 1 J aS J hx11 bF (fun _ _ _ h=>by rw [show _=_ from h];rfl)) ?_
    refine gB (aM qP J) fun B12=> ?_
    refine gW (ar (us:=[iV x11.Kind,iV x11.N,.string x11.S]) (cs':=[iV x11.Kind,iV x11.N,.string x11.S]) 0 J J J J cO J J J) ?_;refine U ?_;refine gR (ah (us:=[iV x11.Kind,iV x11.N,.string x11.S]) 0 J J bF J) ?_;obtain ⟨y13,k,h⟩:=aa h;refine gV (ap (kL k) uV J (aj) i7) ?_;refine U ?_;refine gH J h (fun h=> ?_) (fun h=> ?_)
    ·refine U ?_;refine gR (ah (us:=[iV x11.Kind,iV x11.N,.string x11.S]) 0 J J bF J) ?_;refine gD (cx (R:=nJ) (vss:=[[iV x11.Kind,iV x11.N,.string x11.S]]) (xs:=[x11]) J (rI _ _ _) J J (fun _ _ hr=> .cons J All2.nil)) ?_;rintro _ _ ⟨A15,n15,c15,rfl,rfl⟩;obtain ⟨q16,h⟩:=ay h;refine gD (ed 2 0 J J aC J J MD Fh J J q16) ?_;rintro _ _ ⟨A17,n17,c17,rfl,rfl⟩;refine U ?_;exact ⟨_,_,⟨p5++([x11]:List MM),A17,n17,c17,h,J,J⟩,sA,cS [2,3] 4⟩
    refine U ?_;exact ⟨_,_,⟨p5,A5,n5,c5,h,J,J⟩,sA,cS [1,2] 3⟩
   rintro _ _ ⟨p10,A10,n10,c10,h,rfl,rfl⟩;refine gj ?_;obtain ⟨q18,h⟩:=ay h;refine gE (bI J J q18.1 q18.2) ?_;refine U ?_;exact ⟨m4,_,_,Nh _,⟨p10,p6+1,A10,n10,c10,h,J,J⟩,sA,cS [0,1] 2⟩
  refine U ?_;exact ⟨_,_,⟨p5,A5,n5,c5,h,J,J⟩,sA,cS [0] 2⟩
 rintro _ _ ⟨p3,A3,n3,c3,h,rfl,rfl⟩;refine U ?_;obtain ⟨y19,k,h⟩:=aa h;refine gV (aA (my k) IB J (az [] [0] [] 1 J)) ?_;refine bM ?_;refine U ?_;obtain rfl:=am h;exact aL J J (cS [0] 1) ⟨_,_,_,J,J⟩
theorem rp {r:(List MM)}:∀(u:Value)(p:List Chunk),(∃A0 n0 c0,u=I A0 n0 c0∧p=[ju A0 n0 c0 r])→∀c∈p,cM c:=by
 rintro _ _ ⟨_,_,_,rfl,rfl⟩;exact hD gb (aj)
end Go.Proofs.YtanojiedimeegaaGreatDoor