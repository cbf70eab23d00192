/- Merged texts: part 7. No conditions of their own. -/
import Derived.Test.YtanojiedimeegaaGreatDoorG6
namespace Go.Proofs.YtanojiedimeegaaGreatDoor
theorem JA:type_of% Tryz.underlying279:=Tryz.underlying279
variable {A1 A10 A12 A13 A14 A3 A4 A5 A6:Option Addr} {B1 B2 B7 B9 M11 M8 c1 c10 c12 c13 c14 c3 c4 c5 c6 n1 n10 n12 n13 n14 n3 n4 n5 n6:Nat}
open Go.RowKit Asn
set_option maxRecDepth 20000
def oO (N:Nat)(a0:JL)(p39:(List JQ)):Option (List JQ):=
 some p39
def jK (N:Nat)(y41:((List JW)))(y36:((List Int)))(y16_1:(JT))(a0:JL):Nat→(List JQ)→(List JW)→Int→Option (List JQ)
 |0,_,_,_=>none
 |m44+1,p45,p46,p47=>bif decide (p47<(y41.length:Int)) then ((bT p46 p47).bind fun x50=>(bT y36 p47).bind fun x52=>(di N (⟨y16_1.Cell,a0,y16_1.at_⟩:JT) p47 x50 x52).bind fun y53=>cN ((p45.length+([y53]:List JQ).length)≤549755813888) (cN (bM (p47+1)) ((jK N y41 y36 y16_1 a0 m44) (p45++([y53]:List JQ)) p46 (p47+1)))) else (oO N a0 p45)
def fi (N:Nat)(a0:JL)(a1:JS):Option (List JQ):=
 (cW N a0 a1).bind fun y16=>xz y16 (fun y16_0=>some []) (fun y16_1=>(da N a0).bind fun y35=>(fC N a0.shapes_ y16_1.Cell.Shape).bind fun y36=>(da N a0).bind fun y40=>(dE N a0.shapes_ y16_1.Cell.Shape).bind fun y41=>jK N y41 y36 y16_1 a0 N [] y41 0)
set_option maxHeartbeats 4000000 in
theorem iJ {N:Nat}{a0:JL}{a1:JS}{r:(List JQ)}(h:fi N a0 a1=some r):Okc Tryz.prog 105 [pV B1 0,(bv a1)] ([bj A12 n12 c12 a0.symbols_,cC A13 n13 c13 a0.events_,bj A14 n14 c14 a0.out_,ad B1 151 [iV a0.spent_.steps_,iV a0.spent_.made_,iV a0.spent_.calls_,iV a0.config_.Way,iV a0.config_.Steps,iV a0.config_.Calls,iV a0.config_.Made,iV a0.config_.Young,iV a0.config_.Full,iV a0.config_.Sites,.nilIface,pV B2 0,pV B9 0,I A12 n12 c12,iV a0.epoch_,iV a0.serial_,iV a0.sleepers_,I A13 n13 c13,I A14 n14 c14],ad B2 199 [I A3 n3 c3,I A4 n4 c4,I A5 n5 c5,I A6 n6 c6,pV B7 0],br A3 n3 c3 a0.heap_.m_.Young,br A4 n4 c4 a0.heap_.m_.Old,aY A5 n5 c5 a0.heap_.roots_,aY A6 n6 c6 a0.heap_.pending_,ad B7 247 [.map (some M8)],aG cx cz M8 a0.heap_.set_.at_,ad B9 205 [I A10 n10 c10,.map (some M11)],cE A10 n10 c10 a0.shapes_.shapes_,aG aF cv M11 a0.shapes_.next_]) (fun u post=> ∃A500 n500 c500,u=I A500 n500 c500∧post=[tp A500 n500 c500 r,ad B1 151 [iV a0.spent_.steps_,iV a0.spent_.made_,iV a0.spent_.calls_,iV a0.config_.Way,iV a0.config_.Steps,iV a0.config_.Calls,iV a0.config_.Made,iV a0.config_.Young,iV a0.config_.Full,iV a0.config_.Sites,.nilIface,pV B2 0,pV B9 0,I A12 n12 c12,iV a0.epoch_,iV a0.serial_,iV a0.sleepers_,I A13 n13 c13,I A14 n14 c14],ad B2 199 [I A3 n3 c3,I A4 n4 c4,I A5 n5 c5,I A6 n6 c6,pV B7 0],br A3 n3 c3 a0.heap_.m_.Young,br A4 n4 c4 a0.heap_.m_.Old,aY A5 n5 c5 a0.heap_.roots_,aY A6 n6 c6 a0.heap_.pending_,ad B7 247 [.map (some M8)],aG cx cz M8 a0.heap_.set_.at_,ad B9 205 [I A10 n10 c10,.map (some M11)],cE A10 n10 c10 a0.shapes_.shapes_,aG aF cv M11 a0.shapes_.next_]):=by
 refine bx Tryz.func105 J J ?_;simp only [aX];refine Y ?_;refine gD (aQ J J) ?_;rintro _ _ ⟨B15,rfl,rfl⟩;refine Y ?_;refine gR (aj (us:=ax a1) 0 J J aJ J) ?_;obtain ⟨y16,hy16,h⟩:=aa h;rcases y16 with y16_0|y16_1
 ·replace h:=yX h;refine gD (aD (bL hy16) gk J (aB [1,2,3] [4,5,6,7,8,9,10,11,12,13,14] [0,1,2,3] 15 J)) ?_;rintro _ _ ⟨_,⟨rfl,rfl⟩,rfl⟩;refine Y ?_;refine aC ?_;refine Y ?_;refine iW J ?_;refine Y ?_;obtain rfl:=ao h;exact aN J J ((fL nB 42 _).trans (cS [0,1,2,3,4,5,6,7,8,9,10,11] 16)) ⟨_,_,_,J,J⟩
 replace h:=yW h;refine gD (aD (bL hy16) gk J (aB [1,2,3] [4,5,6,7,8,9,10,11,12,13,14] [0,1,2,3] 15 J)) ?_;rintro _ _ ⟨_,⟨B18,A19,n19,c19,A20,n20,c20,rfl,rfl⟩,rfl⟩;refine Y ?_;refine aC ?_;refine Y ?_;refine f5 J ?_;refine Y ?_;refine aC ?_;refine bF V _ (ai _) ?_;refine zE 0 J (au J) ?_;refine zE 2 J (au J) ?_;refine zE 3 J (bc J) ?_;refine zE 4 J (dL J fk) ?_;refine zE 5 J (bZ J mq) ?_;refine zR 6 J (aZ 0 J J dy J) ?_;obtain ⟨y35,hy35,h⟩:=aa h;refine zD 1 J (aq (dW hy35) ra J (hD (az (i:=3) J) (hD (az (i:=4) J) (hD (ap (i:=5) J) (hD (ap (i:=6) J) (hD (ap (i:=7) J) (hD (ap (i:=8) J) (hD (az (i:=9) J) (hD (aW (i:=10) J) (hD (az (i:=11) J) (hD (ap (i:=12) J) (hD (aW (i:=13) J) (hD (am (i:=15) J J) (hD (am (i:=16) J J) (hD (am (i:=17) J J) ak)))))))))))))) dz) ?_;rintro _ _ ⟨_,⟨rfl,rfl⟩,rfl⟩;refine ⟨_,ai _,ai _,?_⟩;obtain ⟨y36,hy36,h⟩:=aa h;refine zD 7 J (aq (pY hy36) F0 J (hD (az (i:=11) J) (hD (ap (i:=12) J) (hD (aW (i:=13) J) ak))) o8) ?_;rintro _ _ ⟨_,⟨A37,n37,c37,rfl,rfl⟩,rfl⟩;refine dN (cS [1,2,3,4,5,6,7,8,9,10,11,12,13,14,15,16,17,18] 19) ?_;refine zE 8 J (bg J) ?_;refine bw V ?_;refine eh ?_
 refine ba (fun s L=> ∃p39 A39 n39 c39,oO N a0 p39=some r∧s=[(4,I none 0 0),(7,I A39 n39 c39)]∧L=[tp A39 n39 c39 p39,bj A12 n12 c12 a0.symbols_,cC A13 n13 c13 a0.events_,bj A14 n14 c14 a0.out_,ad B1 151 [iV a0.spent_.steps_,iV a0.spent_.made_,iV a0.spent_.calls_,iV a0.config_.Way,iV a0.config_.Steps,iV a0.config_.Calls,iV a0.config_.Made,iV a0.config_.Young,iV a0.config_.Full,iV a0.config_.Sites,.nilIface,pV B2 0,pV B9 0,I A12 n12 c12,iV a0.epoch_,iV a0.serial_,iV a0.sleepers_,I A13 n13 c13,I A14 n14 c14],br A3 n3 c3 a0.heap_.m_.Young,br A4 n4 c4 a0.heap_.m_.Old,aY A5 n5 c5 a0.heap_.roots_,aY A6 n6 c6 a0.heap_.pending_,ad B2 199 [I A3 n3 c3,I A4 n4 c4,I A5 n5 c5,I A6 n6 c6,pV B7 0],cE A10 n10 c10 a0.shapes_.shapes_,aG aF cv M11 a0.shapes_.next_,ad B9 205 [I A10 n10 c10,.map (some M11)],aG cx cz M8 a0.heap_.set_.at_,ad B7 247 [.map (some M8)]]) ?_ ?_
 ·refine aC ?_;obtain ⟨y40,hy40,h⟩:=aa h;obtain ⟨y41,hy41,h⟩:=aa h;refine gK (t:=[(0,pV B1 0),(4,I none 0 0),(5,pV B18 0),(7,I none 0 0),(8,I A37 n37 c37)]) ?_ jr (ai _)
  refine ge V 10 [] [7,8,9] [27,28,29,30,31,32,33,34,35,36] [[],[0],[],[2],[3],[4],[5],[1,6],[7],[]] [aV (pV B1 0),
aV (pV B9 0),
aV (pV B18 0),
aV (pV B18 0),
aV (pV B18 0),
aV (pV B18 1),
aV (iV y16_1.Cell.Shape),
aX3 (fun (A43:Option Addr) (n43 c43:Nat)=> I A43 n43 c43) (fun A43 n43 c43=> [iN A43 n43 c43 y41]),
aV (iV (y41.length:Int)),
aV (iV 0)] [] (ai _) (i5) V rfl rfl ?_ ?_ ?_
  ·exact i4
  ·refine al J ?_ ?_
   ·exact bV (au J) J (bd J (ai _))
   refine al J ?_ ?_
   ·intro A43 n43 c43;exact fq (bK 0 J aE J Jz) J (bd J (ai _))
   refine al J ?_ ?_
   ·refine kJ (aq (mG hy41) BU J (hD (az (i:=12) J) (hD (ap (i:=13) J) (hD (aW (i:=14) J) ak))) lC) J ?_;rintro _ _ ⟨_,⟨A42,n42,c42,rfl,rfl⟩,rfl⟩;exact Fw A42 n42 c42 (ai _)
   refine al J ?_ ?_
   ·exact fq (aZ 1 J J dy J) J (bd J (ai _))
   refine al J ?_ ?_
   ·exact bV (bZ J mq) J (bd J (ai _))
   refine al J ?_ ?_
   ·exact bV (dL J fk) J (bd J (ai _))
   refine al J ?_ ?_
   ·exact bV (bc J) J (bd J (ai _))
   refine al J ?_ ?_
   ·exact bV (au J) J (bd J (ai _))
   refine al J ?_ ?_
   ·refine kJ (aq (dW hy40) ra J (hD (az (i:=4) J) (hD (az (i:=5) J) (hD (ap (i:=6) J) (hD (ap (i:=7) J) (hD (ap (i:=8) J) (hD (ap (i:=9) J) (hD (az (i:=10) J) (hD (aW (i:=11) J) (hD (az (i:=12) J) (hD (ap (i:=13) J) (hD (aW (i:=14) J) (hD (am (i:=16) J J) (hD (am (i:=17) J J) (hD (am (i:=18) J J) ak)))))))))))))) dz) J ?_;rintro _ _ ⟨_,⟨rfl,rfl⟩,rfl⟩;exact bd J (ai _)
   refine al J ?_ ?_
   ·exact bV (au J) J (bd J (ai _))
   exact dV
  intro A43 n43 c43;refine lz (t:=[(34,I A43 n43 c43),(35,iV (y41.length:Int)),(36,iV 0),(0,pV B1 0),(4,I none 0 0),(5,pV B18 0),(7,I none 0 0),(8,I A37 n37 c37)]) (L':=[iN A43 n43 c43 y41,dJ (mx .i64) 3 (I A37 n37 c37) y36,ad B18 140 [iV y16_1.Cell.Kind,iV y16_1.Cell.Shape,iV y16_1.Cell.Flags,iV y16_1.Cell.Age,I A19 n19 c19,I A20 n20 c20,pV B1 0,iV y16_1.at_.Kind,iV y16_1.at_.N,.string y16_1.at_.S],aY A19 n19 c19 y16_1.Cell.Slots,aY A20 n20 c20 y16_1.Cell.More,ad B1 151 [iV a0.spent_.steps_,iV a0.spent_.made_,iV a0.spent_.calls_,iV a0.config_.Way,iV a0.config_.Steps,iV a0.config_.Calls,iV a0.config_.Made,iV a0.config_.Young,iV a0.config_.Full,iV a0.config_.Sites,.nilIface,pV B2 0,pV B9 0,I A12 n12 c12,iV a0.epoch_,iV a0.serial_,iV a0.sleepers_,I A13 n13 c13,I A14 n14 c14],ad B2 199 [I A3 n3 c3,I A4 n4 c4,I A5 n5 c5,I A6 n6 c6,pV B7 0],br A3 n3 c3 a0.heap_.m_.Young,br A4 n4 c4 a0.heap_.m_.Old,aY A5 n5 c5 a0.heap_.roots_,aY A6 n6 c6 a0.heap_.pending_,ad B7 247 [.map (some M8)],aG cx cz M8 a0.heap_.set_.at_,ad B9 205 [I A10 n10 c10,.map (some M11)],cE A10 n10 c10 a0.shapes_.shapes_,aG aF cv M11 a0.shapes_.next_,ad B15 30 (ax a1),bj A12 n12 c12 a0.symbols_,cC A13 n13 c13 a0.events_,bj A14 n14 c14 a0.out_]) ?_ jr (ai _);refine jd V ?_;refine Y ?_
  refine ca (fun m s L=> ∃p45 p46 p47 A45 n45 c45 A46 n46 c46,jK N y41 y36 y16_1 a0 m p45 p46 p47=some r∧s=[(4,I none 0 0),(5,pV B18 0),(7,I A45 n45 c45),(8,I A37 n37 c37),(34,I A46 n46 c46),(35,iV (y41.length:Int)),(36,iV p47)]∧L=[tp A45 n45 c45 p45,dJ (mx .i64) 3 (I A37 n37 c37) y36,iN A46 n46 c46 p46,aY A19 n19 c19 y16_1.Cell.Slots,aY A20 n20 c20 y16_1.Cell.More,ad B18 140 [iV y16_1.Cell.Kind,iV y16_1.Cell.Shape,iV y16_1.Cell.Flags,iV y16_1.Cell.Age,I A19 n19 c19,I A20 n20 c20,pV B1 0,iV y16_1.at_.Kind,iV y16_1.at_.N,.string y16_1.at_.S],bj A12 n12 c12 a0.symbols_,cC A13 n13 c13 a0.events_,bj A14 n14 c14 a0.out_,ad B1 151 [iV a0.spent_.steps_,iV a0.spent_.made_,iV a0.spent_.calls_,iV a0.config_.Way,iV a0.config_.Steps,iV a0.config_.Calls,iV a0.config_.Made,iV a0.config_.Young,iV a0.config_.Full,iV a0.config_.Sites,.nilIface,pV B2 0,pV B9 0,I A12 n12 c12,iV a0.epoch_,iV a0.serial_,iV a0.sleepers_,I A13 n13 c13,I A14 n14 c14],br A3 n3 c3 a0.heap_.m_.Young,br A4 n4 c4 a0.heap_.m_.Old,aY A5 n5 c5 a0.heap_.roots_,aY A6 n6 c6 a0.heap_.pending_,ad B2 199 [I A3 n3 c3,I A4 n4 c4,I A5 n5 c5,I A6 n6 c6,pV B7 0],cE A10 n10 c10 a0.shapes_.shapes_,aG aF cv M11 a0.shapes_.next_,ad B9 205 [I A10 n10 c10,.map (some M11)],aG cx cz M8 a0.heap_.set_.at_,ad B7 247 [.map (some M8)]]) N _ _ ⟨[],y41,0,none,0,0,A43,n43,c43,h,J,J⟩ sA ((fL nB 42 _).trans (cS [0,2,1,4,5,3,18,19,20,6,8,9,10,11,7,15,16,14,13,12] 21)) ?_
  rintro (_|m44) _ _ ⟨p45,p46,p47,A45,n45,c45,A46,n46,c46,h,rfl,rfl⟩
  ·exact bh h
  rw [jK.eq_2] at h;refine Y ?_;refine aC ?_;refine ar J (fun g49=> ?_) (fun g49=> ?_)
  ·replace h:=ae g49 h;refine Y ?_;refine aC ?_;refine Y ?_;obtain ⟨x50,hx50,h⟩:=aa h;obtain ⟨lx50,ux50,hx50⟩:=aH hx50;refine gR (bm 2 J aE J J Jz cF lx50 ux50) ?_;refine gR (bn (us:=[iV x50.Kind,iV x50.N,.string x50.S]) 2 J aE J hx50 bI (fun _ _ _ h=>by rw [show _=_ from h];rfl)) ?_;refine gD (aO rG J) ?_;rintro _ _ ⟨B51,rfl,rfl⟩;refine Y ?_;refine gO (av (us:=[iV x50.Kind,iV x50.N,.string x50.S]) (cs':=[iV x50.Kind,iV x50.N,.string x50.S]) 0 J J J J cF J J J) ?_;rintro _ _ rfl;refine bP ?_;refine Y ?_;obtain ⟨x52,hx52,h⟩:=aa h;obtain ⟨lx52,ux52,hx52⟩:=aH hx52;refine gK (t:=[(4,I none 0 0),(5,pV B18 0),(7,I A45 n45 c45),(8,I A37 n37 c37),(9,iV p47),(10,pV B51 0),(34,I A46 n46 c46),(35,iV (y41.length:Int)),(36,iV p47)]) ?_ jr (ai _)
   refine ge V 8 [0] [0,1,2,3,7] [41,42,43,44,45,46,47,48] [[],[],[],[],[],[],[4,5],[6]] [aV (I A45 n45 c45),
aV (pV B18 0),
aV (iV p47),
aV (.agg #[iV x50.Kind,iV x50.N,.string x50.S]),
aV (I A37 n37 c37),
aV (iV p47),
aV (eA (I A37 n37 c37) p47.toNat 1 0),
aV (iV x52)] [] (ai _) (eg rfl i5) V rfl rfl ?_ ?_ ?_
   ·refine ef J ?_ ?_
    ·exact jq (au J) J (bd J (ai _))
    exact i4
   ·refine al J ?_ ?_
    ·exact fq (eK (u:=iV x52) 2 J aE J hx52 dy (fun _ _ _ h=>by rw [show _=_ from h];rfl)) J (bd J (ai _))
    refine al J ?_ ?_
    ·exact fq (bm 2 J aE J J Jw gJ lx52 ux52) J (bd J (ai _))
    refine al J ?_ ?_
    ·exact bV (au J) J (bd J (ai _))
    refine al J ?_ ?_
    ·exact bV (au J) J (bd J (ai _))
    refine al J ?_ ?_
    ·exact fq (aj (us:=[iV x50.Kind,iV x50.N,.string x50.S]) 0 J J bI J) J (bd J (ai _))
    refine al J ?_ ?_
    ·exact bV (au J) J (bd J (ai _))
    refine al J ?_ ?_
    ·exact bV (au J) J (bd J (ai _))
    refine al J ?_ ?_
    ·exact bV (au J) J (bd J (ai _))
    exact dV
   refine lz (t:=[(41,I A45 n45 c45),(42,pV B18 0),(43,iV p47),(44,.agg #[iV x50.Kind,iV x50.N,.string x50.S]),(48,iV x52),(4,I none 0 0),(5,pV B18 0),(7,I A45 n45 c45),(8,I A37 n37 c37),(9,iV p47),(10,pV B51 0),(34,I A46 n46 c46),(35,iV (y41.length:Int)),(36,iV p47)]) (L':=[ad B51 24 [iV x50.Kind,iV x50.N,.string x50.S],tp A45 n45 c45 p45,dJ (mx .i64) 3 (I A37 n37 c37) y36,iN A46 n46 c46 p46,aY A19 n19 c19 y16_1.Cell.Slots,aY A20 n20 c20 y16_1.Cell.More,ad B18 140 [iV y16_1.Cell.Kind,iV y16_1.Cell.Shape,iV y16_1.Cell.Flags,iV y16_1.Cell.Age,I A19 n19 c19,I A20 n20 c20,pV B1 0,iV y16_1.at_.Kind,iV y16_1.at_.N,.string y16_1.at_.S],bj A12 n12 c12 a0.symbols_,cC A13 n13 c13 a0.events_,bj A14 n14 c14 a0.out_,ad B1 151 [iV a0.spent_.steps_,iV a0.spent_.made_,iV a0.spent_.calls_,iV a0.config_.Way,iV a0.config_.Steps,iV a0.config_.Calls,iV a0.config_.Made,iV a0.config_.Young,iV a0.config_.Full,iV a0.config_.Sites,.nilIface,pV B2 0,pV B9 0,I A12 n12 c12,iV a0.epoch_,iV a0.serial_,iV a0.sleepers_,I A13 n13 c13,I A14 n14 c14],br A3 n3 c3 a0.heap_.m_.Young,br A4 n4 c4 a0.heap_.m_.Old,aY A5 n5 c5 a0.heap_.roots_,aY A6 n6 c6 a0.heap_.pending_,ad B2 199 [I A3 n3 c3,I A4 n4 c4,I A5 n5 c5,I A6 n6 c6,pV B7 0],cE A10 n10 c10 a0.shapes_.shapes_,aG aF cv M11 a0.shapes_.next_,ad B9 205 [I A10 n10 c10,.map (some M11)],aG cx cz M8 a0.heap_.set_.at_,ad B7 247 [.map (some M8)]]) ?_ jr (ai _);obtain ⟨y53,hy53,h⟩:=aa h
   refine t4 8 J V (aq (mo hy53) BN J (hD (az (i:=6) J) (hD (ap (i:=4) J) (hD (ap (i:=5) J) (hD (az (i:=10) J) (hD (az (i:=15) J) (hD (ap (i:=11) J) (hD (ap (i:=12) J) (hD (ap (i:=13) J) (hD (ap (i:=14) J) (hD (az (i:=20) J) (hD (aW (i:=19) J) (hD (az (i:=18) J) (hD (ap (i:=16) J) (hD (aW (i:=17) J) (hD (am (i:=7) J J) (hD (am (i:=8) J J) (hD (am (i:=9) J J) ak))))))))))))))))) kZ) J J J ?_;rintro _ _ ⟨_,⟨rfl,rfl⟩,rfl⟩;refine t4 9 J V (co (R:=nB) (vss:=[(aS y53)]) (xs:=[y53]) J (zJ _ _ _ _ _ _ _ _ _ _ _ _ _) J J (fun _ _ hr=> .cons J All2.nil)) J J J ?_;rintro _ _ ⟨A54,n54,c54,rfl,rfl⟩;obtain ⟨q55,h⟩:=ay h;refine t4 10 J V (rN 2 0 J J aE J J Ex H0 J J J q55) J J J ?_;rintro _ _ ⟨A56,n56,c56,rfl,rfl⟩;refine rV 11 J V (bg J) J J J ?_;refine jd V ?_;refine Y ?_;obtain ⟨q57,h⟩:=ay h;refine gE (bC J J q57.1 q57.2) ?_;refine Y ?_;exact ⟨m44,_,_,J1 _,⟨p45++([y53]:List JQ),p46,p47+1,A56,n56,c56,A46,n46,c46,h,J,J⟩,sA,cS [2,3,4,5,6,7,8,9,10,11,12,13,14,15,16,17,18,19,20,21] 22⟩
  replace h:=ah g49 h;refine Y ?_;exact ⟨_,_,⟨p45,A45,n45,c45,h,J,J⟩,sA,cS [0,6,7,8,9,10,11,12,13,14,15,16,17,18,19] 20⟩
 rintro _ _ ⟨p39,A39,n39,c39,h,rfl,rfl⟩;refine Y ?_;obtain rfl:=ao h;exact aN J J (cS [0,4,9,5,6,7,8,14,13,12,10,11] 15) ⟨_,_,_,J,J⟩
def ph (N:Nat)(p7:Int):Option (Int×Bool):=
 bif decide (4294967294<p7) then (some (0,false)) else (some (p7,true))
def mX (N:Nat)(a0:ByteArray):Nat→Int→Int→Option (Int×Bool)
 |0,_,_=>none
 |m8+1,p9,p10=>bif decide (p10<(a0.size:Int)) then ((ud a0 p10).bind fun x12=>(bif decide (x12<48) then (some true) else ((ud a0 p10).bind fun x14=>some (decide (57<x14)))).bind fun b13=>bif b13 then (some (0,false)) else (cN (bM (10*p9)) ((ud a0 p10).bind fun x17=>cN (bM ((10*p9)+(IntKind.i64.wrap (IntKind.u8.wrap (x17 - 48))))) (cN (bM (p10+1)) ((mX N a0 m8) ((10*p9)+(IntKind.i64.wrap (IntKind.u8.wrap (x17 - 48)))) (p10+1)))))) else (ph N p9)
def oc (N:Nat)(a0:ByteArray):Option (Int×Bool):=
 (bif a0.toList==(⟨#[]⟩:ByteArray).toList then (some true) else (some (decide (10<(a0.size:Int))))).bind fun b1=>(bif b1 then (some true) else ((ud a0 0).bind fun x3=>(bif decide (x3=48) then (some (decide (1<(a0.size:Int)))) else (some false)).bind fun b4=>some b4)).bind fun b2=>bif b2 then (some (0,false)) else (mX N a0 N 0 0)
set_option maxHeartbeats 4000000 in
theorem xT {N:Nat}{a0:ByteArray}{r:(Int×Bool)}(h:oc N a0=some r):Okc Tryz.prog 151 [.string a0] ([]) (fun u post=>u=.tuple #[iV r.1,.bool r.2]∧post=[]):=by
 refine bx Tryz.func151 J J ?_;simp only [aX];refine Y ?_;refine aC ?_;refine Y ?_;refine gE (oY J J) ?_;refine Y ?_;obtain ⟨b1,hb1,h⟩:=aa h;refine aK 4 12 b1 ?_ ?_
 ·clear h;refine aI 8 J (fun g1=> ?_) (fun g1=> ?_)
  ·have h:=ae g1 hb1;refine Y ?_;obtain rfl:=ao h;exact ac sA (cS [] 0)
  have h:=ah g1 hb1;refine Y ?_;refine ei (ky J hH) J (cU g1 J) J ?_;refine Y ?_;obtain rfl:=ao h;exact ac sA (cS [] 0)
 refine Y ?_;obtain ⟨b2,hb2,h⟩:=aa h;refine aK 9 22 b2 ?_ ?_
 ·clear h;refine aI 13 J (fun g2=> ?_) (fun g2=> ?_)
  ·have h:=ae g2 hb2;refine Y ?_;obtain rfl:=ao h;exact ac sA (cS [] 0)
  have h:=ah g2 hb2;refine Y ?_;obtain ⟨x3,hx3,h⟩:=aa h;refine ei (nj J J hH hx3) J (cU g2 J) J ?_;refine Y ?_;obtain ⟨b4,hb4,h⟩:=aa h;refine aK 4 21 b4 ?_ ?_
  ·clear h;refine aI 17 J (fun g4=> ?_) (fun g4=> ?_)
   ·have h:=ae g4 hb4;refine Y ?_;refine ei (ky J hH) J (bp g4 J) J ?_;refine Y ?_;obtain rfl:=ao h;exact ac sA (cS [] 0)
   have h:=ah g4 hb4;refine Y ?_;obtain rfl:=ao h;exact ac sA (cS [] 0)
  refine Y ?_;obtain rfl:=ao h;exact ac sA (cS [] 0)
 refine Y ?_;refine ar J (fun g5=> ?_) (fun g5=> ?_)
 ·replace h:=ae g5 h;refine Y ?_;obtain rfl:=ao h;exact cO J J J (cS [] 0) ⟨J,J⟩
 replace h:=ah g5 h;refine Y ?_;refine ba (fun s L=> ∃p7,ph N p7=some r∧s=[(2,iV 0),(3,.bool false),(4,iV p7)]∧L=[]) ?_ ?_
 ·refine Y ?_;refine gE (ky J hH) ?_;refine Y ?_;refine ca (fun m s L=> ∃p9 p10,mX N a0 m p9 p10=some r∧s=[(0,.string a0),(2,iV 0),(3,.bool false),(4,iV p9),(24,iV (a0.size:Int)),(25,iV p10)]∧L=[]) N _ _ ⟨0,0,h,J,J⟩ sA (cS [] 0) ?_;rintro (_|m8) _ _ ⟨p9,p10,h,rfl,rfl⟩
  ·exact bh h
  rw [mX.eq_2] at h;refine Y ?_;refine aC ?_;refine ar J (fun g11=> ?_) (fun g11=> ?_)
  ·replace h:=ae g11 h;refine Y ?_;refine aC ?_;refine Y ?_;refine aC ?_;refine Y ?_;obtain ⟨x12,hx12,h⟩:=aa h;refine gE (nj J J hH hx12) ?_;refine Y ?_;obtain ⟨b13,hb13,h⟩:=aa h;refine aK 5 37 b13 ?_ ?_
   ·clear h;refine aI 32 J (fun g13=> ?_) (fun g13=> ?_)
    ·have h:=ae g13 hb13;refine Y ?_;obtain rfl:=ao h;exact ac sA (cS [] 0)
    have h:=ah g13 hb13;refine Y ?_;obtain ⟨x14,hx14,h⟩:=aa h;refine ei (nj J J hH hx14) J (cU g13 J) J ?_;refine Y ?_;obtain rfl:=ao h;exact ac sA (cS [] 0)
   refine Y ?_;refine ar J (fun g15=> ?_) (fun g15=> ?_)
   ·replace h:=ae g15 h;refine Y ?_;obtain rfl:=ao h;exact cO J J J (cS [] 0) ⟨J,J⟩
   replace h:=ah g15 h;refine Y ?_;obtain ⟨q16,h⟩:=ay h;refine gE (nO J J q16.1 q16.2) ?_;refine Y ?_;obtain ⟨x17,hx17,h⟩:=aa h;refine gE (nj J J hH hx17) ?_;refine gE (Fs J J) ?_;refine gE (pF J J hJ) ?_;obtain ⟨q18,h⟩:=ay h;refine gE (bC J J q18.1 q18.2) ?_;refine Y ?_;obtain ⟨q19,h⟩:=ay h;refine gE (bC J J q19.1 q19.2) ?_;refine Y ?_;exact ⟨m8,_,_,J1 _,⟨(10*p9)+(IntKind.i64.wrap (IntKind.u8.wrap (x17 - 48))),p10+1,h,J,J⟩,sA,cS [] 0⟩
  replace h:=ah g11 h;refine Y ?_;exact ⟨_,_,⟨p9,h,J,J⟩,sA,cS [] 0⟩
 rintro _ _ ⟨p7,h,rfl,rfl⟩;refine aC ?_;refine Y ?_;refine ar J (fun g20=> ?_) (fun g20=> ?_)
 ·replace h:=ae g20 h;refine Y ?_;obtain rfl:=ao h;exact cO J J J (cS [] 0) ⟨J,J⟩
 replace h:=ah g20 h;refine Y ?_;obtain rfl:=ao h;exact cO J J J (cS [] 0) ⟨J,J⟩
theorem vC {r:(Int×Bool)}: ∀v post,((fun (u:Value) (post:List Chunk)=>u=.tuple #[iV r.1,.bool r.2]∧post=[])) v post→ ∀c∈post,cB c:=by
 rintro _ _ ⟨rfl,rfl⟩;exact ak
def eF (N:Nat)(a0:JW):Option Bool:=
 bif decide (a0.Kind=0) then ((bif a0.S.toList==(⟨#[]⟩:ByteArray).toList then (some (decide (0≤a0.N))) else (some false)).bind fun b3=>(bif b3 then (some (decide (a0.N≤4294967294))) else (some false)).bind fun b4=>some b4) else (bif decide (a0.Kind=1) then ((oc N a0.S).bind fun y6=>(bif decide (a0.N=0) then (some (decide ((a0.S.size:Int)≤65536))) else (some false)).bind fun b7=>(bif b7 then (some (!y6.2)) else (some false)).bind fun b8=>some b8) else (bif decide (a0.Kind=2) then ((bif a0.S.toList==(⟨#[]⟩:ByteArray).toList then (some (decide (1≤a0.N))) else (some false)).bind fun b10=>some b10) else (some false)))
set_option maxHeartbeats 4000000 in
theorem jM {N:Nat}{a0:JW}{r:Bool}(h:eF N a0=some r):Okc Tryz.prog 99 [(fG a0)] ([]) (fun u post=>u=.bool r∧post=[]):=by
 refine bx Tryz.func99 J J ?_;simp only [aX];refine Y ?_;refine gD (aQ J J) ?_;rintro _ _ ⟨B1,rfl,rfl⟩;refine Y ?_;refine aC ?_;refine Y ?_;refine ar J (fun g2=> ?_) (fun g2=> ?_)
 ·replace h:=ae g2 h;refine Y ?_;refine gE (oY J J) ?_;refine Y ?_;obtain ⟨b3,hb3,h⟩:=aa h;refine aK 4 16 b3 ?_ ?_
  ·clear h;refine aI 12 J (fun g3=> ?_) (fun g3=> ?_)
   ·have h:=ae g3 hb3;refine Y ?_;obtain rfl:=ao h;exact ac sA (cS [0] 1)
   have h:=ah g3 hb3;refine Y ?_;obtain rfl:=ao h;exact ac sA (cS [0] 1)
  refine Y ?_;obtain ⟨b4,hb4,h⟩:=aa h;refine aK 4 21 b4 ?_ ?_
  ·clear h;refine aI 17 J (fun g4=> ?_) (fun g4=> ?_)
   ·have h:=ae g4 hb4;refine Y ?_;obtain rfl:=ao h;exact ac sA (cS [0] 1)
   have h:=ah g4 hb4;refine Y ?_;obtain rfl:=ao h;exact ac sA (cS [0] 1)
  refine Y ?_;obtain rfl:=ao h;exact aN J J (cS [] 1) ⟨J,J⟩
 replace h:=ah g2 h;refine Y ?_;refine ar J (fun g5=> ?_) (fun g5=> ?_)
 ·replace h:=ae g5 h;refine Y ?_;obtain ⟨y6,hy6,h⟩:=aa h;refine gD (aq (xT hy6) F2 J (ak) vC) ?_;rintro _ _ ⟨_,⟨rfl,rfl⟩,rfl⟩;refine Y ?_;obtain ⟨b7,hb7,h⟩:=aa h;refine aK 5 38 b7 ?_ ?_
  ·clear h;refine aI 33 J (fun g7=> ?_) (fun g7=> ?_)
   ·have h:=ae g7 hb7;refine Y ?_;refine ei (ky J hH) J (bp g7 J) J ?_;refine Y ?_;obtain rfl:=ao h;exact ac sA (cS [0] 1)
   have h:=ah g7 hb7;refine Y ?_;obtain rfl:=ao h;exact ac sA (cS [0] 1)
  refine Y ?_;obtain ⟨b8,hb8,h⟩:=aa h;refine aK 3 42 b8 ?_ ?_
  ·clear h;refine aI 39 J (fun g8=> ?_) (fun g8=> ?_)
   ·have h:=ae g8 hb8;refine Y ?_;obtain rfl:=ao h;exact ac sA (cS [0] 1)
   have h:=ah g8 hb8;refine Y ?_;obtain rfl:=ao h;exact ac sA (cS [0] 1)
  refine Y ?_;obtain rfl:=ao h;exact aN J J (cS [] 1) ⟨J,J⟩
 replace h:=ah g5 h;refine Y ?_;refine ar J (fun g9=> ?_) (fun g9=> ?_)
 ·replace h:=ae g9 h;refine Y ?_;refine gE (oY J J) ?_;refine Y ?_;obtain ⟨b10,hb10,h⟩:=aa h;refine aK 4 52 b10 ?_ ?_
  ·clear h;refine aI 48 J (fun g10=> ?_) (fun g10=> ?_)
   ·have h:=ae g10 hb10;refine Y ?_;obtain rfl:=ao h;exact ac sA (cS [0] 1)
   have h:=ah g10 hb10;refine Y ?_;obtain rfl:=ao h;exact ac sA (cS [0] 1)
  refine Y ?_;obtain rfl:=ao h;exact aN J J (cS [] 1) ⟨J,J⟩
 replace h:=ah g9 h;refine Y ?_;obtain rfl:=ao h;exact aN J J (cS [] 1) ⟨J,J⟩
theorem gZ {r:Bool}: ∀v post,((fun (u:Value) (post:List Chunk)=>u=.bool r∧post=[])) v post→ ∀c∈post,cB c:=by
 rintro _ _ ⟨rfl,rfl⟩;exact ak
def oo (N:Nat)(a0:Int):Option Bool:=
 some (!decide (a0=a0))
theorem sF {N:Nat}{a0:Int}{r:Bool}(h:oo N a0=some r):Okc Tryz.prog 232 [iV a0] ([]) (fun u post=>u=.bool r∧post=[]):=by
 refine bx Tryz.func232 J J ?_;simp only [aX];refine Y ?_;obtain rfl:=ao h;exact aN J J (cS [] 0) ⟨J,J⟩
theorem qv {r:Bool}: ∀v post,((fun (u:Value) (post:List Chunk)=>u=.bool r∧post=[])) v post→ ∀c∈post,cB c:=by
 rintro _ _ ⟨rfl,rfl⟩;exact ak
def kq (N:Nat)(a0:Int)(a1:Int):Option Int:=
 (oo N a0).bind fun y1=>(oo N a1).bind fun y2=>bif y1 then (bif y2 then (some 0) else (some (-1))) else (bif y2 then (some 1) else (bif decide (a0<a1) then (some (-1)) else (bif decide (a1<a0) then (some 1) else (some 0))))
set_option maxHeartbeats 4000000 in
theorem qw {N:Nat}{a0:Int}{a1:Int}{r:Int}(h:kq N a0 a1=some r):Okc Tryz.prog 208 [iV a0,iV a1] ([]) (fun u post=>u=iV r∧post=[]):=by
 refine bx Tryz.func208 J J ?_;simp only [aX];refine Y ?_;obtain ⟨y1,hy1,h⟩:=aa h;refine gD (aq (sF hy1) BF J (ak) qv) ?_;rintro _ _ ⟨_,⟨rfl,rfl⟩,rfl⟩;refine Y ?_;obtain ⟨y2,hy2,h⟩:=aa h;refine gD (aq (sF hy2) BF J (ak) qv) ?_;rintro _ _ ⟨_,⟨rfl,rfl⟩,rfl⟩;refine Y ?_;refine aC ?_;refine Y ?_;refine ar J (fun g3=> ?_) (fun g3=> ?_)
 ·replace h:=ae g3 h;refine aC ?_;refine Y ?_;refine ar J (fun g4=> ?_) (fun g4=> ?_)
  ·replace h:=ae g4 h;refine Y ?_;obtain rfl:=ao h;exact aN J J (cS [] 0) ⟨J,J⟩
  replace h:=ah g4 h;refine Y ?_;obtain rfl:=ao h;exact aN J J (cS [] 0) ⟨J,J⟩
 replace h:=ah g3 h;refine Y ?_;refine aC ?_;refine Y ?_;refine ar J (fun g5=> ?_) (fun g5=> ?_)
 ·replace h:=ae g5 h;refine Y ?_;obtain rfl:=ao h;exact aN J J (cS [] 0) ⟨J,J⟩
 replace h:=ah g5 h;refine Y ?_;refine aC ?_;refine Y ?_;refine ar J (fun g6=> ?_) (fun g6=> ?_)
 ·replace h:=ae g6 h;refine Y ?_;obtain rfl:=ao h;exact aN J J (cS [] 0) ⟨J,J⟩
 replace h:=ah g6 h;refine Y ?_;refine aC ?_;refine Y ?_;refine ar J (fun g7=> ?_) (fun g7=> ?_)
 ·replace h:=ae g7 h;refine Y ?_;obtain rfl:=ao h;exact aN J J (cS [] 0) ⟨J,J⟩
 replace h:=ah g7 h;refine Y ?_;obtain rfl:=ao h;exact aN J J (cS [] 0) ⟨J,J⟩
theorem o4 {r:Int}: ∀v post,((fun (u:Value) (post:List Chunk)=>u=iV r∧post=[])) v post→ ∀c∈post,cB c:=by
 rintro _ _ ⟨rfl,rfl⟩;exact ak
def jC (N:Nat)(a0:JW)(a1:JW):Option Int:=
 (bif decide (a0.Kind=0) then (some (decide (a1.Kind=0))) else (some false)).bind fun b3=>bif b3 then ((kq N a0.N a1.N).bind fun y5=>some y5) else ((kq N a0.Kind a1.Kind).bind fun y6=>some y6)
theorem mV {N:Nat}{a0:JW}{a1:JW}{r:Int}(h:jC N a0 a1=some r):Okc Tryz.prog 161 [(fG a0),(fG a1)] ([]) (fun u post=>u=iV r∧post=[]):=by
 refine bx Tryz.func161 J J ?_;simp only [aX];refine Y ?_;refine gD (aQ J J) ?_;rintro _ _ ⟨B1,rfl,rfl⟩;refine gD (aQ J J) ?_;rintro _ _ ⟨B2,rfl,rfl⟩;refine Y ?_;refine aC ?_;refine Y ?_;obtain ⟨b3,hb3,h⟩:=aa h;refine aK 4 12 b3 ?_ ?_
 ·clear h;refine aI 8 J (fun g3=> ?_) (fun g3=> ?_)
  ·have h:=ae g3 hb3;refine Y ?_;obtain rfl:=ao h;exact ac sA (cS [0,1] 2)
  have h:=ah g3 hb3;refine Y ?_;obtain rfl:=ao h;exact ac sA (cS [0,1] 2)
 refine Y ?_;refine ar J (fun g4=> ?_) (fun g4=> ?_)
 ·replace h:=ae g4 h;refine Y ?_;obtain ⟨y5,hy5,h⟩:=aa h;refine gD (aq (qw hy5) BI J (ak) o4) ?_;rintro _ _ ⟨_,⟨rfl,rfl⟩,rfl⟩;refine Y ?_;obtain rfl:=ao h;exact aN J J (cS [] 2) ⟨J,J⟩
 replace h:=ah g4 h;refine Y ?_;obtain ⟨y6,hy6,h⟩:=aa h;refine gD (aq (qw hy6) BI J (ak) o4) ?_;rintro _ _ ⟨_,⟨rfl,rfl⟩,rfl⟩;refine Y ?_;obtain rfl:=ao h;exact aN J J (cS [] 2) ⟨J,J⟩
theorem lg {r:Int}: ∀v post,((fun (u:Value) (post:List Chunk)=>u=iV r∧post=[])) v post→ ∀c∈post,cB c:=by
 rintro _ _ ⟨rfl,rfl⟩;exact ak
def dQ (N:Nat)(kb3:(List JW)→Int→Option (List JW))(a1:Int)(a2:Int)(p5:Int)(p8:(List JW)):Option (List JW):=
 cN (bM (p5+1)) (kb3 p8 (p5+1))
def cP (N:Nat)(kb3:(List JW)→Int→Option (List JW))(a1:Int)(a2:Int)(p5:Int):Nat→(List JW)→Int→Option (List JW)
 |0,_,_=>none
 |m9+1,p10,p11=>(bif decide (a1<p11) then ((bT p10 p11).bind fun x13=>cN (bM (p11 - 1)) ((bT p10 (p11 - 1)).bind fun x15=>(jC N x13 x15).bind fun y16=>some (decide (y16<0)))) else (some false)).bind fun b12=>bif b12 then (cN (bM (p11 - 1)) (cN (bM (p11 - 1)) ((bT p10 (p11 - 1)).bind fun x20=>(bT p10 p11).bind fun x21=>(bT p10 p11).bind fun x22=>(bT (List.set p10 p11.toNat (⟨x20.Kind,x20.N,x20.S⟩:JW)) (p11 - 1)).bind fun x23=>cN (bM (p11 - 1)) ((cP N kb3 a1 a2 p5 m9) (List.set (List.set p10 p11.toNat (⟨x20.Kind,x20.N,x20.S⟩:JW)) ((p11 - 1).toNat) (⟨x21.Kind,x21.N,x21.S⟩:JW)) (p11 - 1))))) else (dQ N kb3 a1 a2 p5 p10)
def bY (N:Nat)(a1:Int)(a2:Int):Nat→(List JW)→Int→Option (List JW)
 |0,_,_=>none
 |m3+1,p4,p5=>bif decide (p5<a2) then (cP N (bY N a1 a2 m3) a1 a2 p5 N p4 p5) else (some p4)
def cc (N:Nat)(a0:(List JW))(a1:Int)(a2:Int):Option (List JW):=
 cN (bM (a1+1)) (bY N a1 a2 N a0 (a1+1))
set_option maxHeartbeats 4000000 in
theorem dP {N:Nat}{a0:(List JW)}{a1:Int}{a2:Int}{r:(List JW)}(h:cc N a0 a1 a2=some r):Okc Tryz.prog 230 [I A1 n1 c1,iV a1,iV a2,.func (.func 161) #[] #[]] ([iN A1 n1 c1 a0]) (fun u post=>u=.tuple #[]∧post=[iN A1 n1 c1 r]):=by
 refine bx Tryz.func230 J J ?_;simp only [aX];refine Y ?_;obtain ⟨q2,h⟩:=ay h;refine gE (bC J J q2.1 q2.2) ?_;refine Y ?_;refine ca (fun m s L=> ∃p4 p5,bY N a1 a2 m p4 p5=some r∧s=[(0,I A1 n1 c1),(1,iV a1),(2,iV a2),(3,.func (.func 161) #[] #[]),(8,iV p5)]∧L=[iN A1 n1 c1 p4]) N _ _ ⟨a0,a1+1,h,J,J⟩ sA (cS [0] 1) ?_;rintro (_|m3) _ _ ⟨p4,p5,h,rfl,rfl⟩
 ·exact bh h
 rw [bY.eq_2] at h;refine aC ?_;refine Y ?_;refine ar J (fun g6=> ?_) (fun g6=> ?_)
 ·replace h:=ae g6 h;refine Y ?_;refine ba (fun s L=> ∃p8,dQ N (bY N a1 a2 m3) a1 a2 p5 p8=some r∧s=[(0,I A1 n1 c1),(1,iV a1),(2,iV a2),(3,.func (.func 161) #[] #[]),(8,iV p5)]∧L=[iN A1 n1 c1 p8]) ?_ ?_
  ·refine Y ?_;refine ca (fun m s L=> ∃p10 p11,cP N (bY N a1 a2 m3) a1 a2 p5 m p10 p11=some r∧s=[(0,I A1 n1 c1),(1,iV a1),(2,iV a2),(3,.func (.func 161) #[] #[]),(8,iV p5),(9,iV p11)]∧L=[iN A1 n1 c1 p10]) N _ _ ⟨p4,p5,h,J,J⟩ sA (cS [0] 1) ?_;rintro (_|m9) _ _ ⟨p10,p11,h,rfl,rfl⟩
   ·exact bh h
   rw [cP.eq_2] at h;refine aC ?_;refine aC ?_;refine bF V _ (ai _) ?_;refine zE 0 J (au J) ?_;refine zE 1 J (au J) ?_;refine zE 2 J (GL J J) ?_;refine zE 3 J (au J) ?_;obtain ⟨b12,hb12,h⟩:=aa h;refine ij (fun l=>(((((((((((((l.setIfInBounds 4 true).setIfInBounds 5 true).setIfInBounds 6 true).setIfInBounds 7 true).setIfInBounds 8 true).setIfInBounds 9 true).setIfInBounds 10 true).setIfInBounds 11 true).setIfInBounds 12 true).setIfInBounds 13 true).setIfInBounds 14 true).setIfInBounds 15 true).setIfInBounds 16 true)) 0 34 b12 (fun rest=> ?_) ?_
   ·clear h;refine jp 21 J (fun g12=> ?_) (fun g12=> ?_)
    ·have h:=ae g12 hb12;refine dY 4 J V (au J) (bp g12 J) J ?_;refine dY 5 J V (au J) (bp g12 J) J ?_;refine dY 6 J V (au J) (bp g12 J) J ?_;obtain ⟨x13,hx13,h⟩:=aa h;obtain ⟨lx13,ux13,hx13⟩:=aH hx13;refine jW 7 J V (bm 0 J aE J J Jz cF lx13 ux13) (bp g12 J) J ?_;refine jW 8 J V (bn (us:=[iV x13.Kind,iV x13.N,.string x13.S]) 0 J aE J hx13 bI (fun _ _ _ h=>by rw [show _=_ from h];rfl)) (bp g12 J) J ?_;refine dY 9 J V (au J) (bp g12 J) J ?_;refine dY 10 J V (au J) (bp g12 J) J ?_;obtain ⟨q14,h⟩:=ay h;refine dY 11 J V (dj J J q14.1 q14.2) (bp g12 J) J ?_;obtain ⟨x15,hx15,h⟩:=aa h;obtain ⟨lx15,ux15,hx15⟩:=aH hx15;refine jW 12 J V (bm 0 J aE J J Jz cF lx15 ux15) (bp g12 J) J ?_;refine jW 13 J V (bn (us:=[iV x15.Kind,iV x15.N,.string x15.S]) 0 J aE J hx15 bI (fun _ _ _ h=>by rw [show _=_ from h];rfl)) (bp g12 J) J ?_;obtain ⟨y16,hy16,h⟩:=aa h;refine mD 14 J V (fw (mV hy16) uF J J J (ak) lg) J (bp g12 J) J ?_;rintro _ _ ⟨_,⟨rfl,rfl⟩,rfl⟩;refine ⟨_,ai _,ai _,?_⟩;refine dY 15 J V (xe J J) (bp g12 J) J ?_;refine zE 16 J (d6 g12 J J) ?_;obtain rfl:=ao h
     exact eY rest (cQ J (aA (aA (aA (aA (aA (aA (aA (aA (aA (aA (aA (aA (aA cb J) J) J) J) J) J) J) J) J) J) J) J) J)) (ai _) (ai _)
    have h:=ah g12 hb12;refine cA 4 J V (eV g12 J) J ?_;refine cA 5 J V (eV g12 J) J ?_;refine cA 6 J V (eV g12 J) J ?_;refine cA 7 J V (eV g12 J) J ?_;refine cA 8 J V (eV g12 J) J ?_;refine cA 9 J V (eV g12 J) J ?_;refine cA 10 J V (eV g12 J) J ?_;refine cA 11 J V (eV g12 J) J ?_;refine cA 12 J V (eV g12 J) J ?_;refine cA 13 J V (eV g12 J) J ?_;refine cA 14 J V (eV g12 J) J ?_;refine cA 15 J V (eV g12 J) J ?_;refine zE 16 J (d7 g12 J J) ?_;obtain rfl:=ao h;exact eY rest (cQ J (aA (aA (aA (aA (aA (aA (aA (aA (aA (aA (aA (aA (aA cb J) J) J) J) J) J) J) J) J) J) J) J) J)) (ai _) (ai _)
   refine bw V ?_;refine eh ?_;refine ar J (fun g17=> ?_) (fun g17=> ?_)
   ·replace h:=ae g17 h;refine Y ?_;refine aC ?_;refine d4 ?_;obtain ⟨q18,h⟩:=ay h;obtain ⟨q19,h⟩:=ay h;obtain ⟨x20,hx20,h⟩:=aa h;obtain ⟨lx20,ux20,hx20⟩:=aH hx20;obtain ⟨x21,hx21,h⟩:=aa h;obtain ⟨lx21,ux21,hx21⟩:=aH hx21;refine gK (t:=[(0,I A1 n1 c1),(1,iV a1),(2,iV a2),(3,.func (.func 161) #[] #[]),(8,iV p5),(9,iV p11)]) ?_ jr (ai _)
    refine ge V 14 [2,3,4] [0,1,2,4,9,13] [37,38,39,40,41,42,43,44,45,46,47,48,49,50] [[],[],[],[],[3],[],[],[6],[5,7],[8],[],[],[10,11],[12]] [aV (I A1 n1 c1),
 aV (iV p11),
 aV (I A1 n1 c1),
 aV (iV p11),
 aV (iV (p11 - 1)),
 aV (I A1 n1 c1),
 aV (iV p11),
 aV (iV (p11 - 1)),
 aV (eA (I A1 n1 c1) ((p11 - 1).toNat) 3 0),
 aV (.agg #[iV x20.Kind,iV x20.N,.string x20.S]),
 aV (I A1 n1 c1),
 aV (iV p11),
 aV (eA (I A1 n1 c1) p11.toNat 3 0),
 aV (.agg #[iV x21.Kind,iV x21.N,.string x21.S])] [] (ai _) (eg rfl (eg rfl (eg rfl i5))) V rfl rfl ?_ ?_ ?_
    ·refine ef J ?_ ?_
     ·exact jq (au J) J (bd J (ai _))
     refine ef J ?_ ?_
     ·exact jq (au J) J (bd J (ai _))
     refine ef J ?_ ?_
     ·exact jq (dj J J q18.1 q18.2) J (bd J (ai _))
     exact i4
    ·refine al J ?_ ?_
     ·exact fq (bn (us:=[iV x21.Kind,iV x21.N,.string x21.S]) 0 J aE J hx21 bI (fun _ _ _ h=>by rw [show _=_ from h];rfl)) J (bd J (ai _))
     refine al J ?_ ?_
     ·exact fq (bm 0 J aE J J Jz cF lx21 ux21) J (bd J (ai _))
     refine al J ?_ ?_
     ·exact bV (au J) J (bd J (ai _))
     refine al J ?_ ?_
     ·exact bV (au J) J (bd J (ai _))
     refine al J ?_ ?_
     ·exact fq (bn (us:=[iV x20.Kind,iV x20.N,.string x20.S]) 0 J aE J hx20 bI (fun _ _ _ h=>by rw [show _=_ from h];rfl)) J (bd J (ai _))
     refine al J ?_ ?_
     ·exact fq (bm 0 J aE J J Jz cF lx20 ux20) J (bd J (ai _))
     refine al J ?_ ?_
     ·exact bV (dj J J q19.1 q19.2) J (bd J (ai _))
     refine al J ?_ ?_
     ·exact bV (au J) J (bd J (ai _))
     refine al J ?_ ?_
     ·exact bV (au J) J (bd J (ai _))
     refine al J ?_ ?_
     ·exact bV (dj J J q18.1 q18.2) J (bd J (ai _))
     refine al J ?_ ?_
     ·exact bV (au J) J (bd J (ai _))
     refine al J ?_ ?_
     ·exact bV (au J) J (bd J (ai _))
     refine al J ?_ ?_
     ·exact bV (au J) J (bd J (ai _))
     refine al J ?_ ?_
     ·exact bV (au J) J (bd J (ai _))
     exact dV
    refine lz (t:=[(37,I A1 n1 c1),(38,iV p11),(39,I A1 n1 c1),(41,iV (p11 - 1)),(46,.agg #[iV x20.Kind,iV x20.N,.string x20.S]),(50,.agg #[iV x21.Kind,iV x21.N,.string x21.S]),(0,I A1 n1 c1),(1,iV a1),(2,iV a2),(3,.func (.func 161) #[] #[]),(8,iV p5),(9,iV p11)]) (L':=[iN A1 n1 c1 p10]) ?_ jr (ai _);obtain ⟨x22,hx22,h⟩:=aa h;obtain ⟨lx22,ux22,hx22⟩:=aH hx22;refine zS 14 J V (bm 0 J aE J J Jz cF lx22 ux22) J J J ?_;refine kO 15 J V (cR (us:=[iV x20.Kind,iV x20.N,.string x20.S]) (z:=(⟨x20.Kind,x20.N,x20.S⟩:JW)) 0 J J J J cF J (toNat_lt lx22 ux22) J (fun S w vs xk hk hr ho=>by obtain rfl:=Option.some.inj (hk.symm.trans hx22);rw [show _=_ from hr];rfl)) J J ?_;rintro _ _ rfl;obtain ⟨x23,hx23,h⟩:=aa h;obtain ⟨lx23,ux23,hx23⟩:=aH hx23;refine zS 16 J V (bm 0 J aE J J Jz cF lx23 ux23) J J J ?_;refine kO 17 J V (cR (us:=[iV x21.Kind,iV x21.N,.string x21.S]) (z:=(⟨x21.Kind,x21.N,x21.S⟩:JW)) 0 J J J J cF J (toNat_lt lx23 ux23) J (fun S w vs xk hk hr ho=>by obtain rfl:=Option.some.inj (hk.symm.trans hx23);rw [show _=_ from hr];rfl)) J J ?_;rintro _ _ rfl;refine jd V ?_;refine Y ?_;obtain ⟨q24,h⟩:=ay h;refine gE (dj J J q24.1 q24.2) ?_;refine Y ?_
    exact ⟨m9,_,_,J1 _,⟨List.set (List.set p10 p11.toNat (⟨x20.Kind,x20.N,x20.S⟩:JW)) ((p11 - 1).toNat) (⟨x21.Kind,x21.N,x21.S⟩:JW),p11 - 1,h,J,J⟩,sA,cS [0] 1⟩
   replace h:=ah g17 h;refine Y ?_;exact ⟨_,_,⟨p10,h,J,J⟩,sA,cS [0] 1⟩
  rintro _ _ ⟨p8,h,rfl,rfl⟩;refine Y ?_;obtain ⟨q25,h⟩:=ay h;refine gE (bC J J q25.1 q25.2) ?_;refine Y ?_;exact ⟨m3,_,_,J1 _,⟨p8,p5+1,h,J,J⟩,sA,cS [0] 1⟩
 replace h:=ah g6 h;refine Y ?_;obtain rfl:=ao h;exact eX J (cS [0] 1) ⟨J,J⟩
def dr (N:Nat)(a1:Int)(a2:Int)(a3:Int):Nat→(List JW)→Int→Option (List JW)
 |0,_,_=>none
 |m2+1,p3,p4=>bif decide (p4<a3) then (cN (bM (a1+p4)) (cN (bM (a2+p4)) (cN (bM (a2+p4)) ((bT p3 (a2+p4)).bind fun x9=>cN (bM (a1+p4)) ((bT p3 (a1+p4)).bind fun x11=>(bT p3 (a1+p4)).bind fun x12=>(bT (List.set p3 ((a1+p4).toNat) (⟨x9.Kind,x9.N,x9.S⟩:JW)) (a2+p4)).bind fun x13=>cN (bM (p4+1)) ((dr N a1 a2 a3 m2) (List.set (List.set p3 ((a1+p4).toNat) (⟨x9.Kind,x9.N,x9.S⟩:JW)) ((a2+p4).toNat) (⟨x11.Kind,x11.N,x11.S⟩:JW)) (p4+1))))))) else (some p3)
def cM (N:Nat)(a0:(List JW))(a1:Int)(a2:Int)(a3:Int):Option (List JW):=
 dr N a1 a2 a3 N a0 0
theorem eo {N:Nat}{a0:(List JW)}{a1:Int}{a2:Int}{a3:Int}{r:(List JW)}(h:cM N a0 a1 a2 a3=some r):Okc Tryz.prog 254 [I A1 n1 c1,iV a1,iV a2,iV a3,.func (.func 161) #[] #[]] ([iN A1 n1 c1 a0]) (fun u post=>u=.tuple #[]∧post=[iN A1 n1 c1 r]):=by
 refine bx Tryz.func254 J J ?_;simp only [aX];refine Y ?_;refine ca (fun m s L=> ∃p3 p4,dr N a1 a2 a3 m p3 p4=some r∧s=[(0,I A1 n1 c1),(1,iV a1),(2,iV a2),(3,iV a3),(10,iV p4)]∧L=[iN A1 n1 c1 p3]) N _ _ ⟨a0,0,h,J,J⟩ sA (cS [0] 1) ?_;rintro (_|m2) _ _ ⟨p3,p4,h,rfl,rfl⟩
 ·exact bh h
 rw [dr.eq_2] at h;refine aC ?_;refine Y ?_;refine ar J (fun g5=> ?_) (fun g5=> ?_)
 ·replace h:=ae g5 h;refine Y ?_;refine aC ?_;refine d4 ?_;obtain ⟨q6,h⟩:=ay h;obtain ⟨q7,h⟩:=ay h;obtain ⟨q8,h⟩:=ay h;obtain ⟨x9,hx9,h⟩:=aa h;obtain ⟨lx9,ux9,hx9⟩:=aH hx9;obtain ⟨q10,h⟩:=ay h;obtain ⟨x11,hx11,h⟩:=aa h;obtain ⟨lx11,ux11,hx11⟩:=aH hx11;refine gK (t:=[(0,I A1 n1 c1),(1,iV a1),(2,iV a2),(3,iV a3),(10,iV p4)]) ?_ jr (ai _)
  refine ge V 20 [4,5,6,7] [0,3,4,7,13,19] [16,17,18,19,20,21,22,23,24,25,26,27,28,29,30,31,32,33,34,35] [[],[],[],[1,2],[],[],[],[5,6],[],[],[],[9,10],[8,11],[12],[],[],[],[15,16],[14,17],[18]] [aV (I A1 n1 c1),
 aV (iV a1),
 aV (iV p4),
 aV (iV (a1+p4)),
 aV (I A1 n1 c1),
 aV (iV a2),
 aV (iV p4),
 aV (iV (a2+p4)),
 aV (I A1 n1 c1),
 aV (iV a2),
 aV (iV p4),
 aV (iV (a2+p4)),
 aV (eA (I A1 n1 c1) ((a2+p4).toNat) 3 0),
 aV (.agg #[iV x9.Kind,iV x9.N,.string x9.S]),
 aV (I A1 n1 c1),
 aV (iV a1),
 aV (iV p4),
 aV (iV (a1+p4)),
 aV (eA (I A1 n1 c1) ((a1+p4).toNat) 3 0),
 aV (.agg #[iV x11.Kind,iV x11.N,.string x11.S])] [] (ai _) (eg rfl (eg rfl (eg rfl (eg rfl i5)))) V rfl rfl ?_ ?_ ?_
  ·refine ef J ?_ ?_
   ·exact jq (au J) J (bd J (ai _))
   refine ef J ?_ ?_
   ·exact jq (au J) J (bd J (ai _))
   refine ef J ?_ ?_
   ·exact jq (au J) J (bd J (ai _))
   refine ef J ?_ ?_
   ·exact jq (bC J J q7.1 q7.2) J (bd J (ai _))
   exact i4
  ·refine al J ?_ ?_
   ·exact fq (bn (us:=[iV x11.Kind,iV x11.N,.string x11.S]) 0 J aE J hx11 bI (fun _ _ _ h=>by rw [show _=_ from h];rfl)) J (bd J (ai _))
   refine al J ?_ ?_
   ·exact fq (bm 0 J aE J J Jz cF lx11 ux11) J (bd J (ai _))
   refine al J ?_ ?_
   ·exact bV (bC J J q10.1 q10.2) J (bd J (ai _))
   refine al J ?_ ?_
   ·exact bV (au J) J (bd J (ai _))
   refine al J ?_ ?_
   ·exact bV (au J) J (bd J (ai _))
   refine al J ?_ ?_
   ·exact bV (au J) J (bd J (ai _))
   refine al J ?_ ?_
   ·exact fq (bn (us:=[iV x9.Kind,iV x9.N,.string x9.S]) 0 J aE J hx9 bI (fun _ _ _ h=>by rw [show _=_ from h];rfl)) J (bd J (ai _))
   refine al J ?_ ?_
   ·exact fq (bm 0 J aE J J Jz cF lx9 ux9) J (bd J (ai _))
   refine al J ?_ ?_
   ·exact bV (bC J J q8.1 q8.2) J (bd J (ai _))
   refine al J ?_ ?_
   ·exact bV (au J) J (bd J (ai _))
   refine al J ?_ ?_
   ·exact bV (au J) J (bd J (ai _))
   refine al J ?_ ?_
   ·exact bV (au J) J (bd J (ai _))
   refine al J ?_ ?_
   ·exact bV (bC J J q7.1 q7.2) J (bd J (ai _))
   refine al J ?_ ?_
   ·exact bV (au J) J (bd J (ai _))
   refine al J ?_ ?_
   ·exact bV (au J) J (bd J (ai _))
   refine al J ?_ ?_
   ·exact bV (au J) J (bd J (ai _))
   refine al J ?_ ?_
   ·exact bV (bC J J q6.1 q6.2) J (bd J (ai _))
   refine al J ?_ ?_
   ·exact bV (au J) J (bd J (ai _))
   refine al J ?_ ?_
   ·exact bV (au J) J (bd J (ai _))
   refine al J ?_ ?_
   ·exact bV (au J) J (bd J (ai _))
   exact dV
  refine lz (t:=[(16,I A1 n1 c1),(19,iV (a1+p4)),(20,I A1 n1 c1),(23,iV (a2+p4)),(29,.agg #[iV x9.Kind,iV x9.N,.string x9.S]),(35,.agg #[iV x11.Kind,iV x11.N,.string x11.S]),(0,I A1 n1 c1),(1,iV a1),(2,iV a2),(3,iV a3),(10,iV p4)]) (L':=[iN A1 n1 c1 p3]) ?_ jr (ai _);obtain ⟨x12,hx12,h⟩:=aa h;obtain ⟨lx12,ux12,hx12⟩:=aH hx12;refine zS 20 J V (bm 0 J aE J J Jz cF lx12 ux12) J J J ?_;refine kO 21 J V (cR (us:=[iV x9.Kind,iV x9.N,.string x9.S]) (z:=(⟨x9.Kind,x9.N,x9.S⟩:JW)) 0 J J J J cF J (toNat_lt lx12 ux12) J (fun S w vs xk hk hr ho=>by obtain rfl:=Option.some.inj (hk.symm.trans hx12);rw [show _=_ from hr];rfl)) J J ?_;rintro _ _ rfl;obtain ⟨x13,hx13,h⟩:=aa h;obtain ⟨lx13,ux13,hx13⟩:=aH hx13;refine zS 22 J V (bm 0 J aE J J Jz cF lx13 ux13) J J J ?_;refine kO 23 J V (cR (us:=[iV x11.Kind,iV x11.N,.string x11.S]) (z:=(⟨x11.Kind,x11.N,x11.S⟩:JW)) 0 J J J J cF J (toNat_lt lx13 ux13) J (fun S w vs xk hk hr ho=>by obtain rfl:=Option.some.inj (hk.symm.trans hx13);rw [show _=_ from hr];rfl)) J J ?_;rintro _ _ rfl;refine jd V ?_;refine Y ?_;obtain ⟨q14,h⟩:=ay h;refine gE (bC J J q14.1 q14.2) ?_;refine Y ?_;exact ⟨m2,_,_,J1 _,⟨List.set (List.set p3 ((a1+p4).toNat) (⟨x9.Kind,x9.N,x9.S⟩:JW)) ((a2+p4).toNat) (⟨x11.Kind,x11.N,x11.S⟩:JW),p4+1,h,J,J⟩,sA,cS [0] 1⟩
 replace h:=ah g5 h;refine Y ?_;obtain rfl:=ao h;exact eX J (cS [0] 1) ⟨J,J⟩
def fe (N:Nat)(a2:Int)(p5:(List JW))(p6:Int):Option (List JW):=
 cN (bM (a2 - p6)) ((cM N p5 (a2 - p6) a2 p6).bind fun y22=>some y22)
def cZ (N:Nat)(a2:Int):Nat→(List JW)→Int→Int→Option (List JW)
 |0,_,_,_=>none
 |m7+1,p8,p9,p10=>bif !decide (p9=p10) then (bif decide (p10<p9) then (cN (bM (a2 - p9)) ((cM N p8 (a2 - p9) a2 p10).bind fun y14=>cN (bM (p9 - p10)) ((cZ N a2 m7) y14 (p9 - p10) p10))) else (cN (bM (a2 - p9)) (cN (bM (a2+p10)) (cN (bM ((a2+p10) - p9)) ((cM N p8 (a2 - p9) ((a2+p10) - p9) p9).bind fun y19=>cN (bM (p10 - p9)) ((cZ N a2 m7) y19 p9 (p10 - p9))))))) else (fe N a2 p8 p9)
def dZ (N:Nat)(a0:(List JW))(a1:Int)(a2:Int)(a3:Int):Option (List JW):=
 cN (bM (a2 - a1)) (cN (bM (a3 - a2)) (cZ N a2 N a0 (a2 - a1) (a3 - a2)))
set_option maxHeartbeats 4000000 in
theorem mg {N:Nat}{a0:(List JW)}{a1:Int}{a2:Int}{a3:Int}{r:(List JW)}(h:dZ N a0 a1 a2 a3=some r):Okc Tryz.prog 243 [I A1 n1 c1,iV a1,iV a2,iV a3,.func (.func 161) #[] #[]] ([iN A1 n1 c1 a0]) (fun u post=>u=.tuple #[]∧post=[iN A1 n1 c1 r]):=by
 refine bx Tryz.func243 J J ?_;simp only [aX];refine Y ?_;obtain ⟨q2,h⟩:=ay h;refine gE (dj J J q2.1 q2.2) ?_;refine Y ?_;obtain ⟨q3,h⟩:=ay h;refine gE (dj J J q3.1 q3.2) ?_;refine Y ?_;refine ba (fun s L=> ∃p5 p6,fe N a2 p5 p6=some r∧s=[(0,I A1 n1 c1),(2,iV a2),(4,.func (.func 161) #[] #[]),(10,iV p6)]∧L=[iN A1 n1 c1 p5]) ?_ ?_
 ·refine d4 ?_;refine ca (fun m s L=> ∃p8 p9 p10,cZ N a2 m p8 p9 p10=some r∧s=[(0,I A1 n1 c1),(2,iV a2),(4,.func (.func 161) #[] #[]),(10,iV p9),(11,iV p10)]∧L=[iN A1 n1 c1 p8]) N _ _ ⟨a0,a2 - a1,a3 - a2,h,J,J⟩ sA (cS [0] 1) ?_;rintro (_|m7) _ _ ⟨p8,p9,p10,h,rfl,rfl⟩
  ·exact bh h
  rw [cZ.eq_2] at h;refine aC ?_;refine Y ?_;refine ar J (fun g11=> ?_) (fun g11=> ?_)
  ·replace h:=ae g11 h;refine Y ?_;refine ar J (fun g12=> ?_) (fun g12=> ?_)
   ·replace h:=ae g12 h;refine Y ?_;obtain ⟨q13,h⟩:=ay h;refine gE (dj J J q13.1 q13.2) ?_;refine Y ?_;obtain ⟨y14,hy14,h⟩:=aa h;refine gD (aD (eo hy14) yu J (aB [] [0] [] 1 J)) ?_;rintro _ _ ⟨_,⟨rfl,rfl⟩,rfl⟩;refine Y ?_;obtain ⟨q15,h⟩:=ay h;refine gE (dj J J q15.1 q15.2) ?_;refine Y ?_;exact ⟨m7,_,_,J1 _,⟨y14,p9 - p10,p10,h,J,J⟩,sA,cS [0] 1⟩
   replace h:=ah g12 h;refine Y ?_;obtain ⟨q16,h⟩:=ay h;refine gE (dj J J q16.1 q16.2) ?_;refine Y ?_;obtain ⟨q17,h⟩:=ay h;refine gE (bC J J q17.1 q17.2) ?_;refine Y ?_;obtain ⟨q18,h⟩:=ay h;refine gE (dj J J q18.1 q18.2) ?_;refine Y ?_;obtain ⟨y19,hy19,h⟩:=aa h;refine gD (aD (eo hy19) yu J (aB [] [0] [] 1 J)) ?_;rintro _ _ ⟨_,⟨rfl,rfl⟩,rfl⟩;refine Y ?_;obtain ⟨q20,h⟩:=ay h;refine gE (dj J J q20.1 q20.2) ?_;refine Y ?_;exact ⟨m7,_,_,J1 _,⟨y19,p9,p10 - p9,h,J,J⟩,sA,cS [0] 1⟩
  replace h:=ah g11 h;refine Y ?_;exact ⟨_,_,⟨p8,p9,h,J,J⟩,sA,cS [0] 1⟩
 rintro _ _ ⟨p5,p6,h,rfl,rfl⟩;refine Y ?_;obtain ⟨q21,h⟩:=ay h;refine gE (dj J J q21.1 q21.2) ?_;refine Y ?_;obtain ⟨y22,hy22,h⟩:=aa h;refine gD (aD (eo hy22) yu J (aB [] [0] [] 1 J)) ?_;rintro _ _ ⟨_,⟨rfl,rfl⟩,rfl⟩;refine bP ?_;refine jX ?_;obtain rfl:=ao h;exact eX J (cS [0] 1) ⟨J,J⟩
def cI (N:Nat)(kb2:(List JW)→Int→Int→Int→Option (List JW))(a3:Int)(a1:Int)(a2:Int)(p65:Int)(p84:(List JW)):Option (List JW):=
 (bif decide ((IntKind.i64.wrap ((IntKind.u64.wrap (a1+a3)).fdiv (2 ^ 1)))<((IntKind.i64.wrap ((IntKind.u64.wrap (a1+a3)).fdiv (2 ^ 1)))+a2) - p65) then (some (decide (((IntKind.i64.wrap ((IntKind.u64.wrap (a1+a3)).fdiv (2 ^ 1)))+a2) - p65<a3))) else (some false)).bind fun b88=>bif b88 then ((kb2 p84 (IntKind.i64.wrap ((IntKind.u64.wrap (a1+a3)).fdiv (2 ^ 1))) (((IntKind.i64.wrap ((IntKind.u64.wrap (a1+a3)).fdiv (2 ^ 1)))+a2) - p65) a3).bind fun y90=>some y90) else (some p84)
def cJ (N:Nat)(kb2:(List JW)→Int→Int→Int→Option (List JW))(a1:Int)(a3:Int)(p65:Int)(a2:Int)(p79:(List JW)):Option (List JW):=
 (bif decide (a1<p65) then (some (decide (p65<(IntKind.i64.wrap ((IntKind.u64.wrap (a1+a3)).fdiv (2 ^ 1)))))) else (some false)).bind fun b85=>bif b85 then ((kb2 p79 a1 p65 (IntKind.i64.wrap ((IntKind.u64.wrap (a1+a3)).fdiv (2 ^ 1)))).bind fun y87=>cI N kb2 a3 a1 a2 p65 y87) else (cI N kb2 a3 a1 a2 p65 p79)
def dn (N:Nat)(kb2:(List JW)→Int→Int→Int→Option (List JW))(a1:Int)(a2:Int)(a3:Int)(a0:(List JW))(p65:Int):Option (List JW):=
 cN (bM (((IntKind.i64.wrap ((IntKind.u64.wrap (a1+a3)).fdiv (2 ^ 1)))+a2) - p65)) ((bif decide (p65<a2) then (some (decide (a2<((IntKind.i64.wrap ((IntKind.u64.wrap (a1+a3)).fdiv (2 ^ 1)))+a2) - p65))) else (some false)).bind fun b80=>bif b80 then ((dZ N a0 p65 a2 (((IntKind.i64.wrap ((IntKind.u64.wrap (a1+a3)).fdiv (2 ^ 1)))+a2) - p65)).bind fun y82=>cJ N kb2 a1 a3 p65 a2 y82) else (cJ N kb2 a1 a3 p65 a2 a0))
def cG (N:Nat)(kb2:(List JW)→Int→Int→Int→Option (List JW))(a1:Int)(a2:Int)(a3:Int)(a0:(List JW)):Nat→Int→Int→Option (List JW)
 |0,_,_=>none
 |m66+1,p67,p68=>bif decide (p67<p68) then (cN (bM (p67+p68)) (cN (bM ((((IntKind.i64.wrap ((IntKind.u64.wrap (a1+a3)).fdiv (2 ^ 1)))+a2) - 1) - (IntKind.i64.wrap ((IntKind.u64.wrap (p67+p68)).fdiv (2 ^ 1))))) ((bT a0 ((((IntKind.i64.wrap ((IntKind.u64.wrap (a1+a3)).fdiv (2 ^ 1)))+a2) - 1) - (IntKind.i64.wrap ((IntKind.u64.wrap (p67+p68)).fdiv (2 ^ 1))))).bind fun x72=>(bT a0 (IntKind.i64.wrap ((IntKind.u64.wrap (p67+p68)).fdiv (2 ^ 1)))).bind fun x73=>(jC N x72 x73).bind fun y74=>bif !(decide (y74<0)) then (cN (bM ((IntKind.i64.wrap ((IntKind.u64.wrap (p67+p68)).fdiv (2 ^ 1)))+1)) ((cG N kb2 a1 a2 a3 a0 m66) ((IntKind.i64.wrap ((IntKind.u64.wrap (p67+p68)).fdiv (2 ^ 1)))+1) p68)) else ((cG N kb2 a1 a2 a3 a0 m66) p67 (IntKind.i64.wrap ((IntKind.u64.wrap (p67+p68)).fdiv (2 ^ 1))))))) else (dn N kb2 a1 a2 a3 a0 p67)
def dp (N:Nat)(kb2:(List JW)→Int→Int→Int→Option (List JW))(a1:Int)(a2:Int)(a3:Int)(a0:(List JW))(p59:Int)(p60:Int):Option (List JW):=
 cN (bM (((IntKind.i64.wrap ((IntKind.u64.wrap (a1+a3)).fdiv (2 ^ 1)))+a2) - 1)) (cG N kb2 a1 a2 a3 a0 N p59 p60)
def dq (N:Nat)(kb2:(List JW)→Int→Int→Int→Option (List JW))(a1:Int)(a2:Int)(a3:Int)(a0:(List JW)):Option (List JW):=
 cN (bM (a1+a3)) (cN (bM ((IntKind.i64.wrap ((IntKind.u64.wrap (a1+a3)).fdiv (2 ^ 1)))+a2)) (bif decide ((IntKind.i64.wrap ((IntKind.u64.wrap (a1+a3)).fdiv (2 ^ 1)))<a2) then (cN (bM (((IntKind.i64.wrap ((IntKind.u64.wrap (a1+a3)).fdiv (2 ^ 1)))+a2) - a3)) (dp N kb2 a1 a2 a3 a0 (((IntKind.i64.wrap ((IntKind.u64.wrap (a1+a3)).fdiv (2 ^ 1)))+a2) - a3) (IntKind.i64.wrap ((IntKind.u64.wrap (a1+a3)).fdiv (2 ^ 1))))) else (dp N kb2 a1 a2 a3 a0 a1 a2)))
def dl (N:Nat)(kb2:(List JW)→Int→Int→Int→Option (List JW))(a1:Int)(a2:Int)(a3:Int)(p34:Int):Nat→(List JW)→Int→Option (List JW)
 |0,_,_=>none
 |m45+1,p46,p47=>bif decide (p34<p47) then (cN (bM (p47 - 1)) (cN (bM (p47 - 1)) ((bT p46 (p47 - 1)).bind fun x51=>(bT p46 p47).bind fun x52=>(bT p46 p47).bind fun x53=>(bT (List.set p46 p47.toNat (⟨x51.Kind,x51.N,x51.S⟩:JW)) (p47 - 1)).bind fun x54=>cN (bM (p47 - 1)) ((dl N kb2 a1 a2 a3 p34 m45) (List.set (List.set p46 p47.toNat (⟨x51.Kind,x51.N,x51.S⟩:JW)) ((p47 - 1).toNat) (⟨x52.Kind,x52.N,x52.S⟩:JW)) (p47 - 1))))) else (some p46)
def gq (N:Nat)(kb2:(List JW)→Int→Int→Int→Option (List JW))(a1:Int)(a2:Int)(a3:Int)(a0:(List JW))(p34:Int):Option (List JW):=
 dl N kb2 a1 a2 a3 p34 N a0 a2
def cH (N:Nat)(kb2:(List JW)→Int→Int→Int→Option (List JW))(a1:Int)(a2:Int)(a3:Int)(a0:(List JW)):Nat→Int→Int→Option (List JW)
 |0,_,_=>none
 |m35+1,p36,p37=>bif decide (p36<p37) then (cN (bM (p36+p37)) ((bT a0 a2).bind fun x40=>(bT a0 (IntKind.i64.wrap ((IntKind.u64.wrap (p36+p37)).fdiv (2 ^ 1)))).bind fun x41=>(jC N x40 x41).bind fun y42=>bif !(decide (y42<0)) then (cN (bM ((IntKind.i64.wrap ((IntKind.u64.wrap (p36+p37)).fdiv (2 ^ 1)))+1)) ((cH N kb2 a1 a2 a3 a0 m35) ((IntKind.i64.wrap ((IntKind.u64.wrap (p36+p37)).fdiv (2 ^ 1)))+1) p37)) else ((cH N kb2 a1 a2 a3 a0 m35) p36 (IntKind.i64.wrap ((IntKind.u64.wrap (p36+p37)).fdiv (2 ^ 1)))))) else (gq N kb2 a1 a2 a3 a0 p36)
def dC (N:Nat)(kb2:(List JW)→Int→Int→Int→Option (List JW))(a1:Int)(a2:Int)(a3:Int)(a0:(List JW)):Option (List JW):=
 cN (bM (a3 - a2)) (bif decide (a3 - a2=1) then (cH N kb2 a1 a2 a3 a0 N a1 a2) else (dq N kb2 a1 a2 a3 a0))
def dm (N:Nat)(kb2:(List JW)→Int→Int→Int→Option (List JW))(a1:Int)(a2:Int)(a3:Int)(p7:Int):Nat→(List JW)→Int→Option (List JW)
 |0,_,_=>none
 |m18+1,p19,p20=>cN (bM (p7 - 1)) (bif decide (p20<p7 - 1) then (cN (bM (p20+1)) (cN (bM (p20+1)) ((bT p19 (p20+1)).bind fun x25=>(bT p19 p20).bind fun x26=>(bT p19 p20).bind fun x27=>(bT (List.set p19 p20.toNat (⟨x25.Kind,x25.N,x25.S⟩:JW)) (p20+1)).bind fun x28=>cN (bM (p20+1)) ((dm N kb2 a1 a2 a3 p7 m18) (List.set (List.set p19 p20.toNat (⟨x25.Kind,x25.N,x25.S⟩:JW)) ((p20+1).toNat) (⟨x26.Kind,x26.N,x26.S⟩:JW)) (p20+1))))) else (some p19))
def gI (N:Nat)(kb2:(List JW)→Int→Int→Int→Option (List JW))(a1:Int)(a2:Int)(a3:Int)(a0:(List JW))(p7:Int):Option (List JW):=
 dm N kb2 a1 a2 a3 p7 N a0 a1
def cu (N:Nat)(kb2:(List JW)→Int→Int→Int→Option (List JW))(a1:Int)(a2:Int)(a3:Int)(a0:(List JW)):Nat→Int→Int→Option (List JW)
 |0,_,_=>none
 |m8+1,p9,p10=>bif decide (p9<p10) then (cN (bM (p9+p10)) ((bT a0 (IntKind.i64.wrap ((IntKind.u64.wrap (p9+p10)).fdiv (2 ^ 1)))).bind fun x13=>(bT a0 a1).bind fun x14=>(jC N x13 x14).bind fun y15=>bif decide (y15<0) then (cN (bM ((IntKind.i64.wrap ((IntKind.u64.wrap (p9+p10)).fdiv (2 ^ 1)))+1)) ((cu N kb2 a1 a2 a3 a0 m8) ((IntKind.i64.wrap ((IntKind.u64.wrap (p9+p10)).fdiv (2 ^ 1)))+1) p10)) else ((cu N kb2 a1 a2 a3 a0 m8) p9 (IntKind.i64.wrap ((IntKind.u64.wrap (p9+p10)).fdiv (2 ^ 1)))))) else (gI N kb2 a1 a2 a3 a0 p9)
def aM (N:Nat):Nat→(List JW)→Int→Int→Int→Option (List JW)
 |0,_,_,_,_=>none
 |m2+1,a0,a1,a2,a3=>cN (bM (a2 - a1)) (bif decide (a2 - a1=1) then (cu N (aM N m2) a1 a2 a3 a0 N a2 a3) else (dC N (aM N m2) a1 a2 a3 a0))
theorem gp {N m2:Nat}{a0:(List JW)}{a1:Int}{a2:Int}{a3:Int}:aM N (m2+1) a0 a1 a2 a3=cN (bM (a2 - a1)) (bif decide (a2 - a1=1) then (cu N (aM N m2) a1 a2 a3 a0 N a2 a3) else (dC N (aM N m2) a1 a2 a3 a0)):=rfl
def bR (N:Nat)(a0:(List JW))(a1:Int)(a2:Int)(a3:Int):Option (List JW):=aM N N a0 a1 a2 a3
set_option maxHeartbeats 4000000 in
theorem kT {N:Nat}: ∀(m0:Nat) {a0:(List JW)} {a1:Int} {a2:Int} {a3:Int} {r:(List JW)} (h:aM N m0 a0 a1 a2 a3=some r) {A1:Option Addr} {n1 c1:Nat},Okc Tryz.prog 231 [I A1 n1 c1,iV a1,iV a2,iV a3,.func (.func 161) #[] #[]] ([iN A1 n1 c1 a0]) (fun u post=>u=.tuple #[]∧post=[iN A1 n1 c1 r]):=by
 intro m0
 induction m0 with
 |zero=>intro a0 a1 a2 a3 r h A1 n1 c1;exact bh h
 | succ m2 ih=>
  intro a0 a1 a2 a3 r h A1 n1 c1;rw [gp] at h;refine bx Tryz.func231 J J ?_;simp only [aX];refine ba (fun s L=>dC N (aM N m2) a1 a2 a3 a0=some r∧s=[(0,I A1 n1 c1),(1,iV a1),(2,iV a2),(3,iV a3),(4,.func (.func 161) #[] #[])]∧L=[iN A1 n1 c1 a0]) ?_ ?_
  ·refine Y ?_;obtain ⟨q4,h⟩:=ay h;refine gE (dj J J q4.1 q4.2) ?_;refine Y ?_;refine ar J (fun g5=> ?_) (fun g5=> ?_)
   ·replace h:=ae g5 h;refine Y ?_;refine ba (fun s L=> ∃p7,gI N (aM N m2) a1 a2 a3 a0 p7=some r∧s=[(0,I A1 n1 c1),(1,iV a1),(2,iV a2),(3,iV a3),(4,.func (.func 161) #[] #[]),(10,iV p7)]∧L=[iN A1 n1 c1 a0]) ?_ ?_
    ·refine d4 ?_;refine ca (fun m s L=> ∃p9 p10,cu N (aM N m2) a1 a2 a3 a0 m p9 p10=some r∧s=[(0,I A1 n1 c1),(1,iV a1),(2,iV a2),(3,iV a3),(4,.func (.func 161) #[] #[]),(10,iV p9),(11,iV p10)]∧L=[iN A1 n1 c1 a0]) N _ _ ⟨a2,a3,h,J,J⟩ sA (cS [0] 1) ?_;rintro (_|m8) _ _ ⟨p9,p10,h,rfl,rfl⟩
     ·exact bh h
     rw [cu.eq_2] at h;refine aC ?_;refine Y ?_;refine ar J (fun g11=> ?_) (fun g11=> ?_)
     ·replace h:=ae g11 h;refine Y ?_;obtain ⟨q12,h⟩:=ay h;refine gE (bC J J q12.1 q12.2) ?_;refine gE (pF J J JA) ?_;refine gE (yc (v:=(IntKind.u64.wrap (p9+p10)).fdiv (2 ^ 1)) J J (fun _=>J)) ?_;refine gE (pF J J hJ) ?_;refine Y ?_;refine aC ?_;refine bF V _ (ai _) ?_;refine zE 0 J (au J) ?_;refine zE 1 J (au J) ?_;refine zE 2 J (au J) ?_;obtain ⟨x13,hx13,h⟩:=aa h;obtain ⟨lx13,ux13,hx13⟩:=aH hx13;refine zR 3 J (bm 0 J aE J J Jz cF lx13 ux13) ?_;refine zR 4 J (bn (us:=[iV x13.Kind,iV x13.N,.string x13.S]) 0 J aE J hx13 bI (fun _ _ _ h=>by rw [show _=_ from h];rfl)) ?_;refine zE 5 J (au J) ?_;refine zE 6 J (au J) ?_;obtain ⟨x14,hx14,h⟩:=aa h;obtain ⟨lx14,ux14,hx14⟩:=aH hx14;refine zR 7 J (bm 0 J aE J J Jz cF lx14 ux14) ?_;refine zR 8 J (bn (us:=[iV x14.Kind,iV x14.N,.string x14.S]) 0 J aE J hx14 bI (fun _ _ _ h=>by rw [show _=_ from h];rfl)) ?_;obtain ⟨y15,hy15,h⟩:=aa h;refine zD 9 J (fw (mV hy15) uF J J J (ak) lg) ?_;rintro _ _ ⟨_,⟨rfl,rfl⟩,rfl⟩;refine ⟨_,ai _,ai _,?_⟩;refine zE 10 J (xe J J) ?_;refine bw V ?_;refine eh ?_;refine ar J (fun g16=> ?_) (fun g16=> ?_)
      ·replace h:=ae g16 h;refine Y ?_;obtain ⟨q17,h⟩:=ay h;refine gE (bC J J q17.1 q17.2) ?_;refine Y ?_;exact ⟨m8,_,_,J1 _,⟨(IntKind.i64.wrap ((IntKind.u64.wrap (p9+p10)).fdiv (2 ^ 1)))+1,p10,h,J,J⟩,sA,cS [0] 1⟩
      replace h:=ah g16 h;refine Y ?_;exact ⟨m8,_,_,J1 _,⟨p9,(IntKind.i64.wrap ((IntKind.u64.wrap (p9+p10)).fdiv (2 ^ 1))),h,J,J⟩,sA,cS [0] 1⟩
     replace h:=ah g11 h;refine Y ?_;exact ⟨_,_,⟨p9,h,J,J⟩,sA,cS [0] 1⟩
    rintro _ _ ⟨p7,h,rfl,rfl⟩;refine aC ?_;refine Y ?_;refine ca (fun m s L=> ∃p19 p20,dm N (aM N m2) a1 a2 a3 p7 m p19 p20=some r∧s=[(0,I A1 n1 c1),(1,iV a1),(2,iV a2),(3,iV a3),(4,.func (.func 161) #[] #[]),(10,iV p7),(13,iV p20)]∧L=[iN A1 n1 c1 p19]) N _ _ ⟨a0,a1,h,J,J⟩ sA (cS [0] 1) ?_;rintro (_|m18) _ _ ⟨p19,p20,h,rfl,rfl⟩
    ·exact bh h
    rw [dm.eq_2] at h;refine aC ?_;refine Y ?_;obtain ⟨q21,h⟩:=ay h;refine gE (dj J J q21.1 q21.2) ?_;refine Y ?_;refine ar J (fun g22=> ?_) (fun g22=> ?_)
    ·replace h:=ae g22 h;refine Y ?_;refine aC ?_;refine d4 ?_;obtain ⟨q23,h⟩:=ay h;obtain ⟨q24,h⟩:=ay h;obtain ⟨x25,hx25,h⟩:=aa h;obtain ⟨lx25,ux25,hx25⟩:=aH hx25;obtain ⟨x26,hx26,h⟩:=aa h;obtain ⟨lx26,ux26,hx26⟩:=aH hx26;refine gK (t:=[(0,I A1 n1 c1),(1,iV a1),(2,iV a2),(3,iV a3),(4,.func (.func 161) #[] #[]),(10,iV p7),(13,iV p20)]) ?_ jr (ai _)
     refine ge V 14 [2,3,4] [0,1,2,4,9,13] [61,62,63,64,65,66,67,68,69,70,71,72,73,74] [[],[],[],[],[3],[],[],[6],[5,7],[8],[],[],[10,11],[12]] [aV (I A1 n1 c1),
aV (iV p20),
aV (I A1 n1 c1),
aV (iV p20),
aV (iV (p20+1)),
aV (I A1 n1 c1),
aV (iV p20),
aV (iV (p20+1)),
aV (eA (I A1 n1 c1) ((p20+1).toNat) 3 0),
aV (.agg #[iV x25.Kind,iV x25.N,.string x25.S]),
aV (I A1 n1 c1),
aV (iV p20),
aV (eA (I A1 n1 c1) p20.toNat 3 0),
aV (.agg #[iV x26.Kind,iV x26.N,.string x26.S])] [] (ai _) (eg rfl (eg rfl (eg rfl i5))) V rfl rfl ?_ ?_ ?_
     ·refine ef J ?_ ?_
      ·exact jq (au J) J (bd J (ai _))
      refine ef J ?_ ?_
      ·exact jq (au J) J (bd J (ai _))
      refine ef J ?_ ?_
      ·exact jq (bC J J q23.1 q23.2) J (bd J (ai _))
      exact i4
     ·refine al J ?_ ?_
      ·exact fq (bn (us:=[iV x26.Kind,iV x26.N,.string x26.S]) 0 J aE J hx26 bI (fun _ _ _ h=>by rw [show _=_ from h];rfl)) J (bd J (ai _))
      refine al J ?_ ?_
      ·exact fq (bm 0 J aE J J Jz cF lx26 ux26) J (bd J (ai _))
      refine al J ?_ ?_
      ·exact bV (au J) J (bd J (ai _))
      refine al J ?_ ?_
      ·exact bV (au J) J (bd J (ai _))
      refine al J ?_ ?_
      ·exact fq (bn (us:=[iV x25.Kind,iV x25.N,.string x25.S]) 0 J aE J hx25 bI (fun _ _ _ h=>by rw [show _=_ from h];rfl)) J (bd J (ai _))
      refine al J ?_ ?_
      ·exact fq (bm 0 J aE J J Jz cF lx25 ux25) J (bd J (ai _))
      refine al J ?_ ?_
      ·exact bV (bC J J q24.1 q24.2) J (bd J (ai _))
      refine al J ?_ ?_
      ·exact bV (au J) J (bd J (ai _))
      refine al J ?_ ?_
      ·exact bV (au J) J (bd J (ai _))
      refine al J ?_ ?_
      ·exact bV (bC J J q23.1 q23.2) J (bd J (ai _))
      refine al J ?_ ?_
      ·exact bV (au J) J (bd J (ai _))
      refine al J ?_ ?_
      ·exact bV (au J) J (bd J (ai _))
      refine al J ?_ ?_
      ·exact bV (au J) J (bd J (ai _))
      refine al J ?_ ?_
      ·exact bV (au J) J (bd J (ai _))
      exact dV
     refine lz (t:=[(61,I A1 n1 c1),(62,iV p20),(63,I A1 n1 c1),(65,iV (p20+1)),(70,.agg #[iV x25.Kind,iV x25.N,.string x25.S]),(74,.agg #[iV x26.Kind,iV x26.N,.string x26.S]),(0,I A1 n1 c1),(1,iV a1),(2,iV a2),(3,iV a3),(4,.func (.func 161) #[] #[]),(10,iV p7),(13,iV p20)]) (L':=[iN A1 n1 c1 p19]) ?_ jr (ai _);obtain ⟨x27,hx27,h⟩:=aa h;obtain ⟨lx27,ux27,hx27⟩:=aH hx27;refine zS 14 J V (bm 0 J aE J J Jz cF lx27 ux27) J J J ?_;refine kO 15 J V (cR (us:=[iV x25.Kind,iV x25.N,.string x25.S]) (z:=(⟨x25.Kind,x25.N,x25.S⟩:JW)) 0 J J J J cF J (toNat_lt lx27 ux27) J (fun S w vs xk hk hr ho=>by obtain rfl:=Option.some.inj (hk.symm.trans hx27);rw [show _=_ from hr];rfl)) J J ?_;rintro _ _ rfl;refine tT ?_;obtain ⟨x28,hx28,h⟩:=aa h;obtain ⟨lx28,ux28,hx28⟩:=aH hx28;refine zS 16 J V (bm 0 J aE J J Jz cF lx28 ux28) J J J ?_;refine kO 17 J V (cR (us:=[iV x26.Kind,iV x26.N,.string x26.S]) (z:=(⟨x26.Kind,x26.N,x26.S⟩:JW)) 0 J J J J cF J (toNat_lt lx28 ux28) J (fun S w vs xk hk hr ho=>by obtain rfl:=Option.some.inj (hk.symm.trans hx28);rw [show _=_ from hr];rfl)) J J ?_;rintro _ _ rfl;refine tT ?_;refine jd V ?_;refine Y ?_;obtain ⟨q29,h⟩:=ay h;refine gE (bC J J q29.1 q29.2) ?_;refine Y ?_
     exact ⟨m18,_,_,J1 _,⟨List.set (List.set p19 p20.toNat (⟨x25.Kind,x25.N,x25.S⟩:JW)) ((p20+1).toNat) (⟨x26.Kind,x26.N,x26.S⟩:JW),p20+1,h,J,J⟩,sA,cS [0] 1⟩
    replace h:=ah g22 h;refine Y ?_;obtain rfl:=ao h;exact xg J (cS [0] 1) ⟨J,J⟩
   replace h:=ah g5 h;refine Y ?_;exact ⟨_,_,⟨h,J,J⟩,sA,cS [0] 1⟩
  rintro _ _ ⟨h,rfl,rfl⟩;refine ba (fun s L=>dq N (aM N m2) a1 a2 a3 a0=some r∧s=[(0,I A1 n1 c1),(1,iV a1),(2,iV a2),(3,iV a3),(4,.func (.func 161) #[] #[])]∧L=[iN A1 n1 c1 a0]) ?_ ?_
  ·refine Y ?_;obtain ⟨q31,h⟩:=ay h;refine gE (dj J J q31.1 q31.2) ?_;refine Y ?_;refine ar J (fun g32=> ?_) (fun g32=> ?_)
   ·replace h:=ae g32 h;refine Y ?_;refine ba (fun s L=> ∃p34,gq N (aM N m2) a1 a2 a3 a0 p34=some r∧s=[(0,I A1 n1 c1),(1,iV a1),(2,iV a2),(3,iV a3),(4,.func (.func 161) #[] #[]),(14,iV p34)]∧L=[iN A1 n1 c1 a0]) ?_ ?_
    ·refine d4 ?_;refine ca (fun m s L=> ∃p36 p37,cH N (aM N m2) a1 a2 a3 a0 m p36 p37=some r∧s=[(0,I A1 n1 c1),(1,iV a1),(2,iV a2),(3,iV a3),(4,.func (.func 161) #[] #[]),(14,iV p36),(15,iV p37)]∧L=[iN A1 n1 c1 a0]) N _ _ ⟨a1,a2,h,J,J⟩ sA (cS [0] 1) ?_;rintro (_|m35) _ _ ⟨p36,p37,h,rfl,rfl⟩
     ·exact bh h
     rw [cH.eq_2] at h;refine aC ?_;refine Y ?_;refine ar J (fun g38=> ?_) (fun g38=> ?_)
     ·replace h:=ae g38 h;refine Y ?_;obtain ⟨q39,h⟩:=ay h;refine gE (bC J J q39.1 q39.2) ?_;refine gE (pF J J JA) ?_;refine gE (yc (v:=(IntKind.u64.wrap (p36+p37)).fdiv (2 ^ 1)) J J (fun _=>J)) ?_;refine gE (pF J J hJ) ?_;refine Y ?_;refine aC ?_;refine bF V _ (ai _) ?_;refine zE 0 J (au J) ?_;refine zE 1 J (au J) ?_;refine zE 2 J (au J) ?_;obtain ⟨x40,hx40,h⟩:=aa h;obtain ⟨lx40,ux40,hx40⟩:=aH hx40;refine zR 3 J (bm 0 J aE J J Jz cF lx40 ux40) ?_;refine zR 4 J (bn (us:=[iV x40.Kind,iV x40.N,.string x40.S]) 0 J aE J hx40 bI (fun _ _ _ h=>by rw [show _=_ from h];rfl)) ?_;refine zE 5 J (au J) ?_;refine zE 6 J (au J) ?_;obtain ⟨x41,hx41,h⟩:=aa h;obtain ⟨lx41,ux41,hx41⟩:=aH hx41;refine zR 7 J (bm 0 J aE J J Jz cF lx41 ux41) ?_;refine zR 8 J (bn (us:=[iV x41.Kind,iV x41.N,.string x41.S]) 0 J aE J hx41 bI (fun _ _ _ h=>by rw [show _=_ from h];rfl)) ?_;obtain ⟨y42,hy42,h⟩:=aa h;refine zD 9 J (fw (mV hy42) uF J J J (ak) lg) ?_;rintro _ _ ⟨_,⟨rfl,rfl⟩,rfl⟩;refine ⟨_,ai _,ai _,?_⟩;refine zE 10 J (xe J J) ?_;refine zE 11 J (yd J) ?_;refine bw V ?_;refine eh ?_;refine ar J (fun g43=> ?_) (fun g43=> ?_)
      ·replace h:=ae g43 h;refine Y ?_;obtain ⟨q44,h⟩:=ay h;refine gE (bC J J q44.1 q44.2) ?_;refine Y ?_;exact ⟨m35,_,_,J1 _,⟨(IntKind.i64.wrap ((IntKind.u64.wrap (p36+p37)).fdiv (2 ^ 1)))+1,p37,h,J,J⟩,sA,cS [0] 1⟩
      replace h:=ah g43 h;refine Y ?_;exact ⟨m35,_,_,J1 _,⟨p36,(IntKind.i64.wrap ((IntKind.u64.wrap (p36+p37)).fdiv (2 ^ 1))),h,J,J⟩,sA,cS [0] 1⟩
     replace h:=ah g38 h;refine Y ?_;exact ⟨_,_,⟨p36,h,J,J⟩,sA,cS [0] 1⟩
    rintro _ _ ⟨p34,h,rfl,rfl⟩;refine aC ?_;refine Y ?_;refine ca (fun m s L=> ∃p46 p47,dl N (aM N m2) a1 a2 a3 p34 m p46 p47=some r∧s=[(0,I A1 n1 c1),(1,iV a1),(2,iV a2),(3,iV a3),(4,.func (.func 161) #[] #[]),(14,iV p34),(17,iV p47)]∧L=[iN A1 n1 c1 p46]) N _ _ ⟨a0,a2,h,J,J⟩ sA (cS [0] 1) ?_;rintro (_|m45) _ _ ⟨p46,p47,h,rfl,rfl⟩
    ·exact bh h
    rw [dl.eq_2] at h;refine aC ?_;refine Y ?_;refine ar J (fun g48=> ?_) (fun g48=> ?_)
    ·replace h:=ae g48 h;refine Y ?_;refine aC ?_;refine d4 ?_;obtain ⟨q49,h⟩:=ay h;obtain ⟨q50,h⟩:=ay h;obtain ⟨x51,hx51,h⟩:=aa h;obtain ⟨lx51,ux51,hx51⟩:=aH hx51;obtain ⟨x52,hx52,h⟩:=aa h;obtain ⟨lx52,ux52,hx52⟩:=aH hx52;refine gK (t:=[(0,I A1 n1 c1),(1,iV a1),(2,iV a2),(3,iV a3),(4,.func (.func 161) #[] #[]),(14,iV p34),(17,iV p47)]) ?_ jr (ai _)
     refine ge V 14 [2,3,4] [0,1,2,4,9,13] [113,114,115,116,117,118,119,120,121,122,123,124,125,126] [[],[],[],[],[3],[],[],[6],[5,7],[8],[],[],[10,11],[12]] [aV (I A1 n1 c1),
aV (iV p47),
aV (I A1 n1 c1),
aV (iV p47),
aV (iV (p47 - 1)),
aV (I A1 n1 c1),
aV (iV p47),
aV (iV (p47 - 1)),
aV (eA (I A1 n1 c1) ((p47 - 1).toNat) 3 0),
aV (.agg #[iV x51.Kind,iV x51.N,.string x51.S]),
aV (I A1 n1 c1),
aV (iV p47),
aV (eA (I A1 n1 c1) p47.toNat 3 0),
aV (.agg #[iV x52.Kind,iV x52.N,.string x52.S])] [] (ai _) (eg rfl (eg rfl (eg rfl i5))) V rfl rfl ?_ ?_ ?_
     ·refine ef J ?_ ?_
      ·exact jq (au J) J (bd J (ai _))
      refine ef J ?_ ?_
      ·exact jq (au J) J (bd J (ai _))
      refine ef J ?_ ?_
      ·exact jq (dj J J q49.1 q49.2) J (bd J (ai _))
      exact i4
     ·refine al J ?_ ?_
      ·exact fq (bn (us:=[iV x52.Kind,iV x52.N,.string x52.S]) 0 J aE J hx52 bI (fun _ _ _ h=>by rw [show _=_ from h];rfl)) J (bd J (ai _))
      refine al J ?_ ?_
      ·exact fq (bm 0 J aE J J Jz cF lx52 ux52) J (bd J (ai _))
      refine al J ?_ ?_
      ·exact bV (au J) J (bd J (ai _))
      refine al J ?_ ?_
      ·exact bV (au J) J (bd J (ai _))
      refine al J ?_ ?_
      ·exact fq (bn (us:=[iV x51.Kind,iV x51.N,.string x51.S]) 0 J aE J hx51 bI (fun _ _ _ h=>by rw [show _=_ from h];rfl)) J (bd J (ai _))
      refine al J ?_ ?_
      ·exact fq (bm 0 J aE J J Jz cF lx51 ux51) J (bd J (ai _))
      refine al J ?_ ?_
      ·exact bV (dj J J q50.1 q50.2) J (bd J (ai _))
      refine al J ?_ ?_
      ·exact bV (au J) J (bd J (ai _))
      refine al J ?_ ?_
      ·exact bV (au J) J (bd J (ai _))
      refine al J ?_ ?_
      ·exact bV (dj J J q49.1 q49.2) J (bd J (ai _))
      refine al J ?_ ?_
      ·exact bV (au J) J (bd J (ai _))
      refine al J ?_ ?_
      ·exact bV (au J) J (bd J (ai _))
      refine al J ?_ ?_
      ·exact bV (au J) J (bd J (ai _))
      refine al J ?_ ?_
      ·exact bV (au J) J (bd J (ai _))
      exact dV
     refine lz (t:=[(113,I A1 n1 c1),(114,iV p47),(115,I A1 n1 c1),(117,iV (p47 - 1)),(122,.agg #[iV x51.Kind,iV x51.N,.string x51.S]),(126,.agg #[iV x52.Kind,iV x52.N,.string x52.S]),(0,I A1 n1 c1),(1,iV a1),(2,iV a2),(3,iV a3),(4,.func (.func 161) #[] #[]),(14,iV p34),(17,iV p47)]) (L':=[iN A1 n1 c1 p46]) ?_ jr (ai _);obtain ⟨x53,hx53,h⟩:=aa h;obtain ⟨lx53,ux53,hx53⟩:=aH hx53;refine zS 14 J V (bm 0 J aE J J Jz cF lx53 ux53) J J J ?_;refine kO 15 J V (cR (us:=[iV x51.Kind,iV x51.N,.string x51.S]) (z:=(⟨x51.Kind,x51.N,x51.S⟩:JW)) 0 J J J J cF J (toNat_lt lx53 ux53) J (fun S w vs xk hk hr ho=>by obtain rfl:=Option.some.inj (hk.symm.trans hx53);rw [show _=_ from hr];rfl)) J J ?_;rintro _ _ rfl;refine tT ?_;obtain ⟨x54,hx54,h⟩:=aa h;obtain ⟨lx54,ux54,hx54⟩:=aH hx54;refine zS 16 J V (bm 0 J aE J J Jz cF lx54 ux54) J J J ?_;refine kO 17 J V (cR (us:=[iV x52.Kind,iV x52.N,.string x52.S]) (z:=(⟨x52.Kind,x52.N,x52.S⟩:JW)) 0 J J J J cF J (toNat_lt lx54 ux54) J (fun S w vs xk hk hr ho=>by obtain rfl:=Option.some.inj (hk.symm.trans hx54);rw [show _=_ from hr];rfl)) J J ?_;rintro _ _ rfl;refine tT ?_;refine jd V ?_;refine Y ?_;obtain ⟨q55,h⟩:=ay h;refine gE (dj J J q55.1 q55.2) ?_;refine Y ?_
     exact ⟨m45,_,_,J1 _,⟨List.set (List.set p46 p47.toNat (⟨x51.Kind,x51.N,x51.S⟩:JW)) ((p47 - 1).toNat) (⟨x52.Kind,x52.N,x52.S⟩:JW),p47 - 1,h,J,J⟩,sA,cS [0] 1⟩
    replace h:=ah g48 h;refine Y ?_;obtain rfl:=ao h;exact xg J (cS [0] 1) ⟨J,J⟩
   replace h:=ah g32 h;refine Y ?_;exact ⟨_,_,⟨h,J,J⟩,sA,cS [0] 1⟩
  rintro _ _ ⟨h,rfl,rfl⟩;refine Y ?_;obtain ⟨q56,h⟩:=ay h;refine gE (bC J J q56.1 q56.2) ?_;refine gE (pF J J JA) ?_;refine gE (yc (v:=(IntKind.u64.wrap (a1+a3)).fdiv (2 ^ 1)) J J (fun _=>J)) ?_;refine gE (pF J J hJ) ?_;refine Y ?_;obtain ⟨q57,h⟩:=ay h;refine gE (bC J J q57.1 q57.2) ?_;refine Y ?_;refine ba (fun s L=> ∃p59 p60,dp N (aM N m2) a1 a2 a3 a0 p59 p60=some r∧s=[(0,I A1 n1 c1),(1,iV a1),(2,iV a2),(3,iV a3),(4,.func (.func 161) #[] #[]),(18,iV (IntKind.i64.wrap ((IntKind.u64.wrap (a1+a3)).fdiv (2 ^ 1)))),(19,iV ((IntKind.i64.wrap ((IntKind.u64.wrap (a1+a3)).fdiv (2 ^ 1)))+a2)),(20,iV p59),(21,iV p60)]∧L=[iN A1 n1 c1 a0]) ?_ ?_
  ·refine Y ?_;refine ar J (fun g61=> ?_) (fun g61=> ?_)
   ·replace h:=ae g61 h;refine Y ?_;obtain ⟨q62,h⟩:=ay h;refine gE (dj J J q62.1 q62.2) ?_;refine Y ?_;exact ⟨_,_,⟨((IntKind.i64.wrap ((IntKind.u64.wrap (a1+a3)).fdiv (2 ^ 1)))+a2) - a3,(IntKind.i64.wrap ((IntKind.u64.wrap (a1+a3)).fdiv (2 ^ 1))),h,J,J⟩,sA,cS [0] 1⟩
   replace h:=ah g61 h;refine Y ?_;exact ⟨_,_,⟨a1,a2,h,J,J⟩,sA,cS [0] 1⟩
  rintro _ _ ⟨p59,p60,h,rfl,rfl⟩;refine Y ?_;obtain ⟨q63,h⟩:=ay h;refine gE (dj J J q63.1 q63.2) ?_;refine Y ?_;refine ba (fun s L=> ∃p65,dn N (aM N m2) a1 a2 a3 a0 p65=some r∧s=[(0,I A1 n1 c1),(1,iV a1),(2,iV a2),(3,iV a3),(4,.func (.func 161) #[] #[]),(18,iV (IntKind.i64.wrap ((IntKind.u64.wrap (a1+a3)).fdiv (2 ^ 1)))),(19,iV ((IntKind.i64.wrap ((IntKind.u64.wrap (a1+a3)).fdiv (2 ^ 1)))+a2)),(20,iV p65)]∧L=[iN A1 n1 c1 a0]) ?_ ?_
  ·refine d4 ?_;refine ca (fun m s L=> ∃p67 p68,cG N (aM N m2) a1 a2 a3 a0 m p67 p68=some r∧s=[(0,I A1 n1 c1),(1,iV a1),(2,iV a2),(3,iV a3),(4,.func (.func 161) #[] #[]),(18,iV (IntKind.i64.wrap ((IntKind.u64.wrap (a1+a3)).fdiv (2 ^ 1)))),(19,iV ((IntKind.i64.wrap ((IntKind.u64.wrap (a1+a3)).fdiv (2 ^ 1)))+a2)),(20,iV p67),(21,iV p68),(22,iV (((IntKind.i64.wrap ((IntKind.u64.wrap (a1+a3)).fdiv (2 ^ 1)))+a2) - 1))]∧L=[iN A1 n1 c1 a0]) N _ _ ⟨p59,p60,h,J,J⟩ sA (cS [0] 1) ?_;rintro (_|m66) _ _ ⟨p67,p68,h,rfl,rfl⟩
   ·exact bh h
   rw [cG.eq_2] at h;refine aC ?_;refine Y ?_;refine ar J (fun g69=> ?_) (fun g69=> ?_)
   ·replace h:=ae g69 h;refine Y ?_;obtain ⟨q70,h⟩:=ay h;refine gE (bC J J q70.1 q70.2) ?_;refine gE (pF J J JA) ?_;refine gE (yc (v:=(IntKind.u64.wrap (p67+p68)).fdiv (2 ^ 1)) J J (fun _=>J)) ?_;refine gE (pF J J hJ) ?_;refine Y ?_;refine aC ?_;refine bF V _ (ai _) ?_;refine zE 0 J (au J) ?_;refine zE 1 J (au J) ?_;refine zE 2 J (au J) ?_;refine zE 3 J (au J) ?_;obtain ⟨q71,h⟩:=ay h;refine zE 4 J (dj J J q71.1 q71.2) ?_;obtain ⟨x72,hx72,h⟩:=aa h;obtain ⟨lx72,ux72,hx72⟩:=aH hx72;refine zR 5 J (bm 0 J aE J J Jz cF lx72 ux72) ?_;refine zR 6 J (bn (us:=[iV x72.Kind,iV x72.N,.string x72.S]) 0 J aE J hx72 bI (fun _ _ _ h=>by rw [show _=_ from h];rfl)) ?_;refine zE 7 J (au J) ?_;refine zE 8 J (au J) ?_;obtain ⟨x73,hx73,h⟩:=aa h;obtain ⟨lx73,ux73,hx73⟩:=aH hx73;refine zR 9 J (bm 0 J aE J J Jz cF lx73 ux73) ?_;refine zR 10 J (bn (us:=[iV x73.Kind,iV x73.N,.string x73.S]) 0 J aE J hx73 bI (fun _ _ _ h=>by rw [show _=_ from h];rfl)) ?_;obtain ⟨y74,hy74,h⟩:=aa h;refine zD 11 J (fw (mV hy74) uF J J J (ak) lg) ?_;rintro _ _ ⟨_,⟨rfl,rfl⟩,rfl⟩;refine ⟨_,ai _,ai _,?_⟩;refine zE 12 J (xe J J) ?_;refine zE 13 J (yd J) ?_;refine bw V ?_;refine eh ?_;refine ar J (fun g75=> ?_) (fun g75=> ?_)
    ·replace h:=ae g75 h;refine Y ?_;obtain ⟨q76,h⟩:=ay h;refine gE (bC J J q76.1 q76.2) ?_;refine Y ?_;exact ⟨m66,_,_,J1 _,⟨(IntKind.i64.wrap ((IntKind.u64.wrap (p67+p68)).fdiv (2 ^ 1)))+1,p68,h,J,J⟩,sA,cS [0] 1⟩
    replace h:=ah g75 h;refine Y ?_;exact ⟨m66,_,_,J1 _,⟨p67,(IntKind.i64.wrap ((IntKind.u64.wrap (p67+p68)).fdiv (2 ^ 1))),h,J,J⟩,sA,cS [0] 1⟩
   replace h:=ah g69 h;refine Y ?_;exact ⟨_,_,⟨p67,h,J,J⟩,sA,cS [0] 1⟩
  rintro _ _ ⟨p65,h,rfl,rfl⟩;refine Y ?_;obtain ⟨q77,h⟩:=ay h;refine gE (dj J J q77.1 q77.2) ?_;refine Y ?_;refine ba (fun s L=> ∃p79,cJ N (aM N m2) a1 a3 p65 a2 p79=some r∧s=[(0,I A1 n1 c1),(1,iV a1),(3,iV a3),(4,.func (.func 161) #[] #[]),(18,iV (IntKind.i64.wrap ((IntKind.u64.wrap (a1+a3)).fdiv (2 ^ 1)))),(20,iV p65),(24,iV (((IntKind.i64.wrap ((IntKind.u64.wrap (a1+a3)).fdiv (2 ^ 1)))+a2) - p65))]∧L=[iN A1 n1 c1 p79]) ?_ ?_
  ·refine Y ?_;obtain ⟨b80,hb80,h⟩:=aa h;refine aK 4 185 b80 ?_ ?_
   ·clear h;refine aI 181 J (fun g80=> ?_) (fun g80=> ?_)
    ·have h:=ae g80 hb80;refine Y ?_;obtain rfl:=ao h;exact ac sA (cS [0] 1)
    have h:=ah g80 hb80;refine Y ?_;obtain rfl:=ao h;exact ac sA (cS [0] 1)
   refine Y ?_;refine ar J (fun g81=> ?_) (fun g81=> ?_)
   ·replace h:=ae g81 h;refine Y ?_;obtain ⟨y82,hy82,h⟩:=aa h;refine gD (aD (mg hy82) FH J (aB [] [0] [] 1 J)) ?_;rintro _ _ ⟨_,⟨rfl,rfl⟩,rfl⟩;refine bP ?_;refine Y ?_;exact ⟨_,_,⟨y82,h,J,J⟩,sA,cS [0] 1⟩
   replace h:=ah g81 h;refine Y ?_;exact ⟨_,_,⟨a0,h,J,J⟩,sA,cS [0] 1⟩
  rintro _ _ ⟨p79,h,rfl,rfl⟩;refine ba (fun s L=> ∃p84,cI N (aM N m2) a3 a1 a2 p65 p84=some r∧s=[(0,I A1 n1 c1),(3,iV a3),(4,.func (.func 161) #[] #[]),(18,iV (IntKind.i64.wrap ((IntKind.u64.wrap (a1+a3)).fdiv (2 ^ 1)))),(24,iV (((IntKind.i64.wrap ((IntKind.u64.wrap (a1+a3)).fdiv (2 ^ 1)))+a2) - p65))]∧L=[iN A1 n1 c1 p84]) ?_ ?_
  ·refine Y ?_;obtain ⟨b85,hb85,h⟩:=aa h;refine aK 4 199 b85 ?_ ?_
   ·clear h;refine aI 195 J (fun g85=> ?_) (fun g85=> ?_)
    ·have h:=ae g85 hb85;refine Y ?_;obtain rfl:=ao h;exact ac sA (cS [0] 1)
    have h:=ah g85 hb85;refine Y ?_;obtain rfl:=ao h;exact ac sA (cS [0] 1)
   refine Y ?_;refine ar J (fun g86=> ?_) (fun g86=> ?_)
   ·replace h:=ae g86 h;refine Y ?_;obtain ⟨y87,hy87,h⟩:=aa h;refine gD (aD (ih hy87) ot J (aB [] [0] [] 1 J)) ?_;rintro _ _ ⟨_,⟨rfl,rfl⟩,rfl⟩;refine bP ?_;refine Y ?_;exact ⟨_,_,⟨y87,h,J,J⟩,sA,cS [0] 1⟩
   replace h:=ah g86 h;refine Y ?_;exact ⟨_,_,⟨p79,h,J,J⟩,sA,cS [0] 1⟩
  rintro _ _ ⟨p84,h,rfl,rfl⟩;refine Y ?_;obtain ⟨b88,hb88,h⟩:=aa h;refine aK 4 213 b88 ?_ ?_
  ·clear h;refine aI 209 J (fun g88=> ?_) (fun g88=> ?_)
   ·have h:=ae g88 hb88;refine Y ?_;obtain rfl:=ao h;exact ac sA (cS [0] 1)
   have h:=ah g88 hb88;refine Y ?_;obtain rfl:=ao h;exact ac sA (cS [0] 1)
  refine Y ?_;refine ar J (fun g89=> ?_) (fun g89=> ?_)
  ·replace h:=ae g89 h;refine Y ?_;obtain ⟨y90,hy90,h⟩:=aa h;refine gD (aD (ih hy90) ot J (aB [] [0] [] 1 J)) ?_;rintro _ _ ⟨_,⟨rfl,rfl⟩,rfl⟩;refine bP ?_;refine jX ?_;obtain rfl:=ao h;exact eX J (cS [0] 1) ⟨J,J⟩
  replace h:=ah g89 h;refine nR ?_;obtain rfl:=ao h;exact eX J (cS [0] 1) ⟨J,J⟩
theorem cr {N:Nat}{a0:(List JW)}{a1:Int}{a2:Int}{a3:Int}{r:(List JW)}(h:bR N a0 a1 a2 a3=some r):Okc Tryz.prog 231 [I A1 n1 c1,iV a1,iV a2,iV a3,.func (.func 161) #[] #[]] ([iN A1 n1 c1 a0]) (fun u post=>u=.tuple #[]∧post=[iN A1 n1 c1 r]):=kT N h
def eQ (N:Nat)(kb14:(List JW)→Int→Option (List JW))(a1:Int)(p16:Int)(p33:(List JW)):Option (List JW):=
 cN (bM (p16*2)) (kb14 p33 (p16*2))
def lH (N:Nat)(kb14:(List JW)→Int→Option (List JW))(a1:Int)(p16:Int)(p15:(List JW)):Option (List JW):=
 cN (bM (0+p16)) (bif decide (0+p16<a1) then ((bR N p15 0 (0+p16) a1).bind fun y36=>eQ N kb14 a1 p16 y36) else (eQ N kb14 a1 p16 p15))
def eP (N:Nat)(kb14:(List JW)→Int→Option (List JW))(a1:Int)(p16:Int)(p39:(List JW)):Option (List JW):=
 cN (bM (p16*2)) (kb14 p39 (p16*2))
def gW (N:Nat)(kb14:(List JW)→Int→Option (List JW))(a1:Int)(p16:Int)(p21:(List JW))(p22:Int):Option (List JW):=
 cN (bM (p22+p16)) (bif decide (p22+p16<a1) then ((bR N p21 p22 (p22+p16) a1).bind fun y42=>eP N kb14 a1 p16 y42) else (eP N kb14 a1 p16 p21))
def eM (N:Nat)(kb14:(List JW)→Int→Option (List JW))(a1:Int)(p16:Int):Nat→(List JW)→Int→Int→Option (List JW)
 |0,_,_,_=>none
 |m23+1,p24,p25,p26=>bif decide (p26≤a1) then (cN (bM (p25+p16)) ((bR N p24 p25 (p25+p16) p26).bind fun y29=>cN (bM (2*p16)) (cN (bM (p26+(2*p16))) ((eM N kb14 a1 p16 m23) y29 p26 (p26+(2*p16)))))) else (gW N kb14 a1 p16 p24 p25)
def bS (N:Nat)(a1:Int):Nat→(List JW)→Int→Option (List JW)
 |0,_,_=>none
 |m14+1,p15,p16=>bif decide (p16<a1) then (cN (bM (2*p16)) (eM N (bS N a1 m14) a1 p16 N p15 0 (2*p16))) else (some p15)
def mf (N:Nat)(a1:Int)(a0:(List JW)):Option (List JW):=
 (cc N a0 0 a1).bind fun y13=>bS N a1 N y13 20
def eN (N:Nat)(kb45:(List JW)→Int→Option (List JW))(a1:Int)(p47:Int)(p64:(List JW)):Option (List JW):=
 cN (bM (p47*2)) (kb45 p64 (p47*2))
def lG (N:Nat)(kb45:(List JW)→Int→Option (List JW))(a1:Int)(p47:Int)(p46:(List JW)):Option (List JW):=
 cN (bM (0+p47)) (bif decide (0+p47<a1) then ((bR N p46 0 (0+p47) a1).bind fun y67=>eN N kb45 a1 p47 y67) else (eN N kb45 a1 p47 p46))
def dI (N:Nat)(kb45:(List JW)→Int→Option (List JW))(a1:Int)(p47:Int)(p70:(List JW)):Option (List JW):=
 cN (bM (p47*2)) (kb45 p70 (p47*2))
def eO (N:Nat)(kb45:(List JW)→Int→Option (List JW))(a1:Int)(p47:Int)(p52:(List JW))(p53:Int):Option (List JW):=
 cN (bM (p53+p47)) (bif decide (p53+p47<a1) then ((bR N p52 p53 (p53+p47) a1).bind fun y73=>dI N kb45 a1 p47 y73) else (dI N kb45 a1 p47 p52))
def dH (N:Nat)(kb45:(List JW)→Int→Option (List JW))(a1:Int)(p47:Int):Nat→(List JW)→Int→Int→Option (List JW)
 |0,_,_,_=>none
 |m54+1,p55,p56,p57=>bif decide (p57≤a1) then (cN (bM (p56+p47)) ((bR N p55 p56 (p56+p47) p57).bind fun y60=>cN (bM (2*p47)) (cN (bM (p57+(2*p47))) ((dH N kb45 a1 p47 m54) y60 p57 (p57+(2*p47)))))) else (eO N kb45 a1 p47 p55 p56)
def bJ (N:Nat)(a1:Int):Nat→(List JW)→Int→Option (List JW)
 |0,_,_=>none
 |m45+1,p46,p47=>bif decide (p47<a1) then (cN (bM (2*p47)) (dH N (bJ N a1 m45) a1 p47 N p46 0 (2*p47))) else (some p46)
def fd (N:Nat)(a1:Int)(p4:(List JW))(p5:Int):Option (List JW):=
 (cc N p4 p5 a1).bind fun y44=>bJ N a1 N y44 20
def dT (N:Nat)(a1:Int):Nat→(List JW)→Int→Int→Option (List JW)
 |0,_,_,_=>none
 |m6+1,p7,p8,p9=>bif decide (p9≤a1) then ((cc N p7 p8 p9).bind fun y11=>cN (bM (p9+20)) ((dT N a1 m6) y11 p9 (p9+20))) else (fd N a1 p7 p8)
def fB (N:Nat)(a0:(List JW))(a1:Int):Option (List JW):=
 dT N a1 N a0 0 20
set_option maxHeartbeats 4000000 in
theorem me {N:Nat}{a0:(List JW)}{a1:Int}{r:(List JW)}(h:fB N a0 a1=some r):Okc Tryz.prog 207 [I A1 n1 c1,iV a1,.func (.func 161) #[] #[]] ([iN A1 n1 c1 a0]) (fun u post=>u=.tuple #[]∧post=[iN A1 n1 c1 r]):=by
 refine bx Tryz.func207 J J ?_;simp only [aX];refine Y ?_;refine ba (fun s L=>(mf N a1 a0=some r∧s=[(0,I A1 n1 c1),(1,iV a1),(2,.func (.func 161) #[] #[]),(6,iV 20),(7,iV 0)]∧L=[iN A1 n1 c1 a0])∨(∃p4 p5,fd N a1 p4 p5=some r∧s=[(0,I A1 n1 c1),(1,iV a1),(2,.func (.func 161) #[] #[]),(6,iV 20),(7,iV p5)]∧L=[iN A1 n1 c1 p4])) ?_ ?_
 ·refine d4 ?_;refine ca (fun m s L=> ∃p7 p8 p9,dT N a1 m p7 p8 p9=some r∧s=[(0,I A1 n1 c1),(1,iV a1),(2,.func (.func 161) #[] #[]),(6,iV 20),(7,iV p8),(8,iV p9)]∧L=[iN A1 n1 c1 p7]) N _ _ ⟨a0,0,20,h,J,J⟩ sA (cS [0] 1) ?_;rintro (_|m6) _ _ ⟨p7,p8,p9,h,rfl,rfl⟩
  ·exact bh h
  rw [dT.eq_2] at h;refine aC ?_;refine Y ?_;refine ar J (fun g10=> ?_) (fun g10=> ?_)
  ·replace h:=ae g10 h;refine Y ?_;obtain ⟨y11,hy11,h⟩:=aa h;refine gD (aD (dP hy11) yw J (aB [] [0] [] 1 J)) ?_;rintro _ _ ⟨_,⟨rfl,rfl⟩,rfl⟩;refine Y ?_;obtain ⟨q12,h⟩:=ay h;refine gE (bC J J q12.1 q12.2) ?_;refine Y ?_;exact ⟨m6,_,_,J1 _,⟨y11,p9,p9+20,h,J,J⟩,sA,cS [0] 1⟩
  replace h:=ah g10 h;refine Y ?_;exact ⟨_,_,.inr (⟨p7,p8,h,J,J⟩),sA,cS [0] 1⟩
 rintro _ _ (⟨h,rfl,rfl⟩|⟨p4,p5,h,rfl,rfl⟩)
 ·refine Y ?_;obtain ⟨y13,hy13,h⟩:=aa h;refine gD (aD (dP hy13) yw J (aB [] [0] [] 1 J)) ?_;rintro _ _ ⟨_,⟨rfl,rfl⟩,rfl⟩;refine Y ?_;refine ca (fun m s L=> ∃p15 p16,bS N a1 m p15 p16=some r∧s=[(0,I A1 n1 c1),(1,iV a1),(2,.func (.func 161) #[] #[]),(6,iV p16)]∧L=[iN A1 n1 c1 p15]) N _ _ ⟨y13,20,h,J,J⟩ sA (cS [0] 1) ?_;rintro (_|m14) _ _ ⟨p15,p16,h,rfl,rfl⟩
  ·exact bh h
  rw [bS.eq_2] at h;refine aC ?_;refine Y ?_;refine ar J (fun g17=> ?_) (fun g17=> ?_)
  ·replace h:=ae g17 h;refine Y ?_;obtain ⟨q18,h⟩:=ay h;refine gE (nO J J q18.1 q18.2) ?_;refine Y ?_;refine ba (fun s L=>(lH N (bS N a1 m14) a1 p16 p15=some r∧s=[(0,I A1 n1 c1),(1,iV a1),(2,.func (.func 161) #[] #[]),(6,iV p16),(7,iV 0)]∧L=[iN A1 n1 c1 p15])∨(∃p21 p22,gW N (bS N a1 m14) a1 p16 p21 p22=some r∧s=[(0,I A1 n1 c1),(1,iV a1),(2,.func (.func 161) #[] #[]),(6,iV p16),(7,iV p22)]∧L=[iN A1 n1 c1 p21])) ?_ ?_
   ·refine d4 ?_;refine ca (fun m s L=> ∃p24 p25 p26,eM N (bS N a1 m14) a1 p16 m p24 p25 p26=some r∧s=[(0,I A1 n1 c1),(1,iV a1),(2,.func (.func 161) #[] #[]),(6,iV p16),(7,iV p25),(8,iV p26)]∧L=[iN A1 n1 c1 p24]) N _ _ ⟨p15,0,2*p16,h,J,J⟩ sA (cS [0] 1) ?_;rintro (_|m23) _ _ ⟨p24,p25,p26,h,rfl,rfl⟩
    ·exact bh h
    rw [eM.eq_2] at h;refine aC ?_;refine Y ?_;refine ar J (fun g27=> ?_) (fun g27=> ?_)
    ·replace h:=ae g27 h;refine Y ?_;obtain ⟨q28,h⟩:=ay h;refine gE (bC J J q28.1 q28.2) ?_;refine Y ?_;obtain ⟨y29,hy29,h⟩:=aa h;refine gD (aD (cr hy29) ot J (aB [] [0] [] 1 J)) ?_;rintro _ _ ⟨_,⟨rfl,rfl⟩,rfl⟩;refine bP ?_;refine Y ?_;obtain ⟨q30,h⟩:=ay h;refine gE (nO J J q30.1 q30.2) ?_;obtain ⟨q31,h⟩:=ay h;refine gE (bC J J q31.1 q31.2) ?_;refine Y ?_;exact ⟨m23,_,_,J1 _,⟨y29,p26,p26+(2*p16),h,J,J⟩,sA,cS [0] 1⟩
    replace h:=ah g27 h;refine Y ?_;exact ⟨_,_,.inr (⟨p24,p25,h,J,J⟩),sA,cS [0] 1⟩
   rintro _ _ (⟨h,rfl,rfl⟩|⟨p21,p22,h,rfl,rfl⟩)
   ·refine ba (fun s L=> ∃p33,eQ N (bS N a1 m14) a1 p16 p33=some r∧s=[(0,I A1 n1 c1),(1,iV a1),(2,.func (.func 161) #[] #[]),(6,iV p16)]∧L=[iN A1 n1 c1 p33]) ?_ ?_
    ·refine Y ?_;obtain ⟨q34,h⟩:=ay h;refine gE (bC J J q34.1 q34.2) ?_;refine Y ?_;refine ar J (fun g35=> ?_) (fun g35=> ?_)
     ·replace h:=ae g35 h;refine Y ?_;obtain ⟨y36,hy36,h⟩:=aa h;refine gD (aD (cr hy36) ot J (aB [] [0] [] 1 J)) ?_;rintro _ _ ⟨_,⟨rfl,rfl⟩,rfl⟩;refine Y ?_;exact ⟨_,_,⟨y36,h,J,J⟩,sA,cS [0] 1⟩
     replace h:=ah g35 h;refine Y ?_;exact ⟨_,_,⟨p15,h,J,J⟩,sA,cS [0] 1⟩
    rintro _ _ ⟨p33,h,rfl,rfl⟩;refine Y ?_;obtain ⟨q37,h⟩:=ay h;refine gE (nO J J q37.1 q37.2) ?_;refine Y ?_;exact ⟨m14,_,_,J1 _,⟨p33,p16*2,h,J,J⟩,sA,cS [0] 1⟩
   refine ba (fun s L=> ∃p39,eP N (bS N a1 m14) a1 p16 p39=some r∧s=[(0,I A1 n1 c1),(1,iV a1),(2,.func (.func 161) #[] #[]),(6,iV p16)]∧L=[iN A1 n1 c1 p39]) ?_ ?_
   ·refine Y ?_;obtain ⟨q40,h⟩:=ay h;refine gE (bC J J q40.1 q40.2) ?_;refine Y ?_;refine ar J (fun g41=> ?_) (fun g41=> ?_)
    ·replace h:=ae g41 h;refine Y ?_;obtain ⟨y42,hy42,h⟩:=aa h;refine gD (aD (cr hy42) ot J (aB [] [0] [] 1 J)) ?_;rintro _ _ ⟨_,⟨rfl,rfl⟩,rfl⟩;refine Y ?_;exact ⟨_,_,⟨y42,h,J,J⟩,sA,cS [0] 1⟩
    replace h:=ah g41 h;refine Y ?_;exact ⟨_,_,⟨p21,h,J,J⟩,sA,cS [0] 1⟩
   rintro _ _ ⟨p39,h,rfl,rfl⟩;refine Y ?_;obtain ⟨q43,h⟩:=ay h;refine gE (nO J J q43.1 q43.2) ?_;refine Y ?_;exact ⟨m14,_,_,J1 _,⟨p39,p16*2,h,J,J⟩,sA,cS [0] 1⟩
  replace h:=ah g17 h;refine Y ?_;obtain rfl:=ao h;exact eX J (cS [0] 1) ⟨J,J⟩
 refine Y ?_;obtain ⟨y44,hy44,h⟩:=aa h;refine gD (aD (dP hy44) yw J (aB [] [0] [] 1 J)) ?_;rintro _ _ ⟨_,⟨rfl,rfl⟩,rfl⟩;refine bP ?_;refine Y ?_;refine ca (fun m s L=> ∃p46 p47,bJ N a1 m p46 p47=some r∧s=[(0,I A1 n1 c1),(1,iV a1),(2,.func (.func 161) #[] #[]),(6,iV p47)]∧L=[iN A1 n1 c1 p46]) N _ _ ⟨y44,20,h,J,J⟩ sA (cS [0] 1) ?_;rintro (_|m45) _ _ ⟨p46,p47,h,rfl,rfl⟩
 ·exact bh h
 rw [bJ.eq_2] at h;refine aC ?_;refine Y ?_;refine ar J (fun g48=> ?_) (fun g48=> ?_)
 ·replace h:=ae g48 h;refine Y ?_;obtain ⟨q49,h⟩:=ay h;refine gE (nO J J q49.1 q49.2) ?_;refine Y ?_;refine ba (fun s L=>(lG N (bJ N a1 m45) a1 p47 p46=some r∧s=[(0,I A1 n1 c1),(1,iV a1),(2,.func (.func 161) #[] #[]),(6,iV p47),(7,iV 0)]∧L=[iN A1 n1 c1 p46])∨(∃p52 p53,eO N (bJ N a1 m45) a1 p47 p52 p53=some r∧s=[(0,I A1 n1 c1),(1,iV a1),(2,.func (.func 161) #[] #[]),(6,iV p47),(7,iV p53)]∧L=[iN A1 n1 c1 p52])) ?_ ?_
  ·refine d4 ?_;refine ca (fun m s L=> ∃p55 p56 p57,dH N (bJ N a1 m45) a1 p47 m p55 p56 p57=some r∧s=[(0,I A1 n1 c1),(1,iV a1),(2,.func (.func 161) #[] #[]),(6,iV p47),(7,iV p56),(8,iV p57)]∧L=[iN A1 n1 c1 p55]) N _ _ ⟨p46,0,2*p47,h,J,J⟩ sA (cS [0] 1) ?_;rintro (_|m54) _ _ ⟨p55,p56,p57,h,rfl,rfl⟩
   ·exact bh h
   rw [dH.eq_2] at h;refine aC ?_;refine Y ?_;refine ar J (fun g58=> ?_) (fun g58=> ?_)
   ·replace h:=ae g58 h;refine Y ?_;obtain ⟨q59,h⟩:=ay h;refine gE (bC J J q59.1 q59.2) ?_;refine Y ?_;obtain ⟨y60,hy60,h⟩:=aa h;refine gD (aD (cr hy60) ot J (aB [] [0] [] 1 J)) ?_;rintro _ _ ⟨_,⟨rfl,rfl⟩,rfl⟩;refine Y ?_;obtain ⟨q61,h⟩:=ay h;refine gE (nO J J q61.1 q61.2) ?_;obtain ⟨q62,h⟩:=ay h;refine gE (bC J J q62.1 q62.2) ?_;refine Y ?_;exact ⟨m54,_,_,J1 _,⟨y60,p57,p57+(2*p47),h,J,J⟩,sA,cS [0] 1⟩
   replace h:=ah g58 h;refine Y ?_;exact ⟨_,_,.inr (⟨p55,p56,h,J,J⟩),sA,cS [0] 1⟩
  rintro _ _ (⟨h,rfl,rfl⟩|⟨p52,p53,h,rfl,rfl⟩)
  ·refine ba (fun s L=> ∃p64,eN N (bJ N a1 m45) a1 p47 p64=some r∧s=[(0,I A1 n1 c1),(1,iV a1),(2,.func (.func 161) #[] #[]),(6,iV p47)]∧L=[iN A1 n1 c1 p64]) ?_ ?_
   ·refine Y ?_;obtain ⟨q65,h⟩:=ay h;refine gE (bC J J q65.1 q65.2) ?_;refine Y ?_;refine ar J (fun g66=> ?_) (fun g66=> ?_)
    ·replace h:=ae g66 h;refine Y ?_;obtain ⟨y67,hy67,h⟩:=aa h;refine gD (aD (cr hy67) ot J (aB [] [0] [] 1 J)) ?_;rintro _ _ ⟨_,⟨rfl,rfl⟩,rfl⟩;refine Y ?_;exact ⟨_,_,⟨y67,h,J,J⟩,sA,cS [0] 1⟩
    replace h:=ah g66 h;refine Y ?_;exact ⟨_,_,⟨p46,h,J,J⟩,sA,cS [0] 1⟩
   rintro _ _ ⟨p64,h,rfl,rfl⟩;refine Y ?_;obtain ⟨q68,h⟩:=ay h;refine gE (nO J J q68.1 q68.2) ?_;refine Y ?_;exact ⟨m45,_,_,J1 _,⟨p64,p47*2,h,J,J⟩,sA,cS [0] 1⟩
  refine ba (fun s L=> ∃p70,dI N (bJ N a1 m45) a1 p47 p70=some r∧s=[(0,I A1 n1 c1),(1,iV a1),(2,.func (.func 161) #[] #[]),(6,iV p47)]∧L=[iN A1 n1 c1 p70]) ?_ ?_
  ·refine Y ?_;obtain ⟨q71,h⟩:=ay h;refine gE (bC J J q71.1 q71.2) ?_;refine Y ?_;refine ar J (fun g72=> ?_) (fun g72=> ?_)
   ·replace h:=ae g72 h;refine Y ?_;obtain ⟨y73,hy73,h⟩:=aa h;refine gD (aD (cr hy73) ot J (aB [] [0] [] 1 J)) ?_;rintro _ _ ⟨_,⟨rfl,rfl⟩,rfl⟩;refine bP ?_;refine Y ?_;exact ⟨_,_,⟨y73,h,J,J⟩,sA,cS [0] 1⟩
   replace h:=ah g72 h;refine Y ?_;exact ⟨_,_,⟨p52,h,J,J⟩,sA,cS [0] 1⟩
  rintro _ _ ⟨p70,h,rfl,rfl⟩;refine Y ?_;obtain ⟨q74,h⟩:=ay h;refine gE (nO J J q74.1 q74.2) ?_;refine Y ?_;exact ⟨m45,_,_,J1 _,⟨p70,p47*2,h,J,J⟩,sA,cS [0] 1⟩
 replace h:=ah g48 h;refine Y ?_;obtain rfl:=ao h;exact eX J (cS [0] 1) ⟨J,J⟩
def dU (N:Nat)(a0:(List JW)):Option (List JW):=
 (fB N a0 (a0.length:Int)).bind fun y2=>some y2
theorem lI {N:Nat}{a0:(List JW)}{r:(List JW)}(h:dU N a0=some r):Okc Tryz.prog 160 [I A1 n1 c1,.func (.func 161) #[] #[]] ([iN A1 n1 c1 a0]) (fun u post=>u=.tuple #[]∧post=[iN A1 n1 c1 r]):=by
 refine bx Tryz.func160 J J ?_;simp only [aX];refine Y ?_;refine gR (bK 0 J aE J Jz) ?_;refine Y ?_;obtain ⟨y2,hy2,h⟩:=aa h;refine gD (aD (me hy2) FR J (aB [] [0] [] 1 J)) ?_;rintro _ _ ⟨_,⟨rfl,rfl⟩,rfl⟩;refine jX ?_;obtain rfl:=ao h;exact eX J (cS [0] 1) ⟨J,J⟩
def pg (N:Nat)(p3:(List JW)):Option (List JW):=
 (dU N p3).bind fun y19=>some y19
def mW (N:Nat)(kb4:(List JW)→Int→Option (List JW))(a0:(List JW))(p6:Int)(p10:(List JW)):Option (List JW):=
 cN (bM (p6+1)) (kb4 p10 (p6+1))
def jN (N:Nat)(a0:(List JW)):Nat→(List JW)→Int→Option (List JW)
 |0,_,_=>none
 |m4+1,p5,p6=>bif decide (p6<(a0.length:Int)) then ((bT a0 p6).bind fun x11=>(eF N x11).bind fun y13=>bif y13 then (cN (fA (p5.length+([x11]:List JW).length)) (mW N (jN N a0 m4) a0 p6 (p5++([x11]:List JW)))) else (mW N (jN N a0 m4) a0 p6 p5)) else (pg N p5)
def eG (N:Nat)(a0:(List JW)):Option (List JW):=
 jN N a0 N [] 0
theorem so {N:Nat}{a0:(List JW)}{r:(List JW)}(h:eG N a0=some r):Okc Tryz.prog 106 [I A1 n1 c1] ([nu mM (I A1 n1 c1) a0]) (fun u post=> ∃A0 n0 c0,u=I A0 n0 c0∧post=[iN A0 n0 c0 r]):=by
 refine bx Tryz.func106 J J ?_;simp only [aX];refine Y ?_;refine ba (fun s L=> ∃p3 A3 n3 c3,pg N p3=some r∧s=[(2,I none 0 0),(3,I A3 n3 c3)]∧L=[iN A3 n3 c3 p3]) ?_ ?_
 ·refine Y ?_;refine gR (bK 0 J aR J Jz) ?_;refine Y ?_;refine ca (fun m s L=> ∃p5 p6 A5 n5 c5,jN N a0 m p5 p6=some r∧s=[(2,I none 0 0),(3,I A5 n5 c5),(6,I A1 n1 c1),(7,iV (a0.length:Int)),(8,iV p6)]∧L=[iN A5 n5 c5 p5,nu mM (I A1 n1 c1) a0]) N _ _ ⟨[],0,none,0,0,h,J,J⟩ sA ((fL mM 24 _).trans (cS [0,1] 2)) ?_;rintro (_|m4) _ _ ⟨p5,p6,A5,n5,c5,h,rfl,rfl⟩
  ·exact bh h
  rw [jN.eq_2] at h;refine Y ?_;refine aC ?_;refine ar J (fun g8=> ?_) (fun g8=> ?_)
  ·replace h:=ae g8 h;refine Y ?_;refine ba (fun s L=> ∃p10 A10 n10 c10,mW N (jN N a0 m4) a0 p6 p10=some r∧s=[(2,I none 0 0),(3,I A10 n10 c10),(6,I A1 n1 c1),(7,iV (a0.length:Int)),(8,iV p6)]∧L=[iN A10 n10 c10 p10,nu mM (I A1 n1 c1) a0]) ?_ ?_
   ·refine Y ?_;obtain ⟨x11,hx11,h⟩:=aa h;obtain ⟨lx11,ux11,hx11⟩:=aH hx11;refine gR (bm 1 J aR J J Jz cF lx11 ux11) ?_;refine gR (bn (us:=[iV x11.Kind,iV x11.N,.string x11.S]) 1 J aR J hx11 bI (fun _ _ _ h=>by rw [show _=_ from h];rfl)) ?_;refine gD (aO rG J) ?_;rintro _ _ ⟨B12,rfl,rfl⟩;refine gO (av (us:=[iV x11.Kind,iV x11.N,.string x11.S]) (cs':=[iV x11.Kind,iV x11.N,.string x11.S]) 0 J J J J cF J J J) ?_;rintro _ _ rfl;refine Y ?_;refine gR (aj (us:=[iV x11.Kind,iV x11.N,.string x11.S]) 0 J J bI J) ?_;obtain ⟨y13,hy13,h⟩:=aa h;refine gD (aq (jM hy13) tx J (ak) gZ) ?_;rintro _ _ ⟨_,⟨rfl,rfl⟩,rfl⟩;refine Y ?_;refine ar J (fun g14=> ?_) (fun g14=> ?_)
    ·replace h:=ae g14 h;refine Y ?_;refine gR (aj (us:=[iV x11.Kind,iV x11.N,.string x11.S]) 0 J J bI J) ?_;refine gD (co (R:=mM) (vss:=[[iV x11.Kind,iV x11.N,.string x11.S]]) (xs:=[x11]) J (qA _ _ _) J J (fun _ _ hr=> .cons J All2.nil)) ?_;rintro _ _ ⟨A15,n15,c15,rfl,rfl⟩;obtain ⟨q16,h⟩:=ay h;refine gD (dK 2 0 J J aE J J Jz C0 J J q16) ?_;rintro _ _ ⟨A17,n17,c17,rfl,rfl⟩;refine Y ?_;exact ⟨_,_,⟨p5++([x11]:List JW),A17,n17,c17,h,J,J⟩,sA,cS [2,3] 4⟩
    replace h:=ah g14 h;refine Y ?_;exact ⟨_,_,⟨p5,A5,n5,c5,h,J,J⟩,sA,cS [1,2] 3⟩
   rintro _ _ ⟨p10,A10,n10,c10,h,rfl,rfl⟩;refine ft ?_;obtain ⟨q18,h⟩:=ay h;refine gE (bC J J q18.1 q18.2) ?_;refine Y ?_;exact ⟨m4,_,_,J1 _,⟨p10,p6+1,A10,n10,c10,h,J,J⟩,sA,cS [0,1] 2⟩
  replace h:=ah g8 h;refine Y ?_;exact ⟨_,_,⟨p5,A5,n5,c5,h,J,J⟩,sA,cS [0] 2⟩
 rintro _ _ ⟨p3,A3,n3,c3,h,rfl,rfl⟩;refine Y ?_;obtain ⟨y19,hy19,h⟩:=aa h;refine gD (aD (lI hy19) FZ J (aB [] [0] [] 1 J)) ?_;rintro _ _ ⟨_,⟨rfl,rfl⟩,rfl⟩;refine bP ?_;refine Y ?_;obtain rfl:=ao h;exact aN J J (cS [0] 1) ⟨_,_,_,J,J⟩
theorem qk {r:(List JW)}: ∀v post,((fun (u:Value) (post:List Chunk)=> ∃A0 n0 c0,u=I A0 n0 c0∧post=[iN A0 n0 c0 r])) v post→ ∀c∈post,cB c:=by
 rintro _ _ ⟨_,_,_,rfl,rfl⟩;exact hD fj (ak)
end Go.Proofs.YtanojiedimeegaaGreatDoor