/- Merged texts: part 11. No conditions of their own. -/
import Derived.Test.YtanojiedimeegaaGreatDoorG10
import Derived.Test.YtanojiedimeegaaGreatDoorG2
import Derived.Test.YtanojiedimeegaaGreatDoorG1
namespace Go.Proofs.YtanojiedimeegaaGreatDoor
section
theorem JF:type_of% Tryz.underlying84:=Tryz.underlying84
theorem JE:type_of% Tryz.underlying42:=Tryz.underlying42
theorem JD:type_of% Tryz.underlying30:=Tryz.underlying30
theorem JC:type_of% Tryz.underlying24:=Tryz.underlying24
theorem JB:type_of% Tryz.func7:=Tryz.func7
variable {A1 A10 A12 A13 A14 A15 A2 A3 A4 A5 A6:Option Addr} {B1 B2 B7 B9 M11 M8 c1 c10 c12 c13 c14 c15 c2 c3 c4 c5 c6 n1 n10 n12 n13 n14 n15 n2 n3 n4 n5 n6:Nat}
open Go.RowKit Asn
set_option maxRecDepth 20000
def mS (N:Nat)(p48:Int)(p49:Int)(p50:ByteArray)(p149:Int)(p150:Int)(p151:Int)(p152:Int)(p153:Int)(p154:Int)(p155:Int)(p156:Int)(p157:Int)(p158:Int)(p159:(List ByteArray))(p160:Int)(p161:Int)(p162:Int)(p163:(List JR))(p164:(List ByteArray))(p165:(List JU))(p166:(List JU))(p167:(List JS))(p168:(List JS))(p169:(List JG))(p170:(List (JK×Int)))(p171:(List (Int×Bool))):Option (JS×Bool×JL):=
 some ((⟨p48,p49,p50⟩:JS),true,(⟨(⟨p149,p150,p151⟩:JH),(⟨p152,p153,p154,p155,p156,p157,p158⟩:JO),(),(⟨(⟨p165,p166⟩:JN),p167,p168,(⟨p171⟩:JI)⟩:JJ),(⟨p169,p170⟩:JP),p159,p160,p161,p162,p163,p164⟩:JL))
def pT (N:Nat)(a1:JV)(p48:Int)(p49:Int)(p50:ByteArray)(p84:Int)(p85:Int)(p86:Int)(p87:Int)(p88:Int)(p89:Int)(p90:Int)(p91:Int)(p92:Int)(p93:Int)(p94:(List ByteArray))(p95:Int)(p96:Int)(p97:Int)(p98:(List JR))(p99:(List ByteArray))(p100:(List JU))(p101:(List JU))(p102:(List JS))(p103:(List JS))(p104:(List JG))(p105:(List (JK×Int)))(p106:(List (Int×Bool))):Option (JS×Bool×JL):=
 bif a1.Shut then ((fQ N (⟨(⟨p84,p85,p86⟩:JH),(⟨p87,p88,p89,p90,p91,p92,p93⟩:JO),(),(⟨(⟨p100,p101⟩:JN),p102,p103,(⟨p106⟩:JI)⟩:JJ),(⟨p104,p105⟩:JP),p94,p95,p96,p97,p98,p99⟩:JL) (⟨p48,p49,p50⟩:JS)).bind fun y173=>mS N p48 p49 p50 y173.spent_.steps_ y173.spent_.made_ y173.spent_.calls_ y173.config_.Way y173.config_.Steps y173.config_.Calls y173.config_.Made y173.config_.Young y173.config_.Full y173.config_.Sites y173.symbols_ y173.epoch_ y173.serial_ y173.sleepers_ y173.events_ y173.out_ y173.heap_.m_.Young y173.heap_.m_.Old y173.heap_.roots_ y173.heap_.pending_ y173.shapes_.shapes_ y173.shapes_.next_ y173.heap_.set_.at_) else (mS N p48 p49 p50 p84 p85 p86 p87 p88 p89 p90 p91 p92 p93 p94 p95 p96 p97 p98 p99 p100 p101 p102 p103 p104 p105 p106)
def kS (N:Nat)(a1:JV)(p48:Int)(p49:Int)(p50:ByteArray):Nat→Int→Int→Int→Int→Int→Int→Int→Int→Int→Int→Int→(List ByteArray)→Int→Int→Int→(List JR)→(List ByteArray)→(List JU)→(List JU)→(List JS)→(List JS)→(List JG)→(List (JK×Int))→(List (Int×Bool))→Option (JS×Bool×JL)
 |0,_,_,_,_,_,_,_,_,_,_,_,_,_,_,_,_,_,_,_,_,_,_,_,_=>none
 |m107+1,p108,p109,p110,p111,p112,p113,p114,p115,p116,p117,p118,p119,p120,p121,p122,p123,p124,p125,p126,p127,p128,p129,p130,p131=>bif decide (p108<(a1.Props.length:Int)) then ((bT a1.Props p108).bind fun x133=>(bT a1.Props p108).bind fun x134=>(sb N x134).bind fun y135=>(iL N (⟨(⟨p109,p110,p111⟩:JH),(⟨p112,p113,p114,p115,p116,p117,p118⟩:JO),(),(⟨(⟨p125,p126⟩:JN),p127,p128,(⟨p131⟩:JI)⟩:JJ),(⟨p129,p130⟩:JP),p119,p120,p121,p122,p123,p124⟩:JL) (⟨p48,p49,p50⟩:JS) x133.Key y135).bind fun y136=>cN (bM (p108+1)) ((kS N a1 p48 p49 p50 m107) (p108+1) y136.2.2.spent_.steps_ y136.2.2.spent_.made_ y136.2.2.spent_.calls_ y136.2.2.config_.Way y136.2.2.config_.Steps y136.2.2.config_.Calls y136.2.2.config_.Made y136.2.2.config_.Young y136.2.2.config_.Full y136.2.2.config_.Sites y136.2.2.symbols_ y136.2.2.epoch_ y136.2.2.serial_ y136.2.2.sleepers_ y136.2.2.events_ y136.2.2.out_ y136.2.2.heap_.m_.Young y136.2.2.heap_.m_.Old y136.2.2.heap_.roots_ y136.2.2.heap_.pending_ y136.2.2.shapes_.shapes_ y136.2.2.shapes_.next_ y136.2.2.heap_.set_.at_)) else (pT N a1 p48 p49 p50 p109 p110 p111 p112 p113 p114 p115 p116 p117 p118 p119 p120 p121 p122 p123 p124 p125 p126 p127 p128 p129 p130 p131)
def md (N:Nat)(a1:JV)(p31:Bool)(p32:Int)(p33:Int)(p34:Int)(p35:Int)(p36:Int)(p37:Int)(p38:Int)(p39:Int)(p40:Int)(p41:Int)(p42:(List ByteArray))(p43:Int)(p44:Int)(p45:Int)(p46:(List JR))(p47:(List ByteArray))(p48:Int)(p49:Int)(p50:ByteArray)(p51:(List JU))(p52:(List JU))(p53:(List JS))(p54:(List JS))(p55:(List JG))(p56:(List (JK×Int)))(p57:(List (Int×Bool))):Option (JS×Bool×JL):=
 bif !p31 then (some ((⟨p48,p49,p50⟩:JS),false,(⟨(⟨p32,p33,p34⟩:JH),(⟨p35,p36,p37,p38,p39,p40,p41⟩:JO),(),(⟨(⟨p51,p52⟩:JN),p53,p54,(⟨p57⟩:JI)⟩:JJ),(⟨p55,p56⟩:JP),p42,p43,p44,p45,p46,p47⟩:JL))) else (kS N a1 p48 p49 p50 N 0 p32 p33 p34 p35 p36 p37 p38 p39 p40 p41 p42 p43 p44 p45 p46 p47 p51 p52 p53 p54 p55 p56 p57)
def pU (N:Nat)(y18:(JS×Bool×JL))(a1:JV)(p60:(List JS)):Option (JS×Bool×JL):=
 (mt N y18.2.2 p60).bind fun y71=>md N a1 y71.2.1 y71.2.2.spent_.steps_ y71.2.2.spent_.made_ y71.2.2.spent_.calls_ y71.2.2.config_.Way y71.2.2.config_.Steps y71.2.2.config_.Calls y71.2.2.config_.Made y71.2.2.config_.Young y71.2.2.config_.Full y71.2.2.config_.Sites y71.2.2.symbols_ y71.2.2.epoch_ y71.2.2.serial_ y71.2.2.sleepers_ y71.2.2.events_ y71.2.2.out_ y71.1.Kind y71.1.N y71.1.S y71.2.2.heap_.m_.Young y71.2.2.heap_.m_.Old y71.2.2.heap_.roots_ y71.2.2.heap_.pending_ y71.2.2.shapes_.shapes_ y71.2.2.shapes_.next_ y71.2.2.heap_.set_.at_
def nU (N:Nat)(y18:(JS×Bool×JL))(a1:JV):Nat→(List JS)→Int→Option (JS×Bool×JL)
 |0,_,_=>none
 |m61+1,p62,p63=>bif decide (p63<aL .i64 a1.Elements 15) then ((lF N p63).bind fun y66=>cN (fA (p62.length+([y66]:List JS).length)) (cN (bM (p63+1)) ((nU N y18 a1 m61) (p62++([y66]:List JS)) (p63+1)))) else (pU N y18 a1 p62)
def qK (N:Nat)(a0:JL)(a1:JV):Option (JS×Bool×JL):=
 (mU N a0 (⟨1,0,⟨#[]⟩⟩:JS) 1).bind fun y18=>bif a1.Array then (nU N y18 a1 N [] 0) else (md N a1 y18.2.1 y18.2.2.spent_.steps_ y18.2.2.spent_.made_ y18.2.2.spent_.calls_ y18.2.2.config_.Way y18.2.2.config_.Steps y18.2.2.config_.Calls y18.2.2.config_.Made y18.2.2.config_.Young y18.2.2.config_.Full y18.2.2.config_.Sites y18.2.2.symbols_ y18.2.2.epoch_ y18.2.2.serial_ y18.2.2.sleepers_ y18.2.2.events_ y18.2.2.out_ y18.1.Kind y18.1.N y18.1.S y18.2.2.heap_.m_.Young y18.2.2.heap_.m_.Old y18.2.2.heap_.roots_ y18.2.2.heap_.pending_ y18.2.2.shapes_.shapes_ y18.2.2.shapes_.next_ y18.2.2.heap_.set_.at_)
set_option maxHeartbeats 4000000 in
theorem zY {N:Nat}{a0:JL}{a1:JV}{r:(JS×Bool×JL)}(h:qK N a0 a1=some r):Okc Tryz.prog 50 [pV B1 0,.agg #[.bool a1.Array,iV a1.Elements,I A15 n15 c15,.bool a1.Shut]] ([bj A12 n12 c12 a0.symbols_,cC A13 n13 c13 a0.events_,bj A14 n14 c14 a0.out_,zW A15 n15 c15 a1.Props,aU 0 30 [iV 8,iV 0,.string (⟨#[]⟩:ByteArray)],ad B1 151 [iV a0.spent_.steps_,iV a0.spent_.made_,iV a0.spent_.calls_,iV a0.config_.Way,iV a0.config_.Steps,iV a0.config_.Calls,iV a0.config_.Made,iV a0.config_.Young,iV a0.config_.Full,iV a0.config_.Sites,.nilIface,pV B2 0,pV B9 0,I A12 n12 c12,iV a0.epoch_,iV a0.serial_,iV a0.sleepers_,I A13 n13 c13,I A14 n14 c14],ad B2 199 [I A3 n3 c3,I A4 n4 c4,I A5 n5 c5,I A6 n6 c6,pV B7 0],br A3 n3 c3 a0.heap_.m_.Young,br A4 n4 c4 a0.heap_.m_.Old,aY A5 n5 c5 a0.heap_.roots_,aY A6 n6 c6 a0.heap_.pending_,ad B7 247 [.map (some M8)],aG cx cz M8 a0.heap_.set_.at_,ad B9 205 [I A10 n10 c10,.map (some M11)],cE A10 n10 c10 a0.shapes_.shapes_,aG aF cv M11 a0.shapes_.next_]) (fun u post=> ∃A0 n0 c0 A1 n1 c1 A2 n2 c2 A3 n3 c3 M4 A5 n5 c5 M6 A7 n7 c7 A8 n8 c8 A9 n9 c9,u=.tuple #[.agg #[iV r.1.Kind,iV r.1.N,.string r.1.S],.bool r.2.1]∧post=[ad B1 151 [iV r.2.2.spent_.steps_,iV r.2.2.spent_.made_,iV r.2.2.spent_.calls_,iV r.2.2.config_.Way,iV r.2.2.config_.Steps,iV r.2.2.config_.Calls,iV r.2.2.config_.Made,iV r.2.2.config_.Young,iV r.2.2.config_.Full,iV r.2.2.config_.Sites,.nilIface,pV B2 0,pV B9 0,I A7 n7 c7,iV r.2.2.epoch_,iV r.2.2.serial_,iV r.2.2.sleepers_,I A8 n8 c8,I A9 n9 c9],ad B2 199 [I A0 n0 c0,I A1 n1 c1,I A2 n2 c2,I A3 n3 c3,pV B7 0],br A0 n0 c0 r.2.2.heap_.m_.Young,br A1 n1 c1 r.2.2.heap_.m_.Old,aY A2 n2 c2 r.2.2.heap_.roots_,aY A3 n3 c3 r.2.2.heap_.pending_,ad B7 247 [.map (some M4)],aG cx cz M4 r.2.2.heap_.set_.at_,ad B9 205 [I A5 n5 c5,.map (some M6)],cE A5 n5 c5 r.2.2.shapes_.shapes_,aG aF cv M6 r.2.2.shapes_.next_,bj A7 n7 c7 r.2.2.symbols_,cC A8 n8 c8 r.2.2.events_,bj A9 n9 c9 r.2.2.out_]):=by
 refine bx Tryz.func50 J J ?_;simp only [aX];refine Y ?_;refine gD (aQ J J) ?_;rintro _ _ ⟨B16,rfl,rfl⟩;refine gD (aO fH J) ?_;rintro _ _ ⟨B17,rfl,rfl⟩;refine Y ?_;refine gE (be J (sO _)) ?_;obtain ⟨y18,hy18,h⟩:=aa h;refine gD (aD (wC hy18) HG J (aB [2,3,4] [7,8,9,10,11,12,13,14,15,16,17] [0,1,2,3,4,5,6] 18 J)) ?_;rintro _ _ ⟨_,⟨A19,n19,c19,A20,n20,c20,A21,n21,c21,A22,n22,c22,M23,A24,n24,c24,M25,A26,n26,c26,A27,n27,c27,A28,n28,c28,rfl,rfl⟩,rfl⟩;refine Y ?_;refine gD (aO fH J) ?_;rintro _ _ ⟨B29,rfl,rfl⟩;refine gO (av (us:=[iV y18.1.Kind,iV y18.1.N,.string y18.1.S]) (cs':=[iV y18.1.Kind,iV y18.1.N,.string y18.1.S]) 0 J J J J bi J J J) ?_;rintro _ _ rfl;refine Y ?_
 refine ba (fun s L=> ∃p31 p32 p33 p34 p35 p36 p37 p38 p39 p40 p41 p42 p43 p44 p45 p46 p47 p48 p49 p50 p51 p52 p53 p54 p55 p56 p57 A42 n42 c42 A46 n46 c46 A47 n47 c47 A51 n51 c51 A52 n52 c52 A53 n53 c53 A54 n54 c54 A55 n55 c55 M56 M57,md N a1 p31 p32 p33 p34 p35 p36 p37 p38 p39 p40 p41 p42 p43 p44 p45 p46 p47 p48 p49 p50 p51 p52 p53 p54 p55 p56 p57=some r∧s=[(0,pV B1 0),(3,pV B16 0),(4,pV B17 0),(5,.bool false),(6,pV B29 0),(7,.bool p31)]∧L=[bj A42 n42 c42 p42,cC A46 n46 c46 p46,bj A47 n47 c47 p47,ad B1 151 [iV p32,iV p33,iV p34,iV p35,iV p36,iV p37,iV p38,iV p39,iV p40,iV p41,.nilIface,pV B2 0,pV B9 0,I A42 n42 c42,iV p43,iV p44,iV p45,I A46 n46 c46,I A47 n47 c47],zW A15 n15 c15 a1.Props,ad B16 84 [.bool a1.Array,iV a1.Elements,I A15 n15 c15,.bool a1.Shut],ad B17 30 [iV 0,iV 0,.string (⟨#[]⟩)],ad B29 30 [iV p48,iV p49,.string p50],aU 0 30 [iV 8,iV 0,.string (⟨#[]⟩:ByteArray)],br A51 n51 c51 p51,br A52 n52 c52 p52,aY A53 n53 c53 p53,aY A54 n54 c54 p54,ad B2 199 [I A51 n51 c51,I A52 n52 c52,I A53 n53 c53,I A54 n54 c54,pV B7 0],cE A55 n55 c55 p55,aG aF cv M56 p56,ad B9 205 [I A55 n55 c55,.map (some M56)],aG cx cz M57 p57,ad B7 247 [.map (some M57)]]) ?_ ?_
 ·refine Y ?_;refine gR (aZ 16 J J zi J) ?_;refine Y ?_;refine ar J (fun g58=> ?_) (fun g58=> ?_)
  ·replace h:=ae g58 h;refine Y ?_;refine ba (fun s L=> ∃p60 A60 n60 c60,pU N y18 a1 p60=some r∧s=[(0,pV B1 0),(3,pV B16 0),(4,pV B17 0),(5,.bool false),(6,pV B29 0),(7,.bool y18.2.1),(8,I A60 n60 c60)]∧L=[aY A60 n60 c60 p60,bj A26 n26 c26 y18.2.2.symbols_,cC A27 n27 c27 y18.2.2.events_,bj A28 n28 c28 y18.2.2.out_,ad B1 151 [iV y18.2.2.spent_.steps_,iV y18.2.2.spent_.made_,iV y18.2.2.spent_.calls_,iV y18.2.2.config_.Way,iV y18.2.2.config_.Steps,iV y18.2.2.config_.Calls,iV y18.2.2.config_.Made,iV y18.2.2.config_.Young,iV y18.2.2.config_.Full,iV y18.2.2.config_.Sites,.nilIface,pV B2 0,pV B9 0,I A26 n26 c26,iV y18.2.2.epoch_,iV y18.2.2.serial_,iV y18.2.2.sleepers_,I A27 n27 c27,I A28 n28 c28],zW A15 n15 c15 a1.Props,ad B16 84 [.bool a1.Array,iV a1.Elements,I A15 n15 c15,.bool a1.Shut],ad B17 30 [iV 0,iV 0,.string (⟨#[]⟩)],ad B29 30 [iV y18.1.Kind,iV y18.1.N,.string y18.1.S],aU 0 30 [iV 8,iV 0,.string (⟨#[]⟩:ByteArray)],br A19 n19 c19 y18.2.2.heap_.m_.Young,br A20 n20 c20 y18.2.2.heap_.m_.Old,aY A21 n21 c21 y18.2.2.heap_.roots_,aY A22 n22 c22 y18.2.2.heap_.pending_,ad B2 199 [I A19 n19 c19,I A20 n20 c20,I A21 n21 c21,I A22 n22 c22,pV B7 0],cE A24 n24 c24 y18.2.2.shapes_.shapes_,aG aF cv M25 y18.2.2.shapes_.next_,ad B9 205 [I A24 n24 c24,.map (some M25)],aG cx cz M23 y18.2.2.heap_.set_.at_,ad B7 247 [.map (some M23)]]) ?_ ?_
   ·refine Y ?_
    refine ca (fun m s L=> ∃p62 p63 A62 n62 c62,nU N y18 a1 m p62 p63=some r∧s=[(0,pV B1 0),(3,pV B16 0),(4,pV B17 0),(5,.bool false),(6,pV B29 0),(7,.bool y18.2.1),(8,I A62 n62 c62),(9,iV p63)]∧L=[aY A62 n62 c62 p62,bj A26 n26 c26 y18.2.2.symbols_,cC A27 n27 c27 y18.2.2.events_,bj A28 n28 c28 y18.2.2.out_,ad B1 151 [iV y18.2.2.spent_.steps_,iV y18.2.2.spent_.made_,iV y18.2.2.spent_.calls_,iV y18.2.2.config_.Way,iV y18.2.2.config_.Steps,iV y18.2.2.config_.Calls,iV y18.2.2.config_.Made,iV y18.2.2.config_.Young,iV y18.2.2.config_.Full,iV y18.2.2.config_.Sites,.nilIface,pV B2 0,pV B9 0,I A26 n26 c26,iV y18.2.2.epoch_,iV y18.2.2.serial_,iV y18.2.2.sleepers_,I A27 n27 c27,I A28 n28 c28],zW A15 n15 c15 a1.Props,ad B16 84 [.bool a1.Array,iV a1.Elements,I A15 n15 c15,.bool a1.Shut],ad B17 30 [iV 0,iV 0,.string (⟨#[]⟩)],ad B29 30 [iV y18.1.Kind,iV y18.1.N,.string y18.1.S],aU 0 30 [iV 8,iV 0,.string (⟨#[]⟩:ByteArray)],br A19 n19 c19 y18.2.2.heap_.m_.Young,br A20 n20 c20 y18.2.2.heap_.m_.Old,aY A21 n21 c21 y18.2.2.heap_.roots_,aY A22 n22 c22 y18.2.2.heap_.pending_,ad B2 199 [I A19 n19 c19,I A20 n20 c20,I A21 n21 c21,I A22 n22 c22,pV B7 0],cE A24 n24 c24 y18.2.2.shapes_.shapes_,aG aF cv M25 y18.2.2.shapes_.next_,ad B9 205 [I A24 n24 c24,.map (some M25)],aG cx cz M23 y18.2.2.heap_.set_.at_,ad B7 247 [.map (some M23)]]) N _ _ ⟨[],0,none,0,0,h,J,J⟩ sA ((fL bW 30 _).trans (cS [0,13,14,15,2,21,17,16,1,22,4,5,6,7,3,11,12,10,9,8] 23)) ?_
    rintro (_|m61) _ _ ⟨p62,p63,A62,n62,c62,h,rfl,rfl⟩
    ·exact bh h
    rw [nU.eq_2] at h;refine aC ?_;refine Y ?_;refine gE (bA J J) ?_;refine Y ?_;refine ar J (fun g65=> ?_) (fun g65=> ?_)
    ·replace h:=ae g65 h;refine Y ?_;refine aC ?_;refine Y ?_;obtain ⟨y66,hy66,h⟩:=aa h;refine gD (aq (nm hy66) wg J (ak) kQ) ?_;rintro _ _ ⟨_,⟨rfl,rfl⟩,rfl⟩;refine gD (co (R:=bW) (vss:=[[iV y66.Kind,iV y66.N,.string y66.S]]) (xs:=[y66]) J (iU _ _ _) J J (fun _ _ hr=> .cons J All2.nil)) ?_;rintro _ _ ⟨A67,n67,c67,rfl,rfl⟩;obtain ⟨q68,h⟩:=ay h;refine gD (dK 1 0 J J aE J J hE wt J J q68) ?_;rintro _ _ ⟨A69,n69,c69,rfl,rfl⟩;refine bP ?_;refine Y ?_;obtain ⟨q70,h⟩:=ay h;refine gE (bC J J q70.1 q70.2) ?_;refine Y ?_;exact ⟨m61,_,_,J1 _,⟨p62++([y66]:List JS),p63+1,A69,n69,c69,h,J,J⟩,sA,cS [1,2,3,4,5,6,7,8,9,10,11,12,13,14,15,16,17,18,19,20] 21⟩
    replace h:=ah g65 h;refine Y ?_;exact ⟨_,_,⟨p62,A62,n62,c62,h,J,J⟩,sA,cS [0,1,2,3,4,5,6,7,8,9,10,11,12,13,14,15,16,17,18,19] 20⟩
   rintro _ _ ⟨p60,A60,n60,c60,h,rfl,rfl⟩;refine ft ?_;refine H8 ?_;refine kP (dk 0 J) ?_;obtain ⟨y71,hy71,h⟩:=aa h;refine gD (aD (sU hy71) DZ J (aB [1,2,3,0] [4,14,10,11,12,13,19,18,17,15,16] [0,1,2,3,5,6,7,8,9] 20 J)) ?_;rintro _ _ ⟨_,⟨A72,n72,c72,A73,n73,c73,A74,n74,c74,A75,n75,c75,M76,A77,n77,c77,M78,A79,n79,c79,A80,n80,c80,A81,n81,c81,rfl,rfl⟩,rfl⟩;refine Y ?_;refine gO (av (us:=[iV y71.1.Kind,iV y71.1.N,.string y71.1.S]) (cs':=[iV y71.1.Kind,iV y71.1.N,.string y71.1.S]) 21 J J J J bi J J J) ?_;rintro _ _ rfl;refine bP ?_;refine Y ?_;exact ⟨_,_,⟨y71.2.1,y71.2.2.spent_.steps_,y71.2.2.spent_.made_,y71.2.2.spent_.calls_,y71.2.2.config_.Way,y71.2.2.config_.Steps,y71.2.2.config_.Calls,y71.2.2.config_.Made,y71.2.2.config_.Young,y71.2.2.config_.Full,y71.2.2.config_.Sites,y71.2.2.symbols_,y71.2.2.epoch_,y71.2.2.serial_,y71.2.2.sleepers_,y71.2.2.events_,y71.2.2.out_,y71.1.Kind,y71.1.N,y71.1.S,y71.2.2.heap_.m_.Young,y71.2.2.heap_.m_.Old,y71.2.2.heap_.roots_,y71.2.2.heap_.pending_,y71.2.2.shapes_.shapes_,y71.2.2.shapes_.next_,y71.2.2.heap_.set_.at_,A79,n79,c79,A80,n80,c80,A81,n81,c81,A72,n72,c72,A73,n73,c73,A74,n74,c74,A75,n75,c75,A77,n77,c77,M78,M76,h,J,J⟩,sA,cS [11,12,13,0,18,19,20,21,22,2,3,4,5,1,9,10,8,7,6] 23⟩
  replace h:=ah g58 h;refine Y ?_;exact ⟨_,_,⟨y18.2.1,y18.2.2.spent_.steps_,y18.2.2.spent_.made_,y18.2.2.spent_.calls_,y18.2.2.config_.Way,y18.2.2.config_.Steps,y18.2.2.config_.Calls,y18.2.2.config_.Made,y18.2.2.config_.Young,y18.2.2.config_.Full,y18.2.2.config_.Sites,y18.2.2.symbols_,y18.2.2.epoch_,y18.2.2.serial_,y18.2.2.sleepers_,y18.2.2.events_,y18.2.2.out_,y18.1.Kind,y18.1.N,y18.1.S,y18.2.2.heap_.m_.Young,y18.2.2.heap_.m_.Old,y18.2.2.heap_.roots_,y18.2.2.heap_.pending_,y18.2.2.shapes_.shapes_,y18.2.2.shapes_.next_,y18.2.2.heap_.set_.at_,A26,n26,c26,A27,n27,c27,A28,n28,c28,A19,n19,c19,A20,n20,c20,A21,n21,c21,A22,n22,c22,A24,n24,c24,M25,M23,h,J,J⟩,sA,cS [12,13,14,1,20,16,15,0,21,3,4,5,6,2,10,11,9,8,7] 22⟩
 rintro _ _ ⟨p31,p32,p33,p34,p35,p36,p37,p38,p39,p40,p41,p42,p43,p44,p45,p46,p47,p48,p49,p50,p51,p52,p53,p54,p55,p56,p57,A42,n42,c42,A46,n46,c46,A47,n47,c47,A51,n51,c51,A52,n52,c52,A53,n53,c53,A54,n54,c54,A55,n55,c55,M56,M57,h,rfl,rfl⟩;refine aC ?_;refine Y ?_;refine ar J (fun g82=> ?_) (fun g82=> ?_)
 ·replace h:=ae g82 h;refine Y ?_;refine gR (aj (us:=[iV p48,iV p49,.string p50]) 7 J J aJ J) ?_;refine gO (av (us:=[iV p48,iV p49,.string p50]) (cs':=[iV p48,iV p49,.string p50]) 6 J J J J bi J J J) ?_;rintro _ _ rfl;refine Y ?_;obtain rfl:=ao h;exact cq (rs:=[.cell 4 30,.tmp 5]) (vs:=[.agg #[iV p48,iV p49,.string p50],.bool false]) J (.cons (bB 6 J J aJ) (.cons (dR J) .nil)) J (cS [3,13,9,10,11,12,18,17,16,14,15,0,1,2] 19) ⟨_,_,_,_,_,_,_,_,_,_,_,_,_,_,_,_,_,_,_,_,_,_,_,_,_,_,J,J⟩
 replace h:=ah g82 h;refine Y ?_;refine ba (fun s L=> ∃p84 p85 p86 p87 p88 p89 p90 p91 p92 p93 p94 p95 p96 p97 p98 p99 p100 p101 p102 p103 p104 p105 p106 A94 n94 c94 A98 n98 c98 A99 n99 c99 A100 n100 c100 A101 n101 c101 A102 n102 c102 A103 n103 c103 A104 n104 c104 M105 M106,pT N a1 p48 p49 p50 p84 p85 p86 p87 p88 p89 p90 p91 p92 p93 p94 p95 p96 p97 p98 p99 p100 p101 p102 p103 p104 p105 p106=some r∧s=[(0,pV B1 0),(3,pV B16 0),(4,pV B17 0),(5,.bool false),(6,pV B29 0)]∧L=[bj A94 n94 c94 p94,cC A98 n98 c98 p98,bj A99 n99 c99 p99,ad B1 151 [iV p84,iV p85,iV p86,iV p87,iV p88,iV p89,iV p90,iV p91,iV p92,iV p93,.nilIface,pV B2 0,pV B9 0,I A94 n94 c94,iV p95,iV p96,iV p97,I A98 n98 c98,I A99 n99 c99],zW A15 n15 c15 a1.Props,ad B16 84 [.bool a1.Array,iV a1.Elements,I A15 n15 c15,.bool a1.Shut],ad B17 30 [iV 0,iV 0,.string (⟨#[]⟩)],ad B29 30 [iV p48,iV p49,.string p50],aU 0 30 [iV 8,iV 0,.string (⟨#[]⟩:ByteArray)],br A100 n100 c100 p100,br A101 n101 c101 p101,aY A102 n102 c102 p102,aY A103 n103 c103 p103,ad B2 199 [I A100 n100 c100,I A101 n101 c101,I A102 n102 c102,I A103 n103 c103,pV B7 0],cE A104 n104 c104 p104,aG aF cv M105 p105,ad B9 205 [I A104 n104 c104,.map (some M105)],aG cx cz M106 p106,ad B7 247 [.map (some M106)]]) ?_ ?_
 ·refine Y ?_
  refine ca (fun m s L=> ∃p108 p109 p110 p111 p112 p113 p114 p115 p116 p117 p118 p119 p120 p121 p122 p123 p124 p125 p126 p127 p128 p129 p130 p131 A119 n119 c119 A123 n123 c123 A124 n124 c124 A125 n125 c125 A126 n126 c126 A127 n127 c127 A128 n128 c128 A129 n129 c129 M130 M131,kS N a1 p48 p49 p50 m p108 p109 p110 p111 p112 p113 p114 p115 p116 p117 p118 p119 p120 p121 p122 p123 p124 p125 p126 p127 p128 p129 p130 p131=some r∧s=[(0,pV B1 0),(3,pV B16 0),(4,pV B17 0),(5,.bool false),(6,pV B29 0),(10,iV p108)]∧L=[bj A119 n119 c119 p119,cC A123 n123 c123 p123,bj A124 n124 c124 p124,ad B1 151 [iV p109,iV p110,iV p111,iV p112,iV p113,iV p114,iV p115,iV p116,iV p117,iV p118,.nilIface,pV B2 0,pV B9 0,I A119 n119 c119,iV p120,iV p121,iV p122,I A123 n123 c123,I A124 n124 c124],zW A15 n15 c15 a1.Props,ad B16 84 [.bool a1.Array,iV a1.Elements,I A15 n15 c15,.bool a1.Shut],ad B17 30 [iV 0,iV 0,.string (⟨#[]⟩)],ad B29 30 [iV p48,iV p49,.string p50],aU 0 30 [iV 8,iV 0,.string (⟨#[]⟩:ByteArray)],br A125 n125 c125 p125,br A126 n126 c126 p126,aY A127 n127 c127 p127,aY A128 n128 c128 p128,ad B2 199 [I A125 n125 c125,I A126 n126 c126,I A127 n127 c127,I A128 n128 c128,pV B7 0],cE A129 n129 c129 p129,aG aF cv M130 p130,ad B9 205 [I A129 n129 c129,.map (some M130)],aG cx cz M131 p131,ad B7 247 [.map (some M131)]]) N _ _ ⟨0,p32,p33,p34,p35,p36,p37,p38,p39,p40,p41,p42,p43,p44,p45,p46,p47,p51,p52,p53,p54,p55,p56,p57,A42,n42,c42,A46,n46,c46,A47,n47,c47,A51,n51,c51,A52,n52,c52,A53,n53,c53,A54,n54,c54,A55,n55,c55,M56,M57,h,J,J⟩ sA (cS [0,1,2,3,4,5,6,7,8,9,10,11,12,13,14,15,16,17,18] 19) ?_
  rintro (_|m107) _ _ ⟨p108,p109,p110,p111,p112,p113,p114,p115,p116,p117,p118,p119,p120,p121,p122,p123,p124,p125,p126,p127,p128,p129,p130,p131,A119,n119,c119,A123,n123,c123,A124,n124,c124,A125,n125,c125,A126,n126,c126,A127,n127,c127,A128,n128,c128,A129,n129,c129,M130,M131,h,rfl,rfl⟩
  ·exact bh h
  rw [kS.eq_2] at h;refine aC ?_;refine Y ?_;refine gR (bK 4 J aR J Ex) ?_;refine Y ?_;refine ar J (fun g132=> ?_) (fun g132=> ?_)
  ·replace h:=ae g132 h;refine Y ?_;refine aC ?_;refine d4 ?_;refine bF V ([bj A119 n119 c119 p119,cC A123 n123 c123 p123,bj A124 n124 c124 p124,zW A15 n15 c15 a1.Props,ad B16 84 [.bool a1.Array,iV a1.Elements,I A15 n15 c15,.bool a1.Shut],ad B17 30 [iV 0,iV 0,.string (⟨#[]⟩)],ad B29 30 [iV p48,iV p49,.string p50],aU 0 30 [iV 8,iV 0,.string (⟨#[]⟩:ByteArray)]]) (cS [0,1,2,4,5,6,7,8] 19) ?_;refine zE 0 J (au J) ?_;refine zR 1 J (aj (us:=[iV p48,iV p49,.string p50]) 6 J J aJ J) ?_;refine zE 2 J (bZ J xZ) ?_;refine zR 3 J (aZ 4 J J Dp J) ?_;refine zE 4 J (au J) ?_;obtain ⟨x133,hx133,h⟩:=aa h;obtain ⟨lx133,ux133,hx133⟩:=aH hx133;refine zR 5 J (bm 3 J aR J J Ex ce lx133 ux133) ?_;refine zR 6 J (oC 3 J aR J (toNat_lt lx133 ux133) uy) ?_;refine zR 7 J (bn (us:=bX x133.Key) 3 J aR J hx133 bI (fun _ _ _ h=>by rw [show _=_ from h];rfl)) ?_;refine zE 8 J (bZ J xZ) ?_;refine zR 9 J (aZ 4 J J Dp J) ?_;refine zE 10 J (au J) ?_;obtain ⟨x134,hx134,h⟩:=aa h;obtain ⟨lx134,ux134,hx134⟩:=aH hx134;refine zR 11 J (bm 3 J aR J J Ex ce lx134 ux134) ?_;refine zR 12 J (bn (us:=aS x134) 3 J aR J hx134 dg (fun _ _ _ h=>by rw [show _=_ from h];rfl)) ?_;obtain ⟨y135,hy135,h⟩:=aa h;refine zD 13 J (aq (Cn hy135) F7 J (ak) zf) ?_;rintro _ _ ⟨_,⟨rfl,rfl⟩,rfl⟩;refine dN (cS [0,1,2,4,5,6,7,8] 19) ?_;obtain ⟨y136,hy136,h⟩:=aa h
   refine zD 14 J (aD (oT hy136) D5 J (aB [0,1,2,8] [3,13,9,10,11,12,18,17,16,14,15] [0,1,2,4,5,6,7,8] 19 J)) ?_;rintro _ _ ⟨_,⟨A137,n137,c137,A138,n138,c138,A139,n139,c139,A140,n140,c140,M141,A142,n142,c142,M143,A144,n144,c144,A145,n145,c145,A146,n146,c146,rfl,rfl⟩,rfl⟩;refine ⟨_,cS [11,12,13,14,15,16,17,18,19,20,21] 22,(cv_tl).trans ((cv_tl).trans (cv_tl)),?_⟩;refine cV ?_;refine bw V ?_;refine Y ?_;obtain ⟨q147,h⟩:=ay h;refine gE (bC J J q147.1 q147.2) ?_;refine Y ?_;exact ⟨m107,_,_,J1 _,⟨p108+1,y136.2.2.spent_.steps_,y136.2.2.spent_.made_,y136.2.2.spent_.calls_,y136.2.2.config_.Way,y136.2.2.config_.Steps,y136.2.2.config_.Calls,y136.2.2.config_.Made,y136.2.2.config_.Young,y136.2.2.config_.Full,y136.2.2.config_.Sites,y136.2.2.symbols_,y136.2.2.epoch_,y136.2.2.serial_,y136.2.2.sleepers_,y136.2.2.events_,y136.2.2.out_,y136.2.2.heap_.m_.Young,y136.2.2.heap_.m_.Old,y136.2.2.heap_.roots_,y136.2.2.heap_.pending_,y136.2.2.shapes_.shapes_,y136.2.2.shapes_.next_,y136.2.2.heap_.set_.at_,A144,n144,c144,A145,n145,c145,A146,n146,c146,A137,n137,c137,A138,n138,c138,A139,n139,c139,A140,n140,c140,A142,n142,c142,M143,M141,h,J,J⟩,sA,cS [11,12,13,0,17,18,19,20,21,2,3,4,5,1,9,10,8,7,6] 22⟩
  replace h:=ah g132 h;refine Y ?_;exact ⟨_,_,⟨p109,p110,p111,p112,p113,p114,p115,p116,p117,p118,p119,p120,p121,p122,p123,p124,p125,p126,p127,p128,p129,p130,p131,A119,n119,c119,A123,n123,c123,A124,n124,c124,A125,n125,c125,A126,n126,c126,A127,n127,c127,A128,n128,c128,A129,n129,c129,M130,M131,h,J,J⟩,sA,cS [0,1,2,3,4,5,6,7,8,9,10,11,12,13,14,15,16,17,18] 19⟩
 rintro _ _ ⟨p84,p85,p86,p87,p88,p89,p90,p91,p92,p93,p94,p95,p96,p97,p98,p99,p100,p101,p102,p103,p104,p105,p106,A94,n94,c94,A98,n98,c98,A99,n99,c99,A100,n100,c100,A101,n101,c101,A102,n102,c102,A103,n103,c103,A104,n104,c104,M105,M106,h,rfl,rfl⟩;refine ba (fun s L=> ∃p149 p150 p151 p152 p153 p154 p155 p156 p157 p158 p159 p160 p161 p162 p163 p164 p165 p166 p167 p168 p169 p170 p171 A159 n159 c159 A163 n163 c163 A164 n164 c164 A165 n165 c165 A166 n166 c166 A167 n167 c167 A168 n168 c168 A169 n169 c169 M170 M171,mS N p48 p49 p50 p149 p150 p151 p152 p153 p154 p155 p156 p157 p158 p159 p160 p161 p162 p163 p164 p165 p166 p167 p168 p169 p170 p171=some r∧s=[(4,pV B17 0),(5,.bool false),(6,pV B29 0)]∧L=[ad B17 30 [iV 0,iV 0,.string (⟨#[]⟩)],ad B29 30 [iV p48,iV p49,.string p50],bj A159 n159 c159 p159,cC A163 n163 c163 p163,bj A164 n164 c164 p164,ad B1 151 [iV p149,iV p150,iV p151,iV p152,iV p153,iV p154,iV p155,iV p156,iV p157,iV p158,.nilIface,pV B2 0,pV B9 0,I A159 n159 c159,iV p160,iV p161,iV p162,I A163 n163 c163,I A164 n164 c164],aU 0 30 [iV 8,iV 0,.string (⟨#[]⟩:ByteArray)],br A165 n165 c165 p165,br A166 n166 c166 p166,aY A167 n167 c167 p167,aY A168 n168 c168 p168,ad B2 199 [I A165 n165 c165,I A166 n166 c166,I A167 n167 c167,I A168 n168 c168,pV B7 0],cE A169 n169 c169 p169,aG aF cv M170 p170,ad B9 205 [I A169 n169 c169,.map (some M170)],aG cx cz M171 p171,ad B7 247 [.map (some M171)]]) ?_ ?_
 ·refine Y ?_;refine ar J (fun g172=> ?_) (fun g172=> ?_)
  ·replace h:=ae g172 h;refine Y ?_;refine gR (aj (us:=[iV p48,iV p49,.string p50]) 7 J J aJ J) ?_;obtain ⟨y173,hy173,h⟩:=aa h;refine gD (aD (lh hy173) Ay J (aB [0,1,2] [3,13,9,10,11,12,18,17,16,14,15] [0,1,2,4,5,6,7,8] 19 J)) ?_;rintro _ _ ⟨_,⟨A174,n174,c174,A175,n175,c175,A176,n176,c176,A177,n177,c177,M178,A179,n179,c179,M180,A181,n181,c181,A182,n182,c182,A183,n183,c183,rfl,rfl⟩,rfl⟩;refine Y ?_;exact ⟨_,_,⟨y173.spent_.steps_,y173.spent_.made_,y173.spent_.calls_,y173.config_.Way,y173.config_.Steps,y173.config_.Calls,y173.config_.Made,y173.config_.Young,y173.config_.Full,y173.config_.Sites,y173.symbols_,y173.epoch_,y173.serial_,y173.sleepers_,y173.events_,y173.out_,y173.heap_.m_.Young,y173.heap_.m_.Old,y173.heap_.roots_,y173.heap_.pending_,y173.shapes_.shapes_,y173.shapes_.next_,y173.heap_.set_.at_,A181,n181,c181,A182,n182,c182,A183,n183,c183,A174,n174,c174,A175,n175,c175,A176,n176,c176,A177,n177,c177,A179,n179,c179,M180,M178,h,J,J⟩,sA,cS [19,20,11,12,13,0,21,2,3,4,5,1,9,10,8,7,6] 22⟩
  replace h:=ah g172 h;refine Y ?_;exact ⟨_,_,⟨p84,p85,p86,p87,p88,p89,p90,p91,p92,p93,p94,p95,p96,p97,p98,p99,p100,p101,p102,p103,p104,p105,p106,A94,n94,c94,A98,n98,c98,A99,n99,c99,A100,n100,c100,A101,n101,c101,A102,n102,c102,A103,n103,c103,A104,n104,c104,M105,M106,h,J,J⟩,sA,cS [6,7,0,1,2,3,8,9,10,11,12,13,14,15,16,17,18] 19⟩
 rintro _ _ ⟨p149,p150,p151,p152,p153,p154,p155,p156,p157,p158,p159,p160,p161,p162,p163,p164,p165,p166,p167,p168,p169,p170,p171,A159,n159,c159,A163,n163,c163,A164,n164,c164,A165,n165,c165,A166,n166,c166,A167,n167,c167,A168,n168,c168,A169,n169,c169,M170,M171,h,rfl,rfl⟩;refine Y ?_;refine gR (aj (us:=[iV p48,iV p49,.string p50]) 1 J J aJ J) ?_;refine gO (av (us:=[iV p48,iV p49,.string p50]) (cs':=[iV p48,iV p49,.string p50]) 0 J J J J bi J J J) ?_;rintro _ _ rfl;refine bP ?_;refine Y ?_;obtain rfl:=ao h;exact cq (rs:=[.cell 4 30,.tmp 5]) (vs:=[.agg #[iV p48,iV p49,.string p50],.bool true]) J (.cons (bB 0 J J aJ) (.cons (dR J) .nil)) J (cS [5,11,7,8,9,10,16,15,14,12,13,2,3,4] 17) ⟨_,_,_,_,_,_,_,_,_,_,_,_,_,_,_,_,_,_,_,_,_,_,_,_,_,_,J,J⟩
def iD (N:Nat)(a0:JL)(a1:JS):Option Bool:=
 (gi N a0 a1).bind fun y16=>some y16
theorem ri {N:Nat}{a0:JL}{a1:JS}{r:Bool}(h:iD N a0 a1=some r):Okc Tryz.prog 46 [pV B1 0,(bv a1)] ([bj A12 n12 c12 a0.symbols_,cC A13 n13 c13 a0.events_,bj A14 n14 c14 a0.out_,aU 0 30 [iV 8,iV 0,.string (⟨#[]⟩:ByteArray)],ad B1 151 [iV a0.spent_.steps_,iV a0.spent_.made_,iV a0.spent_.calls_,iV a0.config_.Way,iV a0.config_.Steps,iV a0.config_.Calls,iV a0.config_.Made,iV a0.config_.Young,iV a0.config_.Full,iV a0.config_.Sites,.nilIface,pV B2 0,pV B9 0,I A12 n12 c12,iV a0.epoch_,iV a0.serial_,iV a0.sleepers_,I A13 n13 c13,I A14 n14 c14],ad B2 199 [I A3 n3 c3,I A4 n4 c4,I A5 n5 c5,I A6 n6 c6,pV B7 0],br A3 n3 c3 a0.heap_.m_.Young,br A4 n4 c4 a0.heap_.m_.Old,aY A5 n5 c5 a0.heap_.roots_,aY A6 n6 c6 a0.heap_.pending_,ad B7 247 [.map (some M8)],aG cx cz M8 a0.heap_.set_.at_,ad B9 205 [I A10 n10 c10,.map (some M11)],cE A10 n10 c10 a0.shapes_.shapes_,aG aF cv M11 a0.shapes_.next_]) (fun u post=>u=.bool r∧post=[ad B1 151 [iV a0.spent_.steps_,iV a0.spent_.made_,iV a0.spent_.calls_,iV a0.config_.Way,iV a0.config_.Steps,iV a0.config_.Calls,iV a0.config_.Made,iV a0.config_.Young,iV a0.config_.Full,iV a0.config_.Sites,.nilIface,pV B2 0,pV B9 0,I A12 n12 c12,iV a0.epoch_,iV a0.serial_,iV a0.sleepers_,I A13 n13 c13,I A14 n14 c14],ad B2 199 [I A3 n3 c3,I A4 n4 c4,I A5 n5 c5,I A6 n6 c6,pV B7 0],br A3 n3 c3 a0.heap_.m_.Young,br A4 n4 c4 a0.heap_.m_.Old,aY A5 n5 c5 a0.heap_.roots_,aY A6 n6 c6 a0.heap_.pending_,ad B7 247 [.map (some M8)],aG cx cz M8 a0.heap_.set_.at_,ad B9 205 [I A10 n10 c10,.map (some M11)],cE A10 n10 c10 a0.shapes_.shapes_,aG aF cv M11 a0.shapes_.next_]):=by
 refine bx Tryz.func46 J J ?_;simp only [aX];refine Y ?_;refine gD (aQ J J) ?_;rintro _ _ ⟨B15,rfl,rfl⟩;refine Y ?_;refine gR (aj (us:=ax a1) 0 J J aJ J) ?_;obtain ⟨y16,hy16,h⟩:=aa h;refine gD (aD (nG hy16) BS J (aB [1,2,3,4] [5,6,7,8,9,10,11,12,13,14,15] [0,1,2,3,4] 16 J)) ?_;rintro _ _ ⟨_,⟨rfl,rfl⟩,rfl⟩;refine Y ?_;obtain rfl:=ao h;exact aN J J (cS [0,1,2,3,4,5,6,7,8,9,10] 16) ⟨J,J⟩
def rm (N:Nat)(a0:JL)(p19:(List JQ)):Option (List JQ):=
 some p19
def lT (N:Nat)(y16:((List JW)))(a0:JL)(a1:JS):Nat→(List JQ)→Int→Option (List JQ)
 |0,_,_=>none
 |m20+1,p21,p22=>bif decide (p22<(y16.length:Int)) then ((bT y16 p22).bind fun x25=>(dt N a0 a1 x25).bind fun y26=>cN ((p21.length+([y26.1]:List JQ).length)≤549755813888) (cN (bM (p22+1)) ((lT N y16 a0 a1 m20) (p21++([y26.1]:List JQ)) (p22+1)))) else (rm N a0 p21)
def js (N:Nat)(a0:JL)(a1:JS):Option (List JQ):=
 (cX N a0 a1).bind fun y16=>lT N y16 a0 a1 N [] 0
set_option maxHeartbeats 4000000 in
theorem rY {N:Nat}{a0:JL}{a1:JS}{r:(List JQ)}(h:js N a0 a1=some r):Okc Tryz.prog 51 [pV B1 0,(bv a1)] ([bj A12 n12 c12 a0.symbols_,cC A13 n13 c13 a0.events_,bj A14 n14 c14 a0.out_,aU 0 30 [iV 8,iV 0,.string (⟨#[]⟩:ByteArray)],ad B1 151 [iV a0.spent_.steps_,iV a0.spent_.made_,iV a0.spent_.calls_,iV a0.config_.Way,iV a0.config_.Steps,iV a0.config_.Calls,iV a0.config_.Made,iV a0.config_.Young,iV a0.config_.Full,iV a0.config_.Sites,.nilIface,pV B2 0,pV B9 0,I A12 n12 c12,iV a0.epoch_,iV a0.serial_,iV a0.sleepers_,I A13 n13 c13,I A14 n14 c14],ad B2 199 [I A3 n3 c3,I A4 n4 c4,I A5 n5 c5,I A6 n6 c6,pV B7 0],br A3 n3 c3 a0.heap_.m_.Young,br A4 n4 c4 a0.heap_.m_.Old,aY A5 n5 c5 a0.heap_.roots_,aY A6 n6 c6 a0.heap_.pending_,ad B7 247 [.map (some M8)],aG cx cz M8 a0.heap_.set_.at_,ad B9 205 [I A10 n10 c10,.map (some M11)],cE A10 n10 c10 a0.shapes_.shapes_,aG aF cv M11 a0.shapes_.next_]) (fun u post=> ∃A500 n500 c500,u=I A500 n500 c500∧post=[tp A500 n500 c500 r,ad B1 151 [iV a0.spent_.steps_,iV a0.spent_.made_,iV a0.spent_.calls_,iV a0.config_.Way,iV a0.config_.Steps,iV a0.config_.Calls,iV a0.config_.Made,iV a0.config_.Young,iV a0.config_.Full,iV a0.config_.Sites,.nilIface,pV B2 0,pV B9 0,I A12 n12 c12,iV a0.epoch_,iV a0.serial_,iV a0.sleepers_,I A13 n13 c13,I A14 n14 c14],ad B2 199 [I A3 n3 c3,I A4 n4 c4,I A5 n5 c5,I A6 n6 c6,pV B7 0],br A3 n3 c3 a0.heap_.m_.Young,br A4 n4 c4 a0.heap_.m_.Old,aY A5 n5 c5 a0.heap_.roots_,aY A6 n6 c6 a0.heap_.pending_,ad B7 247 [.map (some M8)],aG cx cz M8 a0.heap_.set_.at_,ad B9 205 [I A10 n10 c10,.map (some M11)],cE A10 n10 c10 a0.shapes_.shapes_,aG aF cv M11 a0.shapes_.next_]):=by
 refine bx Tryz.func51 J J ?_;simp only [aX];refine Y ?_;refine gD (aQ J J) ?_;rintro _ _ ⟨B15,rfl,rfl⟩;refine Y ?_;refine gR (aj (us:=ax a1) 0 J J aJ J) ?_;obtain ⟨y16,hy16,h⟩:=aa h;refine gD (aD (ld hy16) yo J (aB [1,2,3,4] [5,6,7,8,9,10,11,12,13,14,15] [0,1,2,3,4] 16 J)) ?_;rintro _ _ ⟨_,⟨A17,n17,c17,rfl,rfl⟩,rfl⟩;refine Y ?_;refine ba (fun s L=> ∃p19 A19 n19 c19,rm N a0 p19=some r∧s=[(4,I none 0 0),(5,I A19 n19 c19)]∧L=[tp A19 n19 c19 p19,aU 0 30 [iV 8,iV 0,.string (⟨#[]⟩:ByteArray)],bj A12 n12 c12 a0.symbols_,cC A13 n13 c13 a0.events_,bj A14 n14 c14 a0.out_,ad B1 151 [iV a0.spent_.steps_,iV a0.spent_.made_,iV a0.spent_.calls_,iV a0.config_.Way,iV a0.config_.Steps,iV a0.config_.Calls,iV a0.config_.Made,iV a0.config_.Young,iV a0.config_.Full,iV a0.config_.Sites,.nilIface,pV B2 0,pV B9 0,I A12 n12 c12,iV a0.epoch_,iV a0.serial_,iV a0.sleepers_,I A13 n13 c13,I A14 n14 c14],br A3 n3 c3 a0.heap_.m_.Young,br A4 n4 c4 a0.heap_.m_.Old,aY A5 n5 c5 a0.heap_.roots_,aY A6 n6 c6 a0.heap_.pending_,ad B2 199 [I A3 n3 c3,I A4 n4 c4,I A5 n5 c5,I A6 n6 c6,pV B7 0],cE A10 n10 c10 a0.shapes_.shapes_,aG aF cv M11 a0.shapes_.next_,ad B9 205 [I A10 n10 c10,.map (some M11)],aG cx cz M8 a0.heap_.set_.at_,ad B7 247 [.map (some M8)]]) ?_ ?_
 ·refine Y ?_;refine ca (fun m s L=> ∃p21 p22 A21 n21 c21,lT N y16 a0 a1 m p21 p22=some r∧s=[(0,pV B1 0),(3,pV B15 0),(4,I none 0 0),(5,I A21 n21 c21),(6,I A17 n17 c17),(7,iV p22)]∧L=[tp A21 n21 c21 p21,iN A17 n17 c17 y16,bj A12 n12 c12 a0.symbols_,cC A13 n13 c13 a0.events_,bj A14 n14 c14 a0.out_,ad B1 151 [iV a0.spent_.steps_,iV a0.spent_.made_,iV a0.spent_.calls_,iV a0.config_.Way,iV a0.config_.Steps,iV a0.config_.Calls,iV a0.config_.Made,iV a0.config_.Young,iV a0.config_.Full,iV a0.config_.Sites,.nilIface,pV B2 0,pV B9 0,I A12 n12 c12,iV a0.epoch_,iV a0.serial_,iV a0.sleepers_,I A13 n13 c13,I A14 n14 c14],ad B15 30 (ax a1),aU 0 30 [iV 8,iV 0,.string (⟨#[]⟩:ByteArray)],br A3 n3 c3 a0.heap_.m_.Young,br A4 n4 c4 a0.heap_.m_.Old,aY A5 n5 c5 a0.heap_.roots_,aY A6 n6 c6 a0.heap_.pending_,ad B2 199 [I A3 n3 c3,I A4 n4 c4,I A5 n5 c5,I A6 n6 c6,pV B7 0],cE A10 n10 c10 a0.shapes_.shapes_,aG aF cv M11 a0.shapes_.next_,ad B9 205 [I A10 n10 c10,.map (some M11)],aG cx cz M8 a0.heap_.set_.at_,ad B7 247 [.map (some M8)]]) N _ _ ⟨[],0,none,0,0,h,J,J⟩ sA ((fL nB 42 _).trans (cS [0,1,14,15,16,2,13,17,4,5,6,7,3,11,12,10,9,8] 18)) ?_;rintro (_|m20) _ _ ⟨p21,p22,A21,n21,c21,h,rfl,rfl⟩
  ·exact bh h
  rw [lT.eq_2] at h;refine aC ?_;refine Y ?_;refine gR (bK 1 J aE J Jz) ?_;refine Y ?_;refine ar J (fun g24=> ?_) (fun g24=> ?_)
  ·replace h:=ae g24 h;refine Y ?_;refine aC ?_;refine d4 ?_;refine aC ?_;obtain ⟨x25,hx25,h⟩:=aa h;obtain ⟨lx25,ux25,hx25⟩:=aH hx25;obtain ⟨y26,hy26,h⟩:=aa h;refine gK (t:=[(0,pV B1 0),(3,pV B15 0),(4,I none 0 0),(5,I A21 n21 c21),(6,I A17 n17 c17),(7,iV p22)]) ?_ jr (ai _)
   refine ge V 11 [9] [8,9,10] [20,21,22,23,24,25,26,19,27,28,8] [[],[],[],[],[2,3],[4],[0,1,5],[6],[7],[7],[]] [aV (pV B1 0),
 aV ((bv a1)),
 aV (I A17 n17 c17),
 aV (iV p22),
 aV (eA (I A17 n17 c17) p22.toNat 3 0),
 aV (.agg #[iV x25.Kind,iV x25.N,.string x25.S]),
 aV (.tuple #[(bE y26.1),.bool y26.2]),
 aV (.tuple #[(bE y26.1),.bool y26.2]),
 aV ((bE y26.1)),
 aV (.bool y26.2),
 aX1 (fun (B28:Nat)=>pV B28 0) (fun B28=> [ad B28 42 [iV 0,iV 0,.string (⟨#[]⟩),iV 0,iV 0,iV 0,.string (⟨#[]⟩),iV 0,iV 0,.string (⟨#[]⟩),iV 0,iV 0,.string (⟨#[]⟩)]])] [] (ai _) (eg rfl i5) V rfl rfl ?_ ?_ ?_
   ·refine ef J ?_ ?_
    ·exact jq (bq J J) J (bd J (ai _))
    exact i4
   ·refine al J ?_ ?_
    ·refine kJ (aO dx J) J ?_;rintro _ _ ⟨B27,rfl,rfl⟩;exact yi B27 (ai _)
    refine al J ?_ ?_
    ·exact bV (bq J J) J (bd J (ai _))
    refine al J ?_ ?_
    ·exact bV (bq J J) J (bd J (ai _))
    refine al J ?_ ?_
    ·exact bV (au J) J (bd J (ai _))
    refine al J ?_ ?_
    ·refine kJ (aD (i2 hy26) tA J (aB [2,3,4,7] [5,12,8,9,10,11,17,16,15,13,14] [0,1,2,3,4,6,7] 18 J)) J ?_;rintro _ _ ⟨_,⟨rfl,rfl⟩,rfl⟩;exact bd J (cS [11,12,13,14,15,0,16,17,2,3,4,5,1,9,10,8,7,6] 18)
    refine al J ?_ ?_
    ·exact fq (bn (us:=[iV x25.Kind,iV x25.N,.string x25.S]) 1 J aE J hx25 bI (fun _ _ _ h=>by rw [show _=_ from h];rfl)) J (bd J (ai _))
    refine al J ?_ ?_
    ·exact fq (bm 1 J aE J J Jz cF lx25 ux25) J (bd J (ai _))
    refine al J ?_ ?_
    ·exact bV (au J) J (bd J (ai _))
    refine al J ?_ ?_
    ·exact bV (au J) J (bd J (ai _))
    refine al J ?_ ?_
    ·exact fq (aj (us:=ax a1) 6 J J aJ J) J (bd J (ai _))
    refine al J ?_ ?_
    ·exact bV (au J) J (bd J (ai _))
    exact dV
   intro B28;refine lz (t:=[(27,(bE y26.1)),(28,.bool y26.2),(8,pV B28 0),(0,pV B1 0),(3,pV B15 0),(4,I none 0 0),(5,I A21 n21 c21),(6,I A17 n17 c17),(7,iV p22)]) (L':=[ad B28 42 [iV 0,iV 0,.string (⟨#[]⟩),iV 0,iV 0,iV 0,.string (⟨#[]⟩),iV 0,iV 0,.string (⟨#[]⟩),iV 0,iV 0,.string (⟨#[]⟩)],tp A21 n21 c21 p21,iN A17 n17 c17 y16,bj A12 n12 c12 a0.symbols_,cC A13 n13 c13 a0.events_,bj A14 n14 c14 a0.out_,ad B1 151 [iV a0.spent_.steps_,iV a0.spent_.made_,iV a0.spent_.calls_,iV a0.config_.Way,iV a0.config_.Steps,iV a0.config_.Calls,iV a0.config_.Made,iV a0.config_.Young,iV a0.config_.Full,iV a0.config_.Sites,.nilIface,pV B2 0,pV B9 0,I A12 n12 c12,iV a0.epoch_,iV a0.serial_,iV a0.sleepers_,I A13 n13 c13,I A14 n14 c14],ad B15 30 (ax a1),aU 0 30 [iV 8,iV 0,.string (⟨#[]⟩:ByteArray)],br A3 n3 c3 a0.heap_.m_.Young,br A4 n4 c4 a0.heap_.m_.Old,aY A5 n5 c5 a0.heap_.roots_,aY A6 n6 c6 a0.heap_.pending_,ad B2 199 [I A3 n3 c3,I A4 n4 c4,I A5 n5 c5,I A6 n6 c6,pV B7 0],cE A10 n10 c10 a0.shapes_.shapes_,aG aF cv M11 a0.shapes_.next_,ad B9 205 [I A10 n10 c10,.map (some M11)],aG cx cz M8 a0.heap_.set_.at_,ad B7 247 [.map (some M8)]]) ?_ jr (ai _);refine kO 11 J V (av (us:=aS y26.1) (cs':=aS y26.1) 0 J J J J ce J J J) J J ?_;rintro _ _ rfl;refine rV 12 J V (bg J) J J J ?_;refine jd V ?_;refine Y ?_;refine gR (aj (us:=aS y26.1) 0 J J dg J) ?_
   refine gD (co (R:=nB) (vss:=[(aS y26.1)]) (xs:=[y26.1]) J (zJ _ _ _ _ _ _ _ _ _ _ _ _ _) J J (fun _ _ hr=> .cons J All2.nil)) ?_;rintro _ _ ⟨A29,n29,c29,rfl,rfl⟩;obtain ⟨q30,h⟩:=ay h;refine gD (rN 2 0 J J aE J J Ex H0 J J J q30) ?_;rintro _ _ ⟨A31,n31,c31,rfl,rfl⟩;refine bP ?_;refine Y ?_;obtain ⟨q32,h⟩:=ay h;refine gE (bC J J q32.1 q32.2) ?_;refine Y ?_;exact ⟨m20,_,_,J1 _,⟨p21++([y26.1]:List JQ),p22+1,A31,n31,c31,h,J,J⟩,sA,cS [2,3,4,5,6,7,8,9,10,11,12,13,14,15,16,17,18,19] 20⟩
  replace h:=ah g24 h;refine Y ?_;exact ⟨_,_,⟨p21,A21,n21,c21,h,J,J⟩,sA,cS [0,7,2,3,4,5,8,9,10,11,12,13,14,15,16,17] 18⟩
 rintro _ _ ⟨p19,A19,n19,c19,h,rfl,rfl⟩;refine Y ?_;obtain rfl:=ao h;exact aN J J (cS [0,5,10,6,7,8,9,15,14,13,11,12] 16) ⟨_,_,_,J,J⟩
def tN (N:Nat):Option Bool:=
 some true
def nY (N:Nat)(a0:(List JQ))(a1:(List JQ)):Nat→Int→Option Bool
 |0,_=>none
 |m5+1,p6=>bif decide (p6<(a0.length:Int)) then ((bT a0 p6).bind fun x8=>(bT a1 p6).bind fun x9=>bif !decide (x8=x9) then (some false) else (cN (bM (p6+1)) ((nY N a0 a1 m5) (p6+1)))) else (tN N)
def o9 (N:Nat)(a0:(List JQ))(a1:(List JQ)):Option Bool:=
 bif !decide ((a0.length:Int)=(a1.length:Int)) then (some false) else (nY N a0 a1 N 0)
theorem ze {N:Nat}{a0:(List JQ)}{a1:(List JQ)}{r:Bool}(h:o9 N a0 a1=some r):Okc Tryz.prog 52 [I A1 n1 c1,I A2 n2 c2] ([zW A1 n1 c1 a0,zW A2 n2 c2 a1]) (fun u post=>u=.bool r∧post=[]):=by
 refine bx Tryz.func52 J J ?_;simp only [aX];refine Y ?_;refine aC ?_;refine Y ?_;refine gR (bK 0 J aR J Ex) ?_;refine Y ?_;refine gR (bK 1 J aR J Ex) ?_;refine Y ?_;refine ar J (fun g3=> ?_) (fun g3=> ?_)
 ·replace h:=ae g3 h;refine Y ?_;obtain rfl:=ao h;exact aN J J (cS [] 2) ⟨J,J⟩
 replace h:=ah g3 h;refine Y ?_;refine ba (fun s L=>tN N=some r∧s=[(4,.bool false)]∧L=[]) ?_ ?_
 ·refine Y ?_;refine ca (fun m s L=> ∃p6,nY N a0 a1 m p6=some r∧s=[(0,I A1 n1 c1),(1,I A2 n2 c2),(4,.bool false),(5,iV p6)]∧L=[zW A1 n1 c1 a0,zW A2 n2 c2 a1]) N _ _ ⟨0,h,J,J⟩ sA (cS [0,1] 2) ?_;rintro (_|m5) _ _ ⟨p6,h,rfl,rfl⟩
  ·exact bh h
  rw [nY.eq_2] at h;refine aC ?_;refine Y ?_;refine gR (bK 0 J aR J Ex) ?_;refine Y ?_;refine ar J (fun g7=> ?_) (fun g7=> ?_)
  ·replace h:=ae g7 h;refine Y ?_;refine aC ?_;refine d4 ?_;refine aC ?_;refine bF V _ (ai _) ?_;refine zE 0 J (au J) ?_;refine zE 1 J (au J) ?_;obtain ⟨x8,hx8,h⟩:=aa h;obtain ⟨lx8,ux8,hx8⟩:=aH hx8;refine zR 2 J (bm 0 J aR J J Ex ce lx8 ux8) ?_;refine zR 3 J (bn (us:=aS x8) 0 J aR J hx8 dg (fun _ _ _ h=>by rw [show _=_ from h];rfl)) ?_;refine zE 4 J (au J) ?_;refine zE 5 J (au J) ?_;obtain ⟨x9,hx9,h⟩:=aa h;obtain ⟨lx9,ux9,hx9⟩:=aH hx9;refine zR 6 J (bm 1 J aR J J Ex ce lx9 ux9) ?_;refine zR 7 J (bn (us:=aS x9) 1 J aR J hx9 dg (fun _ _ _ h=>by rw [show _=_ from h];rfl)) ?_;refine zE 8 J (CK (x:=x8) (y:=x9) J J) ?_;refine bw V ?_;refine eh ?_;refine ar J (fun g10=> ?_) (fun g10=> ?_)
   ·replace h:=ae g10 h;refine Y ?_;obtain rfl:=ao h;exact aN J J (cS [] 2) ⟨J,J⟩
   replace h:=ah g10 h;refine Y ?_;obtain ⟨q11,h⟩:=ay h;refine gE (bC J J q11.1 q11.2) ?_;refine Y ?_;exact ⟨m5,_,_,J1 _,⟨p6+1,h,J,J⟩,sA,cS [0,1] 2⟩
  replace h:=ah g7 h;refine Y ?_;exact ⟨_,_,⟨h,J,J⟩,sA,cS [] 2⟩
 rintro _ _ ⟨h,rfl,rfl⟩;refine Y ?_;obtain rfl:=ao h;exact aN J J (cS [] 0) ⟨J,J⟩
theorem ww {r:Bool}: ∀v post,((fun (u:Value) (post:List Chunk)=>u=.bool r∧post=[])) v post→ ∀c∈post,cB c:=by
 rintro _ _ ⟨rfl,rfl⟩;exact ak
def ir (N:Nat):Option Bool:=
 (il N).bind fun y90=>some y90
def fI (N:Nat)(y22:(JS×Bool×JL)):Nat→Int→Int→Int→Int→Int→Int→Int→Int→Int→Int→Int→(List ByteArray)→Int→Int→Int→(List JR)→(List ByteArray)→(List JU)→(List JU)→(List JS)→(List JS)→(List JG)→(List (JK×Int))→(List (Int×Bool))→Option Bool
 |0,_,_,_,_,_,_,_,_,_,_,_,_,_,_,_,_,_,_,_,_,_,_,_,_=>none
 |m37+1,p38,p39,p40,p41,p42,p43,p44,p45,p46,p47,p48,p49,p50,p51,p52,p53,p54,p55,p56,p57,p58,p59,p60,p61=>bif decide (p38<2) then ((fX N (⟨(⟨p39,p40,p41⟩:JH),(⟨p42,p43,p44,p45,p46,p47,p48⟩:JO),(),(⟨(⟨p55,p56⟩:JN),p57,p58,(⟨p61⟩:JI)⟩:JJ),(⟨p59,p60⟩:JP),p49,p50,p51,p52,p53,p54⟩:JL) y22.1).bind fun y63=>(iD N (⟨(⟨p39,p40,p41⟩:JH),(⟨p42,p43,p44,p45,p46,p47,p48⟩:JO),(),(⟨(⟨p55,p56⟩:JN),p57,p58,(⟨p61⟩:JI)⟩:JJ),(⟨p59,p60⟩:JP),p49,p50,p51,p52,p53,p54⟩:JL) y22.1).bind fun y64=>(bif y63 then (some (!y64)) else (some false)).bind fun b65=>(bif b65 then (some true) else ((bif y64 then ((gz N (⟨(⟨p39,p40,p41⟩:JH),(⟨p42,p43,p44,p45,p46,p47,p48⟩:JO),(),(⟨(⟨p55,p56⟩:JN),p57,p58,(⟨p61⟩:JI)⟩:JJ),(⟨p59,p60⟩:JP),p49,p50,p51,p52,p53,p54⟩:JL) y22.1).bind fun y68=>some y68) else (some false)).bind fun b67=>some b67)).bind fun b66=>bif b66 then (some false) else ((js N (⟨(⟨p39,p40,p41⟩:JH),(⟨p42,p43,p44,p45,p46,p47,p48⟩:JO),(),(⟨(⟨p55,p56⟩:JN),p57,p58,(⟨p61⟩:JI)⟩:JJ),(⟨p59,p60⟩:JP),p49,p50,p51,p52,p53,p54⟩:JL) y22.1).bind fun y70=>(fQ N (⟨(⟨p39,p40,p41⟩:JH),(⟨p42,p43,p44,p45,p46,p47,p48⟩:JO),(),(⟨(⟨p55,p56⟩:JN),p57,p58,(⟨p61⟩:JI)⟩:JJ),(⟨p59,p60⟩:JP),p49,p50,p51,p52,p53,p54⟩:JL) y22.1).bind fun y72=>(gz N y72 y22.1).bind fun y83=>(bif y83 then (some true) else ((js N y72 y22.1).bind fun y85=>(o9 N y70 y85).bind fun y87=>some (!y87))).bind fun b84=>bif b84 then (some false) else (cN (bM (p38+1)) ((fI N y22 m37) (p38+1) y72.spent_.steps_ y72.spent_.made_ y72.spent_.calls_ y72.config_.Way y72.config_.Steps y72.config_.Calls y72.config_.Made y72.config_.Young y72.config_.Full y72.config_.Sites y72.symbols_ y72.epoch_ y72.serial_ y72.sleepers_ y72.events_ y72.out_ y72.heap_.m_.Young y72.heap_.m_.Old y72.heap_.roots_ y72.heap_.pending_ y72.shapes_.shapes_ y72.shapes_.next_ y72.heap_.set_.at_)))) else (ir N)
def gm (N:Nat)(a0:JV):Option Bool:=
 (nn N).bind fun y3=>xz y3 (fun y3_0=>(il N).bind fun y4=>some y4) (fun y3_1=>(mc N a0).bind fun y19=>bif !y19 then ((il N).bind fun y21=>some y21) else ((qK N y3_1 a0).bind fun y22=>bif !y22.2.1 then ((il N).bind fun y35=>some y35) else (fI N y22 N 0 y22.2.2.spent_.steps_ y22.2.2.spent_.made_ y22.2.2.spent_.calls_ y22.2.2.config_.Way y22.2.2.config_.Steps y22.2.2.config_.Calls y22.2.2.config_.Made y22.2.2.config_.Young y22.2.2.config_.Full y22.2.2.config_.Sites y22.2.2.symbols_ y22.2.2.epoch_ y22.2.2.serial_ y22.2.2.sleepers_ y22.2.2.events_ y22.2.2.out_ y22.2.2.heap_.m_.Young y22.2.2.heap_.m_.Old y22.2.2.heap_.roots_ y22.2.2.heap_.pending_ y22.2.2.shapes_.shapes_ y22.2.2.shapes_.next_ y22.2.2.heap_.set_.at_)))
set_option maxHeartbeats 4000000 in
theorem pM {N:Nat}{a0:JV}{r:Bool}(h:gm N a0=some r):Okc Tryz.prog 7 [.agg #[.bool a0.Array,iV a0.Elements,I A1 n1 c1,.bool a0.Shut]] ([zW A1 n1 c1 a0.Props,aU 0 30 [iV 8,iV 0,.string (⟨#[]⟩:ByteArray)]]) (fun u post=>u=.bool r∧post=[]):=by
 refine bx JB J J ?_;simp only [aX];refine Y ?_;refine gD (aQ J J) ?_;rintro _ _ ⟨B2,rfl,rfl⟩;refine Y ?_;obtain ⟨y3,hy3,h⟩:=aa h;rcases y3 with y3_0|y3_1
 ·replace h:=yX h;refine gD (aD (nT hy3) yq J (aB [] [] [0,1,2] 3 J)) ?_;rintro _ _ ⟨_,⟨rfl,rfl⟩,rfl⟩;refine Y ?_;refine aC ?_;refine Y ?_;refine gE (ee J hU) ?_;refine Y ?_;refine iW J ?_;refine Y ?_;obtain ⟨y4,hy4,h⟩:=aa h;refine gD (aq (mR hy4) yp J (hD (am (i:=2) J J) ak) kR) ?_;rintro _ _ ⟨_,⟨rfl,rfl⟩,rfl⟩;refine Y ?_;obtain rfl:=ao h;exact aN J J (cS [] 3) ⟨J,J⟩
 replace h:=yW h;refine gD (aD (nT hy3) yq J (aB [] [] [0,1,2] 3 J)) ?_;rintro _ _ ⟨_,⟨B5,B6,A7,n7,c7,A8,n8,c8,A9,n9,c9,A10,n10,c10,B11,M12,B13,A14,n14,c14,M15,A16,n16,c16,A17,n17,c17,A18,n18,c18,rfl,rfl⟩,rfl⟩;refine Y ?_;refine aC ?_;refine Y ?_;refine gE (ee J hU) ?_;refine Y ?_;refine gR (aj (us:=[.bool a0.Array,iV a0.Elements,I A1 n1 c1,.bool a0.Shut]) 14 J J GN J) ?_;obtain ⟨y19,hy19,h⟩:=aa h;refine gD (aq (xu hy19) HC J (hD (am (i:=15) J J) ak) uM) ?_;rintro _ _ ⟨_,⟨rfl,rfl⟩,rfl⟩;refine Y ?_;refine ar J (fun g20=> ?_) (fun g20=> ?_)
 ·replace h:=ae g20 h;refine Y ?_;obtain ⟨y21,hy21,h⟩:=aa h;refine gD (aq (mR hy21) yp J (hD (am (i:=16) J J) ak) kR) ?_;rintro _ _ ⟨_,⟨rfl,rfl⟩,rfl⟩;refine Y ?_;obtain rfl:=ao h;exact aN J J (cS [] 17) ⟨J,J⟩
 replace h:=ah g20 h;refine Y ?_;refine gR (aj (us:=[.bool a0.Array,iV a0.Elements,I A1 n1 c1,.bool a0.Shut]) 14 J J GN J) ?_;obtain ⟨y22,hy22,h⟩:=aa h;refine gD (aD (zY hy22) HB J (aB [11,12,13,15,16] [0,1,2,3,4,5,6,7,8,9,10] [11,12,13,14,15,16] 17 J)) ?_;rintro _ _ ⟨_,⟨A23,n23,c23,A24,n24,c24,A25,n25,c25,A26,n26,c26,M27,A28,n28,c28,M29,A30,n30,c30,A31,n31,c31,A32,n32,c32,rfl,rfl⟩,rfl⟩;refine bP ?_;refine Y ?_;refine gD (aO fH J) ?_;rintro _ _ ⟨B33,rfl,rfl⟩;refine gO (av (us:=[iV y22.1.Kind,iV y22.1.N,.string y22.1.S]) (cs':=[iV y22.1.Kind,iV y22.1.N,.string y22.1.S]) 0 J J J J bi J J J) ?_;rintro _ _ rfl;refine Y ?_;refine aC ?_;refine Y ?_;refine ar J (fun g34=> ?_) (fun g34=> ?_)
 ·replace h:=ae g34 h;refine Y ?_;obtain ⟨y35,hy35,h⟩:=aa h;refine gD (aq (mR hy35) yp J (hD (am (i:=20) J J) ak) kR) ?_;rintro _ _ ⟨_,⟨rfl,rfl⟩,rfl⟩;refine Y ?_;obtain rfl:=ao h;exact aN J J (cS [] 21) ⟨J,J⟩
 replace h:=ah g34 h;refine Y ?_;refine ba (fun s L=>ir N=some r∧s=[(2,.bool false)]∧L=[aU 0 30 [iV 8,iV 0,.string (⟨#[]⟩:ByteArray)]]) ?_ ?_
 ·refine Y ?_
  refine ca (fun m s L=> ∃p38 p39 p40 p41 p42 p43 p44 p45 p46 p47 p48 p49 p50 p51 p52 p53 p54 p55 p56 p57 p58 p59 p60 p61 A49 n49 c49 A53 n53 c53 A54 n54 c54 A55 n55 c55 A56 n56 c56 A57 n57 c57 A58 n58 c58 A59 n59 c59 M60 M61,fI N y22 m p38 p39 p40 p41 p42 p43 p44 p45 p46 p47 p48 p49 p50 p51 p52 p53 p54 p55 p56 p57 p58 p59 p60 p61=some r∧s=[(2,.bool false),(3,pV B5 0),(4,pV B33 0),(6,iV p38)]∧L=[bj A49 n49 c49 p49,cC A53 n53 c53 p53,bj A54 n54 c54 p54,ad B5 151 [iV p39,iV p40,iV p41,iV p42,iV p43,iV p44,iV p45,iV p46,iV p47,iV p48,.nilIface,pV B6 0,pV B13 0,I A49 n49 c49,iV p50,iV p51,iV p52,I A53 n53 c53,I A54 n54 c54],ad B33 30 [iV y22.1.Kind,iV y22.1.N,.string y22.1.S],aU 0 30 [iV 8,iV 0,.string (⟨#[]⟩:ByteArray)],br A55 n55 c55 p55,br A56 n56 c56 p56,aY A57 n57 c57 p57,aY A58 n58 c58 p58,ad B6 199 [I A55 n55 c55,I A56 n56 c56,I A57 n57 c57,I A58 n58 c58,pV B11 0],cE A59 n59 c59 p59,aG aF cv M60 p60,ad B13 205 [I A59 n59 c59,.map (some M60)],aG cx cz M61 p61,ad B11 247 [.map (some M61)]]) N _ _ ⟨0,y22.2.2.spent_.steps_,y22.2.2.spent_.made_,y22.2.2.spent_.calls_,y22.2.2.config_.Way,y22.2.2.config_.Steps,y22.2.2.config_.Calls,y22.2.2.config_.Made,y22.2.2.config_.Young,y22.2.2.config_.Full,y22.2.2.config_.Sites,y22.2.2.symbols_,y22.2.2.epoch_,y22.2.2.serial_,y22.2.2.sleepers_,y22.2.2.events_,y22.2.2.out_,y22.2.2.heap_.m_.Young,y22.2.2.heap_.m_.Old,y22.2.2.heap_.roots_,y22.2.2.heap_.pending_,y22.2.2.shapes_.shapes_,y22.2.2.shapes_.next_,y22.2.2.heap_.set_.at_,A30,n30,c30,A31,n31,c31,A32,n32,c32,A23,n23,c23,A24,n24,c24,A25,n25,c25,A26,n26,c26,A28,n28,c28,M29,M27,h,J,J⟩ sA (cS [12,13,14,1,0,20,3,4,5,6,2,10,11,9,8,7] 21) ?_
  rintro (_|m37) _ _ ⟨p38,p39,p40,p41,p42,p43,p44,p45,p46,p47,p48,p49,p50,p51,p52,p53,p54,p55,p56,p57,p58,p59,p60,p61,A49,n49,c49,A53,n53,c53,A54,n54,c54,A55,n55,c55,A56,n56,c56,A57,n57,c57,A58,n58,c58,A59,n59,c59,M60,M61,h,rfl,rfl⟩
  ·exact bh h
  rw [fI.eq_2] at h;refine aC ?_;refine Y ?_;refine ar J (fun g62=> ?_) (fun g62=> ?_)
  ·replace h:=ae g62 h;refine Y ?_;refine aC ?_;refine d4 ?_;refine aC ?_;refine bF V _ (ai _) ?_;refine zE 0 J (au J) ?_;refine zR 1 J (aj (us:=[iV y22.1.Kind,iV y22.1.N,.string y22.1.S]) 4 J J aJ J) ?_;refine zE 3 J (au J) ?_;refine zR 4 J (aj (us:=[iV y22.1.Kind,iV y22.1.N,.string y22.1.S]) 4 J J aJ J) ?_;obtain ⟨y63,hy63,h⟩:=aa h;refine zD 2 J (aD (mO hy63) D1 J (aB [0,1,2,5] [3,10,6,7,8,9,15,14,13,11,12] [0,1,2,4,5] 16 J)) ?_;rintro _ _ ⟨_,⟨rfl,rfl⟩,rfl⟩;refine dN (cS [11,12,13,0,14,15,2,3,4,5,1,9,10,8,7,6] 16) ?_;refine cV ?_;obtain ⟨y64,hy64,h⟩:=aa h;refine zD 5 J (aD (ri hy64) HD J (aB [11,12,13,15] [0,1,2,3,4,5,6,7,8,9,10] [11,12,13,14,15] 16 J)) ?_;rintro _ _ ⟨_,⟨rfl,rfl⟩,rfl⟩;refine dN (cS [11,12,13,0,14,15,2,3,4,5,1,9,10,8,7,6] 16) ?_;refine cV ?_;refine zE 6 J (bg J) ?_;refine zE 7 J (bg J) ?_;refine bw V ?_;refine eh ?_;refine aC ?_;refine Y ?_;obtain ⟨b65,hb65,h⟩:=aa h;refine aK 3 42 b65 ?_ ?_
   ·clear h;refine aI 39 J (fun g65=> ?_) (fun g65=> ?_)
    ·have h:=ae g65 hb65;refine Y ?_;obtain rfl:=ao h;exact ac sA (cS [0,1,2,3,4,5,6,7,8,9,10,11,12,13,14,15] 16)
    have h:=ah g65 hb65;refine Y ?_;obtain rfl:=ao h;exact ac sA (cS [0,1,2,3,4,5,6,7,8,9,10,11,12,13,14,15] 16)
   refine Y ?_;obtain ⟨b66,hb66,h⟩:=aa h;refine aK 7 50 b66 ?_ ?_
   ·clear h;refine aI 43 J (fun g66=> ?_) (fun g66=> ?_)
    ·have h:=ae g66 hb66;refine Y ?_;obtain rfl:=ao h;exact ac sA (cS [0,1,2,3,4,5,6,7,8,9,10,11,12,13,14,15] 16)
    have h:=ah g66 hb66;refine Y ?_;obtain ⟨b67,hb67,h⟩:=aa h;refine aK 4 49 b67 ?_ ?_
    ·clear h;refine aI 45 J (fun g67=> ?_) (fun g67=> ?_)
     ·have h:=ae g67 hb67;refine Y ?_;refine ck (aj (us:=[iV y22.1.Kind,iV y22.1.N,.string y22.1.S]) 14 J J aJ J) J (bp g67 J) J ?_;obtain ⟨y68,hy68,h⟩:=aa h;refine cL (aD (kk hy68) wh J (aB [11,12,13] [0,1,2,3,4,5,6,7,8,9,10] [11,12,13,14,15] 16 J)) J (bp g67 J) J ?_;rintro _ _ ⟨_,⟨rfl,rfl⟩,rfl⟩;refine Y ?_;obtain rfl:=ao h;exact ac sA (cS [0,1,2,3,4,5,6,7,8,9,10,11,12,13,14,15] 16)
     have h:=ah g67 hb67;refine Y ?_;obtain rfl:=ao h;exact ac sA (cS [0,1,2,3,4,5,6,7,8,9,10,11,12,13,14,15] 16)
    refine Y ?_;obtain rfl:=ao h;exact ac sA (cS [0,1,2,3,4,5,6,7,8,9,10,11,12,13,14,15] 16)
   refine Y ?_;refine ar J (fun g69=> ?_) (fun g69=> ?_)
   ·replace h:=ae g69 h;refine Y ?_;obtain rfl:=ao h;exact aN J J (cS [] 16) ⟨J,J⟩
   replace h:=ah g69 h;refine Y ?_;refine gR (aj (us:=[iV y22.1.Kind,iV y22.1.N,.string y22.1.S]) 14 J J aJ J) ?_;obtain ⟨y70,hy70,h⟩:=aa h;refine gD (aD (rY hy70) D0 J (aB [11,12,13,15] [0,1,2,3,4,5,6,7,8,9,10] [11,12,13,14,15] 16 J)) ?_;rintro _ _ ⟨_,⟨A71,n71,c71,rfl,rfl⟩,rfl⟩;refine bP ?_;refine Y ?_;refine gR (aj (us:=[iV y22.1.Kind,iV y22.1.N,.string y22.1.S]) 15 J J aJ J) ?_;obtain ⟨y72,hy72,h⟩:=aa h;refine gD (aD (lh hy72) Ay J (aB [12,13,14] [1,2,3,4,5,6,7,8,9,10,11] [0,12,13,14,15,16] 17 J)) ?_;rintro _ _ ⟨_,⟨A73,n73,c73,A74,n74,c74,A75,n75,c75,A76,n76,c76,M77,A78,n78,c78,M79,A80,n80,c80,A81,n81,c81,A82,n82,c82,rfl,rfl⟩,rfl⟩;refine Y ?_;refine gR (aj (us:=[iV y22.1.Kind,iV y22.1.N,.string y22.1.S]) 18 J J aJ J) ?_;obtain ⟨y83,hy83,h⟩:=aa h;refine gD (aD (kk hy83) wh J (aB [11,12,13] [0,1,2,3,4,5,6,7,8,9,10] [11,12,13,14,15,16,17,18,19] 20 J)) ?_;rintro _ _ ⟨_,⟨rfl,rfl⟩,rfl⟩;refine Y ?_;obtain ⟨b84,hb84,h⟩:=aa h;refine aK 7 67 b84 ?_ ?_
   ·clear h;refine aI 60 J (fun g84=> ?_) (fun g84=> ?_)
    ·have h:=ae g84 hb84;refine Y ?_;obtain rfl:=ao h;exact ac sA (cS [0,1,2,3,4,5,6,7,8,9,10,11,12,13,14,15,16,17,18,19] 20)
    have h:=ah g84 hb84;refine Y ?_;refine ck (aj (us:=[iV y22.1.Kind,iV y22.1.N,.string y22.1.S]) 18 J J aJ J) J (cU g84 J) J ?_;obtain ⟨y85,hy85,h⟩:=aa h;refine cL (aD (rY hy85) D0 J (aB [11,12,13,19] [0,1,2,3,4,5,6,7,8,9,10] [11,12,13,14,15,16,17,18,19] 20 J)) J (cU g84 J) J ?_;rintro _ _ ⟨_,⟨A86,n86,c86,rfl,rfl⟩,rfl⟩;refine bP ?_;obtain ⟨y87,hy87,h⟩:=aa h;refine cL (aq (ze hy87) HA J (hD (ap (i:=15) J) (hD (ap (i:=0) J) ak)) ww) J (cU g84 J) J ?_;rintro _ _ ⟨_,⟨rfl,rfl⟩,rfl⟩;refine Y ?_;obtain rfl:=ao h;exact ac sA (cS [1,2,3,4,5,6,7,8,9,10,11,12,13,14,15,16,17,18,19,20] 21)
   refine Y ?_;refine ar J (fun g88=> ?_) (fun g88=> ?_)
   ·replace h:=ae g88 h;refine Y ?_;obtain rfl:=ao h;exact aN J J (cS [] 20) ⟨J,J⟩
   replace h:=ah g88 h;refine Y ?_;obtain ⟨q89,h⟩:=ay h;refine gE (bC J J q89.1 q89.2) ?_;refine Y ?_;exact ⟨m37,_,_,J1 _,⟨p38+1,y72.spent_.steps_,y72.spent_.made_,y72.spent_.calls_,y72.config_.Way,y72.config_.Steps,y72.config_.Calls,y72.config_.Made,y72.config_.Young,y72.config_.Full,y72.config_.Sites,y72.symbols_,y72.epoch_,y72.serial_,y72.sleepers_,y72.events_,y72.out_,y72.heap_.m_.Young,y72.heap_.m_.Old,y72.heap_.roots_,y72.heap_.pending_,y72.shapes_.shapes_,y72.shapes_.next_,y72.heap_.set_.at_,A80,n80,c80,A81,n81,c81,A82,n82,c82,A73,n73,c73,A74,n74,c74,A75,n75,c75,A76,n76,c76,A78,n78,c78,M79,M77,h,J,J⟩,sA,cS [11,12,13,0,18,19,2,3,4,5,1,9,10,8,7,6] 20⟩
  replace h:=ah g62 h;refine Y ?_;exact ⟨_,_,⟨h,J,J⟩,sA,cS [5] 16⟩
 rintro _ _ ⟨h,rfl,rfl⟩;refine Y ?_;obtain ⟨y90,hy90,h⟩:=aa h;refine gD (aq (mR hy90) yp J (hD (am (i:=0) J J) ak) kR) ?_;rintro _ _ ⟨_,⟨rfl,rfl⟩,rfl⟩;refine Y ?_;obtain rfl:=ao h;exact aN J J (cS [] 1) ⟨J,J⟩
end
section
variable {A1 A10 A12 A13 A14 A15 A2 A3 A4 A5 A6:Option Addr} {B1 B2 B7 B9 M11 M8 c1 c10 c12 c13 c14 c15 c2 c3 c4 c5 c6 n1 n10 n12 n13 n14 n15 n2 n3 n4 n5 n6:Nat}
open Go.RowKit Asn
set_option maxRecDepth 20000
end
section
variable {A1 A10 A12 A13 A14 A15 A2 A3 A4 A5 A6:Option Addr} {B1 B2 B7 B9 M11 M8 c1 c10 c12 c13 c14 c15 c2 c3 c4 c5 c6 n1 n10 n12 n13 n14 n15 n2 n3 n4 n5 n6:Nat}
open Go.RowKit Go.ChangeShapes Go.WideShapes Go.Deep
def AI (x:JW):Prop:=(bM x.Kind)∧(bM x.N)∧(x.S.size≤reachBytes)
set_option maxRecDepth 100000 in
theorem Cm:zQ Tryz.prog 24 mM AI:=fun {_ enc w base spare held _ cs y} h hw=>by
 obtain ⟨xs,m, -,hy,hl,hx,hf⟩:=DataW.trod_struct JC h
 have hc:Tryz.prog.cellsOf 24=3:=by kernel_rfl
 rw [hc] at hl
 match cs,hl,hf with
 | [c0,c1,c2],_,hf=>
  have k0:DataW.trod enc Tryz.prog w base spare held m 3 (List.take (Tryz.prog.cellsOf 3) (List.drop 0 [c0,c1,c2]))=xs[0]? :=hf 0 _ rfl
  have z0:Tryz.prog.cellsOf 3=1:=by kernel_rfl
  simp only [z0,List.drop_succ_cons,List.drop_zero,List.take_succ_cons,List.take_zero] at k0
  have l0:0<xs.length:=by rw [hx];decide
  obtain ⟨a0,r0,w0⟩:=(Rdr.w (qP hJ)) (k0.trans (List.getElem?_eq_getElem l0)) (eL JC hy hw (i:=0) rfl (List.getElem?_eq_getElem l0));have k1:DataW.trod enc Tryz.prog w base spare held m 3 (List.take (Tryz.prog.cellsOf 3) (List.drop 1 [c0,c1,c2]))=xs[1]? :=hf 1 _ rfl
  have z1:Tryz.prog.cellsOf 3=1:=by kernel_rfl
  simp only [z1,List.drop_succ_cons,List.drop_zero,List.take_succ_cons,List.take_zero] at k1
  have l1:1<xs.length:=by rw [hx];decide
  obtain ⟨a1,r1,w1⟩:=(Rdr.w (qP hJ)) (k1.trans (List.getElem?_eq_getElem l1)) (eL JC hy hw (i:=1) rfl (List.getElem?_eq_getElem l1));have k2:DataW.trod enc Tryz.prog w base spare held m 9 (List.take (Tryz.prog.cellsOf 9) (List.drop 2 [c0,c1,c2]))=xs[2]? :=hf 2 _ rfl
  have z2:Tryz.prog.cellsOf 9=1:=by kernel_rfl
  simp only [z2,List.drop_succ_cons,List.drop_zero,List.take_succ_cons,List.take_zero] at k2
  have l2:2<xs.length:=by rw [hx];decide
  obtain ⟨a2,r2,w2⟩:=(zb hH) (k2.trans (List.getElem?_eq_getElem l2)) (eL JC hy hw (i:=2) rfl (List.getElem?_eq_getElem l2));obtain ⟨rfl, -⟩:=List.cons.inj (show [c0]=[_] from r0);obtain ⟨rfl, -⟩:=List.cons.inj (show [c1]=[_] from r1);obtain ⟨rfl, -⟩:=List.cons.inj (show [c2]=[_] from r2);exact ⟨⟨a0,a1,a2⟩,J,⟨w0,w1,w2⟩⟩
def qJ (x:JS):Prop:=(bM x.Kind)∧(bM x.N)∧(x.S.size≤reachBytes)
set_option maxRecDepth 100000 in
theorem qg:zQ Tryz.prog 30 bW qJ:=fun {_ enc w base spare held _ cs y} h hw=>by
 obtain ⟨xs,m, -,hy,hl,hx,hf⟩:=DataW.trod_struct JD h
 have hc:Tryz.prog.cellsOf 30=3:=by kernel_rfl
 rw [hc] at hl
 match cs,hl,hf with
 | [c0,c1,c2],_,hf=>
  have k0:DataW.trod enc Tryz.prog w base spare held m 3 (List.take (Tryz.prog.cellsOf 3) (List.drop 0 [c0,c1,c2]))=xs[0]? :=hf 0 _ rfl
  have z0:Tryz.prog.cellsOf 3=1:=by kernel_rfl
  simp only [z0,List.drop_succ_cons,List.drop_zero,List.take_succ_cons,List.take_zero] at k0
  have l0:0<xs.length:=by rw [hx];decide
  obtain ⟨a0,r0,w0⟩:=(Rdr.w (qP hJ)) (k0.trans (List.getElem?_eq_getElem l0)) (eL JD hy hw (i:=0) rfl (List.getElem?_eq_getElem l0));have k1:DataW.trod enc Tryz.prog w base spare held m 3 (List.take (Tryz.prog.cellsOf 3) (List.drop 1 [c0,c1,c2]))=xs[1]? :=hf 1 _ rfl
  have z1:Tryz.prog.cellsOf 3=1:=by kernel_rfl
  simp only [z1,List.drop_succ_cons,List.drop_zero,List.take_succ_cons,List.take_zero] at k1
  have l1:1<xs.length:=by rw [hx];decide
  obtain ⟨a1,r1,w1⟩:=(Rdr.w (qP hJ)) (k1.trans (List.getElem?_eq_getElem l1)) (eL JD hy hw (i:=1) rfl (List.getElem?_eq_getElem l1));have k2:DataW.trod enc Tryz.prog w base spare held m 9 (List.take (Tryz.prog.cellsOf 9) (List.drop 2 [c0,c1,c2]))=xs[2]? :=hf 2 _ rfl
  have z2:Tryz.prog.cellsOf 9=1:=by kernel_rfl
  simp only [z2,List.drop_succ_cons,List.drop_zero,List.take_succ_cons,List.take_zero] at k2
  have l2:2<xs.length:=by rw [hx];decide
  obtain ⟨a2,r2,w2⟩:=(zb hH) (k2.trans (List.getElem?_eq_getElem l2)) (eL JD hy hw (i:=2) rfl (List.getElem?_eq_getElem l2));obtain ⟨rfl, -⟩:=List.cons.inj (show [c0]=[_] from r0);obtain ⟨rfl, -⟩:=List.cons.inj (show [c1]=[_] from r1);obtain ⟨rfl, -⟩:=List.cons.inj (show [c2]=[_] from r2);exact ⟨⟨a0,a1,a2⟩,J,⟨w0,w1,w2⟩⟩
def uL (x:JQ):Prop:=(AI x.Key)∧(bM x.Attrs)∧(qJ x.Value)∧(qJ x.Get)∧(qJ x.Set)
set_option maxRecDepth 100000 in
theorem Ag:zQ Tryz.prog 42 nB uL:=fun {_ enc w base spare held _ cs y} h hw=>by
 obtain ⟨xs,m, -,hy,hl,hx,hf⟩:=DataW.trod_struct JE h
 have hc:Tryz.prog.cellsOf 42=13:=by kernel_rfl
 rw [hc] at hl
 match cs,hl,hf with
 | [c0,c1,c2,c3,c4,c5,c6,c7,c8,c9,c10,c11,c12],_,hf=>
  have k0:DataW.trod enc Tryz.prog w base spare held m 24 (List.take (Tryz.prog.cellsOf 24) (List.drop 0 [c0,c1,c2,c3,c4,c5,c6,c7,c8,c9,c10,c11,c12]))=xs[0]? :=hf 0 _ rfl
  have z0:Tryz.prog.cellsOf 24=3:=by kernel_rfl
  simp only [z0,List.drop_succ_cons,List.drop_zero,List.take_succ_cons,List.take_zero] at k0
  have l0:0<xs.length:=by rw [hx];decide
  obtain ⟨a0,r0,w0⟩:=Cm (k0.trans (List.getElem?_eq_getElem l0)) (eL JE hy hw (i:=0) rfl (List.getElem?_eq_getElem l0));have k1:DataW.trod enc Tryz.prog w base spare held m 3 (List.take (Tryz.prog.cellsOf 3) (List.drop 3 [c0,c1,c2,c3,c4,c5,c6,c7,c8,c9,c10,c11,c12]))=xs[1]? :=hf 1 _ rfl
  have z1:Tryz.prog.cellsOf 3=1:=by kernel_rfl
  simp only [z1,List.drop_succ_cons,List.drop_zero,List.take_succ_cons,List.take_zero] at k1
  have l1:1<xs.length:=by rw [hx];decide
  obtain ⟨a1,r1,w1⟩:=(Rdr.w (qP hJ)) (k1.trans (List.getElem?_eq_getElem l1)) (eL JE hy hw (i:=1) rfl (List.getElem?_eq_getElem l1));have k2:DataW.trod enc Tryz.prog w base spare held m 30 (List.take (Tryz.prog.cellsOf 30) (List.drop 4 [c0,c1,c2,c3,c4,c5,c6,c7,c8,c9,c10,c11,c12]))=xs[2]? :=hf 2 _ rfl
  have z2:Tryz.prog.cellsOf 30=3:=by kernel_rfl
  simp only [z2,List.drop_succ_cons,List.drop_zero,List.take_succ_cons,List.take_zero] at k2
  have l2:2<xs.length:=by rw [hx];decide
  obtain ⟨a2,r2,w2⟩:=qg (k2.trans (List.getElem?_eq_getElem l2)) (eL JE hy hw (i:=2) rfl (List.getElem?_eq_getElem l2));have k3:DataW.trod enc Tryz.prog w base spare held m 30 (List.take (Tryz.prog.cellsOf 30) (List.drop 7 [c0,c1,c2,c3,c4,c5,c6,c7,c8,c9,c10,c11,c12]))=xs[3]? :=hf 3 _ rfl
  have z3:Tryz.prog.cellsOf 30=3:=by kernel_rfl
  simp only [z3,List.drop_succ_cons,List.drop_zero,List.take_succ_cons,List.take_zero] at k3
  have l3:3<xs.length:=by rw [hx];decide
  obtain ⟨a3,r3,w3⟩:=qg (k3.trans (List.getElem?_eq_getElem l3)) (eL JE hy hw (i:=3) rfl (List.getElem?_eq_getElem l3));have k4:DataW.trod enc Tryz.prog w base spare held m 30 (List.take (Tryz.prog.cellsOf 30) (List.drop 10 [c0,c1,c2,c3,c4,c5,c6,c7,c8,c9,c10,c11,c12]))=xs[4]? :=hf 4 _ rfl
  have z4:Tryz.prog.cellsOf 30=3:=by kernel_rfl
  simp only [z4,List.drop_succ_cons,List.drop_zero,List.take_succ_cons,List.take_zero] at k4
  have l4:4<xs.length:=by rw [hx];decide
  obtain ⟨a4,r4,w4⟩:=qg (k4.trans (List.getElem?_eq_getElem l4)) (eL JE hy hw (i:=4) rfl (List.getElem?_eq_getElem l4));have e0:[c0,c1,c2]=[.int .i64 a0.Kind,.int .i64 a0.N,.string a0.S]:=r0;simp only [List.cons.injEq,and_true] at e0;obtain ⟨rfl,rfl,rfl⟩:=e0;obtain ⟨rfl, -⟩:=List.cons.inj (show [c3]=[_] from r1);have e2:[c4,c5,c6]=[.int .i64 a2.Kind,.int .i64 a2.N,.string a2.S]:=r2;simp only [List.cons.injEq,and_true] at e2;obtain ⟨rfl,rfl,rfl⟩:=e2;have e3:[c7,c8,c9]=[.int .i64 a3.Kind,.int .i64 a3.N,.string a3.S]:=r3;simp only [List.cons.injEq,and_true] at e3;obtain ⟨rfl,rfl,rfl⟩:=e3;have e4:[c10,c11,c12]=[.int .i64 a4.Kind,.int .i64 a4.N,.string a4.S]:=r4;simp only [List.cons.injEq,and_true] at e4;obtain ⟨rfl,rfl,rfl⟩:=e4;exact ⟨⟨a0,a1,a2,a3,a4⟩,J,⟨w0,w1,w2,w3,w4⟩⟩
def sZ (x:JV):Prop:=(True)∧(bM x.Elements)∧(I9 (fun z82=>uL z82) x.Props)∧(True)
set_option maxRecDepth 100000 in
theorem zc:zQ Tryz.prog 84 ER sZ:=fun {_ enc w base spare held _ cs y} h hw=>by
 obtain ⟨xs,m, -,hy,hl,hx,hf⟩:=DataW.trod_struct JF h
 have hc:Tryz.prog.cellsOf 84=4:=by kernel_rfl
 rw [hc] at hl
 match cs,hl,hf with
 | [c0,c1,c2,c3],_,hf=>
  have k0:DataW.trod enc Tryz.prog w base spare held m 4 (List.take (Tryz.prog.cellsOf 4) (List.drop 0 [c0,c1,c2,c3]))=xs[0]? :=hf 0 _ rfl
  have z0:Tryz.prog.cellsOf 4=1:=by kernel_rfl
  simp only [z0,List.drop_succ_cons,List.drop_zero,List.take_succ_cons,List.take_zero] at k0
  have l0:0<xs.length:=by rw [hx];decide
  obtain ⟨a0,r0,w0⟩:=(Rdr.w (zd EM)) (k0.trans (List.getElem?_eq_getElem l0)) (eL JF hy hw (i:=0) rfl (List.getElem?_eq_getElem l0));have k1:DataW.trod enc Tryz.prog w base spare held m 3 (List.take (Tryz.prog.cellsOf 3) (List.drop 1 [c0,c1,c2,c3]))=xs[1]? :=hf 1 _ rfl
  have z1:Tryz.prog.cellsOf 3=1:=by kernel_rfl
  simp only [z1,List.drop_succ_cons,List.drop_zero,List.take_succ_cons,List.take_zero] at k1
  have l1:1<xs.length:=by rw [hx];decide
  obtain ⟨a1,r1,w1⟩:=(Rdr.w (qP hJ)) (k1.trans (List.getElem?_eq_getElem l1)) (eL JF hy hw (i:=1) rfl (List.getElem?_eq_getElem l1));have k2:DataW.trod enc Tryz.prog w base spare held m 82 (List.take (Tryz.prog.cellsOf 82) (List.drop 2 [c0,c1,c2,c3]))=xs[2]? :=hf 2 _ rfl
  have z2:Tryz.prog.cellsOf 82=1:=by kernel_rfl
  simp only [z2,List.drop_succ_cons,List.drop_zero,List.take_succ_cons,List.take_zero] at k2
  have l2:2<xs.length:=by rw [hx];decide
  obtain ⟨a2,r2,w2⟩:=(EO Ex V (by decide) (of_decide_eq_true V) Ag) (k2.trans (List.getElem?_eq_getElem l2)) (eL JF hy hw (i:=2) rfl (List.getElem?_eq_getElem l2));have k3:DataW.trod enc Tryz.prog w base spare held m 4 (List.take (Tryz.prog.cellsOf 4) (List.drop 3 [c0,c1,c2,c3]))=xs[3]? :=hf 3 _ rfl
  have z3:Tryz.prog.cellsOf 4=1:=by kernel_rfl
  simp only [z3,List.drop_succ_cons,List.drop_zero,List.take_succ_cons,List.take_zero] at k3
  have l3:3<xs.length:=by rw [hx];decide
  obtain ⟨a3,r3,w3⟩:=(Rdr.w (zd EM)) (k3.trans (List.getElem?_eq_getElem l3)) (eL JF hy hw (i:=3) rfl (List.getElem?_eq_getElem l3));obtain ⟨rfl, -⟩:=List.cons.inj (show [c0]=[_] from r0);obtain ⟨rfl, -⟩:=List.cons.inj (show [c1]=[_] from r1);obtain ⟨v2,e2,b2⟩:=r2;obtain ⟨rfl, -⟩:=List.cons.inj e2;obtain ⟨A2,q2,rfl,d2⟩:=b2;have b2:SlR nB _ _ (.slice A2 a2.length q2) a2:=⟨_,_,rfl,d2⟩;obtain ⟨rfl, -⟩:=List.cons.inj (show [c3]=[_] from r3);exact ⟨⟨a0,a1,a2,a3⟩,⟨_,_,_,J,b2⟩,⟨w0,w1,w2,w3⟩⟩
set_option maxRecDepth 100000 in
theorem HO {H:Type}{enc:TypeId×Value→H}{W:World}{r:Reach}{b0:Nat}{base:Nat}{spare:Nat→Bool}{held:Bool}{v:Value}{d:DataW H}{p:List MemPlace}
  (hv:Value.okWide Tryz.prog W r b0 84 v) (h:DataW.Trod enc Tryz.prog W base spare held 84 v d p) (hz:Light Tryz.prog 84 d): ∃(m:JV) (Aq_0:Option Addr) (nq_0 cq_0:Nat),v=.agg #[.bool m.Array,.int .i64 m.Elements,I Aq_0 nq_0 cq_0,.bool m.Shut]∧(sZ m)∧(nu nB (I Aq_0 nq_0 cq_0) m.Props).ok (fun _=>False) (fun q=>q<W.heap.size) W:=by
 obtain ⟨cs,rfl, -⟩:=okWide_struct JF hv;obtain ⟨fuel,hf⟩:=h;obtain ⟨m,⟨Aq_0,nq_0,cq_0,e,hq_0⟩,hw⟩:=zc hf hz;obtain ⟨l⟩:=cs;have hx:l=[.bool m.Array,.int .i64 m.Elements,I Aq_0 nq_0 cq_0,.bool m.Shut]:=e;exact ⟨m,Aq_0,nq_0,cq_0,by rw [hx],hw,hq_0⟩
end
section
variable {A1 A10 A12 A13 A14 A15 A2 A3 A4 A5 A6:Option Addr} {B1 B2 B7 B9 M11 M8 c1 c10 c12 c13 c14 c15 c2 c3 c4 c5 c6 n1 n10 n12 n13 n14 n15 n2 n3 n4 n5 n6:Nat}
open Go.RowKit
def Sat {ρ:Type}(m:Option ρ)(R:ρ→Prop):Prop:= ∃r,m=some r∧R r
theorem ab {ρ:Type}{x:ρ}{R:ρ→Prop}(h:R x):Sat (some x) R:=⟨x,rfl,h⟩
theorem Sat.eq {ρ:Type}{m:Option ρ}{x:ρ}(h:Sat m (· =x)):m=some x:=by obtain ⟨r,h1,rfl⟩:=h;exact h1
theorem Sat.mono {ρ:Type}{m:Option ρ}{R Q:ρ→Prop}(h:Sat m R)(k: ∀x,R x→Q x):Sat m Q:=by obtain ⟨r,h1,h2⟩:=h;exact ⟨r,h1,k _ h2⟩
theorem Sat.bind {ρ σ:Type}{m:Option σ}{f:σ→Option ρ}{P:σ→Prop}{R:ρ→Prop}(h:Sat m P)(k: ∀x,P x→Sat (f x) R):Sat (m.bind f) R:=by obtain ⟨x,rfl,h2⟩:=h;exact k x h2
theorem aT {ρ:Type}{b:Bool}{x y:Option ρ}{R:ρ→Prop}(h1:b=true→Sat x R)(h2:b=false→Sat y R):Sat (bif b then x else y) R:=by cases b with|true=>exact h1 rfl|false=>exact h2 rfl
theorem bf {ρ:Type}{p:Prop}[Decidable p]{x y:Option ρ}{R:ρ→Prop}(h1:p→Sat x R)(h2: ¬p→Sat y R):Sat (bif decide p then x else y) R:=by
 by_cases h:p
 ·rw [JZ h];exact h1 h
 rw [J0 h];exact h2 h
theorem ew {ρ:Type}{b:Bool}{x y:Option ρ}{R:ρ→Prop}(h1:b=false→Sat x R)(h2:b=true→Sat y R):Sat (bif !b then x else y) R:=by cases b with|true=>exact h2 rfl|false=>exact h1 rfl
theorem aP {ρ:Type}{b:Prop}[Decidable b]{m:Option ρ}{R:ρ→Prop}(h:b)(k:Sat m R):Sat (cN b m) R:=by unfold cN;rw [if_pos h];exact k
theorem bD {α ρ:Type}{xs:List α}{i:Int}{f:α→Option ρ}{R:ρ→Prop}(h0:0≤i)(h1:i<xs.length)(k: ∀x,xs[i.toNat]? =some x→Sat (f x) R):Sat ((bT xs i).bind f) R:=by
 unfold bT;rw [if_neg O,List.getElem?_eq_getElem O];exact k _ (List.getElem?_eq_getElem O)
theorem bs {ρ σ:Type}{x:σ}{f:σ→Option ρ}:(some x).bind f=f x:=Eq.trans rfl rfl
theorem ct {ρ:Type}{x y:ρ}:(bif true then x else y)=x:=Eq.trans rfl rfl
theorem cf {ρ:Type}{x y:ρ}:(bif false then x else y)=y:=Eq.trans rfl rfl
theorem nt:(!true)=false:=Eq.trans rfl rfl
theorem nf:(!false)=true:=Eq.trans rfl rfl
theorem io {ρ:Type}{b:Prop}[Decidable b]{m:Option ρ}(h:b):cN b m=m:=if_pos h
theorem jc {α:Type}{xs:List α}{i:Nat}(h1:i<xs.length):bT xs (i:Int)=some xs[i]:=by
 unfold bT;rw [if_neg O,Int.toNat_natCast,List.getElem?_eq_getElem h1]
theorem pB {α:Type}: ∀{l:List α} {i:Nat} {a:α},l.Nodup→l[i]? =some a→ ∀x,x∈l.eraseIdx i↔x∈l∧x≠a
 | [],_,_,_,h,_=>by simp at h
 |y::l,0,a,hn,h,x=>by
  simp only [List.getElem?_cons_zero,Option.some.injEq] at h;subst h;rw [List.eraseIdx_cons_zero];obtain ⟨h1, -⟩:=List.nodup_cons.1 hn;constructor
  ·intro hx;exact ⟨by simp [hx],fun e=>h1 (e▸hx)⟩
  rintro ⟨hx,hne⟩;rcases List.mem_cons.1 hx with e|hx
  ·exact absurd e hne
  exact hx
 | y::l,i+1,a,hn,h,x=>by
  simp only [List.getElem?_cons_succ] at h;obtain ⟨h1,h2⟩:=List.nodup_cons.1 hn;rw [List.eraseIdx_cons_succ,List.mem_cons,List.mem_cons,pB h2 h x];have ha:a∈l:=List.mem_of_getElem? h;constructor
  ·rintro (rfl|⟨h3,h4⟩)
   ·exact ⟨.inl J,fun e=>h1 (e▸ha)⟩
   exact ⟨.inr h3,h4⟩
  rintro ⟨rfl|h3,h4⟩
  ·exact .inl J
  exact .inr ⟨h3,h4⟩
end
section
variable {A1 A10 A12 A13 A14 A15 A2 A3 A4 A5 A6:Option Addr} {B1 B2 B7 B9 M11 M8 c1 c10 c12 c13 c14 c15 c2 c3 c4 c5 c6 n1 n10 n12 n13 n14 n15 n2 n3 n4 n5 n6:Nat}
open Go.RowKit
theorem Cw {α ρ:Type}(L:Nat→Int→Option ρ)(l:List α)(p:α→Bool)(bad k:Option ρ)
  (step: ∀m (i:Nat) (h:i<l.length),L (m+1) (i:Int)=bif p l[i] then L m ((i:Int)+1) else bad)
  (fin: ∀m,L (m+1) (l.length:Int)=k) (N:Nat) (hN:l.length<N):L N 0=bif l.all p then k else bad:=by
 have key: ∀m i:Nat,l.length<m+i→i≤l.length→L m (i:Int)=bif (l.drop i).all p then k else bad:=by
  intro m
  induction m with
  |zero=>intro i h1 h2;omega
  | succ m ih=>
   intro i h1 h2;by_cases hi:i<l.length
   ·rw [step m i hi,List.drop_eq_getElem_cons hi,List.all_cons];have h3:=ih (i+1) O hi;rw [show (((i+1:Nat)):Int)=(i:Int)+1 by omega] at h3;rw [h3];cases p l[i]<;>rfl
   have e:i=l.length:=by omega
   subst e;rw [fin,List.drop_length];rfl
 have:=key N 0 O O;simpa using this
theorem zo {α:Type}(L:Nat→Int→Option Bool)(l:List α)(p:α→Bool)
  (step: ∀m (i:Nat) (h:i<l.length),L (m+1) (i:Int)=bif p l[i] then L m ((i:Int)+1) else some false)
  (fin: ∀m,L (m+1) (l.length:Int)=some true) (N:Nat) (hN:l.length<N):L N 0=some (l.all p):=by
 rw [Cw L l p _ _ step fin N hN];cases l.all p<;>rfl
theorem Dx {α ρ:Type}[DecidableEq α](L:Nat→Int→Option ρ)(a b:List α)(bad k:Option ρ)(hl:a.length=b.length)
  (step: ∀m (i:Nat) (h:i<a.length) (h':i<b.length),L (m+1) (i:Int)=bif decide (a[i]=b[i]) then L m ((i:Int)+1) else bad)
  (fin: ∀m,L (m+1) (a.length:Int)=k) (N:Nat) (hN:a.length<N):L N 0=bif decide (a=b) then k else bad:=by
 have key: ∀m i:Nat,a.length<m+i→i≤a.length→L m (i:Int)=bif decide (a.drop i=b.drop i) then k else bad:=by
  intro m
  induction m with
  |zero=>intro i h1 h2;omega
  | succ m ih=>
   intro i h1 h2;by_cases hi:i<a.length
   ·have hi':i<b.length:=by omega
    rw [step m i hi hi',List.drop_eq_getElem_cons hi,List.drop_eq_getElem_cons hi'];have h3:=ih (i+1) O hi;rw [show (((i+1:Nat)):Int)=(i:Int)+1 by omega] at h3;rw [h3];by_cases e:a[i]=b[i]
    ·rw [JZ e,cond_true,e];by_cases e2:a.drop (i+1)=b.drop (i+1)
     ·rw [JZ e2,e2,JZ rfl]
     rw [J0 e2,J0 (fun h=>e2 (List.cons.inj h).2)]
    rw [J0 e,J0 (fun h=>e (List.cons.inj h).1)];rfl
   have e:i=a.length:=by omega
   subst e;rw [fin,List.drop_length,hl,List.drop_length,JZ rfl];rfl
 have:=key N 0 O O;simpa using this
def EA {α β:Type}[DecidableEq α](a:α)(b:β):List (α×β)→List (α×β)
 | []=> [(a,b)]
 |p::l=>if p.1=a then (a,b)::l else p::EA a b l
theorem EB {α β:Type}[DecidableEq α](L:List (α×β))(a:α)(b:β):zZ L a b=EA a b L:=by
 have key: ∀(L:List (α×β)) (j:Nat),(∃i c,fp a L j=some (i,c)∧j≤i∧L.set (i - j) (a,b)=EA a b L)∨(fp a L j=none∧L++ [(a,b)]=EA a b L):=by
  intro L
  induction L with
  |nil=>intro j;exact .inr ⟨J,J⟩
  | cons p l ih=>
   intro j;obtain ⟨x,y⟩:=p;by_cases e:a=x
   ·refine .inl ⟨j,y,by simp [fp,e],Nat.le_refl _,?_⟩;rw [Nat.sub_self];simp [EA,e]
   have e': ¬x=a:=fun h=>e h.symm
   rcases ih (j+1) with ⟨i,c,h1,h2,h3⟩|⟨h1,h2⟩
   ·refine .inl ⟨i,c,by simp [fp,e,h1],by omega,?_⟩;rw [show i - j=(i - (j+1))+1 by omega,List.set_cons_succ,h3];simp [EA,e']
   exact .inr ⟨by simp [fp,e,h1],by simp [EA,e',h2]⟩
 unfold zZ;rcases key L 0 with ⟨i,c,h1, -,h3⟩|⟨h1,h2⟩
 ·rw [h1];exact h3
 rw [h1];exact h2
theorem sk {α β:Type}[DecidableEq α](p:α×β)(l:List (α×β))(x:α):lk (p::l) x=if p.1=x then some p.2 else lk l x:=by
 unfold lk;rw [List.find?_cons];by_cases e:p.1=x<;>simp [e]
theorem Ii {α β:Type}[DecidableEq α](L:List (α×β))(a:α)(b:β)(x:α):lk (zZ L a b) x=if a=x then some b else lk L x:=by
 rw [EB]
 induction L with
 |nil=>rw [EA,sk]
 | cons p l ih=>
  unfold EA;by_cases e:p.1=a
  ·rw [if_pos e,sk,sk,e];by_cases e2:a=x<;>simp [e2]
  rw [if_neg e,sk,sk,ih];by_cases e2:p.1=x
  ·rw [if_pos e2,if_pos e2,if_neg (fun h=>e (by rw [e2,h]))]
  rw [if_neg e2,if_neg e2]
end
section
variable {A1 A10 A12 A13 A14 A15 A2 A3 A4 A5 A6:Option Addr} {B1 B2 B7 B9 M11 M8 c1 c10 c12 c13 c14 c15 c2 c3 c4 c5 c6 n1 n10 n12 n13 n14 n15 n2 n3 n4 n5 n6:Nat}
open Go.RowKit
theorem bu {ρ σ:Type}{b:Bool}{x y:Option σ}{f:σ→Option ρ}{P:σ→Prop}{R:ρ→Prop}(h1:b=true→Sat x P)(h2:b=false→Sat y P)(k: ∀z,P z→Sat (f z) R):Sat ((bif b then x else y).bind f) R:=Sat.bind (aT h1 h2) k
def DB (k:JW):Prop:=k.Kind=0→0≤k.N∧k.N≤4294967294
def pe (a:Int):Prop:=0≤a∧a≤15∧aL .i64 a 9≠9
theorem G8 (N:Nat)(a:Int):Sat (kK N a) fun b=>b=true→pe a:=by
 unfold kK
 refine Sat.bind (P:=fun b=>b=true→0≤a∧a≤15) (bf (fun h=>ab fun h1=>⟨h,of_decide_eq_true h1⟩) fun h=>ab fun h=>by cases h) fun b hb=> ?_
 refine bu (P:=fun c=>c=true→pe a) (fun e=>ab fun h=>⟨(hb e).1,(hb e).2,fun h1=> ?_⟩) (fun _=>ab fun h=>by cases h) fun c hc=>ab hc
 rw [JZ h1] at h;cases h
theorem qT {b:ByteArray}{i:Int}(h0:0≤i)(h1:i<(b.size:Int)):Sat (ud b i) fun x=>0≤x∧x≤255:=by
 have h2:i.toNat<b.size:=by omega
 unfold ud;rw [if_pos h0,getElem?_pos b i.toNat h2];exact ⟨((b[i.toNat]).toNat:Int),J,by omega,by have:=(b[i.toNat]).toNat_lt;omega⟩
theorem H4 (x:Int):0≤IntKind.u8.wrap x∧IntKind.u8.wrap x≤255:=by
 have:IntKind.u8.wrap x=x%256:=by rfl
 omega
theorem vE (N:Nat)(s:ByteArray)(hs:s.size≤10): ∀(m i:Nat) (p:Int),s.size<m+i→i≤s.size→0≤p→p+29≤29*(10:Int) ^ i→Sat (mX N s m p (i:Int)) fun _=>True
 |0,i,p,h,h1,_,_=>by omega
 | m+1,i,p,h,h1,h2,h3=>by
  rw [mX.eq_2]
  have h10:(10:Int) ^ i≤10 ^ 10:=by
   have:(10:Nat) ^ i≤10 ^ 10:=Nat.pow_le_pow_right O O
   exact_mod_cast this
  rw [show (10:Int) ^ 10=10000000000 from rfl] at h10
  refine bf (fun h7=> ?_) fun h7=> ?_
  ·refine (qT O h7).bind fun x hx=> ?_
   refine bu (P:=fun _=>True) (fun _=>ab trivial) (fun _=>(qT O h7).bind fun y _=>ab trivial) fun c _=> ?_
   refine aT (fun _=>ab trivial) fun _=> ?_
   refine aP (by constructor<;>omega) ((qT O h7).bind fun y hy=> ?_);have h8:=H4 (y - 48);rw [show IntKind.i64.wrap (IntKind.u8.wrap (y - 48))=IntKind.u8.wrap (y - 48) from IntWalk.i64_in _ ⟨by omega,by omega⟩];generalize IntKind.u8.wrap (y - 48)=d at h8;refine aP (by constructor<;>omega) (aP (by constructor<;>omega) ?_);exact vE N s hs m (i+1) _ O O O (by rw [Int.pow_succ];omega)
  unfold ph
  exact bf (fun _=>ab trivial) fun _=>ab trivial
theorem DE (N:Nat)(hN:5000≤N)(s:ByteArray):Sat (oc N s) fun _=>True:=by
 unfold oc;by_cases h10:s.size≤10
 ·cases e:(s.toList==(⟨#[]⟩:ByteArray).toList) with
  |true=>exact ab trivial
  | false=>
   have hs:0<s.size:=by
    rcases Nat.eq_zero_or_pos s.size with h|h
    ·exfalso
     have:s=⟨#[]⟩:=by
      obtain ⟨d⟩:=s;have:d= #[]:=Array.eq_empty_of_size_eq_zero h;rw [this]
     rw [this] at e;rw [beq_self_eq_true] at e;cases e
    exact h
   show Sat (Option.bind (some (decide (10<(s.size:Int)))) _) _;rw [bs,J0 O];show Sat (Option.bind ((ud s 0).bind _) _) _
   refine Sat.bind (P:=fun _=>True) ((qT O O).bind fun x _=>bu (P:=fun _=>True) (fun _=>ab trivial) (fun _=>ab trivial) fun _ _=>ab trivial) fun b _=> ?_
   exact aT (fun _=>ab trivial) fun _=>vE N s h10 N 0 0 O O O (by decide)
 have:(bif s.toList==(⟨#[]⟩:ByteArray).toList then (some true) else (some (decide (10<(s.size:Int)))))=some true:=by
  cases s.toList==(⟨#[]⟩:ByteArray).toList with
  |true=>rfl
  |false=>show some _=_;rw [JZ O]
 rw [this];exact ab trivial
theorem lL (N:Nat)(hN:5000≤N)(k:JW):Sat (eF N k) fun b=>b=true→DB k:=by
 unfold eF
 refine bf (fun h=> ?_) fun h=> ?_
 ·refine bu (P:=fun b=>b=true→0≤k.N) (fun _=>ab fun h=>of_decide_eq_true h) (fun _=>ab fun h=>by cases h) fun b hb=> ?_
  refine bu (P:=fun c=>c=true→DB k) (fun e=>ab fun h _=>⟨hb e,of_decide_eq_true h⟩) (fun _=>ab fun h=>by cases h) fun c hc=>ab hc
 refine Sat.mono (R:=fun _=>True) ?_ fun _ _ _ h'=>absurd h' h
 refine bf (fun _=> ?_) fun _=> ?_
 ·refine (DE N hN k.S).bind fun y _=> ?_
  refine bu (P:=fun _=>True) (fun _=>ab trivial) (fun _=>ab trivial) fun b _=> ?_
  exact bu (P:=fun _=>True) (fun _=>ab trivial) (fun _=>ab trivial) fun b _=>ab trivial
 refine bf (fun _=> ?_) fun _=>ab trivial
 exact bu (P:=fun _=>True) (fun _=>ab trivial) (fun _=>ab trivial) fun b _=>ab trivial
theorem E1 (N:Nat){a:Int}(h:pe a):kK N a=some true:=by
 unfold kK;rw [JZ h.1,ct,bs,JZ h.2.1,ct,J0 h.2.2];rfl
def keyR (N:Nat)(k:JW):Prop:=eF N k=some true
theorem keyR.b {N:Nat}(hN:5000≤N){k:JW}(h:keyR N k):DB k:=by
 obtain ⟨b,h1,h2⟩:=lL N hN k;rw [h] at h1;cases h1;exact h2 J
def G4 (N:Nat)(x:JW×Int):Prop:=keyR N x.1∧pe x.2
def ka (s:JG):JW×Int:=(s.Key,s.Attrs)
def Has (t:JP)(i:Int)(s:JG):Prop:=0≤i∧t.shapes_[i.toNat]? =some s
theorem Has.lt {t:JP}{i:Int}{s:JG}(h:Has t i s):0≤i∧i<t.shapes_.length:=by
 have:=(List.getElem?_eq_some_iff.1 h.2).1;exact ⟨h.1,by have:=h.1;omega⟩
theorem Has.get {t:JP}{i:Int}{s:JG}(h:Has t i s):bT t.shapes_ i=some s:=by
 unfold bT;rw [if_neg (by have:=h.1;omega)];exact h.2
theorem Has.one {t:JP}{i:Int}{s s':JG}(h:Has t i s)(h':Has t i s'):s=s':=Option.some.inj (h.2.symm.trans h'.2)
def Le (t t':JP):Prop:= ∀i s,Has t i s→Has t' i s
theorem Le.refl (t:JP):Le t t:=fun _ _ h=>h
structure TI (N:Nat) (t:JP):Prop where
 sh: ∀i s,Has t i s→0≤s.Len∧s.Len≤1024∧(0<s.Len→G4 N (ka s)∧ ∃u,Has t s.Up u∧u.Len=s.Len - 1)
 nx: ∀k j,lk t.next_ k=some j→ ∃a b,Has t k.up_ a∧Has t j b∧b.Len=a.Len+1∧b.Up=k.up_∧b.Key=k.key_∧b.Attrs=k.attrs_
inductive Row (t:JP):Int→List (JW×Int)→Prop
 |nil {i:Int} {s:JG}:Has t i s→s.Len=0→Row t i []
 |snoc {i:Int} {s:JG} {l:List (JW×Int)}:Has t i s→0<s.Len→Row t s.Up l→Row t i (l++ [ka s])
theorem Row.mono {t t':JP}(h:Le t t'){i:Int}{l:List (JW×Int)}(r:Row t i l):Row t' i l:=by
 induction r with
 |nil h1 h2=>exact .nil (h _ _ h1) h2
 |snoc h1 h2 _ ih=>exact .snoc (h _ _ h1) h2 ih
theorem Row.has {N:Nat}{t:JP}(ti:TI N t){i:Int}{l:List (JW×Int)}(r:Row t i l): ∃s,Has t i s∧s.Len=l.length:=by
 induction r with
 |nil h1 h2=>exact ⟨_,h1,h2⟩
 |snoc h1 h2 _ ih=>
  obtain ⟨u,u1,u2⟩:=ih;obtain ⟨-, -,a3⟩:=ti.sh _ _ h1;obtain ⟨-,u',b1,b2⟩:=a3 h2;have:=u1.one b1;subst this;exact ⟨_,h1,by rw [List.length_append,List.length_singleton];omega⟩
theorem Row.le {N:Nat}{t:JP}(ti:TI N t){i:Int}{l:List (JW×Int)}(r:Row t i l):l.length≤1024:=by
 obtain ⟨s,s1,s2⟩:=r.has ti;have:=(ti.sh _ _ s1).2.1;omega
theorem Row.ok {N:Nat}{t:JP}(ti:TI N t){i:Int}{l:List (JW×Int)}(r:Row t i l): ∀x∈l,G4 N x:=by
 induction r with
 |nil h1 h2=>simp
 |snoc h1 h2 _ ih=>
  intro x hx;rcases List.mem_append.1 hx with hx|hx
  ·exact ih x hx
  rw [List.mem_singleton] at hx;subst hx;exact ((ti.sh _ _ h1).2.2 h2).1
theorem Hg (N:Nat)(t:JP)(i:Int):er N t i=some (decide (0≤i)&&decide (i<(t.shapes_.length:Int))):=by
 unfold er;cases decide (0≤i)<;>rfl
theorem Has.has (N:Nat){t:JP}{i:Int}{s:JG}(h:Has t i s):er N t i=some true:=by
 rw [Hg,JZ h.lt.1,JZ h.lt.2];rfl
theorem Iq (N:Nat){t:JP}{i:Int}{s:JG}(h:Has t i s):jJ N t i=some (s,true):=by
 unfold jJ;rw [h.has N,bs,nt,cf,h.get,bs]
theorem Aj (N:Nat){t:JP}{i:Int}{s:JG}(h:Has t i s):eu N t i=some s.Len:=by
 unfold eu;rw [Iq N h,bs]
theorem za (N:Nat){t:JP}(ti:TI N t)(lf:List (JW×Int))(hL:lf.length≤1024): ∀(m:Nat) (p11:Int) (p12:List JG) (l0 rest:List (JW×Int)),l0.length<m→lf=l0++rest→p12.length=lf.length→Row t p11 l0→
  (p12.drop l0.length).map ka=rest→Sat (gM N t m p11 p12 ((l0.length:Int) - 1)) fun l=>l.map ka=lf
 |0,_,_,l0,_,h,_,_,_,_=>by omega
 | m+1,p11,p12,l0,rest,h,h1,h2,h3,h4=>by
  rw [gM.eq_2]
  cases h3 with
  |nil h5 h6=>
   rw [J0 (by rw [List.length_nil];omega),cf];exact ab (by rw [h1, ←h4];rfl)
  | @snoc _ s l h5 h6 h7=>
   have e1:((((l++ [ka s]).length:Nat):Int) - 1)=(l.length:Int):=by rw [List.length_append,List.length_singleton];omega
   have e2:lf.length=l.length+1+rest.length:=by rw [h1,List.length_append,List.length_append,List.length_singleton]
   rw [e1,JZ O,ct,h5.get,bs]
   refine bD O O fun x16 _=> ?_
   refine bD O (by rw [List.length_set];omega) fun x17 h8=> ?_
   rw [Int.toNat_natCast,List.getElem?_set_self O] at h8;cases h8;refine aP (by constructor<;>omega) ?_;refine za N ti lf hL m _ _ l (ka s::rest) (by rw [List.length_append,List.length_singleton] at h;omega) (by rw [h1,J2];rfl) (by rw [List.length_set];exact h2) h7 ?_;rw [Int.toNat_natCast,List.drop_set,if_neg O,Nat.sub_self,List.drop_eq_getElem_cons (show l.length<p12.length by omega)];rw [List.length_append,List.length_singleton] at h4;rw [List.set_cons_zero,List.map_cons,h4]
theorem xD (N:Nat)(hN:5000≤N){t:JP}(ti:TI N t){i:Int}{l:List (JW×Int)}(h:Row t i l):Sat (ep N t i) fun r=>r.map ka=l:=by
 obtain ⟨s,s1,s2⟩:=h.has ti;have:=h.le ti;unfold ep;rw [Aj N s1,bs,s2];refine aP (by constructor<;>omega) (aP (by rw [List.length_replicate];constructor<;>omega) ?_);rw [List.length_replicate,Int.toNat_natCast];refine za N ti l this N i _ l [] O (by simp) (by simp) h (by simp)
theorem wZ (N:Nat)(y:List JG)(hy:y.length≤1024): ∀(m i:Nat) (p:List JW),y.length<m+i→i≤y.length→p=(y.take i).map (·.Key)→Sat (gP N y m p (i:Int)) fun l=>l=y.map (·.Key)
 |0,i,p,h,h1,_=>by omega
 | m+1,i,p,h,h1,h2=>by
  rw [gP.eq_2]
  have hp:p.length≤i:=by rw [h2,List.length_map,List.length_take];omega
  refine bf (fun h7=> ?_) fun h7=> ?_
  ·refine bD O h7 fun x hx=> ?_
   refine aP (by unfold fA;rw [List.length_singleton];omega) (aP (by constructor<;>omega) ?_);refine wZ N y hy m (i+1) _ O O ?_;rw [Int.toNat_natCast] at hx;rw [h2,List.take_add_one,hx,List.map_append];rfl
  exact ab (by rw [h2,List.take_of_length_le O])
theorem xR (N:Nat)(hN:5000≤N){t:JP}(ti:TI N t){i:Int}{l:List (JW×Int)}(h:Row t i l):dE N t i=some (l.map (·.1)):=by
 have:=h.le ti;refine Sat.eq ?_;unfold dE
 refine (xD N hN ti h).bind fun r hr=> ?_
 have e:r.length=l.length:=by rw [←hr,List.length_map]
 exact (wZ N r O N 0 [] O O J).mono fun x hx=>by rw [hx, ←hr,List.map_map];rfl
theorem wl (N:Nat)(y:List JG)(hy:y.length≤1024): ∀(m i:Nat) (p:List Int),y.length<m+i→i≤y.length→p=(y.take i).map (·.Attrs)→Sat (gw N y m p (i:Int)) fun l=>l=y.map (·.Attrs)
 |0,i,p,h,h1,_=>by omega
 | m+1,i,p,h,h1,h2=>by
  rw [gw.eq_2]
  have hp:p.length≤i:=by rw [h2,List.length_map,List.length_take];omega
  refine bf (fun h7=> ?_) fun h7=> ?_
  ·refine bD O h7 fun x hx=> ?_
   refine aP (by unfold fA;rw [List.length_singleton];omega) (aP (by constructor<;>omega) ?_);refine wl N y hy m (i+1) _ O O ?_;rw [Int.toNat_natCast] at hx;rw [h2,List.take_add_one,hx,List.map_append];rfl
  exact ab (by rw [h2,List.take_of_length_le O])
theorem Ec (N:Nat)(hN:5000≤N){t:JP}(ti:TI N t){i:Int}{l:List (JW×Int)}(h:Row t i l):fC N t i=some (l.map (·.2)):=by
 have:=h.le ti;refine Sat.eq ?_;unfold fC
 refine (xD N hN ti h).bind fun r hr=> ?_
 have e:r.length=l.length:=by rw [←hr,List.length_map]
 exact (wl N r O N 0 [] O O J).mono fun x hx=>by rw [hx, ←hr,List.map_map];rfl
def GU (l:List (JW×Int))(k:JW)(r:Int×Int×Bool):Prop:=(r=(0,0,false)∧ ∀x∈l,x.1≠k)∨ ∃n:Nat,r.1=n∧r.2.2=true∧l[n]? =some (k,r.2.1)
theorem xc (N:Nat){t:JP}(ti:TI N t)(k:JW): ∀(m:Nat) (i:Int) (s:JG) (l:List (JW×Int)),l.length<m→Has t i s→Row t i l→Sat (gu N t k m s.Up s.Key.Kind s.Key.N s.Key.S s.Attrs s.Len) (GU l k)
 |0,i,s,l,h,h1,h2=>by omega
 | m+1,i,s,l,h,h1,h2=>by
  rw [gu.eq_2];have hle:=h2.le ti
  cases h2 with
  |nil h5 h6=>
   have:=h1.one h5;subst this;rw [J0 O,cf];exact ab (.inl ⟨J,by simp⟩)
  | @snoc _ s' l h5 h6 h7=>
   have:=h1.one h5;subst this;rw [List.length_append,List.length_singleton] at h hle;obtain ⟨u,u1,u2⟩:=h7.has ti;obtain ⟨a1,a2,a3⟩:=ti.sh _ _ h1;obtain ⟨b1,u',b2,b3⟩:=a3 h6;have:=u1.one b2;subst this;rw [JZ h6,ct]
   refine bf (fun e=>aP (by constructor<;>omega) (ab (.inr ⟨l.length,by show s.Len - 1=_;omega,rfl,?_⟩))) fun e=> ?_
   ·rw [List.getElem?_append_right (Nat.le_refl _),Nat.sub_self];show some (ka s)=_;rw [show k=s.Key from e.symm];rfl
   rw [u1.get,bs]
   refine (xc N ti k m _ u l O u1 h7).mono fun r hr=> ?_
   rcases hr with ⟨r1,r2⟩|⟨n,r1,r2,r3⟩
   ·refine .inl ⟨r1,fun x hx=> ?_⟩;rcases List.mem_append.1 hx with hx|hx
    ·exact r2 x hx
    rw [List.mem_singleton] at hx;subst hx;exact e
   exact .inr ⟨n,r1,r2,by rw [List.getElem?_append_left (List.getElem?_eq_some_iff.1 r3).1];exact r3⟩
theorem uv (N:Nat)(hN:5000≤N){t:JP}(ti:TI N t){i:Int}{l:List (JW×Int)}(h:Row t i l)(k:JW):Sat (df N t i k) (GU l k):=by
 obtain ⟨s,s1,s2⟩:=h.has ti;have:=h.le ti;unfold df;rw [s1.has N,bs,nt,cf,s1.get,bs];exact xc N ti k N i s l O s1 h
theorem tZ (N:Nat){t:JP}(ti:TI N t)(n:Nat): ∀(m:Nat) (i:Int) (l:List (JW×Int)),l.length<m→Row t i l→n≤l.length→Sat (f8 N (n:Int) t m i) fun r=>Row t r (l.take n)
 |0,i,l,h,h1,h2=>by omega
 | m+1,i,l,h,h1,h2=>by
  obtain ⟨s,s1,s2⟩:=h1.has ti;rw [f8.eq_2,s1.get,bs]
  refine bf (fun h7=> ?_) fun h7=>ab (by rw [List.take_of_length_le O];exact h1)
  rw [bs]
  cases h1 with
  |nil h5 h6=>rw [List.length_nil] at s2;omega
  | @snoc _ s' l h5 h6 h8=>
   have:=s1.one h5;subst this;rw [List.length_append,List.length_singleton] at h s2 h2;rw [List.take_append_of_le_length O];exact tZ N ti n m _ l O h8 O
theorem xn (N:Nat)(hN:5000≤N){t:JP}(ti:TI N t){i:Int}{l:List (JW×Int)}(h:Row t i l)(n:Nat)(h2:n≤l.length):Sat (fg N t i (n:Int)) fun r=>Row t r (l.take n):=by
 have:=h.le ti;unfold fg;exact tZ N ti n N i l O h h2
structure Grow (N:Nat) (t t':JP) (n:Nat):Prop where
 ti:TI N t'
 le:Le t t'
 num:t'.shapes_.length≤t.shapes_.length+n
def zT (N:Nat)(t:JP)(l:List (JW×Int))(n:Nat)(r:Int×Int×JP):Prop:=r.2.1=0∧Grow N t r.2.2 n∧Row r.2.2 r.1 l
theorem Has.app {t:JP}{i:Int}{s x:JG}{n:List (JK×Int)}(h:Has t i s):Has ⟨t.shapes_++ [x],n⟩ i s:=
 ⟨h.1,by rw [List.getElem?_append_left (List.getElem?_eq_some_iff.1 h.2).1];exact h.2⟩
theorem Be (N:Nat)(t:JP)(l:List JG)(hl: ∀x∈l,G4 N (ka x))(lf:List (JW×Int))(hT:lf.length≤1024)(hb:t.shapes_.length+l.length≤1073741824): ∀(m i:Nat) (p24:Int) (t':JP) (l0:List (JW×Int)),l.length<m+i→i≤l.length→TI N t'→Le t t'→t'.shapes_.length=t.shapes_.length+i→Row t' p24 l0→lf=l0++(l.drop i).map ka→Sat (gN N l m p24 (i:Int) t'.shapes_ t'.next_) (zT N t lf l.length)
 |0,i,_,_,_,h,h1,_,_,_,_,_=>by omega
 | m+1,i,p24,t',l0,h,h1,ti,le,h2,h3,h4=>by
  rw [gN.eq_2]
  refine bf (fun h7=> ?_) fun h7=>ab ⟨J,⟨ti,le,by show t'.shapes_.length≤_;omega⟩,by rw [h4,List.drop_of_length_le O,List.map_nil,List.append_nil];exact h3⟩
  obtain ⟨a,h3a,h3b⟩:=h3.has ti;rw [jc (show i<l.length by omega),bs];rw [h3a.get,bs];obtain ⟨a1,a2,a3⟩:=ti.sh _ _ h3a;have hox:=hl l[i] (List.getElem_mem _);have e4:l.drop i=l[i]::l.drop (i+1):=List.drop_eq_getElem_cons _
  have e5:l0.length+1≤lf.length:=by rw [h4,e4,List.length_append,List.map_cons,List.length_cons];omega
  generalize l[i]=x at*
  have e1:(t'.shapes_++ [(⟨p24,x.Key,x.Attrs,a.Len+1⟩:JG)]).length=t'.shapes_.length+1:=by rw [List.length_append,List.length_singleton]
  have e2:((((t'.shapes_++ [(⟨p24,x.Key,x.Attrs,a.Len+1⟩:JG)]).length:Nat):Int) - 1)=(t'.shapes_.length:Int):=by omega
  refine aP (by constructor<;>omega) (aP (by unfold fA;rw [List.length_singleton];omega) (aP (by rw [e2];constructor<;>omega) (aP (by constructor<;>omega) ?_)));rw [e2]
  have hnew:Has ⟨t'.shapes_++ [(⟨p24,x.Key,x.Attrs,a.Len+1⟩:JG)],zZ t'.next_ ⟨p24,x.Key,x.Attrs⟩ (t'.shapes_.length:Int)⟩ (t'.shapes_.length:Int) ⟨p24,x.Key,x.Attrs,a.Len+1⟩:=
   ⟨by omega,by simp⟩
  refine Be N t l hl lf hT hb m (i+1) _ ⟨_,zZ t'.next_ ⟨p24,x.Key,x.Attrs⟩ (t'.shapes_.length:Int)⟩ (l0++ [ka x]) O O ⟨?_,?_⟩ (fun j s hs=>(le j s hs).app) (by show (t'.shapes_++_).length=_;omega) (Row.snoc (s:=⟨p24,x.Key,x.Attrs,a.Len+1⟩) hnew (by show 0<a.Len+1;omega) (h3.mono fun j s hs=>hs.app)) (by rw [h4,e4,List.map_cons,J2];rfl)
  ·intro j s hs;by_cases e:j.toNat<t'.shapes_.length
   ·have hs':Has t' j s:=⟨hs.1,by have:=hs.2;rwa [List.getElem?_append_left e] at this⟩;obtain ⟨b1,b2,b3⟩:=ti.sh _ _ hs';exact ⟨b1,b2,fun h=>let ⟨c1,u,c2,c3⟩:=b3 h;⟨c1,u,c2.app,c3⟩⟩
   have hlt:=hs.lt
   have e3:j=(t'.shapes_.length:Int):=by
    have:(j.toNat:Int)<(t'.shapes_++ [(⟨p24,x.Key,x.Attrs,a.Len+1⟩:JG)]).length:=by have:=hlt.2;simp only at this;omega
    have:=hlt.1;omega
   subst e3;have:=hs.one hnew;subst this;exact ⟨by show 0≤a.Len+1;omega,by show a.Len+1≤1024;omega,fun _=>⟨hox,a,h3a.app,by show a.Len=a.Len+1 - 1;omega⟩⟩
  intro k j hk;change lk (zZ t'.next_ ⟨p24,x.Key,x.Attrs⟩ (t'.shapes_.length:Int)) k=some j at hk;rw [Ii] at hk;split at hk
  ·rename_i e
   cases hk;subst e;exact ⟨a,_,h3a.app,hnew,J,J,J,J⟩
  obtain ⟨c,d,c1,c2,c3⟩:=ti.nx k j hk;exact ⟨c,d,c1.app,c2.app,c3⟩
theorem He (N:Nat)(hN:5000≤N){t:JP}(ti:TI N t)(at_:Int)(l:List JG)(hl: ∀x∈l,G4 N (ka x))(l0:List (JW×Int))(hT:l0.length+l.length≤1024)(hb:t.shapes_.length+l.length≤1073741824)(h:Row t at_ l0):Sat (eR N t at_ l) (zT N t (l0++l.map ka) l.length):=by
 unfold eR;refine aP (by constructor<;>omega) (bf (fun h7=>by omega) fun h7=> ?_);exact Be N t l hl _ (by rw [List.length_append,List.length_map];exact hT) hb N 0 at_ t l0 O O ti (Le.refl t) J h J
theorem zr (N:Nat)(hN:5000≤N){t:JP}(ti:TI N t)(n:Nat): ∀(m:Nat) (at_:Int) (l:List JG) (l0:List (JW×Int)),l.length<m→l.length≤n→l0.length+l.length≤1024→t.shapes_.length+n≤1073741824→(∀x∈l,G4 N (ka x))→Row t at_ l0→Sat (iv N t m at_ l) (zT N t (l0++l.map ka) n)
 |0,_,_,_,h,_,_,_,_,_=>by omega
 | m +1,at_,l,l0,h,hn,h0,hb,hl,ha=>by
  rw [iv.eq_2]
  have h5:Sat (eR N t at_ l) (zT N t (l0++l.map ka) n):=(He N hN ti at_ l hl l0 h0 O ha).mono fun r hr=>⟨hr.1,⟨hr.2.1.ti,hr.2.1.le,by have:=hr.2.1.num;omega⟩,hr.2.2⟩
  refine bf (fun h7=> ?_) fun h7=>h5
  cases l with
  |nil=>rw [List.length_nil] at h7;omega
  | cons x l=>
   rw [show bT (x::l) 0=some x from rfl,bs,bs]
   cases e:lk t.next_ (⟨at_,x.Key,x.Attrs⟩:JK) with
   |none=>exact h5
   | some j=>
    show Sat (cN _ _) _;refine aP ⟨by decide,by show 1≤l.length+1;omega,Nat.le_refl _⟩ ?_;obtain ⟨c,d,c1,c2,c3,c4,c5,c6⟩:=ti.nx _ _ e
    have e5:(((x::l).drop ((1:Int).toNat)).take ((x::l).length - (1:Int).toNat))=l:=by
     show (l.take (l.length+1 - 1))=l;exact List.take_of_length_le O
    rw [e5]
    have hd:0<d.Len:=by have:=(ti.sh _ _ c1).1;omega
    have hr:Row t j (l0++ [ka x]):=by
     have:=Row.snoc c2 hd (by rw [c4];exact ha)
     rwa [show ka d=ka x by unfold ka;rw [c5,c6]] at this
    rw [List.length_cons] at h hn h0;have:=zr N hN ti n m j l (l0++ [ka x]) O O (by rw [List.length_append,List.length_singleton];omega) hb (fun z hz=>hl z (List.mem_cons_of_mem _ hz)) hr
    rwa [J2] at this
theorem Ak (N:Nat)(hN:5000≤N){t:JP}(ti:TI N t)(at_:Int)(l:List JG)(hl: ∀x∈l,G4 N (ka x))(l0:List (JW×Int))(hT:l0.length+l.length≤1024)(hb:t.shapes_.length+1024≤1073741824)(ha:Row t at_ l0):Sat (gt N t at_ l) (zT N t (l0++l.map ka) 1024):=
 zr N hN ti 1024 N at_ l l0 O O hT hb hl ha
theorem wm (N:Nat)(hN:5000≤N){t:JP}{i:Int}{s:JG}(h:Has t i s)(k:JW)(a:Int):Sat (eC N t i k a) fun r=>(r=0∧keyR N k∧pe a)∨(r≠0∧ ¬(keyR N k∧pe a)):=by
 unfold eC;rw [h.has N,bs,nt,cf];obtain ⟨b,h1, -⟩:=lL N hN k;obtain ⟨c,h2,h3⟩:=G8 N a;rw [h1,bs,h2]
 cases b with
 |false=>exact ab (.inr ⟨by decide,fun h=>by have:=h.1;unfold keyR at this;rw [h1] at this;cases this⟩)
 |true=>
  cases c with
  |false=>exact ab (.inr ⟨by decide,fun h=>by have:=E1 N h.2;rw [h2] at this;cases this⟩)
  |true=>exact ab (.inl ⟨rfl,h1,h3 rfl⟩)
theorem E0 (N:Nat)(hN:5000≤N){t:JP}(ti:TI N t)(hb:t.shapes_.length+1024≤1073741824){i:Int}{l:List (JW×Int)}(h:Row t i l)(k:JW)(a:Int)(hk: ∀x∈l,x.1≠k)(hl:l.length<1024):Sat (iy N t i k a) fun r=>(keyR N k∧pe a∧zT N t (l++ [(k,a)]) 1024 r)∨(¬(keyR N k∧pe a)∧r.2.1≠0∧r.2.2=t):=by
 obtain ⟨s,s1,s2⟩:=h.has ti;unfold iy
 refine (wm N hN s1 k a).bind fun y hy=> ?_
 rcases hy with ⟨rfl,h1,h2⟩|⟨h1,h2⟩
 ·show Sat (Option.bind _ _) _
  refine (uv N hN ti h k).bind fun z hz=> ?_
  rcases hz with ⟨rfl, -⟩|⟨n,z1,z2,z3⟩
  ·show Sat (Option.bind _ _) _;rw [Aj N s1,bs]
   refine bf (fun _=>by omega) fun _=> ?_
   refine (Ak N hN ti i [(⟨0,k,a,0⟩:JG)] (fun x hx=>by rw [List.mem_singleton] at hx;subst hx;exact ⟨h1,h2⟩) l (by rw [List.length_singleton];omega) hb h).bind fun r hr=>ab (.inl ⟨h1,h2,hr⟩)
  exact absurd J (hk _ (List.mem_of_getElem? z3))
 rw [J0 h1,nf,ct];exact ab (.inr ⟨h2,h1,J⟩)
theorem CQ (N:Nat)(hN:5000≤N){t:JP}(ti:TI N t)(hb:t.shapes_.length+1024≤1073741824){i:Int}{l:List (JW×Int)}(h:Row t i l)(hd:(l.map (·.1)).Nodup)(k:JW)(a:Int)(n:Nat)(a0:Int)(hn:l[n]? =some (k,a0)):Sat (gv N t i k a) fun r=>(pe a∧zT N t (l.set n (k,a)) 1024 r)∨(¬pe a∧r.2.1≠0∧r.2.2=t):=by
 obtain ⟨s,s1,s2⟩:=h.has ti;have hle:=h.le ti;have hlt:=(List.getElem?_eq_some_iff.1 hn).1;unfold gv
 refine (wm N hN s1 k a).bind fun y hy=> ?_
 rcases hy with ⟨rfl,h1,h2⟩|⟨h1,h2⟩
 ·show Sat (Option.bind _ _) _
  refine (uv N hN ti h k).bind fun z hz=> ?_
  rcases hz with ⟨rfl,z1⟩|⟨n',z1,z2,z3⟩
  ·exact absurd J (z1 _ (List.mem_of_getElem? hn))
  have:n'=n:=by
   have g1:(l.map (·.1))[n']? =some k:=by rw [List.getElem?_map,z3];rfl
   have g2:(l.map (·.1))[n]? =some k:=by rw [List.getElem?_map,hn];rfl
   exact (List.getElem?_inj (by rw [List.length_map];exact (List.getElem?_eq_some_iff.1 z3).1) hd).1 (g1.trans g2.symm)
  subst this;rw [z2];show Sat (Option.bind _ _) _
  refine (xD N hN ti h).bind fun r hr=> ?_
  have e:r.length=l.length:=by rw [←hr,List.length_map]
  rw [z1,Int.toNat_natCast];refine aP ⟨by omega,by omega⟩ ?_
  refine bD O (by rw [List.length_drop];omega) fun x hx=> ?_
  refine (xn N hN ti h n' O).bind fun b hbf=> ?_
  have hx2:ka x=(k,z.2.1):=by
   rw [show (0:Int).toNat=0 from rfl,List.getElem?_drop,Nat.add_zero] at hx
   have:(r.map ka)[n']? =some (ka x):=by rw [List.getElem?_map,hx];rfl
   rw [hr,z3] at this;exact (Option.some.inj this).symm
  have hxk:x.Key=k:=congrArg Prod.fst hx2
  have hm: ∀q∈List.set (List.drop n' r) ((0:Int).toNat) (⟨x.Up,(⟨x.Key.Kind,x.Key.N,x.Key.S⟩:JW),a,x.Len⟩:JG),G4 N (ka q):=fun q hq=>by
   rcases List.mem_or_eq_of_mem_set hq with hq|rfl
   ·exact h.ok ti _ (by rw [←hr];exact List.mem_map_of_mem (List.mem_of_mem_drop hq))
   exact ⟨by show keyR N x.Key;rw [hxk];exact h1,h2⟩
  have e6:(List.set (List.drop n' r) ((0:Int).toNat) (⟨x.Up,(⟨x.Key.Kind,x.Key.N,x.Key.S⟩:JW),a,x.Len⟩:JG)).map ka=(l.drop n').set 0 (k,a):=by
   rw [show (0:Int).toNat=0 from rfl,List.map_set,List.map_drop,hr];show (l.drop n').set 0 (x.Key,a)=_;rw [hxk]
  refine (Ak N hN ti b _ hm (l.take n') (by rw [List.length_set,List.length_drop,List.length_take];omega) hb hbf).bind fun q hq=>ab (.inl ⟨h2,?_⟩)
  rw [e6] at hq
  have e7:l.take n'++(l.drop n').set 0 (k,a)=l.set n' (k,a):=by
   rw [List.drop_eq_getElem_cons hlt,List.set_cons_zero,List.set_eq_take_append_cons_drop,if_pos hlt]
  rw [e7] at hq;exact hq
 rw [J0 h1,nf,ct];exact ab (.inr ⟨fun h3=>h2 ⟨(h.ok ti _ (List.mem_of_getElem? hn)).1,h3⟩,h1,J⟩)
theorem zX (N:Nat)(hN:5000≤N){t:JP}(ti:TI N t)(hb:t.shapes_.length+1024≤1073741824){i:Int}{l:List (JW×Int)}(h:Row t i l)(hd:(l.map (·.1)).Nodup)(k:JW)(n:Nat)(a0:Int)(hn:l[n]? =some (k,a0)):Sat (eJ N t i k) (zT N t (l.eraseIdx n) 1024):=by
 obtain ⟨s,s1,s2⟩:=h.has ti;have hle:=h.le ti;have hlt:=(List.getElem?_eq_some_iff.1 hn).1;unfold eJ
 refine (wm N hN s1 k 0).bind fun y hy=> ?_
 rcases hy with ⟨rfl,h1,h2⟩|⟨h1,h2⟩
 ·show Sat (Option.bind _ _) _
  refine (uv N hN ti h k).bind fun z hz=> ?_
  rcases hz with ⟨rfl,z1⟩|⟨n',z1,z2,z3⟩
  ·exact absurd J (z1 _ (List.mem_of_getElem? hn))
  have:n'=n:=by
   have g1:(l.map (·.1))[n']? =some k:=by rw [List.getElem?_map,z3];rfl
   have g2:(l.map (·.1))[n]? =some k:=by rw [List.getElem?_map,hn];rfl
   exact (List.getElem?_inj (by rw [List.length_map];exact (List.getElem?_eq_some_iff.1 z3).1) hd).1 (g1.trans g2.symm)
  subst this;rw [z2,z1];show Sat (Option.bind _ _) _
  refine (xn N hN ti h n' O).bind fun b hbf=> ?_
  refine (xD N hN ti h).bind fun r hr=> ?_
  have e:r.length=l.length:=by rw [←hr,List.length_map]
  have e8:((n':Int)+1).toNat=n'+1:=by omega
  refine aP (by constructor<;>omega) (aP ⟨by omega,by omega,Nat.le_refl _⟩ ?_);rw [e8];have e6:((r.drop (n'+1)).take (r.length - (n'+1)))=r.drop (n'+1):=List.take_of_length_le (by rw [List.length_drop];omega);rw [e6]
  refine (Ak N hN ti b _ (fun q hq=>h.ok ti _ (by rw [←hr];exact List.mem_map_of_mem (List.mem_of_mem_drop hq))) (l.take n') (by rw [List.length_drop,List.length_take];omega) hb hbf).bind fun q hq=>ab ?_
  rw [List.map_drop,hr, ←List.eraseIdx_eq_take_drop_succ] at hq;exact hq
 exact absurd ⟨(h.ok ti _ (List.mem_of_getElem? hn)).1,by decide,by decide,by decide⟩ h2
end
section
variable {A1 A10 A12 A13 A14 A15 A2 A3 A4 A5 A6:Option Addr} {B1 B2 B7 B9 M11 M8 c1 c10 c12 c13 c14 c15 c2 c3 c4 c5 c6 n1 n10 n12 n13 n14 n15 n2 n3 n4 n5 n6:Nat}
open Go.RowKit
theorem DU (N:Nat)(a b:Int):Sat (kq N a b) fun _=>True:=by
 unfold kq oo;rw [bs,bs,JZ rfl,JZ rfl];simp only [nt,cf]
 exact aT (fun _=>ab trivial) fun _=>aT (fun _=>ab trivial) fun _=>ab trivial
theorem se (N:Nat)(a b:JW):Sat (jC N a b) fun _=>True:=by
 unfold jC
 refine bu (P:=fun _=>True) (fun _=>ab trivial) (fun _=>ab trivial) fun c _=> ?_
 exact aT (fun _=>(DU N _ _).bind fun _ _=>ab trivial) fun _=>(DU N _ _).bind fun _ _=>ab trivial
theorem mp {a b:Int}(h0:0≤a)(h1:a≤b)(h2:b≤100000):IntKind.i64.wrap ((IntKind.u64.wrap (a+b)).fdiv (2 ^ 1))=(a+b) / 2:=by
 rw [IntWalk.u64_in _ ⟨by omega,by omega⟩,Int.fdiv_eq_ediv_of_nonneg _ O,show (2:Int) ^ 1=2 from rfl,IntWalk.i64_in _ ⟨by omega,by omega⟩]
section
variable (N:Nat) (hN:20000≤N) (n:Nat) (hn:n≤6000)
include hN hn
theorem DD (kb:List JW→Int→Option (List JW))(a b p5:Int)(ha:0≤a)(h5:p5<n)(hk: ∀l:List JW,l.length=n→Sat (kb l (p5+1)) fun r=>r.length=n):
  ∀(m:Nat) (l:List JW) (j:Int),j<m→a≤j→j≤p5→l.length=n→Sat (cP N kb a b p5 m l j) fun r=>r.length=n
 |0,l,j,h,h1,_,_=>by have:=hN;omega
 | m+1,l,j,h,h1,h2,h3=>by
  rw [cP.eq_2]
  refine bu (P:=fun c=>c=true→a<j) (fun e=> ?_) (fun _=>ab fun h=>by cases h) fun c hc=>aT (fun e=> ?_) fun _=> ?_
  ·have h4:=of_decide_eq_true e
   refine bD O O fun x _=>aP (by constructor<;>omega) (bD O O fun y _=>(se N _ _).bind fun z _=>ab fun _=>h4)
  ·have h4:=hc e;refine aP (by constructor<;>omega) (aP (by constructor<;>omega) (bD O O fun x _=>bD O O fun y _=>bD O O fun z _=>bD O (by rw [List.length_set];omega) fun u _=>aP (by constructor<;>omega) ?_));exact DD kb a b p5 ha h5 hk m _ _ O O O (by rw [List.length_set,List.length_set];exact h3)
  unfold dQ;exact aP (by constructor<;>omega) (hk l h3)
theorem Bh (a b:Int)(ha:0≤a)(hb:b≤n): ∀(m:Nat) (l:List JW) (i:Int),(b - i).toNat<m→a≤i→l.length=n→Sat (bY N a b m l i) fun r=>r.length=n
 |0,l,i,h,h1,h2=>by omega
 |m+1,l,i,h,h1,h2=>by
  rw [bY.eq_2]
  refine bf (fun h3=> ?_) fun _=>ab h2
  exact DD N hN n hn _ a b i ha O (fun l' hl'=>Bh a b ha hb m l' (i+1) O O hl') N l i O h1 O h2
theorem DC (l:List JW)(a b:Int)(ha:0≤a)(ha':a≤n)(hb:b≤n)(hl:l.length=n):Sat (cc N l a b) fun r=>r.length=n:=by
 unfold cc;exact aP (by constructor<;>omega) (Bh N hN n hn a b ha hb N l _ O O hl)
theorem wP (x y k:Int)(hx:0≤x)(hy:0≤y)(hx2:x+k≤n)(hy2:y+k≤n): ∀(m:Nat) (l:List JW) (i:Int),k - i<m→0≤i→i≤k→l.length=n→Sat (dr N x y k m l i) fun r=>r.length=n
 |0,l,i,h,h1,h3,h2=>by have:=hN;omega
 |m+1,l,i,h,h1,h3,h2=>by
  rw [dr.eq_2]
  refine bf (fun h4=> ?_) fun _=>ab h2
  refine aP (by constructor<;>omega) (aP (by constructor<;>omega) (aP (by constructor<;>omega) (bD O O fun _ _=>aP (by constructor<;>omega) (bD O O fun _ _=>bD O O fun _ _=>bD O (by rw [List.length_set];omega) fun _ _=>aP (by constructor<;>omega) ?_))));exact wP x y k hx hy hx2 hy2 m _ _ O O O (by rw [List.length_set,List.length_set];exact h2)
theorem xy (l:List JW)(x y k:Int)(hk:0≤k)(hx:0≤x)(hy:0≤y)(hx2:x+k≤n)(hy2:y+k≤n)(hl:l.length=n):Sat (cM N l x y k) fun r=>r.length=n:=
 wP N hN n hn x y k hx hy hx2 hy2 N l 0 O O O hl
theorem uT (q:Int): ∀(m:Nat) (l:List JW) (i j:Int),i+j<m→0<i→0<j→i≤q→q+j≤n→l.length=n→Sat (cZ N q m l i j) fun r=>r.length=n
 |0,l,i,j,h,h1,h2,h3,h4,h5=>by omega
 | m+1,l,i,j,h,h1,h2,h3,h4,h5=>by
  rw [cZ.eq_2]
  refine ew (fun e=>bf (fun h6=> ?_) fun h6=> ?_) fun e=> ?_
  ·refine aP (by constructor<;>omega) ((xy N hN n hn l _ _ _ O O O O O h5).bind fun r hr=>aP (by constructor<;>omega) ?_);exact uT q m r _ _ O O h2 O h4 hr
  ·have:=of_decide_eq_false e;refine aP (by constructor<;>omega) (aP (by constructor<;>omega) (aP (by constructor<;>omega) ((xy N hN n hn l _ _ _ O O O O O h5).bind fun r hr=>aP (by constructor<;>omega) ?_)));exact uT q m r _ _ O h1 O h3 O hr
  have:=of_decide_eq_true e;unfold fe;exact aP (by constructor<;>omega) ((xy N hN n hn l _ _ _ O O O O O h5).bind fun r hr=>ab hr)
theorem GX (l:List JW)(a q b:Int)(h0:0≤a)(h1:a<q)(h2:q<b)(h3:b≤n)(hl:l.length=n):Sat (dZ N l a q b) fun r=>r.length=n:=by
 unfold dZ;exact aP (by constructor<;>omega) (aP (by constructor<;>omega) (uT N hN n hn q N l _ _ O O O O O hl))
section
variable (kb:List JW→Int→Int→Int→Option (List JW)) (a q b:Int) (h0:0≤a) (h1:a<q) (h2:q<b) (h3:b≤n)
variable (hk: ∀(l:List JW) (x y z:Int),a≤x→x<y→y<z→z≤b→z - x<b - a→l.length=n→Sat (kb l x y z) fun r=>r.length=n)
include h0 h1 h2 h3
theorem AP (p7:Int)(h7:p7≤b)(h7':q≤p7): ∀(m:Nat) (l:List JW) (k:Int),(p7 - k).toNat<m→a≤k→l.length=n→Sat (dm N kb a q b p7 m l k) fun r=>r.length=n
 |0,l,k,h,h4,h5=>by have:=hN;omega
 |m+1,l,k,h,h4,h5=>by
  rw [dm.eq_2];refine aP (by constructor<;>omega) (bf (fun h6=> ?_) fun _=>ab h5);refine aP (by constructor<;>omega) (aP (by constructor<;>omega) (bD O O fun _ _=>bD O O fun _ _=>bD O O fun _ _=>bD O (by rw [List.length_set];omega) fun _ _=>aP (by constructor<;>omega) ?_));exact AP p7 h7 h7' m _ _ O O (by rw [List.length_set,List.length_set];exact h5)
theorem z6 (l:List JW)(hl:l.length=n): ∀(m:Nat) (i j:Int),j - i<m→q≤i→i≤j→j≤b→Sat (cu N kb a q b l m i j) fun r=>r.length=n
 |0,i,j,h,h4,h5,h6=>by omega
 |m+1,i,j,h,h4,h5,h6=>by
  rw [cu.eq_2]
  refine bf (fun h7=> ?_) fun _=>AP N hN n hn kb a q b h0 h1 h2 h3 i O h4 N l a O O hl
  rw [mp O O O];refine aP (by constructor<;>omega) (bD O O fun _ _=>bD O O fun _ _=>(se N _ _).bind fun _ _=>aT (fun _=>aP (by constructor<;>omega) ?_) fun _=> ?_)
  ·exact z6 l hl m _ _ O O O h6
  exact z6 l hl m _ _ O h4 O O
theorem AO (p34:Int)(h7:a≤p34): ∀(m:Nat) (l:List JW) (k:Int),k<m→0≤k→k≤q→l.length=n→Sat (dl N kb a q b p34 m l k) fun r=>r.length=n
 |0,l,k,h,h4,h5,h6=>by have:=hN;have:=h1;omega
 |m+1,l,k,h,h4,h5,h6=>by
  rw [dl.eq_2]
  refine bf (fun h8=> ?_) fun _=>ab h6
  refine aP (by constructor<;>omega) (aP (by constructor<;>omega) (bD O O fun _ _=>bD O O fun _ _=>bD O O fun _ _=>bD O (by rw [List.length_set];omega) fun _ _=>aP (by constructor<;>omega) ?_));exact AO p34 h7 m _ _ O O O (by rw [List.length_set,List.length_set];exact h6)
theorem xx (l:List JW)(hl:l.length=n): ∀(m:Nat) (i j:Int),j - i<m→a≤i→i≤j→j≤q→Sat (cH N kb a q b l m i j) fun r=>r.length=n
 |0,i,j,h,h4,h5,h6=>by omega
 |m+1,i,j,h,h4,h5,h6=>by
  rw [cH.eq_2]
  refine bf (fun h7=> ?_) fun _=>AO N hN n hn kb a q b h0 h1 h2 h3 i h4 N l q O O O hl
  rw [mp O O O];refine aP (by constructor<;>omega) (bD O O fun _ _=>bD O O fun _ _=>(se N _ _).bind fun _ _=>ew (fun _=>aP (by constructor<;>omega) ?_) fun _=> ?_)
  ·exact xx l hl m _ _ O O O h6
  exact xx l hl m _ _ O h4 O O
include hk
theorem AQ (p:Int)(hp:p≤q)(hp2:(a+b) / 2+q - b≤p)(hp3:a≤p)(l:List JW)(hl:l.length=n):Sat (cI N kb b a q p l) fun r=>r.length=n:=by
 have:=hN;unfold cI;rw [mp O O O]
 refine bu (P:=fun c=>c=true→(a+b) / 2<(a+b) / 2+q - p∧(a+b) / 2+q - p<b) (fun e=>ab fun e2=>⟨of_decide_eq_true e,of_decide_eq_true e2⟩) (fun _=>ab fun h=>by cases h) fun c hc=>aT (fun e=> ?_) fun _=>ab hl
 obtain ⟨h4,h5⟩:=hc e
 exact (hk l _ _ _ O h4 h5 O O hl).bind fun r hr=>ab hr
theorem AR (p:Int)(hp:p≤q)(hp2:(a+b) / 2+q - b≤p)(hp3:a≤p)(l:List JW)(hl:l.length=n):Sat (cJ N kb a b p q l) fun r=>r.length=n:=by
 unfold cJ;rw [mp O O O]
 refine bu (P:=fun c=>c=true→a<p∧p<(a+b) / 2) (fun e=>ab fun e2=>⟨of_decide_eq_true e,of_decide_eq_true e2⟩) (fun _=>ab fun h=>by cases h) fun c hc=>aT (fun e=> ?_) fun _=>AQ N hN n hn kb a q b h0 h1 h2 h3 hk p hp hp2 hp3 l hl
 obtain ⟨h4,h5⟩:=hc e
 exact (hk l _ _ _ O h4 h5 O O hl).bind fun r hr=>AQ N hN n hn kb a q b h0 h1 h2 h3 hk p hp hp2 hp3 r hr
theorem ED (p:Int)(hp:p≤q)(hp2:(a+b) / 2+q - b≤p)(hp3:a≤p)(l:List JW)(hl:l.length=n):Sat (dn N kb a q b l p) fun r=>r.length=n:=by
 unfold dn;rw [mp O O O];refine aP (by constructor<;>omega) (bu (P:=fun c=>c=true→p<q∧q<(a+b) / 2+q - p) (fun e=>ab fun e2=>⟨of_decide_eq_true e,of_decide_eq_true e2⟩) (fun _=>ab fun h=>by cases h) fun c hc=>aT (fun e=> ?_) fun _=>AR N hN n hn kb a q b h0 h1 h2 h3 hk p hp hp2 hp3 l hl);obtain ⟨h4,h5⟩:=hc e
 exact (GX N hN n hn l _ _ _ O h4 h5 O hl).bind fun r hr=>AR N hN n hn kb a q b h0 h1 h2 h3 hk p hp hp2 hp3 r hr
theorem um (l:List JW)(hl:l.length=n): ∀(m:Nat) (i j:Int),j - i<m→a≤i→(a+b) / 2+q - b≤i→i≤j→j≤q→j≤(a+b) / 2∨q≤(a+b) / 2→Sat (cG N kb a q b l m i j) fun r=>r.length=n
 |0,i,j,h,h4,h4',h5,h6,h7=>by omega
 |m+1,i,j,h,h4,h4',h5,h6,h7=>by
  rw [cG.eq_2]
  refine bf (fun h8=> ?_) fun _=>ED N hN n hn kb a q b h0 h1 h2 h3 hk i O h4' h4 l hl
  rw [mp (a:=a) (b:=b) O O O,mp (a:=i) (b:=j) O O O];refine aP (by constructor<;>omega) (aP (by constructor<;>omega) (bD O O fun _ _=>bD O O fun _ _=>(se N _ _).bind fun _ _=>ew (fun _=>aP (by constructor<;>omega) ?_) fun _=> ?_))
  ·exact um l hl m _ _ O O O O h6 h7
  exact um l hl m _ _ O h4 h4' O O O
theorem EE (l:List JW)(hl:l.length=n):Sat (dq N kb a q b l) fun r=>r.length=n:=by
 unfold dq dp;rw [mp O O O];refine aP (by constructor<;>omega) (aP (by constructor<;>omega) (bf (fun h4=> ?_) fun h4=> ?_))
 ·exact aP (by constructor<;>omega) (aP (by constructor<;>omega) (um N hN n hn kb a q b h0 h1 h2 h3 hk l hl N _ _ O O O O O O))
 exact aP (by constructor<;>omega) (um N hN n hn kb a q b h0 h1 h2 h3 hk l hl N _ _ O O O O O O)
end
theorem GD: ∀(m:Nat) (l:List JW) (a q b:Int),b - a<m→0≤a→a<q→q<b→b≤n→l.length=n→Sat (aM N m l a q b) fun r=>r.length=n
 |0,l,a,q,b,h,h0,h1,h2,h3,h4=>by omega
 |m+1,l,a,q,b,h,h0,h1,h2,h3,h4=>by
  have hk: ∀(l:List JW) (x y z:Int),a≤x→x<y→y<z→z≤b→z - x<b - a→l.length=n→Sat (aM N m l x y z) fun r=>r.length=n:=fun l x y z g1 g2 g3 g4 g5 g6=>GD m l x y z O O g2 g3 O g6
  rw [gp];refine aP (by constructor<;>omega) (bf (fun _=>z6 N hN n hn _ a q b h0 h1 h2 h3 l h4 N q b O O O O) fun _=> ?_);unfold dC;refine aP (by constructor<;>omega) (bf (fun _=>xx N hN n hn _ a q b h0 h1 h2 h3 l h4 N a q O O O O) fun _=>EE N hN n hn _ a q b h0 h1 h2 h3 hk l h4)
theorem C5 (l:List JW)(a q b:Int)(h0:0≤a)(h1:a<q)(h2:q<b)(h3:b≤n)(h4:l.length=n):Sat (bR N l a q b) fun r=>r.length=n:=
 GD N hN n hn N l a q b O h0 h1 h2 h3 h4
theorem yU (kb:List JW→Int→Option (List JW))(z:Int)(hz:0<z)(hz2:z≤n)(hk: ∀l:List JW,l.length=n→Sat (kb l (z*2)) fun r=>r.length=n): ∀(m:Nat) (l:List JW) (a b:Int),(n:Int) - a<m→0≤a→a≤n→b=a+2*z→l.length=n→Sat (dH N kb n z m l a b) fun r=>r.length=n
 |0,l,a,b,h,h0,h1,h2,h3=>by omega
 | m+1,l,a,b,h,h0,h1,h2,h3=>by
  rw [dH.eq_2]
  refine bf (fun h4=> ?_) fun h4=> ?_
  ·refine aP (by constructor<;>omega) ((C5 N hN n hn l _ _ _ h0 O O h4 h3).bind fun r hr=>aP (by constructor<;>omega) (aP (by constructor<;>omega) ?_));exact yU kb z hz hz2 hk m r _ _ O O h4 J hr
  unfold eO dI;refine aP (by constructor<;>omega) (bf (fun h5=> ?_) fun _=>aP (by constructor<;>omega) (hk l h3))
  exact (C5 N hN n hn l _ _ _ h0 O h5 O h3).bind fun r hr=>aP (by constructor<;>omega) (hk r hr)
theorem yV: ∀(m:Nat) (l:List JW) (z:Int),((n:Int) - z).toNat<m→0<z→l.length=n→Sat (bJ N n m l z) fun r=>r.length=n
 |0,l,z,h,h0,h1=>by omega
 |m+1,l,z,h,h0,h1=>by
  rw [bJ.eq_2]
  refine bf (fun h4=> ?_) fun h4=>ab h1
  exact aP (by constructor<;>omega) (yU N hN n hn _ z h0 O (fun l' hl'=>yV m l' (z*2) O O hl') N l 0 _ O O O O h1)
theorem AS: ∀(m:Nat) (l:List JW) (a b:Int),(n:Int) - a<m→0≤a→a≤n→b=a+20→l.length=n→Sat (dT N n m l a b) fun r=>r.length=n
 |0,l,a,b,h,h0,h1,h2,h3=>by omega
 | m+1,l,a,b,h,h0,h1,h2,h3=>by
  rw [dT.eq_2]
  refine bf (fun h4=> ?_) fun h4=> ?_
  ·refine (DC N hN n hn l a b h0 h1 h4 h3).bind fun r hr=>aP (by constructor<;>omega) ?_
   exact AS m r _ _ O O h4 J hr
  unfold fd
  exact (DC N hN n hn l a n h0 h1 O h3).bind fun r hr=>yV N hN n hn N r 20 O O hr
end
theorem EH (N:Nat)(hN:20000≤N)(l:List JW)(hl:l.length≤6000):Sat (dU N l) fun r=>r.length=l.length:=by
 unfold dU fB
 exact (AS N hN l.length hl N l 0 20 O O O O J).bind fun r hr=>ab hr
theorem qj (N:Nat)(hN:20000≤N)(a:List JW)(ha:a.length≤6000): ∀(m i:Nat) (p:List JW),a.length<m+i→i≤a.length→p.length≤i→Sat (jN N a m p (i:Int)) fun r=>r.length≤6000
 |0,i,p,h,h1,h2=>by omega
 | m+1,i,p,h,h1,h2=>by
  rw [jN.eq_2]
  refine bf (fun h4=> ?_) fun h4=> ?_
  ·refine bD O h4 fun x _=>(lL N O x).bind fun b _=> ?_
   unfold mW
   refine aT (fun _=>aP (by unfold fA;rw [List.length_singleton];omega) (aP (by constructor<;>omega) ?_)) fun _=>aP (by constructor<;>omega) ?_
   ·exact qj N hN a ha m (i+1) _ O O (by rw [List.length_append,List.length_singleton];omega)
   exact qj N hN a ha m (i+1) _ O O O
  unfold pg
  exact (EH N hN p O).bind fun r hr=>ab O
theorem wX (N:Nat)(hN:20000≤N)(a:List JW)(ha:a.length≤6000):Sat (eG N a) fun r=>r.length≤6000:=
 qj N hN a ha N 0 [] O O (by simp)
end
section
variable {A1 A10 A12 A13 A14 A15 A2 A3 A4 A5 A6:Option Addr} {B1 B2 B7 B9 M11 M8 c1 c10 c12 c13 c14 c15 c2 c3 c4 c5 c6 n1 n10 n12 n13 n14 n15 n2 n3 n4 n5 n6:Nat}
open Go.RowKit
def np (x:JS):Prop:= -9223372036854775808≤x.N∧x.N≤9223372036854775807
theorem pW:np ⟨0,0,⟨#[]⟩⟩:=⟨by decide,by decide⟩
structure goodC (c:JU):Prop where
 sl:c.Slots.length≤5000
 ml:c.More.length≤5000
 sv: ∀x∈c.Slots,np x
 mv: ∀x∈c.More,np x
theorem GH:goodC ⟨0,0,0,0,[],[]⟩:=⟨by decide,by decide,by simp,by simp⟩
theorem sE (N:Nat){c:JU}(h:goodC c):fO N c=some c:=by
 have h1: ∀l:List JS,l.length≤5000→jt N l=some l:=fun l hl=>by
  unfold jt;rw [io (by unfold fA;simp;omega),List.nil_append]
 unfold fO;rw [h1 _ h.sl,bs,h1 _ h.ml,bs]
theorem Fz (N:Nat)(x:JS):Sat (gH N x) fun _=>True:=by
 unfold gH iq
 refine bf (fun _=>bu (P:=fun _=>True) (fun _=>ab trivial) (fun _=>ab trivial) fun _ _=>ab trivial) fun _=>ew (fun _=>ab trivial) fun _=> ?_
 have hj: ∀p:Bool,Sat (bif p then some (decide (1≤x.N)) else ((bif decide (x.N=0) then (some (decide (0≤x.Kind))) else (some false)).bind fun b14=>(bif b14 then (some (decide (x.Kind≤9))) else (some false)).bind fun b15=>some b15)) fun _=>True:=fun p=>
  aT (fun _=>ab trivial) fun _=>bu (P:=fun _=>True) (fun _=>ab trivial) (fun _=>ab trivial) fun _ _=>bu (P:=fun _=>True) (fun _=>ab trivial) (fun _=>ab trivial) fun _ _=>ab trivial
 refine bf (fun _=>bu (P:=fun _=>True) (fun _=>ab trivial) (fun _=>ab trivial) fun _ _=>ab trivial) fun _=> ?_
 refine bf (fun _=>bu (P:=fun _=>True) (fun _=>ab trivial) (fun _=>ab trivial) fun _ _=>ab trivial) fun _=> ?_
 exact bf (fun _=>hj _) fun _=>bf (fun _=>hj _) fun _=>hj _
def IM (r:Option Exit×Unit):Prop:=r.1=none∨r.1=some Exit.ret
theorem Bc (N:Nat)(c:JU)(x:Bool×JS):Sat (iM (fun x st=>cT N c x st) x (none,())) fun r=>IM r.2∧(r.1=true→r.2=(none,())):=by
 obtain ⟨y,hy, -⟩:=Fz N x.2;unfold iM cT;simp only [hy,bs]
 cases y with
 |true=>exact ⟨_,rfl,.inl rfl,fun _=>rfl⟩
 |false=>exact ⟨_,rfl,.inr rfl,fun h=>by cases h⟩
theorem zN (N:Nat)(c:JU)(hc:c.More.length≤5000): ∀(m i:Nat),c.More.length<m+i→i≤c.More.length→Sat (iT N (iM (fun x st=>cT N c x st)) c m (i:Int) (none,())) IM
 |0,i,h,h1=>by omega
 |m+1,i,h,h1=>by
  rw [iT.eq_2]
  refine bf (fun h2=>bD O h2 fun x _=> ?_) fun _=>ab (.inl J)
  refine bu (P:=fun _=>True) (fun _=>bu (P:=fun _=>True) (fun _=>ab trivial) (fun _=>ab trivial) fun _ _=>ab trivial) (fun _=>ab trivial) fun b _=> ?_
  refine (Bc N c (b,x)).bind fun y hy=>ew (fun _=>ab hy.1) fun e=> ?_
  rw [hy.2 e];exact aP (by constructor<;>omega) (zN N c hc m (i+1) O O)
theorem xo (N:Nat)(hN:20000≤N)(c:JU)(hs:c.Slots.length≤5000)(hc:c.More.length≤5000): ∀(m i:Nat),c.Slots.length<m+i→i≤c.Slots.length→Sat (jG N (iM (fun x st=>cT N c x st)) c m (i:Int) (none,())) IM
 |0,i,h,h1=>by omega
 |m+1,i,h,h1=>by
  rw [jG.eq_2]
  refine bf (fun h2=>bD O h2 fun x _=> ?_) fun _=>zN N c hc N 0 O O
  refine (Bc N c (true,x)).bind fun y hy=>ew (fun _=>ab hy.1) fun e=> ?_
  rw [hy.2 e];exact aP (by constructor<;>omega) (xo N hN c hs hc m (i+1) O O)
theorem C7 (N:Nat)(c:JU)(hk:c.Kind=1∨c.Kind=2∨c.Kind=5):Sat (eB N c) fun _=>True:=by
 unfold eB
 have h1:lO N c.Kind=some (decide (c.Kind=1∨c.Kind=2)):=by
  unfold lO fN;rcases hk with h|h|h<;>rw [h]<;>rfl
 have hor: ∀x k,Sat (fb N x k) fun _=>True:=fun x k=>by
  unfold fb
  exact bu (P:=fun _=>True) (fun _=>ab trivial) (fun _=>ab trivial) fun _ _=>ab trivial
 rw [h1,bs]
 refine bu (P:=fun _=>True) (fun _=>ab trivial) (fun _=>bu (P:=fun _=>True) (fun _=>ab trivial) (fun _=>ab trivial) fun _ _=>ab trivial) fun b _=>aT (fun _=> ?_) fun _=> ?_
 ·refine bu (P:=fun b=>b=true→1≤(c.Slots.length:Int)) (fun e=>ab fun _=>of_decide_eq_true e) (fun _=>ab fun h=>by cases h) fun b hb=> ?_
  refine bu (P:=fun _=>True) (fun e=> ?_) (fun _=>ab trivial) fun _ _=>ab trivial
  have:=hb e
  exact bD O O fun x _=>bu (P:=fun _=>True) (fun _=>ab trivial) (fun _=>bD O O fun x _=>ab trivial) fun _ _=>ab trivial
 refine bf (fun _=>ab trivial) fun _=>bu (P:=fun _=>True) (fun _=>ab trivial) (fun _=>ab trivial) fun _ _=>aT (fun _=>ab trivial) fun _=>bf (fun _=> ?_) fun _=>ab trivial
 refine bu (P:=fun b=>b=true→(c.Slots.length:Int)=2) (fun e=> ?_) (fun _=>ab fun h=>by cases h) fun b hb=> ?_
 ·have:=of_decide_eq_true e
  exact bD O O fun x _=>(hor _ _).bind fun _ _=>ab fun _=>this
 refine bu (P:=fun _=>True) (fun e=> ?_) (fun _=>ab trivial) fun _ _=>ab trivial
 have:=hb e
 exact bD O O fun x _=>(hor _ _).bind fun _ _=>ab trivial
theorem zm (N:Nat)(k:Int)(l:List JS)(hk:k=1∨k=2∨k=5):ig N k l=some (decide ((l.length:Int)≤1048576)&&bif decide (k=2) then decide ((l.length:Int)≤4096) else decide ((l.length:Int)=0)):=by
 unfold ig jm;by_cases h:(1048576:Int)<l.length
 ·rw [JZ h,ct,J0 (show¬(l.length:Int)≤1048576 by omega)];rfl
 rw [J0 h,cf,JZ (show (l.length:Int)≤1048576 by omega)];rcases hk with rfl|rfl|rfl<;>rfl
theorem Dd (N:Nat)(hN:20000≤N)(c:JU)(hk:c.Kind=1∨c.Kind=2∨c.Kind=5)(hs:c.Slots.length≤5000)(hc:c.More.length≤5000):Sat (dM N c) fun b=>b=true→(0≤c.Flags∧c.Flags≤63)∧(c.Kind=2→c.More.length≤4096)∧(c.Kind=1→c.More=[]):=by
 unfold dM
 refine bu (P:=fun _=>True) (fun _=>ab trivial) (fun _=>ab trivial) fun b5 _=> ?_
 refine bu (P:=fun _=>True) (fun _=>ab trivial) (fun _=>ab trivial) fun b6 _=> ?_
 refine bu (P:=fun b=>b=false→0≤c.Flags) (fun _=>ab fun h=>by cases h) (fun _=>ab fun h=>by have:=of_decide_eq_false h;omega) fun b7 h7=> ?_
 refine bu (P:=fun b=>b=false→0≤c.Flags∧c.Flags≤63) (fun _=>ab fun h=>by cases h) (fun e=>ab fun h=>⟨h7 e,by have:=of_decide_eq_false h;omega⟩) fun b8 h8=> ?_
 refine bu (P:=fun b=>b=false→0≤c.Flags∧c.Flags≤63) (fun _=>ab fun h=>by cases h) (fun e=>bu (P:=fun _=>True) (fun _=>ab trivial) (fun _=>ab trivial) fun _ _=>ab fun _=>h8 e) fun b9 h9=> ?_
 refine aT (fun _=>ab fun h=>by cases h) fun e=> ?_
 show Sat (Option.bind (some ()) _) _;rw [bs]
 refine (xo N hN c hs hc N 0 O O).bind fun y hy=> ?_
 rcases hy with hy|hy
 ·rw [hy];show Sat (Option.bind _ _) _
  refine (C7 N c hk).bind fun z _=> ?_
  rw [zm N _ _ hk,bs]
  refine bu (P:=fun b=>b=true→(0≤c.Flags∧c.Flags≤63)∧(c.Kind=2→c.More.length≤4096)∧(c.Kind=1→c.More=[])) (fun _=>ab fun h=>⟨h9 e,fun h2=> ?_,fun h2=> ?_⟩) (fun _=>ab fun h=>by cases h) fun b hb=>ab hb
  ·rw [JZ h2,ct,Bool.and_eq_true] at h;have:=of_decide_eq_true h.2;omega
  rw [J0 (show¬c.Kind=2 by omega),cf,Bool.and_eq_true] at h;exact List.eq_nil_of_length_eq_zero (by have:=of_decide_eq_true h.2;omega)
 rw [hy]
 exact ab fun h=>by cases h
def oR (N:Nat)(x:JS):Prop:=gH N x=some true
def sW (N:Nat)(x:JS):Prop:=np x∧oR N x
theorem vz (N:Nat)(k n:Int)(h5:k≠5):gH N ⟨k,n,⟨#[]⟩⟩=(bif decide (k=2) then ((bif decide (n=0) then (some true) else (some (decide (n=1)))).bind fun b6=>some b6) else (bif decide (k=3) then ((bif decide ((-9007199254740992)≤n) then (some (decide (n≤9007199254740992))) else (some false)).bind fun b8=>some b8) else (bif decide (k=6) then (iq N ⟨k,n,⟨#[]⟩⟩ (decide (k=6))) else (bif decide (k=7) then (iq N ⟨k,n,⟨#[]⟩⟩ (decide (k=7))) else (iq N ⟨k,n,⟨#[]⟩⟩ (decide (k=9))))))):=by
 unfold gH;rw [J0 (show¬(⟨k,n,⟨#[]⟩⟩:JS).Kind=5 from h5),cf,show ((⟨k,n,⟨#[]⟩⟩:JS).S.toList==(⟨#[]⟩:ByteArray).toList)=true from beq_self_eq_true _,nt,cf]
theorem G7 (N:Nat):oR N ⟨0,0,⟨#[]⟩⟩:=by
 unfold oR;rw [vz N 0 0 (by decide)];rfl
theorem xv (N:Nat):sW N ⟨0,0,⟨#[]⟩⟩:=⟨pW,G7 N⟩
theorem Bb (N:Nat){n:Int}(h0: -9007199254740992≤n)(h1:n≤9007199254740992):oR N ⟨3,n,⟨#[]⟩⟩:=by
 unfold oR;rw [vz N 3 n (by decide)];show (Option.bind (bif decide (-9007199254740992≤n) then some (decide (n≤9007199254740992)) else some false) _)=_;rw [JZ h0,JZ h1];rfl
theorem Dw (N:Nat){n:Int}(h:1≤n):oR N ⟨9,n,⟨#[]⟩⟩:=by
 unfold oR;rw [vz N 9 n (by decide)];show some (decide (1≤n))=_;rw [JZ h]
structure RC (N:Nat) (c:JU):Prop where
 kind:c.Kind=1∨c.Kind=2
 sh:0≤c.Shape
 fl:0≤c.Flags∧c.Flags≤63
 age:c.Age=0∨c.Age=1
 sv: ∀x∈c.Slots,oR N x
 mv: ∀x∈c.More,oR N x
 sl:c.Slots.length≤1025
 proto: ∃z,c.Slots[0]? =some z∧(z.Kind=1∨z.Kind=7)
 more:c.More.length≤4096
 plain:c.Kind=1→c.More=[]
theorem zq (N:Nat)(c:JU)(b:Bool)(x:JS)(h:oR N x):iM (fun x st=>cT N c x st) (b,x) (none,())=some (true,(none,())):=by
 show Option.map _ (cT N c (b,x) ())=_;unfold cT;simp only;rw [show gH N x=some true from h];rfl
theorem zk (N:Nat)(c:JU)(hc:c.More.length≤5000)(hm: ∀x∈c.More,oR N x): ∀(m i:Nat),c.More.length<m+i→i≤c.More.length→Sat (iT N (iM (fun x st=>cT N c x st)) c m (i:Int) (none,())) (· =(none,()))
 |0,i,h,h1=>by omega
 |m+1,i,h,h1=>by
  rw [iT.eq_2]
  refine bf (fun h2=>bD O h2 fun x hx=> ?_) fun _=>ab J
  refine bu (P:=fun _=>True) (fun _=>bu (P:=fun _=>True) (fun _=>ab trivial) (fun _=>ab trivial) fun _ _=>ab trivial) (fun _=>ab trivial) fun b _=> ?_
  rw [zq N c b x (hm x (List.mem_of_getElem? hx)),bs,nt,cf];exact aP (by constructor<;>omega) (zk N c hc hm m (i+1) O O)
theorem wQ (N:Nat)(hN:20000≤N)(c:JU)(hs:c.Slots.length≤5000)(hc:c.More.length≤5000)(hv: ∀x∈c.Slots,oR N x)(hm: ∀x∈c.More,oR N x): ∀(m i:Nat),c.Slots.length<m+i→i≤c.Slots.length→Sat (jG N (iM (fun x st=>cT N c x st)) c m (i:Int) (none,())) (· =(none,()))
 |0,i,h,h1=>by omega
 |m+1,i,h,h1=>by
  rw [jG.eq_2]
  refine bf (fun h2=>bD O h2 fun x hx=> ?_) fun _=>zk N c hc hm N 0 O O
  rw [zq N c true x (hv x (List.mem_of_getElem? hx)),bs,nt,cf];exact aP (by constructor<;>omega) (wQ N hN c hs hc hv hm m (i+1) O O)
theorem RC.right {N:Nat}(hN:20000≤N){c:JU}(h:RC N c):dM N c=some true:=by
 have h0:=h.fl;have h1:=h.sl;have h2:=h.more;have h3:=h.sh;obtain ⟨z,z1,z2⟩:=h.proto;have hl:=(List.getElem?_eq_some_iff.1 z1).1
 have hz:bT c.Slots 0=some z:=by unfold bT;exact z1
 have hk:1≤c.Kind∧c.Kind≤2:=by rcases h.kind with e|e<;>omega
 have hh:lO N c.Kind=some true:=by
  unfold lO fN;rcases h.kind with e|e<;>rw [e]<;>rfl
 have ha:=(wQ N hN c O O h.sv h.mv N 0 O O).eq
 have hage:(bif !decide (c.Age=0) then some (!decide (c.Age=1)) else some false:Option Bool)=some false:=by rcases h.age with e|e<;>rw [e]<;>rfl
 have hsl:eB N c=some true:=by
  unfold eB;rw [hh,bs,ct,bs,ct,JZ (show 1≤(c.Slots.length:Int) by omega),ct,JZ (show (c.Slots.length:Int)≤1025 by omega),bs,ct,hz,bs];rcases z2 with e|e
  ·rw [e];rfl
  rw [e];show some (decide (z.Kind=7))=_;rw [e];rfl
 have hmr:ig N c.Kind c.More=some true:=by
  rw [zm N _ _ (by rcases h.kind with e|e<;>omega),JZ (show (c.More.length:Int)≤1048576 by omega),Bool.true_and];rcases h.kind with e|e
  ·rw [J0 O,cf,h.plain e];rfl
  rw [JZ e,ct,JZ O]
 unfold dM;rw [J0 (show¬c.Kind<1 by omega),cf,J0 (show¬11<c.Kind by omega),bs,cf,J0 (show¬c.Shape<0 by omega),bs,cf,J0 (show¬c.Flags<0 by omega),bs,cf,J0 (show¬63<c.Flags by omega),bs,cf,hage,bs,bs,cf];show Option.bind (kr N c _ _) _=_;rw [show kr N c (iM (fun x st=>cT N c x st)) (none,())=some (none,()) from ha,bs];show Option.bind (eB N c) _=_;rw [hsl,bs,ct,hmr];rfl
theorem AN {a:Int}(h0: -9223372036854775808≤a)(h1:a≤9223372036854775807):bM (a.tdiv 2)∧bM (a.tdiv 2 - 1):=by
 have: -4611686018427387904≤a.tdiv 2∧a.tdiv 2≤4611686018427387904:=by
  by_cases h:0≤a
  ·rw [Int.tdiv_eq_ediv_of_nonneg h];omega
  have e:a.tdiv 2= -((-a).tdiv 2):=by rw [Int.neg_tdiv,Int.neg_neg]
  rw [e,Int.tdiv_eq_ediv_of_nonneg O];omega
 unfold bM;omega
def oA (w:JL)(hB:List JU):JL:=⟨w.spent_,w.config_,(),⟨⟨hB,w.heap_.m_.Old⟩,w.heap_.roots_,w.heap_.pending_,w.heap_.set_⟩,w.shapes_,w.symbols_,w.epoch_,w.serial_,w.sleepers_,w.events_,w.out_⟩
def C9 (w:JL)(t:JP):JL:=⟨w.spent_,w.config_,(),w.heap_,t,w.symbols_,w.epoch_,w.serial_,w.sleepers_,w.events_,w.out_⟩
theorem G5 {a:Int}(h:a.tmod 2≠0)(h0:0<a): ∃j:Nat,a=2*j+1∧a.tdiv 2=(j:Int)∧a.tmod 2=1:=by
 rw [Int.tmod_eq_emod_of_nonneg O] at h⊢;rw [Int.tdiv_eq_ediv_of_nonneg O];exact ⟨(a / 2).toNat,by omega,by omega,by omega⟩
theorem xO (j:Nat):(2*(j:Int)+1).tmod 2=1∧(2*(j:Int)+1).tdiv 2=(j:Int):=by
 rw [Int.tmod_eq_emod_of_nonneg O,Int.tdiv_eq_ediv_of_nonneg O];omega
theorem Bi (N:Nat)(h:JJ)(hO:h.m_.Old=[])(a:Int)(h0: -9223372036854775808≤a)(h1:a≤9223372036854775807):d3 N h a=some false∨(d3 N h a=some true∧ ∃(j:Nat) (c:JU),a=2*j+1∧h.m_.Young[j]? =some c):=by
 obtain ⟨t1,t2⟩:=AN h0 h1;unfold d3 cg nX lV jy;simp only [bs,nf,ct];rw [io t1];by_cases hp:0<a
 ·by_cases e:a.tmod 2=0
  ·left
   have e2: ¬(a.tdiv 2 - 1<0):=by
    rw [Int.tmod_eq_emod_of_nonneg O] at e;rw [Int.tdiv_eq_ediv_of_nonneg O];omega
   rw [JZ e,ct,io t1,io t2,hO,JZ hp,ct,bs];simp [e2,bs]
  obtain ⟨j,j1,j2,j3⟩:=G5 e hp;rw [J0 e,cf,JZ hp,ct,bs,j2];by_cases hj:j<h.m_.Young.length
  ·right;rw [JZ O];exact ⟨J,j,h.m_.Young[j],j1,List.getElem?_eq_getElem hj⟩
  left;rw [J0 O];rfl
 left;rw [J0 hp];by_cases e:a.tmod 2=0
 ·rw [JZ e,ct,io t1,io t2];rfl
 rw [J0 e,cf];rfl
theorem Bj (N:Nat)(h:JJ)(j:Nat)(hj:j<h.m_.Young.length)(hb:j≤1000000000):d3 N h (2*j+1)=some true:=by
 obtain ⟨t1,t2⟩:=AN (a:=2*(j:Int)+1) O O;obtain ⟨o1,o2⟩:=xO j;unfold d3 cg nX lV jy;simp only [bs,nf,ct];rw [io t1,J0 O,cf,JZ O,ct,bs,o2,JZ O];rfl
theorem tr (N:Nat)(h:JJ)(j:Nat)(hj:j<h.m_.Young.length)(hb:j≤9223372036854775807):fx N h (2*j+1)=some (.inl (j:Int)):=by
 obtain ⟨o1,o2⟩:=xO j;unfold fx;rw [JZ o1,ct,o2,io (by constructor<;>omega),jc hj,bs]
theorem oV (N:Nat)(x:JS):iZ N x=some (decide (x.Kind=7)||decide (x.Kind=9)):=by
 unfold iZ;cases decide (x.Kind=7)<;>rfl
structure Mem (w:JL) (k:Nat):Prop where
 old:w.heap_.m_.Old=[]
 good: ∀x∈w.heap_.m_.Young,goodC x
 len:w.heap_.m_.Young.length≤k
theorem qV (N:Nat){w:JL}(hg: ∀x∈w.heap_.m_.Young,goodC x){x:JS}{j:Nat}{c:JU}(hk:x.Kind=7∨x.Kind=9)(hx:x.N=2*j+1)(hb:j≤1000000000)(hj:w.heap_.m_.Young[j]? =some c):bG N w x=some c:=by
 have hlt:=(List.getElem?_eq_some_iff.1 hj).1;have hc:=hg c (List.mem_of_getElem? hj);unfold bG ll gy;rw [oV,bs,show (decide (x.Kind=7)||decide (x.Kind=9))=true by rcases hk with h|h<;>rw [h]<;>rfl,nt,cf,hx,Bj N _ j hlt hb,bs,nt,cf,tr N _ j hlt O,bs];show Option.bind (Option.bind (bT w.heap_.m_.Young (j:Int)) _) _=_;rw [jc hlt,bs,(List.getElem?_eq_some_iff.1 hj).2,sE N hc,bs];rfl
theorem sI (N:Nat){w:JL}{k:Nat}(hw:Mem w k)(hk:k≤1000000000){x:JS}(hx:np x):Sat (bG N w x) fun c=>goodC c∧(c=⟨0,0,0,0,[],[]⟩∨ ∃j:Nat,x.N=2*j+1∧w.heap_.m_.Young[j]? =some c):=by
 by_cases hl:x.Kind=7∨x.Kind=9
 ·rcases Bi N w.heap_ hw.old x.N hx.1 hx.2 with h|⟨-,j,c,h1,h2⟩
  ·refine ⟨⟨0,0,0,0,[],[]⟩,?_,GH,.inl J⟩;unfold bG ll gy;rw [oV,bs,show (decide (x.Kind=7)||decide (x.Kind=9))=true by rcases hl with h|h<;>rw [h]<;>rfl,nt,cf,h];rfl
  have:=(List.getElem?_eq_some_iff.1 h2).1;exact ⟨c,qV N hw.good hl h1 (by have:=hw.len;omega) h2,hw.good c (List.mem_of_getElem? h2),.inr ⟨j,h1,h2⟩⟩
 refine ⟨⟨0,0,0,0,[],[]⟩,?_,GH,.inl J⟩;unfold bG;rw [oV,bs,J0 fun h=>hl (.inl h),J0 fun h=>hl (.inr h)];rfl
theorem AY (N:Nat)(w:JL)(x:JS)(c:JU):fD N w x c=bz N w x c:=rfl
theorem GY (N:Nat){w:JL}{k:Nat}(hw:Mem w k)(hk:k≤1000000000){x:JS}(hx:np x){c:JU}(hc:goodC c)(hr:Sat (dM N c) fun _=>True):Sat (bz N w x c) fun w'=>w'=w∨ ∃(j:Nat) (o:JU),x.N=2*j+1∧w.heap_.m_.Young[j]? =some o∧dM N c=some true∧w'=oA w (w.heap_.m_.Young.set j ⟨c.Kind,c.Shape,c.Flags,o.Age,c.Slots,c.More⟩):=by
 unfold bz;rw [oV,bs]
 refine aT (fun _=> ?_) fun _=>ab (.inl J)
 unfold kx;rw [show cg N w.heap_=some false from rfl,bs,cf];rcases Bi N w.heap_ hw.old x.N hx.1 hx.2 with h|⟨h,j,o,h1,h2⟩
 ·rw [h];exact ab (.inl J)
 have hlt:=(List.getElem?_eq_some_iff.1 h2).1;have:=hw.len;obtain ⟨b,hb, -⟩:=hr;rw [h,bs,nt,cf,hb,bs]
 cases b with
 |false=>exact ab (.inl rfl)
 |true=>
  rw [nt,cf,h1,tr N _ j hlt O,bs];show Sat (Option.bind (Option.bind (bT w.heap_.m_.Young (j:Int)) _) _) _;rw [jc hlt,bs,(List.getElem?_eq_some_iff.1 h2).2,sE N hc,bs,J0 (by have:=(xO j).1;omega),cf];refine ⟨_,J,.inr ⟨j,o,J,h2,J,?_⟩⟩;unfold oA;simp only [Int.toNat_natCast,List.set_set]
theorem Dh (N:Nat){w:JL}(hg: ∀x∈w.heap_.m_.Young,goodC x){x:JS}{j:Nat}{o c:JU}(hk:x.Kind=7)(hx:x.N=2*j+1)(hb:j≤1000000000)(hj:w.heap_.m_.Young[j]? =some o)(hc:goodC c)(hr:dM N c=some true):bz N w x c=some (oA w (w.heap_.m_.Young.set j ⟨c.Kind,c.Shape,c.Flags,o.Age,c.Slots,c.More⟩)):=by
 have hlt:=(List.getElem?_eq_some_iff.1 hj).1;unfold bz kx;rw [oV,bs,JZ hk,Bool.true_or,ct,show cg N w.heap_=some false from rfl,bs,cf,hx,Bj N _ j hlt hb,bs,nt,cf,hr,bs,nt,cf,tr N _ j hlt O,bs];show Option.bind (Option.bind (bT w.heap_.m_.Young (j:Int)) _) _=_;rw [jc hlt,bs,(List.getElem?_eq_some_iff.1 hj).2,sE N hc,bs,J0 (by have:=(xO j).1;omega),cf];unfold jk oA;simp only [Int.toNat_natCast,List.set_set,bs]
theorem E7 (N:Nat){w:JL}{k:Nat}(hw:Mem w k)(hk:k≤1000000000){c:JU}(hc:goodC c)(hr:Sat (dM N c) fun _=>True):Sat (eT N w c) fun r=>sW N r.1∧(r.2=w∨r.2=oA w (w.heap_.m_.Young++ [⟨c.Kind,c.Shape,c.Flags,0,c.Slots,c.More⟩])):=by
 unfold eT fR;obtain ⟨b,hb, -⟩:=hr;have:=hw.len;rw [show cg N w.heap_=some false from rfl,bs,cf,hb,bs]
 cases b with
 |false=>exact ab ⟨xv N,.inl rfl⟩
 |true=>
  rw [nt,cf,sE N hc,bs];rw [io (by unfold fA;rw [List.length_singleton];omega),io (by rw [List.length_append,List.length_singleton];constructor<;>omega),io (by rw [List.length_append,List.length_singleton];constructor<;>omega),bs];refine ab ⟨?_,.inr J⟩;refine ⟨?_,Dw N (by rw [List.length_append,List.length_singleton];omega)⟩;show np ⟨9,_,_⟩;constructor
  ·show _≤2*(((w.heap_.m_.Young++_:List JU).length:Nat):Int) - 1;rw [List.length_append,List.length_singleton];omega
  show 2*(((w.heap_.m_.Young++_:List JU).length:Nat):Int) - 1≤_;rw [List.length_append,List.length_singleton];omega
end
section
variable {A1 A10 A12 A13 A14 A15 A2 A3 A4 A5 A6:Option Addr} {B1 B2 B7 B9 M11 M8 c1 c10 c12 c13 c14 c15 c2 c3 c4 c5 c6 n1 n10 n12 n13 n14 n15 n2 n3 n4 n5 n6:Nat}
open Go.RowKit
structure propV (N:Nat) (p:JQ):Prop where
 v:sW N p.Value
 g:np p.Get
 s:np p.Set
structure descV (N:Nat) (d:JM):Prop where
 v:sW N d.Value
 g:np d.Get
 s:np d.Set
theorem ve (N:Nat)(k:JW)(a:Int):propV N ⟨k,a,⟨0,0,⟨#[]⟩⟩,⟨0,0,⟨#[]⟩⟩,⟨0,0,⟨#[]⟩⟩⟩:=⟨xv N,pW,pW⟩
theorem G9:pe 0:=⟨by decide,by decide,by decide⟩
theorem IF:pe 1:=⟨by decide,by decide,by decide⟩
theorem IE:pe 7:=⟨by decide,by decide,by decide⟩
theorem xi (N:Nat)(d:JM):Sat (lr N d) fun _=>True:=by
 unfold lr lZ lY lq bO
 (repeat' first|exact ab trivial|refine Sat.bind (P:=fun _=>True) ?_ (fun _ _=> ?_)|refine aT (fun _=> ?_) (fun _=> ?_))
theorem Gn (N:Nat)(p:JQ)(d:JM):Sat (om N p d) fun _=>True:=by
 unfold om bO ls
 (repeat' first|exact ab trivial|refine Sat.bind (P:=fun _=>True) ?_ (fun _ _=> ?_)|refine aT (fun _=> ?_) (fun _=> ?_))
theorem CO (N:Nat)(d:JM):Sat (na N d) fun _=>True:=by
 unfold na bO oh
 repeat' first|exact ab trivial|exact xi N d|refine Sat.bind (P:=fun _=>True) ?_ (fun _ _=> ?_)|refine aT (fun _=> ?_) (fun _=> ?_)
abbrev GG (n:Int):Prop:= -9223372036854775808≤n∧n≤9223372036854775807
theorem vY (N:Nat){d:JM}(hd:descV N d)(a1:JW)(p27 y29 p31 p32:Int)(p33:ByteArray)(p14 p15:Int)(p16:ByteArray)(p37 p38:Int)(p39:ByteArray)(h1:sW N ⟨p31,p32,p33⟩)(h2:GG p15)(h3:GG p38):Sat (iO N d a1 p27 y29 p31 p32 p33 p14 p15 p16 p37 p38 p39) fun r=>propV N r∧r.Key=a1:=by
 unfold iO kz bO;rw [bs]
 exact aT (fun _=>ab ⟨⟨h1,h3,hd.s⟩,J⟩) fun _=>ab ⟨⟨h1,h3,h2⟩,J⟩
theorem vZ (N:Nat){d:JM}(hd:descV N d)(a1:JW)(p27 y29 p11 p12:Int)(p13:ByteArray)(p14 p15:Int)(p16:ByteArray)(p31 p32:Int)(p33:ByteArray)(h1:sW N ⟨p31,p32,p33⟩)(h2:GG p15)(h3:GG p12):Sat (iP N d a1 p27 y29 p11 p12 p13 p14 p15 p16 p31 p32 p33) fun r=>propV N r∧r.Key=a1:=by
 unfold iP bO;rw [bs]
 exact aT (fun _=>vY N hd _ _ _ _ _ _ _ _ _ _ _ _ h1 h2 hd.g) fun _=>vY N hd _ _ _ _ _ _ _ _ _ _ _ _ h1 h2 h3
theorem pp (N:Nat){d:JM}(hd:descV N d)(a1:JW)(p21 p22:Int)(p23:ByteArray)(p11 p12:Int)(p13:ByteArray)(p14 p15:Int)(p16:ByteArray)(p27:Int)(h1:sW N ⟨p21,p22,p23⟩)(h2:GG p15)(h3:GG p12):Sat (iQ N d a1 p21 p22 p23 p11 p12 p13 p14 p15 p16 p27) fun r=>propV N r∧r.Key=a1:=by
 unfold iQ
 refine (xi N d).bind fun y _=> ?_
 unfold bO;rw [bs]
 exact aT (fun _=>vZ N hd _ _ _ _ _ _ _ _ _ _ _ _ hd.v h2 h3) fun _=>vZ N hd _ _ _ _ _ _ _ _ _ _ _ _ h1 h2 h3
theorem wa (N:Nat){d:JM}(hd:descV N d){p:JQ}(hp:propV N p)(b:Bool)(a1:JW)(p11 p12:Int)(p13:ByteArray)(p14 p15:Int)(p16:ByteArray)(h2:GG p15)(h3:GG p12):Sat (iR N p b d a1 p11 p12 p13 p14 p15 p16) fun r=>propV N r∧r.Key=a1:=by
 unfold iR kA
 refine Sat.bind (P:=fun _=>True) (by repeat' first|exact ab trivial|refine Sat.bind (P:=fun _=>True) ?_ (fun _ _=> ?_)|refine aT (fun _=> ?_) (fun _=> ?_)) fun c _=>aT (fun _=>aT (fun _=> ?_) fun _=> ?_) fun _=>aT (fun _=> ?_) fun _=> ?_
 ·exact pp N hd _ _ _ _ _ _ _ _ _ _ _ hp.v h2 h3
 ·exact pp N hd _ _ _ _ _ _ _ _ _ _ _ hp.v h2 h3
 ·exact pp N hd _ _ _ _ _ _ _ _ _ _ _ (xv N) h2 h3
 exact pp N hd _ _ _ _ _ _ _ _ _ _ _ (xv N) h2 h3
theorem vU (N:Nat){p:JQ}(hp:propV N p)(k:JW){d:JM}(hd:descV N d):Sat (kn N p k d) fun r=>propV N r∧r.Key=k:=by
 unfold kn bO;rw [bs]
 refine Sat.bind (P:=fun _=>True) (by repeat' first|exact ab trivial|refine Sat.bind (P:=fun _=>True) ?_ (fun _ _=> ?_)|refine aT (fun _=> ?_) (fun _=> ?_)) fun b _=>Sat.bind (P:=fun _=>True) (by repeat' first|exact ab trivial|refine Sat.bind (P:=fun _=>True) ?_ (fun _ _=> ?_)|refine aT (fun _=> ?_) (fun _=> ?_)) fun c _=>aT (fun _=> ?_) fun _=> ?_
 ·exact wa N hd hp b k _ _ _ _ _ _ hp.s hp.g
 exact wa N hd hp b k _ _ _ _ _ _ ⟨by decide,by decide⟩ ⟨by decide,by decide⟩
theorem qE (N:Nat){p:JQ}(hp:propV N p)(has ext:Bool)(k:JW){d:JM}(hd:descV N d):Sat (gC N p has ext k d) fun r=>propV N r.1∧(r.2=true→r.1.Key=k):=by
 unfold gC qt
 refine ew (fun _=>ew (fun _=>ab ⟨ve N _ _,fun h=>by cases h⟩) fun _=> ?_) fun _=> ?_
 ·exact Sat.bind ((vU N (ve N _ _) k hd).bind fun y hy=>ab hy) fun y hy=>ab ⟨hy.1,fun _=>hy.2⟩
 refine Sat.bind (P:=fun _=>True) (aT (fun _=>(Gn N p d).bind fun _ _=>ab trivial) fun _=>ab trivial) fun b _=>aT (fun _=>ab ⟨ve N _ _,fun h=>by cases h⟩) fun _=> ?_
 exact (vU N hp k hd).bind fun y hy=>ab ⟨hy.1,fun _=>hy.2⟩
structure ObjC (N:Nat) (t:JP) (c:JU) (l:List (JW×Int)):Prop where
 rc:RC N c
 row:Row t c.Shape l
 num:c.Slots.length=l.length+1
 nd:(l.map (·.1)).Nodup
 noP:aL .i64 c.Flags 16=0
 idx:c.Kind=2→ ∀x∈l,x.1.Kind=0→x.1.N<c.More.length
structure InvC (N i k:Nat) (w:JL) (c:JU) (l:List (JW×Int)):Prop where
 mem:Mem w k
 ti:TI N w.shapes_
 tb:w.shapes_.shapes_.length≤k
 at_:w.heap_.m_.Young[i]? =some c
 obj:ObjC N w.shapes_ c l
theorem InvC.good {N i k:Nat}{w:JL}{c:JU}{l:List (JW×Int)}(h:InvC N i k w c l):goodC c:=h.mem.good c (List.mem_of_getElem? h.at_)
theorem InvC.lt {N i k:Nat}{w:JL}{c:JU}{l:List (JW×Int)}(h:InvC N i k w c l):i<k:=by
 have:=(List.getElem?_eq_some_iff.1 h.at_).1;have:=h.mem.len;omega
section
variable {N:Nat} (hN:20000≤N) {v:JS} {i:Nat} (hv:v.Kind=7) (hvN:v.N=2*i+1) {k:Nat} (hk:k≤1000000000) {w:JL} {c:JU} {l:List (JW×Int)} (h:InvC N i k w c l)
include hN hv hvN hk h
theorem GA:bG N w v=some c:=by have:=hN;exact qV N h.mem.good (.inl hv) hvN (by have:=h.lt;omega) h.at_
theorem pA:cW N w v=some (.inr ⟨c,w,v⟩):=by
 obtain ⟨z,z1,z2⟩:=h.obj.rc.proto;have hl:=(List.getElem?_eq_some_iff.1 z1).1
 have hg:bT c.Slots 0=some z:=by unfold bT;exact z1
 unfold cW;rw [JZ hv,nt,cf,GA hN hv hvN hk h,bs,J0 (show¬(c.Slots.length:Int)=0 by omega),cf,hg,bs,bs];rcases z2 with z2|z2<;>rw [z2]<;>rfl
theorem Du:gz N w v=some (!decide (aL .i64 c.Flags 1=0)):=by
 unfold gz;rw [pA hN hv hvN hk h,bs];rfl
theorem G0: ∃z,lb N w v=some z∧(z.Kind=1∨z.Kind=7):=by
 obtain ⟨z,z1,z2⟩:=h.obj.rc.proto
 have hg:bT c.Slots 0=some z:=by unfold bT;exact z1
 refine ⟨z,?_,z2⟩;unfold lb;rw [pA hN hv hvN hk h,bs];show Option.bind (bT c.Slots 0) _=_;rw [hg,bs]
theorem I2:ia N w v=some true:=by
 obtain ⟨z,z1,z2⟩:=G0 hN hv hvN hk h;unfold ia;rw [JZ hv,ct,z1,bs];rcases z2 with z2|z2<;>rw [z2]<;>rfl
theorem pK:dw N w v=some (c,decide (c.Kind=2)):=by
 unfold dw;rw [JZ hv,nt,cf,GA hN hv hvN hk h,bs]
theorem HP:kI N w v=some (decide (c.Kind=2)):=by
 unfold kI;rw [pK hN hv hvN hk h,bs]
omit hv hvN in
theorem GB (place:Int)(h0:0≤place)(h1:place≤5000)(key:JW)(a:Int):Sat (di N ⟨c,w,v⟩ place key a) fun p=>propV N p∧p.Key=key∧p.Attrs=a:=by
 have:=hN;unfold di;refine aP (by constructor<;>omega) (bf (fun _=>ab ⟨ve N _ _,J,J⟩) fun h2=>aP (by constructor<;>omega) ?_)
 refine bD O (by show place+1<c.Slots.length;have: ¬(c.Slots.length:Int)≤place+1:=h2;omega) fun x hx=> ?_
 have hx':=h.good.sv x (List.mem_of_getElem? hx)
 refine bf (fun _=>ab ⟨⟨⟨hx',h.obj.rc.sv x (List.mem_of_getElem? hx)⟩,pW,pW⟩,J,J⟩) fun _=> ?_
 refine (sI N h.mem hk hx').bind fun p hp=>bf (fun h3=> ?_) fun _=>ab ⟨ve N _ _,J,J⟩
 exact bD O O fun y hy=>bD O O fun z hz=>ab ⟨⟨xv N,hp.1.sv y (List.mem_of_getElem? hy),hp.1.sv z (List.mem_of_getElem? hz)⟩,J,J⟩
def IP (N:Nat)(l:List (JW×Int))(key:JW)(r:JQ×Int×Bool):Prop:=propV N r.1∧pe r.1.Attrs∧((r.2.2=false∧ ∀x∈l,x.1≠key)∨ ∃n:Nat,r.2.1=n∧r.2.2=true∧l[n]? =some (key,r.1.Attrs))
omit hv hvN in
theorem EC (key:JW):Sat (bN N ⟨c,w,v⟩ key) (IP N l key):=by
 unfold bN da;rw [bs];have hle:=h.obj.row.le h.ti
 refine (uv N O h.ti h.obj.row key).bind fun z hz=> ?_
 rcases hz with ⟨rfl,hz⟩|⟨n,z1,z2,z3⟩
 ·exact ab ⟨ve N _ _,G9,.inl ⟨J,hz⟩⟩
 have hlt:=(List.getElem?_eq_some_iff.1 z3).1;rw [z2];show Sat (Option.bind _ _) _
 refine (GB hN hk h z.1 O O key z.2.1).bind fun p hp=>ab ⟨hp.1,by rw [hp.2.2];exact (h.obj.row.ok h.ti _ (List.mem_of_getElem? z3)).2,.inr ⟨n,z1,rfl,by rw [hp.2.2];exact z3⟩⟩
theorem EX (key:JW):Sat (fa N w v key) fun r=>propV N r.1∧pe r.1.Attrs∧(r.2=true↔key∈l.map (·.1)):=by
 unfold fa;rw [pA hN hv hvN hk h,bs];show Sat (Option.bind (bN N ⟨c,w,v⟩ key) _) _
 refine (EC hN hk h key).bind fun r hr=>ab ⟨hr.1,hr.2.1,?_⟩
 rcases hr.2.2 with ⟨r1,r2⟩|⟨n,r1,r2,r3⟩
 ·refine ⟨fun e=> ?_,fun e=> ?_⟩
  ·change r.2.2=true at e;rw [r1] at e;cases e
  obtain ⟨x,x1,x2⟩:=List.mem_map.1 e;exact absurd x2 (r2 x x1)
 exact ⟨fun _=>List.mem_map.2 ⟨_,List.mem_of_getElem? r3,J⟩,fun _=>r2⟩
omit hN hv hvN hk h in
theorem Ca (N:Nat)(c:JU)(hc:c.More.length≤4096):Sat (fm N c) fun p=>propV N p∧pe p.Attrs:=by
 have hx:sW N ⟨3,(c.More.length:Int),⟨#[]⟩⟩:=⟨⟨by show _≤(c.More.length:Int);omega,by show (c.More.length:Int)≤_;omega⟩,Bb N O O⟩;unfold fm cY kB;rw [bs]
 exact ew (fun _=>ab ⟨⟨hx,pW,pW⟩,G9⟩) fun _=>ab ⟨⟨hx,pW,pW⟩,IF⟩
theorem Gq (key:JW):Sat (fP N w v key) fun r=>propV N r.1∧pe r.1.Attrs:=by
 unfold fP cY;rw [pK hN hv hvN hk h,bs]
 refine ew (fun _=>ab ⟨ve N _ _,G9⟩) fun _=> ?_
 rw [bs]
 refine bf (fun _=>(Ca N c h.obj.rc.more).bind fun y hy=>ab hy) fun _=> ?_
 refine bu (P:=fun b=>b=true→0≤key.N) (fun e=>(lL N O key).bind fun y hy=>ab fun h=>(hy h (of_decide_eq_true e)).1) (fun _=>ab fun h=>by cases h) fun b hb=> ?_
 refine bu (P:=fun b=>b=true→0≤key.N∧key.N<c.More.length) (fun e=> ?_) (fun _=>ab fun h=>by cases h) fun d hd=>aT (fun e=> ?_) fun _=> ?_
 ·unfold oK
  refine Sat.bind (P:=fun b=>b=true→0≤key.N∧key.N<c.More.length) (bu (P:=fun b=>b=true→0≤key.N∧key.N<c.More.length) (fun e2=> ?_) (fun _=>ab fun h=>by cases h) fun z hz=>ab hz) fun z hz=>ab hz
  have h3:=of_decide_eq_true e2
  exact bD (hb e) h3 fun x _=>ab fun _=>⟨hb e,h3⟩
 ·obtain ⟨h2,h3⟩:=hd e
  exact bD h2 h3 fun x hx=>ab ⟨⟨⟨h.good.mv x (List.mem_of_getElem? hx),h.obj.rc.mv x (List.mem_of_getElem? hx)⟩,pW,pW⟩,IE⟩
 exact (EX hN hv hvN hk h key).bind fun r hr=>ab ⟨hr.1,hr.2.1⟩
theorem Hb (key:JW):Sat (dt N w v key) fun r=>propV N r.1∧pe r.1.Attrs:=by
 unfold dt;rw [HP hN hv hvN hk h,bs]
 exact aT (fun _=>(Gq hN hv hvN hk h key).bind fun r hr=>ab hr) fun _=>(EX hN hv hvN hk h key).bind fun r hr=>ab ⟨hr.1,hr.2.1⟩
omit hv hvN in
theorem vd: ∀(m j:Nat) (p:List JQ),l.length<m+j→j≤l.length→p.map (fun x=>(x.Key,x.Attrs))=l.take j→Sat (jK N (l.map (·.1)) (l.map (·.2)) ⟨c,w,v⟩ w m p (l.map (·.1)) (j:Int)) fun r=>r.map (fun x=>(x.Key,x.Attrs))=l
 |0,j,p,h1,h2,_=>by omega
 | m+1,j,p,h1,h2,h3=>by
  have hle:=h.obj.row.le h.ti
  have hp:p.length=j:=by
   have:=congrArg List.length h3;rw [List.length_map,List.length_take] at this;omega
  rw [jK.eq_2]
  refine bf (fun h5=> ?_) fun h5=>ab (by rw [List.length_map] at h5;rw [h3,List.take_of_length_le O])
  rw [List.length_map] at h5
  have hj:j<l.length:=by omega
  have e1:bT (l.map (·.1)) (j:Int)=some l[j].1:=by rw [jc (by rw [List.length_map];exact hj),List.getElem_map]
  have e2:bT (l.map (·.2)) (j:Int)=some l[j].2:=by rw [jc (by rw [List.length_map];exact hj),List.getElem_map]
  rw [e1,bs,e2,bs]
  refine (GB hN hk h j O O _ _).bind fun q hq=> ?_
  refine aP (by rw [List.length_singleton];omega) (aP (by constructor<;>omega) ?_);refine vd m (j+1) _ O O ?_;rw [List.map_append,h3,List.take_add_one,List.getElem?_eq_getElem hj];show _++ [(q.Key,q.Attrs)]=_;rw [hq.2.1,hq.2.2];rfl
theorem tg:Sat (fi N w v) fun r=>r.map (fun x=>(x.Key,x.Attrs))=l:=by
 unfold fi;have hle:=h.obj.row.le h.ti;rw [pA hN hv hvN hk h,bs];show Sat (Option.bind (fC N w.shapes_ c.Shape) _) _;rw [Ec N O h.ti h.obj.row,bs];show Sat (Option.bind (dE N w.shapes_ c.Shape) _) _;rw [xR N O h.ti h.obj.row,bs];exact vd hN hk h N 0 [] O O J
theorem Id:Sat (i1 N w v) fun l=>l.length≤6000:=by
 unfold i1;have hle:=h.obj.row.le h.ti;rw [pA hN hv hvN hk h,bs];show Sat (Option.bind (dE N w.shapes_ c.Shape) _) _;rw [xR N O h.ti h.obj.row,bs]
 exact (wX N hN _ (by rw [List.length_map];omega)).bind fun r hr=>ab hr
omit hN hv hvN hk h in
theorem rR (N:Nat)(c:JU)(hc:c.More.length≤4096)(w':JL)(v':JS): ∀(m j:Nat) (l:List JW),c.More.length<m+j→j≤c.More.length→l.length≤j→Sat (dF N (iM (fun x st=>dh N w' v' x st)) c m (j:Int) (none,l)) fun r=>r.1=none∧r.2.length≤4096
 |0,j,l,h1,h2,_=>by omega
 | m+1,j,l,h1,h2,h3=>by
  rw [dF.eq_2]
  refine bf (fun h4=>bD O h4 fun x _=>ew (fun _=> ?_) fun _=> ?_) fun _=>ab ⟨J,by show l.length≤4096;omega⟩
  ·have e:iM (fun x st=>dh N w' v' x st) ((j:Int),x) (none,l)=some (true,(none,l++([(⟨0,(j:Int),⟨#[]⟩⟩:JW)]:List JW))):=by
    show Option.map _ (dh N w' v' ((j:Int),x) l)=_;unfold dh;simp only;rw [io (by unfold fA;rw [List.length_singleton];omega)];rfl
   rw [e,bs,nt,cf];exact aP (by constructor<;>omega) (rR N c hc w' v' m (j+1) _ O O (by rw [List.length_append,List.length_singleton];omega))
  exact aP (by constructor<;>omega) (rR N c hc w' v' m (j+1) _ O O O)
omit hv hvN hk h in
theorem wo (y:List JQ)(hy:y.length≤1024): ∀(m j:Nat) (l:List JW),y.length<m+j→j≤y.length→l.length≤4097+j→Sat (jH N y w m (j:Int) l) fun r=>r.length≤6000
 |0,j,l,h1,h2,_=>by omega
 |m+1,j,l,h1,h2,h3=>by
  rw [jH.eq_2]
  refine bf (fun h4=>bD O h4 fun x _=> ?_) fun _=> ?_
  ·exact aP (by unfold fA;rw [List.length_singleton];omega) (aP (by constructor<;>omega) (wo y hy m (j+1) _ O O (by rw [List.length_append,List.length_singleton];omega)))
  unfold lx
  exact (wX N hN l O).bind fun r hr=>ab hr
omit hN hv hvN hk h in
theorem Bz {ρ:Type}{n r:Option ρ}{x:Nat→Option ρ}:wc none n r x=n:=rfl
theorem Iu:Sat (jU N w v) fun l=>l.length≤6000:=by
 unfold jU jR;have hle:=h.obj.row.le h.ti;rw [pK hN hv hvN hk h,bs]
 refine ew (fun _=>ab (by simp)) fun _=> ?_
 rw [bs]
 refine (rR N c h.obj.rc.more w v N 0 [] (by have:=h.obj.rc.more;omega) O (by simp)).bind fun y hy=> ?_
 rw [hy.1];rw [Bz];have:=hy.2;unfold cY;rw [bs];refine aP (by unfold fA;rw [List.length_singleton];omega) ((tg hN hv hvN hk h).bind fun q hq=> ?_)
 have e:q.length=l.length:=by rw [←hq,List.length_map]
 exact wo hN q O N 0 _ O O (by rw [List.length_append,List.length_singleton];omega)
theorem Ih:Sat (cX N w v) fun l=>l.length≤6000:=by
 unfold cX;rw [HP hN hv hvN hk h,bs]
 exact aT (fun _=>(Iu hN hv hvN hk h).bind fun r hr=>ab hr) fun _=>(Id hN hv hvN hk h).bind fun r hr=>ab hr
end
end
section
variable {A1 A10 A12 A13 A14 A15 A2 A3 A4 A5 A6:Option Addr} {B1 B2 B7 B9 M11 M8 c1 c10 c12 c13 c14 c15 c2 c3 c4 c5 c6 n1 n10 n12 n13 n14 n15 n2 n3 n4 n5 n6:Nat}
open Go.RowKit
theorem DI: ∀f:_root_.Fin 64,aL .i64 (f.val:Int) 16=0→(0≤cn .i64 (f.val:Int) 32∧cn .i64 (f.val:Int) 32≤63)∧aL .i64 (cn .i64 (f.val:Int) 32) 16=0:=by decide+kernel
theorem CH: ∀f:_root_.Fin 64,aL .i64 (f.val:Int) 16=0→(0≤bH .i64 (f.val:Int) 1∧bH .i64 (f.val:Int) 1≤63)∧aL .i64 (bH .i64 (f.val:Int) 1) 16=0∧aL .i64 (bH .i64 (f.val:Int) 1) 1=0:=by decide+kernel
theorem C8 {α:Type}{q:List α}{n:Nat}{a:α}(h:q[n]? =some a):q.set n a=q:=by
 apply List.ext_getElem?;intro j;by_cases e:n=j
 ·subst e;rw [List.getElem?_set_self (List.getElem?_eq_some_iff.1 h).1,h]
 rw [List.getElem?_set_ne e]
theorem oQ {w:JL}{k k':Nat}(h:Mem w k)(hk:k≤k'):Mem w k':=⟨h.old,h.good,Nat.le_trans h.len hk⟩
theorem InvC.more {N i k k':Nat}{w:JL}{c:JU}{l:List (JW×Int)}(h:InvC N i k w c l)(hk:k≤k'):InvC N i k' w c l:=⟨oQ h.mem hk,h.ti,Nat.le_trans h.tb hk,h.at_,h.obj⟩
section
variable {N:Nat} (hN:20000≤N) {v:JS} {i:Nat} (hv:v.Kind=7) (hvN:v.N=2*i+1)
include hN hv hvN
theorem store {k:Nat}(hk:k≤1000000000){w:JL}{c c':JU}{l':List (JW×Int)}(hm:Mem w k)(hti:TI N w.shapes_)(htb:w.shapes_.shapes_.length≤k)(hat:w.heap_.m_.Young[i]? =some c)(hage:c'.Age=c.Age)(hg:goodC c')(ho:ObjC N w.shapes_ c' l'): ∃w',bz N w v c'=some w'∧InvC N i k w' c' l'∧w'.shapes_=w.shapes_:=by
 have hlt:=(List.getElem?_eq_some_iff.1 hat).1;have:=hm.len
 have e:(⟨c'.Kind,c'.Shape,c'.Flags,c.Age,c'.Slots,c'.More⟩:JU)=c':=by rw [←hage]
 refine ⟨_,Dh N hm.good hv hvN O hat hg (ho.rc.right hN),?_,J⟩;rw [e];refine ⟨⟨hm.old,fun x hx=> ?_,?_⟩,hti,htb,?_,ho⟩
 ·rcases List.mem_or_eq_of_mem_set hx with hx|rfl
  ·exact hm.good x hx
  exact hg
 ·show (w.heap_.m_.Young.set i c').length≤k;rw [List.length_set];exact hm.len
 show (w.heap_.m_.Young.set i c')[i]? =some c';exact List.getElem?_set_self hlt
omit hv hvN in
theorem AT {k:Nat}(hk:k+1≤1000000000){w:JL}{c:JU}(hm:Mem w k)(hat:w.heap_.m_.Young[i]? =some c)(hkind:c.Kind=1∨c.Kind=2){c':JU}{v':JS}{p:JQ}(hp:propV N p){old:JS}(ho:sW N old):Sat (fF N ⟨c',w,v'⟩ p old) fun r=>sW N r.1∧Mem r.2 (k+1)∧r.2.shapes_=w.shapes_∧r.2.heap_.m_.Young[i]? =some c:=by
 have hlt:=(List.getElem?_eq_some_iff.1 hat).1;unfold fF
 refine bf (fun _=>ab ⟨hp.v,oQ hm O,J,hat⟩) fun _=> ?_
 have hgp:goodC ⟨5,0,0,0,[p.Get,p.Set],[]⟩:=⟨by show 2≤5000;decide,by show 0≤5000;decide,fun x hx=>by
  rcases List.mem_cons.1 hx with rfl|hx
  ·exact hp.g
  ·rw [List.mem_singleton] at hx;subst hx;exact hp.s,by simp⟩
 have hrp:Sat (dM N (⟨5,0,0,0,([p.Get,p.Set]:List JS),[]⟩:JU)) fun _=>True:=(Dd N hN _ (.inr (.inr rfl)) hgp.sl hgp.ml).mono fun _ _=>trivial
 refine bu (P:=fun b=>b=true→ ∃(j:Nat) (o:JU),old.N=2*j+1∧w.heap_.m_.Young[j]? =some o∧o.Kind=5) (fun _=> ?_) (fun _=>ab fun h=>by cases h) fun b hb=>aT (fun e=> ?_) fun _=> ?_
 ·refine (sI N hm O ho.1).bind fun q hq=>ab fun h=> ?_
  have h5:q.Kind=5:=of_decide_eq_true h;rcases hq.2 with rfl|⟨j,j1,j2⟩
  ·cases h5
  exact ⟨j,q,j1,j2,h5⟩
 ·obtain ⟨j,o,j1,j2,j3⟩:=hb e
  refine (GY N hm O ho.1 hgp hrp).bind fun w' hw'=>ab ⟨ho,?_⟩
  rcases hw' with rfl|⟨j',o',g1,g2, -,rfl⟩
  ·exact ⟨oQ hm O,J,hat⟩
  have:j'=j:=by omega
  subst this;have:o'=o:=Option.some.inj (g2.symm.trans j2);subst this
  have hne:j'≠i:=fun e=>by
   subst e;have:o'=c:=Option.some.inj (g2.symm.trans hat);subst this;rcases hkind with h|h<;>omega
  refine ⟨⟨hm.old,fun x hx=> ?_,?_⟩,J,?_⟩
  ·rcases List.mem_or_eq_of_mem_set hx with hx|rfl
   ·exact hm.good x hx
   exact ⟨hgp.sl,hgp.ml,hgp.sv,hgp.mv⟩
  ·show (w.heap_.m_.Young.set j' _).length≤_;rw [List.length_set];have:=hm.len;omega
  show (w.heap_.m_.Young.set j' _)[i]? =some c;rw [List.getElem?_set_ne hne];exact hat
 refine (E7 N hm O hgp hrp).bind fun r hr=>ab ⟨hr.1,?_⟩
 rcases hr.2 with e|e<;>rw [e]
 ·exact ⟨oQ hm O,J,hat⟩
 refine ⟨⟨hm.old,fun x hx=> ?_,?_⟩,J,?_⟩
 ·rcases List.mem_append.1 hx with hx|hx
  ·exact hm.good x hx
  rw [List.mem_singleton] at hx;subst hx;exact hgp
 ·show (w.heap_.m_.Young++ [_]).length≤_;rw [List.length_append,List.length_singleton];have:=hm.len;omega
 show (w.heap_.m_.Young++ [_])[i]? =some c;rw [List.getElem?_append_left hlt];exact hat
theorem vX {k:Nat}(hk:k≤1000000000){w:JL}{c c':JU}{l':List (JW×Int)}(hm:Mem w k)(hti:TI N w.shapes_)(htb:w.shapes_.shapes_.length≤k)(hat:w.heap_.m_.Young[i]? =some c)(hage:c'.Age=c.Age)(hg:goodC c')(ho:ObjC N w.shapes_ c' l')(b:Bool):Sat (db N ⟨c',w,v⟩ b) fun r=>InvC N i k r.w_ c' l':=by
 obtain ⟨w',h1,h2, -⟩:=store hN hv hvN hk hm hti htb hat hage hg ho;unfold db;rw [AY];show Sat (Option.bind (bz N w v c') _) _;rw [h1,bs]
 have e:(!decide (aL .i64 (⟨c',w,v⟩:JT).Cell.Flags 16=0))=false:=by
  show (!decide (aL .i64 c'.Flags 16=0))=false;rw [JZ ho.noP];rfl
 rw [e];cases b<;>exact ab h2
variable {k:Nat} {w:JL} {c:JU} {l:List (JW×Int)} (h:InvC N i k w c l)
include h
theorem H5 (hk:k+1100≤1000000000){p:JQ}(hp:propV N p)(hidx:c.Kind=2→p.Key.Kind=0→p.Key.N<c.More.length):Sat (fW N ⟨c,w,v⟩ p) fun r=> ∃c' l',InvC N i (k+1024) r.2.w_ c' l'∧c'.Kind=c.Kind∧c'.More=c.More:=by
 have hle:=h.obj.row.le h.ti
 have hb:w.shapes_.shapes_.length+1024≤1073741824:=by have:=h.tb;omega
 obtain ⟨z,z1,z2⟩:=h.obj.rc.proto;have hrc:=h.obj.rc;have hg:=h.good;unfold fW;show Sat (Option.bind (bN N ⟨c,w,v⟩ p.Key) _) _
 refine (EC hN O h p.Key).bind fun y hy=> ?_
 obtain ⟨hy1,hy2,hy3⟩:=hy;rcases hy3 with ⟨e1,hno⟩|⟨n,e1,e2,hn⟩
 ·rw [e1];obtain ⟨s,s1,s2⟩:=h.obj.row.has h.ti;show Sat (Option.bind (eu N w.shapes_ c.Shape) _) _;rw [Aj N s1,bs]
  refine bf (fun _=>ab ⟨c,l,h.more O,J,J⟩) fun h3=> ?_
  refine (E0 N O h.ti hb h.obj.row p.Key p.Attrs hno O).bind fun r hr=> ?_
  rcases hr with ⟨r1,r2,r3,r4,r5⟩|⟨r1,r2,r3⟩
  ·rw [r3];show Sat (Option.bind _ _) _;have hm1:Mem (C9 w r.2.2) k:=⟨h.mem.old,h.mem.good,h.mem.len⟩
   refine (AT (w:=C9 w r.2.2) hN O hm1 h.at_ hrc.kind (c':=⟨c.Kind,r.1,c.Flags,c.Age,c.Slots,c.More⟩) (v':=v) hp (xv N)).bind fun q hq=> ?_
   obtain ⟨q1,q2,q3,q4⟩:=hq;have hsl:=h.obj.num;refine aP (by unfold fA;rw [List.length_singleton];show c.Slots.length+1≤_;omega) ?_;unfold jA
   have hlen:(c.Slots++ [q.1]).length=c.Slots.length+1:=by rw [List.length_append,List.length_singleton]
   have hgc:goodC ⟨c.Kind,r.1,c.Flags,c.Age,c.Slots++ [q.1],c.More⟩:=⟨by show (c.Slots++ [q.1]).length≤5000;omega,hg.ml,fun x hx=>by
    rcases List.mem_append.1 hx with hx|hx
    ·exact hg.sv x hx
    ·rw [List.mem_singleton] at hx;subst hx;exact q1.1,hg.mv⟩
   have hoc:ObjC N q.2.shapes_ ⟨c.Kind,r.1,c.Flags,c.Age,c.Slots++ [q.1],c.More⟩ (l++ [(p.Key,p.Attrs)]):=by
    rw [q3];refine ⟨⟨hrc.kind,?_,hrc.fl,hrc.age,fun x hx=> ?_,hrc.mv,by show (c.Slots++ [q.1]).length≤1025;omega,⟨z,?_,z2⟩,hrc.more,hrc.plain⟩,r5,by show (c.Slots++ [q.1]).length=_;rw [hlen,hsl,List.length_append,List.length_singleton],?_,h.obj.noP,fun hk2 x hx h0=> ?_⟩
    ·obtain ⟨s',s1', -⟩:=r5.has r4.ti;exact s1'.1
    ·rcases List.mem_append.1 hx with hx|hx
     ·exact hrc.sv x hx
     rw [List.mem_singleton] at hx;subst hx;exact q1.2
    ·show (c.Slots++ [q.1])[0]? =some z;rw [List.getElem?_append_left (List.getElem?_eq_some_iff.1 z1).1];exact z1
    ·rw [List.map_append];refine List.nodup_append.2 ⟨h.obj.nd,by simp,fun a ha b hb' e=> ?_⟩;rw [List.map_singleton,List.mem_singleton] at hb';obtain ⟨x,x1,x2⟩:=List.mem_map.1 ha;exact hno x x1 (by rw [x2,e,hb'])
    rcases List.mem_append.1 hx with hx|hx
    ·exact h.obj.idx hk2 x hx h0
    rw [List.mem_singleton] at hx;subst hx;exact hidx hk2 h0
   refine (vX (w:=q.2) hN hv hvN (k:=k+1024) O (oQ q2 O) (by rw [q3];exact r4.ti) (by rw [q3];have:=r4.num;have:=h.tb;show r.2.2.shapes_.length≤_;omega) q4 (by rfl) hgc hoc true).bind fun u hu=>ab ⟨_,_,hu,J,J⟩
  rw [J0 r2];refine ab ⟨c,l,?_,J,J⟩;rw [r3];exact h.more O
 rw [e2];have hlt:=(List.getElem?_eq_some_iff.1 hn).1;have hsl:=h.obj.num
 have hj81: ∀(sh:Int) (t':JP) (l':List (JW×Int)),Grow N w.shapes_ t' 1024→Row t' sh l'→l'.length=l.length→l'.map (·.1)=l.map (·.1)→Sat (fh N y p ⟨c,w,v⟩ sh t'.shapes_ t'.next_) fun r=> ∃c' l',InvC N i (k+1024) r.2.w_ c' l'∧c'.Kind=c.Kind∧c'.More=c.More:=by
  intro sh t' l' hgr hrow hl1 hl2;unfold fh;rw [e1];refine aP (by constructor<;>omega) (aP (by constructor<;>omega) (bD O (by show (n:Int)+1<c.Slots.length;omega) fun x hx=> ?_));have hxm:x∈c.Slots:=List.mem_of_getElem? hx;have hm1:Mem (C9 w t') k:=⟨h.mem.old,h.mem.good,h.mem.len⟩
  refine (AT (w:=C9 w t') hN O hm1 h.at_ hrc.kind (c':=⟨c.Kind,sh,c.Flags,c.Age,c.Slots,c.More⟩) (v':=v) hp ⟨hg.sv x hxm,hrc.sv x hxm⟩).bind fun q hq=> ?_
  obtain ⟨q1,q2,q3,q4⟩:=hq
  refine bD O (by show (n:Int)+1<c.Slots.length;omega) fun x' _=> ?_
  have hlen:(List.set c.Slots (((n:Int)+1).toNat) q.1).length=c.Slots.length:=List.length_set ..
  have hgc:goodC ⟨c.Kind,sh,c.Flags,c.Age,List.set c.Slots (((n:Int)+1).toNat) q.1,c.More⟩:=⟨by show (List.set c.Slots _ q.1).length≤5000;rw [hlen];exact hg.sl,hg.ml,fun x hx=>by
   rcases List.mem_or_eq_of_mem_set hx with hx|rfl
   ·exact hg.sv x hx
   ·exact q1.1,hg.mv⟩
  have hoc:ObjC N q.2.shapes_ ⟨c.Kind,sh,c.Flags,c.Age,List.set c.Slots (((n:Int)+1).toNat) q.1,c.More⟩ l':=by
   rw [q3];refine ⟨⟨hrc.kind,?_,hrc.fl,hrc.age,fun x hx=> ?_,hrc.mv,by show (List.set c.Slots _ q.1).length≤1025;rw [hlen];exact hrc.sl,⟨z,?_,z2⟩,hrc.more,hrc.plain⟩,hrow,by show (List.set c.Slots _ q.1).length=_;rw [hlen,hsl,hl1],by rw [hl2];exact h.obj.nd,h.obj.noP,fun hk2 x hx h0=> ?_⟩
   ·obtain ⟨s',s1', -⟩:=hrow.has hgr.ti;exact s1'.1
   ·rcases List.mem_or_eq_of_mem_set hx with hx|rfl
    ·exact hrc.sv x hx
    exact q1.2
   ·show (List.set c.Slots _ q.1)[0]? =some z;rw [List.getElem?_set_ne O];exact z1
   have:x.1∈l.map (·.1):=by rw [←hl2];exact List.mem_map_of_mem hx
   obtain ⟨x',x1,x2⟩:=List.mem_map.1 this;have:=h.obj.idx hk2 x' x1 (by rw [x2];exact h0);rw [x2] at this;exact this
  refine (vX (w:=q.2) hN hv hvN (k:=k+1024) O (oQ q2 O) (by rw [q3];exact hgr.ti) (by rw [q3];have:=hgr.num;have:=h.tb;show t'.shapes_.length≤_;omega) q4 (by rfl) hgc hoc _).bind fun u hu=>ab ⟨_,_,hu,J,J⟩
 show Sat (bif !decide (y.1.Attrs=p.Attrs) then _ else _) _
 refine ew (fun e=> ?_) fun e=> ?_
 ·refine (CQ N O h.ti hb h.obj.row h.obj.nd p.Key p.Attrs n y.1.Attrs hn).bind fun r hr=> ?_
  rcases hr with ⟨r1,r3,r4,r5⟩|⟨r1,r2,r3⟩
  ·rw [r3];refine hj81 r.1 r.2.2 _ r4 r5 (by rw [List.length_set]) ?_;rw [List.map_set];refine C8 ?_;rw [List.getElem?_map,hn];rfl
  rw [J0 r2];refine ab ⟨c,l,?_,J,J⟩;rw [r3];exact h.more O
 exact hj81 c.Shape w.shapes_ l ⟨h.ti,Le.refl _,by omega⟩ h.obj.row J J
end
end
section
variable {A1 A10 A12 A13 A14 A15 A2 A3 A4 A5 A6:Option Addr} {B1 B2 B7 B9 M11 M8 c1 c10 c12 c13 c14 c15 c2 c3 c4 c5 c6 n1 n10 n12 n13 n14 n15 n2 n3 n4 n5 n6:Nat}
open Go.RowKit
theorem ut (N:Nat):sW N ⟨8,0,⟨#[]⟩⟩:=⟨⟨by decide,by decide⟩,by unfold oR;rw [vz N 8 0 (by decide)];rfl⟩
def After (N i k:Nat)(c:JU)(w':JL):Prop:= ∃c' l',InvC N i k w' c' l'∧c'.Kind=c.Kind
def AfterM (N i k:Nat)(c:JU)(w':JL):Prop:= ∃c' l',InvC N i k w' c' l'∧c'.Kind=c.Kind∧c'.More=c.More
theorem AfterM.a {N i k k':Nat}{c:JU}{w':JL}(h:AfterM N i k c w')(hk:k≤k'):After N i k' c w':=let ⟨c',l',h1,h2,_⟩:=h;⟨c',l',h1.more hk,h2⟩
theorem After.more {N i k k':Nat}{c:JU}{w':JL}(h:After N i k c w')(hk:k≤k'):After N i k' c w':=let ⟨c',l',h1,h2⟩:=h;⟨c',l',h1.more hk,h2⟩
section
variable {N:Nat} (hN:20000≤N) {v:JS} {i:Nat} (hv:v.Kind=7) (hvN:v.N=2*i+1) {k:Nat} {w:JL} {c:JU} {l:List (JW×Int)} (h:InvC N i k w c l)
include hN hv hvN h
theorem xM (hk:k+1100≤1000000000)(key:JW){d:JM}(hd:descV N d)(hidx:c.Kind=2→key.Kind=0→key.N<c.More.length):Sat (gl N w v key d) fun r=>AfterM N i (k+1024) c r.2:=by
 unfold gl;rw [pA hN hv hvN O h,bs];show Sat (Option.bind (eF N key) _) _
 refine (lL N O key).bind fun b _=>ew (fun _=>ab ⟨c,l,h.more O,J,J⟩) fun _=> ?_
 show Sat (Option.bind (bN N ⟨c,w,v⟩ key) _) _
 refine (EC hN O h key).bind fun y hy=> ?_
 refine (qE N hy.1 _ _ key hd).bind fun p hp=>aT (fun e=> ?_) fun _=>ab ⟨c,l,h.more O,J,J⟩
 have hk2:=hp.2 e
 exact (H5 hN hv hvN h hk hp.1 (by rw [hk2];exact hidx)).bind fun r hr=>ab hr
theorem IC (hk:k+1100≤1000000000)(key:JW){x:JS}(hx:sW N x)(a:Int)(hidx:c.Kind=2→key.Kind=0→key.N<c.More.length):Sat (mT N w v key x a) fun r=>AfterM N i (k+1024) c r.2:=by
 unfold mT;rw [pA hN hv hvN O h,bs];show Sat (Option.bind (eF N key) _) _
 refine (lL N O key).bind fun b _=>bu (P:=fun _=>True) (fun _=>ab trivial) (fun _=>ab trivial) fun _ _=>bu (P:=fun _=>True) (fun _=>ab trivial) (fun _=>ab trivial) fun _ _=>aT (fun _=>ab ⟨c,l,h.more O,J,J⟩) fun _=> ?_
 exact (H5 hN hv hvN h hk (p:=⟨key,a,x,⟨0,0,⟨#[]⟩⟩,⟨0,0,⟨#[]⟩⟩⟩) ⟨hx,pW,pW⟩ hidx).bind fun r hr=>ab hr
theorem Ba (hk:k+1100≤1000000000)(key:JW):Sat (iK N w v key) fun r=> ∃c' l',InvC N i (k+1024) r.2 c' l'∧c'.Kind=c.Kind∧c'.More=c.More∧((l'=l∧((∀x∈l,x.1≠key)∨ ∃a,(key,a)∈l∧aL .i64 a 4=0))∨ ∃n a,l[n]? =some (key,a)∧l'=l.eraseIdx n):=by
 have hle:=h.obj.row.le h.ti
 have hb:w.shapes_.shapes_.length+1024≤1073741824:=by have:=h.tb;omega
 obtain ⟨z,z1,z2⟩:=h.obj.rc.proto;have hrc:=h.obj.rc;have hg:=h.good;have hsl:=h.obj.num;unfold iK;rw [pA hN hv hvN O h,bs];show Sat (Option.bind (bN N ⟨c,w,v⟩ key) _) _
 refine (EC hN O h key).bind fun y hy=> ?_
 obtain ⟨hy1,hy2,hy3⟩:=hy;rcases hy3 with ⟨e1,hno⟩|⟨n,e1,e2,hn⟩
 ·rw [e1];exact ab ⟨c,l,h.more O,J,J,.inl ⟨J,.inl hno⟩⟩
 have hlt:=(List.getElem?_eq_some_iff.1 hn).1;rw [e2]
 refine bf (fun h4=>ab ⟨c,l,h.more O,J,J,.inl ⟨J,.inr ⟨_,List.mem_of_getElem? hn,h4⟩⟩⟩) fun _=> ?_
 show Sat (Option.bind (eJ N w.shapes_ c.Shape key) _) _
 refine (zX N O h.ti hb h.obj.row h.obj.nd key n _ hn).bind fun r hr=> ?_
 obtain ⟨r3,r4,r5⟩:=hr;rw [r3];refine aP (by rw [e1];constructor<;>omega) (aP (by rw [e1];constructor<;>omega) ?_);rw [e1];show Sat (Option.bind (ku N c.Slots ((n:Int)+1) ((n:Int)+2)) _) _;unfold ku;rw [io O,bs]
 have e3:c.Slots.take ((n:Int)+1).toNat++c.Slots.drop ((n:Int)+2).toNat=c.Slots.eraseIdx (n+1):=by
  rw [List.eraseIdx_eq_take_drop_succ];congr 1
 rw [e3]
 have hm: ∀x∈c.Slots.eraseIdx (n+1),x∈c.Slots:=fun x hx=>List.mem_of_mem_eraseIdx hx
 have hlen:(c.Slots.eraseIdx (n+1)).length=c.Slots.length - 1:=List.length_eraseIdx_of_lt O;have hlen2:(l.eraseIdx n).length=l.length - 1:=List.length_eraseIdx_of_lt hlt;have hgc:goodC ⟨c.Kind,r.1,c.Flags,c.Age,c.Slots.eraseIdx (n+1),c.More⟩:=⟨by show (c.Slots.eraseIdx (n+1)).length≤5000;omega,hg.ml,fun x hx=>hg.sv x (hm x hx),hg.mv⟩
 have hoc:ObjC N r.2.2 ⟨c.Kind,r.1,c.Flags,c.Age,c.Slots.eraseIdx (n+1),c.More⟩ (l.eraseIdx n):=by
  refine ⟨⟨hrc.kind,?_,hrc.fl,hrc.age,fun x hx=>hrc.sv x (hm x hx),hrc.mv,by show (c.Slots.eraseIdx (n+1)).length≤1025;have:=hrc.sl;omega,⟨z,?_,z2⟩,hrc.more,hrc.plain⟩,r5,by show (c.Slots.eraseIdx (n+1)).length=_;omega,?_,h.obj.noP,fun hk2 x hx h0=>h.obj.idx hk2 x (List.mem_of_mem_eraseIdx hx) h0⟩
  ·obtain ⟨s',s1', -⟩:=r5.has r4.ti;exact s1'.1
  ·show (c.Slots.eraseIdx (n+1))[0]? =some z;rw [List.getElem?_eraseIdx_of_lt O];exact z1
  rw [List.eraseIdx_eq_take_drop_succ,List.map_append,List.map_take,List.map_drop, ←List.eraseIdx_eq_take_drop_succ];exact List.Nodup.sublist (List.eraseIdx_sublist ..) h.obj.nd
 refine (vX (w:=C9 w r.2.2) hN hv hvN (k:=k+1024) O ⟨h.mem.old,h.mem.good,by have:=h.mem.len;show w.heap_.m_.Young.length≤_;omega⟩ r4.ti (by have:=r4.num;have:=h.tb;show r.2.2.shapes_.length≤_;omega) h.at_ (by rfl) hgc hoc true).bind fun u hu=>ab ⟨_,_,hu,J,J,.inr ⟨n,_,hn,J⟩⟩
theorem IK (hk:k+3000≤1000000000){p:JQ}(hp:propV N p)(hidx:c.Kind=2→p.Key.Kind=0→p.Key.N<c.More.length):Sat (ms N w v p) fun w'=>AfterM N i (k+2048) c w':=by
 unfold ms
 refine (IC hN hv hvN h O p.Key (xv N) 7 hidx).bind fun r hr=> ?_
 obtain ⟨c',l',h1,h2,h3⟩:=hr
 refine Sat.bind (P:=descV N) ?_ fun d hd=> ?_
 ·unfold qU qu
  exact ew (fun _=>ab ⟨xv N,hp.g,hp.s⟩) fun _=>ab ⟨hp.v,pW,pW⟩
 refine (xM hN hv hvN h1 O p.Key hd (by rw [h2,h3];exact hidx)).bind fun r hr=>ab ?_
 obtain ⟨c2,l2,g1,g2,g3⟩:=hr;exact ⟨c2,l2,g1.more O,g2.trans h2,g3.trans h3⟩
theorem Af (hk:k≤1000000000)(hk2:c.Kind=2)(m:List JS)(hm:m.length≤4096)(hmv: ∀x∈m,sW N x)(hidx: ∀x∈l,x.1.Kind=0→x.1.N<m.length)(f:Int)(hf:(0≤f∧f≤63)∧aL .i64 f 16=0): ∃w',bz N w v ⟨c.Kind,c.Shape,f,c.Age,c.Slots,m⟩=some w'∧InvC N i k w' ⟨c.Kind,c.Shape,f,c.Age,c.Slots,m⟩ l:=by
 have hg:=h.good;have hrc:=h.obj.rc
 obtain ⟨w',h1,h2, -⟩:=store hN hv hvN hk h.mem h.ti h.tb h.at_ (c':=⟨c.Kind,c.Shape,f,c.Age,c.Slots,m⟩) (l':=l) rfl ⟨hg.sl,by show m.length≤5000;omega,hg.sv,fun x hx=>(hmv x hx).1⟩
  ⟨⟨hrc.kind,hrc.sh,hf.1,hrc.age,hrc.sv,fun x hx=>(hmv x hx).2,hrc.sl,hrc.proto,hm,fun e=>by have:c.Kind=1:=e;omega⟩,h.obj.row,h.obj.num,h.obj.nd,hf.2,fun _=>hidx⟩
 exact ⟨w',h1,h2⟩
theorem Ai: ∀x∈c.More,sW N x:=by have:=And.intro hN (And.intro hv hvN);exact fun x hx=>⟨h.good.mv x hx,h.obj.rc.mv x hx⟩
section
variable (hk:k+5000≤1000000000) (hk2:c.Kind=2) (key:JW) (hkey:0≤key.N∧key.N<4096) (y29:JQ×Bool) (y23:JQ×Bool) (hp:propV N y23.1) (hpk:y23.1.Key=key)
include hk hk2 hkey hp hpk
theorem Ef (m:List JS)(hm:m.length≤4096)(hm1:c.More.length≤m.length)(hm2:key.N<m.length)(hmv: ∀x∈m,sW N x):Sat (f4 N y29 w v c key y23 m) fun r=>After N i (k+4096) c r.2.2:=by
 have:=hkey;obtain ⟨w',h1,h2⟩:=Af hN hv hvN h O hk2 m hm hmv (fun x hx h0=>by have:=h.obj.idx hk2 x hx h0;omega) c.Flags ⟨h.obj.rc.fl,h.obj.noP⟩;unfold f4;rw [h1,bs]
 refine bf (fun _=> ?_) fun _=> ?_
 ·unfold nc
  refine Sat.bind (P:=fun w2=>After N i (k+4096) c w2) (aT (fun _=>(Ba hN hv hvN h2 O key).bind fun r hr=>ab ?_) fun _=>ab ⟨_,_,h2.more O,J⟩) fun u hu=>ab hu
  obtain ⟨c',l',g1,g2, -⟩:=hr;exact ⟨c',l',g1.more O,g2⟩
 refine (IK hN hv hvN h2 O hp (fun _ _=>by rw [hpk];exact hm2)).bind fun u hu=>ab ?_
 obtain ⟨c',l',g1,g2, -⟩:=hu;exact ⟨c',l',g1.more O,g2⟩
theorem HN (m:List JS)(hm:m.length≤4096)(hm1:c.More.length≤m.length)(hm2:key.N<m.length)(hmv: ∀x∈m,sW N x):Sat (iG N y29 w v c key y23 m) fun r=>After N i (k+4096) c r.2.2:=by
 unfold iG
 have hset: ∀(q:List JS) (n:Nat) (x:JS),(∀x∈q,sW N x)→sW N x→ ∀y∈q.set n x,sW N y:=fun q n x hq hx y hy=>by
  rcases List.mem_or_eq_of_mem_set hy with hy|rfl
  ·exact hq y hy
  exact hx
 refine bD O hm2 fun _ _=>bf (fun _=>bD O (by rw [List.length_set];exact hm2) fun _ _=> ?_) fun _=> ?_
 ·exact Ef hN hv hvN h hk hk2 key hkey y29 y23 hp hpk _ (by rw [List.length_set,List.length_set];exact hm) (by rw [List.length_set,List.length_set];exact hm1) (by rw [List.length_set,List.length_set];exact hm2) (hset _ _ _ (hset _ _ _ hmv (ut N)) hp.v)
 exact Ef hN hv hvN h hk hk2 key hkey y29 y23 hp hpk _ (by rw [List.length_set];exact hm) (by rw [List.length_set];exact hm1) (by rw [List.length_set];exact hm2) (hset _ _ _ hmv (ut N))
theorem Ed: ∀(n:Nat) (m:List JS),4097<n+m.length→m.length≤4096→c.More.length≤m.length→(∀x∈m,sW N x)→Sat (f3 N y29 w v c key y23 n m) fun r=>After N i (k+4096) c r.2.2
 |0,m,h0,h1,_,_=>by omega
 |n+1,m,h0,h1,h2,h3=>by
  rw [f3.eq_2]
  refine bf (fun h4=>aP (by unfold fA;rw [List.length_singleton];omega) ?_) fun h4=>HN hN hv hvN h hk hk2 key hkey y29 y23 hp hpk m h1 h2 O h3
  refine Ed n _ (by rw [List.length_append,List.length_singleton];omega) (by rw [List.length_append,List.length_singleton];omega) (by rw [List.length_append,List.length_singleton];omega) fun x hx=> ?_
  rcases List.mem_append.1 hx with hx|hx
  ·exact h3 x hx
  rw [List.mem_singleton] at hx;subst hx;exact ut N
theorem Ee: ∀(n:Nat) (m:List JS),iF N y29 w v c key y23 n m=f3 N y29 w v c key y23 n m
 |0,m=>by have:=And.intro hN (And.intro hv (And.intro hvN (And.intro h (And.intro hk (And.intro hk2 (And.intro hkey (And.intro hp hpk)))))));rfl
 |n+1,m=>by
  rw [iF.eq_2,f3.eq_2,Ee n];rfl
end
theorem Jf (hk:k+5000≤1000000000)(hk2:c.Kind=2)(key:JW)(hkey:0≤key.N){d:JM}(hd:descV N d):Sat (jS N w v c key d) fun r=>After N i (k+4096) c r.2.2:=by
 have hst:After N i (k+4096) c w:=⟨c,l,h.more O,rfl⟩;have hmo:=h.obj.rc.more;unfold jS
 refine (Gq hN hv hvN O h key).bind fun y hy=>(qE N hy.1 _ _ key hd).bind fun p hp=>ew (fun _=>ab hst) fun e=> ?_
 refine bf (fun _=>ab hst) fun h4=>bu (P:=fun _=>True) (fun _=>ab trivial) (fun _=>ab trivial) fun _ _=>aT (fun _=>ab hst) fun _=> ?_
 refine (EX hN hv hvN O h key).bind fun q hq=> ?_
 have hl:=Ed hN hv hvN h hk hk2 key ⟨hkey,by omega⟩ q p hp.1 (hp.2 e) N c.More O hmo (Nat.le_refl _) (Ai hN hv hvN h)
 refine bu (P:=fun _=>True) (fun _=>ab trivial) (fun _=>ab trivial) fun _ _=>aT (fun _=> ?_) fun _=>hl
 refine (tg hN hv hvN O h).bind fun _ _=>bf (fun _=>ab hst) fun _=> ?_
 rw [Ee hN hv hvN h hk hk2 key ⟨hkey,by omega⟩ q p hp.1 (hp.2 e)];exact hl
end
end
end Go.Proofs.YtanojiedimeegaaGreatDoor