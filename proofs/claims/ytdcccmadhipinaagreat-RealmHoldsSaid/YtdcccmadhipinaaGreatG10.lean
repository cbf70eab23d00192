/- Merged texts: part 10. No conditions of their own. -/
import Derived.Test.YtdcccmadhipinaaGreatG9
import Derived.Test.YtdcccmadhipinaaGreatG2
import Derived.Test.YtdcccmadhipinaaGreatG1
import Derived.ProofKit
namespace Go.Proofs.YtdcccmadhipinaaGreat
open Go.RowKit
set_option maxRecDepth 20000
structure SO where
 a_:SP
 b_:SP
 x_:(List Int)
 y_:(List Int)
 from_:(List (Int×Int))
 to_:(List (Int×Int))
 deriving DecidableEq,Inhabited
structure SV where
 M:SP
 Order:(List Int)
 deriving DecidableEq,Inhabited
structure Td where
 e0:(List SR)
 e1:(List SR)
 deriving DecidableEq,Inhabited
def GF (N:Nat)(p25:Int):Option Bool:=
 some (decide (p25≤600))
def Bd (N:Nat)(a0:SP):Nat→Int→Int→Option Bool
 |0,_,_=>none
 |m26+1,p27,p28=>(bif decide (p28<(a0.Old.length:Int)) then (some (decide (p27≤600))) else (some false)).bind fun b29=>bif b29 then (bi (in64 (p27+1)) ((aF a0.Old p28).bind fun x32=>bi (in64 ((p27+1)+(x32.Slots.length:Int))) ((aF a0.Old p28).bind fun x37=>bi (in64 (((p27+1)+(x32.Slots.length:Int))+(x37.More.length:Int))) (bi (in64 (p28+1)) ((Bd N a0 m26) (((p27+1)+(x32.Slots.length:Int))+(x37.More.length:Int)) (p28+1)))))) else (GF N p27)
def H0 (N:Nat)(a0:SP)(p6:Int):Option Bool:=
 Bd N a0 N p6 0
def CP (N:Nat)(a0:SP):Nat→Int→Int→Option Bool
 |0,_,_=>none
 |m7+1,p8,p9=>(bif decide (p9<(a0.Young.length:Int)) then (some (decide (p8≤600))) else (some false)).bind fun b10=>bif b10 then (bi (in64 (p8+1)) ((aF a0.Young p9).bind fun x13=>bi (in64 ((p8+1)+(x13.Slots.length:Int))) ((aF a0.Young p9).bind fun x18=>bi (in64 (((p8+1)+(x13.Slots.length:Int))+(x18.More.length:Int))) (bi (in64 (p9+1)) ((CP N a0 m7) (((p8+1)+(x13.Slots.length:Int))+(x18.More.length:Int)) (p9+1)))))) else (H0 N a0 p8)
def sy (N:Nat)(a0:SP)(a1:(List SR)):Option Bool:=
 CP N a0 N (a1.length:Int) 0
def HR (N:Nat)(a0:(List SR))(a1:Int):Option Unit:=
 bif decide (a1<1) then none else (some ())
def GE (N:Nat):Option Bool:=
 some true
def Bb (N:Nat)(a0:(List Int))(a1:(List Int)):Nat→Int→Option Bool
 |0,_=>none
 |m5+1,p6=>bif decide (p6<(a0.length:Int)) then ((aF a0 p6).bind fun x8=>(aF a1 p6).bind fun x9=>bif !decide (x8=x9) then (some false) else (bi (in64 (p6+1)) ((Bb N a0 a1 m5) (p6+1)))) else (GE N)
def iR (N:Nat)(a0:(List Int))(a1:(List Int)):Option Bool:=
 bif !decide ((a0.length:Int)=(a1.length:Int)) then (some false) else (Bb N a0 a1 N 0)
def lf (N:Nat)(a0:SP)(a1:Int):Option Bool:=
 bif decide (a1<1) then (some false) else (bif decide (a1.tmod 2=1) then (bi (in64 (a1 - 1)) (bi (in64 ((a1 - 1).tdiv 2)) (some (decide ((a1 - 1).tdiv 2<(a0.Young.length:Int)))))) else (bi (in64 (a1 - 2)) (bi (in64 ((a1 - 2).tdiv 2)) (some (decide ((a1 - 2).tdiv 2<(a0.Old.length:Int)))))))
def qy (N:Nat)(a0:SP)(a1:Int):Option Ta:=
 (lf N a0 a1).bind fun y5=>bif !y5 then (some (⟨0,0,0,0,[],[]⟩:Ta)) else (bif decide (a1.tmod 2=1) then (bi (in64 (a1 - 1)) (bi (in64 ((a1 - 1).tdiv 2)) ((aF a0.Young ((a1 - 1).tdiv 2)).bind fun x12=>some x12))) else (bi (in64 (a1 - 2)) (bi (in64 ((a1 - 2).tdiv 2)) ((aF a0.Old ((a1 - 2).tdiv 2)).bind fun x18=>some x18))))
def yU (N:Nat):Option Bool:=
 some true
def rv (N:Nat)(a0:(List SR))(a1:(List SR)):Nat→Int→Option Bool
 |0,_=>none
 |m5+1,p6=>bif decide (p6<(a0.length:Int)) then ((aF a0 p6).bind fun x8=>(aF a1 p6).bind fun x9=>bif !decide (x8=x9) then (some false) else (bi (in64 (p6+1)) ((rv N a0 a1 m5) (p6+1)))) else (yU N)
def lg (N:Nat)(a0:(List SR))(a1:(List SR)):Option Bool:=
 bif !decide ((a0.length:Int)=(a1.length:Int)) then (some false) else (rv N a0 a1 N 0)
def f3 (N:Nat)(a0:SR):Option Bool:=
 (bif decide (a0.Kind<0) then (some true) else (some (decide (9<a0.Kind)))).bind fun b2=>bif b2 then (some false) else (bif decide (a0.Kind=5) then ((bif decide (a0.N=0) then (some (decide ((a0.S.size:Int)≤65536))) else (some false)).bind fun b5=>some b5) else (bif !(a0.S.toList==(⟨#[]⟩:ByteArray).toList) then (some false) else (bif decide (a0.Kind=2) then ((bif decide (a0.N=0) then (some true) else (some (decide (a0.N=1)))).bind fun b8=>some b8) else (bif decide (a0.Kind=3) then ((bif decide ((-9007199254740992)≤a0.N) then (some (decide (a0.N≤9007199254740992))) else (some false)).bind fun b10=>some b10) else ((bif decide (a0.Kind=6) then (some true) else (some (decide (a0.Kind=7)))).bind fun b11=>(bif b11 then (some true) else (some (decide (a0.Kind=9)))).bind fun b12=>bif b12 then (some (decide (1≤a0.N))) else (some (decide (a0.N=0))))))))
def jw (N:Nat)(a0:Int):Option Bool:=
 (bif decide (a0=1) then (some true) else (some (decide (a0=2)))).bind fun b1=>(bif b1 then (some true) else (some (decide (a0=3)))).bind fun b2=>(bif b2 then (some true) else (some (decide (a0=6)))).bind fun b3=>(bif b3 then (some true) else (some (decide (a0=8)))).bind fun b4=>(bif b4 then (some true) else (some (decide (a0=9)))).bind fun b5=>(bif b5 then (some true) else (some (decide (a0=10)))).bind fun b6=>some b6
def dI (N:Nat)(a0:SR)(a1:Int):Option Bool:=
 (bif decide (a0.Kind=0) then (some true) else (some (decide (a0.Kind=a1)))).bind fun b2=>some b2
def iD (N:Nat)(a0:Ta):Option Bool:=
 (jw N a0.Kind).bind fun y4=>(bif y4 then (some true) else ((bif decide (a0.Kind=7) then (some (decide (0<(a0.Slots.length:Int)))) else (some false)).bind fun b6=>some b6)).bind fun b5=>bif b5 then ((bif decide (1≤(a0.Slots.length:Int)) then (some (decide ((a0.Slots.length:Int)≤1025))) else (some false)).bind fun b8=>(bif b8 then ((aF a0.Slots 0).bind fun x10=>(bif decide (x10.Kind=1) then (some true) else ((aF a0.Slots 0).bind fun x12=>some (decide (x12.Kind=7)))).bind fun b11=>some b11) else (some false)).bind fun b9=>some b9) else (bif decide (a0.Kind=7) then (some (decide (a0.Shape=0))) else ((bif !decide (a0.Shape=0) then (some true) else (some (!decide (a0.Flags=0)))).bind fun b14=>bif b14 then (some false) else (bif decide (a0.Kind=5) then ((bif decide ((a0.Slots.length:Int)=2) then ((aF a0.Slots 0).bind fun x18=>(dI N x18 7).bind fun y19=>some y19) else (some false)).bind fun b17=>(bif b17 then ((aF a0.Slots 1).bind fun x21=>(dI N x21 7).bind fun y22=>some y22) else (some false)).bind fun b20=>some b20) else (some (decide ((a0.Slots.length:Int)=0))))))
def f0 (N:Nat)(a0:SR)(a1:Int)(a2:Int):Option Bool:=
 (bif decide (a0.Kind=3) then (some (decide (a1≤a0.N))) else (some false)).bind fun b2=>(bif b2 then (some (decide (a0.N≤a2))) else (some false)).bind fun b3=>some b3
def CQ (N:Nat):Option Bool:=
 some true
def fN (N:Nat)(a1:Int)(a0:(List SR)):Nat→Int→Option Bool
 |0,_=>none
 |m5+1,p6=>bif decide (p6<(a0.length:Int)) then ((aF a0 p6).bind fun x8=>(bif !decide (x8.Kind=7) then (some true) else (bi (in64 (p6+1)) ((aF a0 (p6+1)).bind fun x11=>some (decide (x11.Kind=8))))).bind fun b9=>bif b9 then (some false) else ((bif decide (a1=4) then (bi (in64 (p6+2)) ((aF a0 (p6+2)).bind fun x15=>(dI N x15 7).bind fun y16=>(bif !y16 then (some true) else (bi (in64 (p6+3)) ((aF a0 (p6+3)).bind fun x19=>(f0 N x19 0 9007199254740992).bind fun y20=>some (!y20)))).bind fun b17=>some b17)) else (some false)).bind fun b13=>bif b13 then (some false) else (bi (in64 (p6+a1)) ((fN N a1 a0 m5) (p6+a1))))) else (CQ N)
def dg (N:Nat)(a0:(List SR))(a1:Int):Option Bool:=
 bi (a1≠0) (bif !decide ((a0.length:Int).tmod a1=0) then (some false) else (fN N a1 a0 N 0))
def jv (N:Nat)(a0:Ta)(p7:Bool):Option Bool:=
 bif p7 then (some (decide ((a0.More.length:Int)=0))) else (bif decide (a0.Kind=3) then ((bif decide ((a0.More.length:Int)=3) then ((aF a0.More 0).bind fun x12=>(f0 N x12 0 9007199254740992).bind fun y13=>some y13) else (some false)).bind fun b11=>(bif b11 then ((aF a0.More 1).bind fun x15=>(dI N x15 9).bind fun y16=>some y16) else (some false)).bind fun b14=>some b14) else (bif decide (a0.Kind=4) then ((bif decide (1≤(a0.More.length:Int)) then (some (decide ((a0.More.length:Int)≤4097))) else (some false)).bind fun b18=>(bif b18 then ((aF a0.More 0).bind fun x20=>(dI N x20 9).bind fun y21=>some y21) else (some false)).bind fun b19=>some b19) else (bif decide (a0.Kind=6) then ((bif decide ((a0.More.length:Int)=2) then ((aF a0.More 0).bind fun x24=>(f0 N x24 0 3).bind fun y25=>some y25) else (some false)).bind fun b23=>(bif b23 then ((aF a0.More 1).bind fun x27=>(dI N x27 9).bind fun y28=>some y28) else (some false)).bind fun b26=>some b26) else (bif decide (a0.Kind=7) then ((bif decide (4≤(a0.More.length:Int)) then ((aF a0.More 2).bind fun x31=>(f0 N x31 0 1).bind fun y32=>some y32) else (some false)).bind fun b30=>(bif b30 then ((aF a0.More 3).bind fun x34=>(f0 N x34 0 9007199254740992).bind fun y35=>some y35) else (some false)).bind fun b33=>some b33) else (bif decide (a0.Kind=8) then ((dg N a0.More 2).bind fun y37=>some y37) else (bif decide (a0.Kind=10) then ((bif decide (1≤(a0.More.length:Int)) then ((aF a0.More 0).bind fun x40=>some (decide (x40.Kind=7))) else (some false)).bind fun b39=>(bif b39 then (bi ((0:Int)≤1∧(1:Int).toNat≤a0.More.length∧a0.More.length≤a0.More.length) ((dg N ((a0.More.drop ((1:Int).toNat)).take (a0.More.length - (1:Int).toNat)) 4).bind fun y44=>some y44)) else (some false)).bind fun b41=>some b41) else (bif decide (a0.Kind=9) then ((bif decide (2≤(a0.More.length:Int)) then ((aF a0.More 0).bind fun x47=>(f0 N x47 0 2).bind fun y48=>some y48) else (some false)).bind fun b46=>some b46) else (some true))))))))
def jL (N:Nat)(a0:Ta):Option Bool:=
 bif decide (1048576<(a0.More.length:Int)) then (some false) else (bif decide (a0.Kind=2) then (some (decide ((a0.More.length:Int)≤4096))) else (bif decide (a0.Kind=1) then (jv N a0 (decide (a0.Kind=1))) else (jv N a0 (decide (a0.Kind=5)))))
def dh (N:Nat)(a0:Ta):Option Bool:=
 (iD N a0).bind fun y27=>(bif y27 then ((jL N a0).bind fun y29=>some y29) else (some false)).bind fun b28=>some b28
def lU (N:Nat)(a0:Ta):Nat→Int→Option Bool
 |0,_=>none
 |m20+1,p21=>bif decide (p21<(a0.More.length:Int)) then ((aF a0.More p21).bind fun x23=>(f3 N x23).bind fun y24=>bif !y24 then (some false) else (bi (in64 (p21+1)) ((lU N a0 m20) (p21+1)))) else (dh N a0)
def xq (N:Nat)(a0:Ta):Option Bool:=
 lU N a0 N 0
def gF (N:Nat)(a0:Ta):Nat→Int→Option Bool
 |0,_=>none
 |m12+1,p13=>bif decide (p13<(a0.Slots.length:Int)) then ((aF a0.Slots p13).bind fun x15=>(f3 N x15).bind fun y16=>bif !y16 then (some false) else (bi (in64 (p13+1)) ((gF N a0 m12) (p13+1)))) else (xq N a0)
def cW (N:Nat)(a0:Ta):Option Bool:=
 (bif decide (a0.Kind<1) then (some true) else (some (decide (11<a0.Kind)))).bind fun b4=>(bif b4 then (some true) else (some (decide (a0.Shape<0)))).bind fun b5=>(bif b5 then (some true) else (some (decide (a0.Flags<0)))).bind fun b6=>(bif b6 then (some true) else (some (decide (63<a0.Flags)))).bind fun b7=>(bif b7 then (some true) else (some (decide (a0.Age<0)))).bind fun b8=>(bif b8 then (some true) else (some (decide (1<a0.Age)))).bind fun b9=>bif b9 then (some false) else (gF N a0 N 0)
def sB (N:Nat)(a0:SR):Option Bool:=
 (bif decide (a0.Kind=7) then (some true) else (some (decide (a0.Kind=9)))).bind fun b2=>some b2
def te (N:Nat)(a0:Int)(a1:Int):Option Bool:=
 (bif decide (a0=8) then (some true) else ((bif decide (a0=10) then (some (decide (0<a1))) else (some false)).bind fun b2=>(bif b2 then (bi (in64 (a1 - 1)) (some (decide (((a1 - 1).tmod 4).tmod 2=0)))) else (some false)).bind fun b3=>some b3)).bind fun b1=>some b1
def D4 (N:Nat)(p22:(List Int)):Option (List Int):=
 some p22
def oz (N:Nat)(kb23:(List Int)→Int→Option (List Int))(p25:Int)(a0:Ta)(p28:(List Int)):Option (List Int):=
 bi (in64 (p25+1)) (kb23 p28 (p25+1))
def kf (N:Nat)(a0:Ta):Nat→(List Int)→Int→Option (List Int)
 |0,_,_=>none
 |m23+1,p24,p25=>bif decide (p25<(a0.More.length:Int)) then ((aF a0.More p25).bind fun x29=>(sB N x29).bind fun y30=>(bif y30 then ((te N a0.Kind p25).bind fun y32=>some (!y32)) else (some false)).bind fun b31=>bif b31 then ((aF a0.More p25).bind fun x34=>bi (bQ (p24.length+([x34.N]:List Int).length)) (oz N (kf N a0 m23) p25 a0 (p24++([x34.N]:List Int)))) else (oz N (kf N a0 m23) p25 a0 p24)) else (D4 N p24)
def yV (N:Nat)(a0:Ta)(p5:(List Int)):Option (List Int):=
 kf N a0 N p5 0
def oA (N:Nat)(kb6:(List Int)→Int→Option (List Int))(p8:Int)(a0:Ta)(p12:(List Int)):Option (List Int):=
 bi (in64 (p8+1)) (kb6 p12 (p8+1))
def lh (N:Nat)(a0:Ta):Nat→(List Int)→Int→Option (List Int)
 |0,_,_=>none
 |m6+1,p7,p8=>bif decide (p8<(a0.Slots.length:Int)) then ((aF a0.Slots p8).bind fun x13=>(sB N x13).bind fun y14=>bif y14 then ((aF a0.Slots p8).bind fun x16=>bi (bQ (p7.length+([x16.N]:List Int).length)) (oA N (lh N a0 m6) p8 a0 (p7++([x16.N]:List Int)))) else (oA N (lh N a0 m6) p8 a0 p7)) else (yV N a0 p7)
def kQ (N:Nat)(a0:Ta):Option (List Int):=
 lh N a0 N [] 0
def Fo (N:Nat):Option Bool:=
 some true
def yM (N:Nat)(a1:(List Int))(a0:SP):Nat→Int→Option Bool
 |0,_=>none
 |m6+1,p7=>bif decide (p7<(a1.length:Int)) then ((aF a1 p7).bind fun x9=>(lf N a0 x9).bind fun y10=>bif !y10 then (some false) else (bi (in64 (p7+1)) ((yM N a1 a0 m6) (p7+1)))) else (Fo N)
def uW (N:Nat)(a0:SP)(a1:(List Int)):Option Bool:=
 yM N a1 a0 N 0
def D3 (N:Nat)(p5:(List Int)):Option (List Int):=
 some p5
def vc (N:Nat)(kb6:(List Int)→Int→Option (List Int))(p8:Int)(a0:Ta)(p12:(List Int)):Option (List Int):=
 bi (in64 (p8+1)) (kb6 p12 (p8+1))
def rT (N:Nat)(a0:Ta):Nat→(List Int)→Int→Option (List Int)
 |0,_,_=>none
 |m6+1,p7,p8=>bif decide (p8<(a0.More.length:Int)) then ((aF a0.More p8).bind fun x13=>(sB N x13).bind fun y14=>(bif y14 then ((te N a0.Kind p8).bind fun y16=>some y16) else (some false)).bind fun b15=>bif b15 then ((aF a0.More p8).bind fun x18=>bi (bQ (p7.length+([x18.N]:List Int).length)) (vc N (rT N a0 m6) p8 a0 (p7++([x18.N]:List Int)))) else (vc N (rT N a0 m6) p8 a0 p7)) else (D3 N p7)
def tf (N:Nat)(a0:Ta):Option (List Int):=
 rT N a0 N [] 0
def GD (N:Nat):Option Bool:=
 some true
def Ba (N:Nat)(a1:(List Ta))(a0:SP):Nat→Int→Option Bool
 |0,_=>none
 |m6+1,p7=>bif decide (p7<(a1.length:Int)) then ((aF a1 p7).bind fun x9=>(cW N x9).bind fun y13=>(bif !y13 then (some true) else ((aF a1 p7).bind fun x15=>(kQ N x15).bind fun y18=>(uW N a0 y18).bind fun y20=>some (!y20))).bind fun b14=>(bif b14 then (some true) else ((aF a1 p7).bind fun x22=>(tf N x22).bind fun y25=>(uW N a0 y25).bind fun y27=>some (!y27))).bind fun b21=>bif b21 then (some false) else (bi (in64 (p7+1)) ((Ba N a1 a0 m6) (p7+1)))) else (GD N)
def CN (N:Nat)(a0:SP)(a1:(List Ta)):Option Bool:=
 Ba N a1 a0 N 0
def Aj (N:Nat)(p4:(List Int)):Option (List Int):=
 some p4
def ob (N:Nat)(kb5:(List Int)→Int→Option (List Int))(p7:Int)(a0:(List SR))(p10:(List Int)):Option (List Int):=
 bi (in64 (p7+1)) (kb5 p10 (p7+1))
def gL (N:Nat)(a0:(List SR)):Nat→(List Int)→Int→Option (List Int)
 |0,_,_=>none
 |m5+1,p6,p7=>bif decide (p7<(a0.length:Int)) then ((aF a0 p7).bind fun x11=>(bif decide (x11.Kind=7) then (some true) else ((aF a0 p7).bind fun x13=>some (decide (x13.Kind=9)))).bind fun b12=>bif b12 then ((aF a0 p7).bind fun x15=>bi (bQ (p6.length+([x15.N]:List Int).length)) (ob N (gL N a0 m5) p7 a0 (p6++([x15.N]:List Int)))) else (ob N (gL N a0 m5) p7 a0 p6)) else (Aj N p6)
def iv (N:Nat)(a0:(List SR)):Option (List Int):=
 gL N a0 N ([]:List Int) 0
def Bc (N:Nat)(a0:SP)(a1:(List SR)):Option Bool:=
 bi (in64 ((a0.Young.length:Int)+(a0.Old.length:Int))) ((bif decide ((a0.Young.length:Int)+(a0.Old.length:Int)≤1048576) then ((CN N a0 a0.Young).bind fun y7=>some y7) else (some false)).bind fun b6=>(bif b6 then ((CN N a0 a0.Old).bind fun y9=>some y9) else (some false)).bind fun b8=>(bif b8 then ((iv N a1).bind fun y11=>(uW N a0 y11).bind fun y13=>some y13) else (some false)).bind fun b10=>some b10)
def Ks (N:Nat):Option Bool:=
 some false
def Ak (N:Nat)(a1:Int)(a0:(List Int)):Nat→Int→Option Bool
 |0,_=>none
 |m3+1,p4=>bif decide (p4<(a0.length:Int)) then ((aF a0 p4).bind fun x6=>bif decide (x6=a1) then (some true) else (bi (in64 (p4+1)) ((Ak N a1 a0 m3) (p4+1)))) else (Ks N)
def CO (N:Nat)(a0:(List Int))(a1:Int):Option Bool:=
 Ak N a1 a0 N 0
def HZ (N:Nat)(p7:(List Int)):Option (List Int):=
 some p7
def uY (N:Nat)(kb8:(List Int)→Int→Option (List Int))(p10:Int)(a2:(List Int))(a0:SP)(p13:(List Int)):Option (List Int):=
 bi (in64 (p10+1)) (kb8 p13 (p10+1))
def nZ (N:Nat)(a2:(List Int))(a0:SP):Nat→(List Int)→Int→Option (List Int)
 |0,_,_=>none
 |m8+1,p9,p10=>bif decide (p10<(a2.length:Int)) then ((aF a2 p10).bind fun x14=>(lf N a0 x14).bind fun y15=>(bif y15 then ((aF a2 p10).bind fun x17=>(CO N p9 x17).bind fun y18=>some (!y18)) else (some false)).bind fun b16=>bif b16 then ((aF a2 p10).bind fun x20=>bi (bQ (p9.length+([x20]:List Int).length)) (uY N (nZ N a2 a0 m8) p10 a2 a0 (p9++([x20]:List Int)))) else (uY N (nZ N a2 a0 m8) p10 a2 a0 p9)) else (HZ N p9)
def oa (N:Nat)(a0:SP)(a1:(List Int))(a2:(List Int)):Option (List Int):=
 nZ N a2 a0 N a1 0
def CK (N:Nat)(p6:(List Int)):Option (List Int):=
 some p6
def nc (N:Nat)(a0:SP):Nat→(List Int)→Int→Option (List Int)
 |0,_,_=>none
 |m7+1,p8,p9=>bif decide (p9<(p8.length:Int)) then ((aF p8 p9).bind fun x11=>(qy N a0 x11).bind fun y12=>(kQ N y12).bind fun y17=>(oa N a0 p8 y17).bind fun y20=>bi (in64 (p9+1)) ((nc N a0 m7) y20 (p9+1))) else (CK N p8)
def iQ (N:Nat)(a0:SP)(a1:(List Int))(a2:Int):Option (List Int):=
 nc N a0 N a1 a2
def xj (N:Nat)(p6:(List Int)):Option (List Int):=
 some p6
def qw (N:Nat)(kb7:(List Int)→Int→Option (List Int))(p9:Int)(p12:(List Int)):Option (List Int):=
 bi (in64 (p9+1)) (kb7 p12 (p9+1))
def ne (N:Nat)(kb7:(List Int)→Int→Option (List Int))(p9:Int):Nat→(List Int)→Int→Option (List Int)
 |0,_,_=>none
 |m13+1,p14,p15=>(bif decide (0<p15) then (bi (in64 (p15 - 1)) ((aF p14 (p15 - 1)).bind fun x18=>(aF p14 p15).bind fun x19=>some (decide (x19<x18)))) else (some false)).bind fun b16=>bif b16 then ((aF p14 p15).bind fun x21=>bi (in64 (p15 - 1)) ((aF p14 (p15 - 1)).bind fun x23=>(aF p14 p15).bind fun x24=>bi (in64 (p15 - 1)) ((aF (List.set p14 p15.toNat x23) (p15 - 1)).bind fun x26=>bi (in64 (p15 - 1)) ((ne N kb7 p9 m13) (List.set (List.set p14 p15.toNat x23) ((p15 - 1).toNat) x21) (p15 - 1))))) else (qw N kb7 p9 p14)
def gC (N:Nat):Nat→(List Int)→Int→Option (List Int)
 |0,_,_=>none
 |m7+1,p8,p9=>bif decide (p9<(p8.length:Int)) then (ne N (gC N m7) p9 N p8 p9) else (xj N p8)
def pN (N:Nat)(a0:(List Int)):Option (List Int):=
 bi (bQ (([]:List Int).length+a0.length)) (gC N N (([]:List Int)++a0) 1)
def yT (N:Nat)(a0:Ta):Option Bool:=
 (bif decide (a0.Kind=8) then ((cW N a0).bind fun y5=>some y5) else (some false)).bind fun b4=>some b4
def Kt (N:Nat):Option Bool:=
 some false
def Al (N:Nat)(a0:Int)(a1:(List Int)):Nat→Int→Option Bool
 |0,_=>none
 |m3+1,p4=>bif decide (p4<(a1.length:Int)) then ((aF a1 p4).bind fun x6=>bif decide (x6=a0) then (some true) else (bi (in64 (p4+1)) ((Al N a0 a1 m3) (p4+1)))) else (Kt N)
def vb (N:Nat)(a0:Int)(a1:(List Int)):Option Bool:=
 Al N a0 a1 N 0
def yR (N:Nat)(p6:(List Int)):Option (List Int):=
 some p6
def rS (N:Nat)(kb7:(List Int)→Int→Option (List Int))(p9:Int)(a1:(List Int))(a0:Ta)(p15:(List Int)):Option (List Int):=
 bi (in64 (p9+2)) (kb7 p15 (p9+2))
def pO (N:Nat)(a1:(List Int))(a0:Ta):Nat→(List Int)→Int→Option (List Int)
 |0,_,_=>none
 |m7+1,p8,p9=>(yT N a0).bind fun y11=>(bif y11 then (some (decide (p9<(a0.More.length:Int)))) else (some false)).bind fun b12=>bif b12 then (bi (in64 (p9+1)) ((aF a0.More (p9+1)).bind fun x17=>(aF a0.More p9).bind fun x19=>(vb N x19.N a1).bind fun y20=>(bif y20 then ((bif decide (x17.Kind=7) then (some true) else (some (decide (x17.Kind=9)))).bind fun b22=>some b22) else (some false)).bind fun b21=>bif b21 then (bi (bQ (p8.length+([x17.N]:List Int).length)) (rS N (pO N a1 a0 m7) p9 a1 a0 (p8++([x17.N]:List Int)))) else (rS N (pO N a1 a0 m7) p9 a1 a0 p8))) else (yR N p8)
def va (N:Nat)(a0:Ta)(a1:(List Int)):Option (List Int):=
 pO N a1 a0 N [] 0
def xn (N:Nat)(kb12:(List Int)→Option (List Int))(p13:(List Int))(a0:SP)(p15:(List Int)):Option (List Int):=
 bif decide ((p15.length:Int)=(p13.length:Int)) then (some p15) else ((iQ N a0 p15 (p13.length:Int)).bind fun y33=>kb12 y33)
def lT (N:Nat)(kb12:(List Int)→Option (List Int))(p13:(List Int))(a0:SP):Nat→(List Int)→Int→Option (List Int)
 |0,_,_=>none
 |m16+1,p17,p18=>bif decide (p18<(p13.length:Int)) then ((aF p17 p18).bind fun x20=>(qy N a0 x20).bind fun y21=>(va N y21 p17).bind fun y26=>(oa N a0 p17 y26).bind fun y29=>bi (in64 (p18+1)) ((lT N kb12 p13 a0 m16) y29 (p18+1))) else (xn N kb12 p13 a0 p17)
def iS (N:Nat)(a0:SP):Nat→(List Int)→Option (List Int)
 |0,_=>none
 |m12+1,p13=>lT N (iS N a0 m12) p13 a0 N p13 0
def mH (N:Nat)(a0:SP)(a1:(List SR)):Option (List Int):=
 (iv N a1).bind fun y5=>(oa N a0 ([]:List Int) y5).bind fun y8=>(iQ N a0 y8 0).bind fun y10=>iS N a0 N y10
def qx (N:Nat)(a0:SP)(a1:(List SR)):Option (List Int):=
 (mH N a0 a1).bind fun y5=>(pN N y5).bind fun y7=>some y7
def wL (N:Nat)(a0:(List Ta)):Option (List Ta):=
 bi (bQ (([]:List Ta).length+a0.length)) (some (([]:List Ta)++a0))
def Af (N:Nat)(p5:(List Ta)):Option (List Ta):=
 some p5
def ru (N:Nat)(kb6:(List Ta)→Int→Option (List Ta))(y2:((List Ta)))(p8:Int)(p11:(List Ta)):Option (List Ta):=
 bi (in64 (p8+1)) (kb6 p11 (p8+1))
def nW (N:Nat)(y2:((List Ta))):Nat→(List Ta)→Int→Option (List Ta)
 |0,_,_=>none
 |m6+1,p7,p8=>bif decide (p8<(y2.length:Int)) then ((aF p7 p8).bind fun x12=>(bif decide (x12.Kind=10) then ((eg N x12).bind fun y17=>some y17) else (some false)).bind fun b16=>bif b16 then (bi ((0:Int)≤1∧0≤(1:Int).toNat∧(1:Int).toNat≤x12.More.length) ((aF p7 p8).bind fun x21=>ru N (nW N y2 m6) y2 p8 (List.set p7 p8.toNat (⟨x21.Kind,x21.Shape,x21.Flags,x21.Age,x21.Slots,(x12.More.drop 0).take ((1:Int).toNat - 0)⟩:Ta)))) else (ru N (nW N y2 m6) y2 p8 p7)) else (Af N p7)
def t7 (N:Nat)(a0:(List Ta)):Option (List Ta):=
 (wL N a0).bind fun y2=>nW N y2 N y2 0
def yH (N:Nat)(a0:SP):Option SP:=
 (t7 N a0.Young).bind fun y5=>(t7 N a0.Old).bind fun y7=>some (⟨y5,y7⟩:SP)
def wV (N:Nat)(a0:SO)(a1:SR)(a2:SR):Option Bool:=
 (gg N a1).bind fun y12=>(gg N a2).bind fun y13=>(bif !y12.2 then (some true) else (some (!y13.2))).bind fun b14=>bif b14 then (some (decide (a1=a2))) else ((bif !decide (a1.Kind=a2.Kind) then (some true) else (some (!(a1.S.toList==a2.S.toList)))).bind fun b16=>bif b16 then (some false) else ((bif !((lk a0.from_ y12.1).isSome) then (some true) else (some (!((lk a0.to_ y13.1).isSome)))).bind fun b18=>bif b18 then ((bif !((lk a0.from_ y12.1).isSome) then (some (!((lk a0.to_ y13.1).isSome))) else (some false)).bind fun b20=>(bif b20 then ((dR N a0.a_ y12.1).bind fun y22=>(dR N a0.b_ y13.1).bind fun y23=>some (y22==y23)) else (some false)).bind fun b21=>some b21) else (some (decide ((lk a0.from_ y12.1).getD 0=(lk a0.to_ y13.1).getD 0)))))
def wK (N:Nat)(ff:(SR×SR)→Option Bool):Option Bool:=
 some true
def py (N:Nat)(ff:(SR×SR)→Option Bool)(a0:(List SR))(a1:(List SR)):Nat→Int→Option Bool
 |0,_=>none
 |m5+1,p6=>bif decide (p6<(a0.length:Int)) then ((aF a0 p6).bind fun x8=>(aF a1 p6).bind fun x10=>(ff (x8,x10)).bind fun y12=>bif !y12 then (some false) else (bi (in64 (p6+1)) ((py N ff a0 a1 m5) (p6+1)))) else (wK N ff)
def xI (N:Nat)(a0:(List SR))(a1:(List SR))(ff:(SR×SR)→Option Bool):Option Bool:=
 bif !decide ((a0.length:Int)=(a1.length:Int)) then (some false) else (py N ff a0 a1 N 0)
def kP (N:Nat)(a0:SO)(a1:(List SR))(a2:(List SR)):Option Bool:=
 (xI N a1 a2 (fun x=>wV N a0 x.1 x.2)).bind fun y12=>some y12
def t6 (N:Nat)(a0:Ta)(a1:(List Int)):Option Ta:=
 (bif decide (a0.Kind=8) then ((eg N a0).bind fun y7=>some y7) else (some false)).bind fun b6=>bif b6 then ((jz N a0 a1).bind fun y9=>some y9) else (some a0)
def BF (N:Nat):Option Bool:=
 some true
def ub (N:Nat)(y24:((List Int)))(y9:(SP))(y14:(SP))(p31:(List (Int×Int)))(p32:(List (Int×Int))):Nat→Int→(List Int)→(List Int)→Option Bool
 |0,_,_,_=>none
 |m46+1,p47,p48,p49=>bif decide (p47<(y24.length:Int)) then ((aF p48 p47).bind fun x51=>(fq N y9 x51).bind fun y52=>(t6 N y52 p48).bind fun y57=>(aF p49 p47).bind fun x62=>(fq N y14 x62).bind fun y63=>(t6 N y63 p49).bind fun y68=>(bif !decide (y57.Kind=y68.Kind) then (some true) else (some (!decide (y57.Shape=y68.Shape)))).bind fun b77=>(bif b77 then (some true) else (some (!decide (y57.Flags=y68.Flags)))).bind fun b78=>(bif b78 then (some true) else ((kP N (⟨y9,y14,p48,p49,p31,p32⟩:SO) y57.Slots y68.Slots).bind fun y80=>some (!y80))).bind fun b79=>(bif b79 then (some true) else ((kP N (⟨y9,y14,p48,p49,p31,p32⟩:SO) y57.More y68.More).bind fun y82=>some (!y82))).bind fun b81=>bif b81 then (some false) else (bi (in64 (p47+1)) ((ub N y24 y9 y14 p31 p32 m46) (p47+1) p48 p49))) else (BF N)
def BG (N:Nat)(a1:(List SR))(a3:(List SR))(y9:(SP))(y14:(SP))(y24:((List Int)))(y27:((List Int)))(p31:(List (Int×Int)))(p32:(List (Int×Int))):Option Bool:=
 (kP N (⟨y9,y14,y24,y27,p31,p32⟩:SO) a1 a3).bind fun y43=>bif !y43 then (some false) else (ub N y24 y9 y14 p31 p32 N 0 y24 y27)
def uc (N:Nat)(y24:((List Int)))(a1:(List SR))(a3:(List SR))(y9:(SP))(y14:(SP))(y27:((List Int))):Nat→Int→(List (Int×Int))→(List (Int×Int))→Option Bool
 |0,_,_,_=>none
 |m33+1,p34,p35,p36=>bif decide (p34<(y24.length:Int)) then ((aF y24 p34).bind fun x38=>(aF y27 p34).bind fun x39=>bi (in64 (p34+1)) ((uc N y24 a1 a3 y9 y14 y27 m33) (p34+1) (um (Q9 p35 x38 0) x38 p34) (um (Q9 p36 x39 0) x39 p34))) else (BG N a1 a3 y9 y14 y24 y27 p35 p36)
def rR (N:Nat)(a0:SP)(a1:(List SR))(a2:SP)(a3:(List SR)):Option Bool:=
 (yH N a0).bind fun y9=>(yH N a2).bind fun y14=>(eE N y9 a1).bind fun y24=>(eE N y14 a3).bind fun y27=>bif !decide ((y24.length:Int)=(y27.length:Int)) then (some false) else (uc N y24 a1 a3 y9 y14 y27 N 0 ([]:(List (Int×Int))) ([]:(List (Int×Int))))
def Fq (N:Nat)(p4:(List Ta)):Option (List Ta):=
 some p4
def xi (N:Nat)(kb5:(List Ta)→Int→Option (List Ta))(p7:Int)(a0:(List Ta))(p6:(List Ta))(x9:Ta)(p15:(List SR)):Option (List Ta):=
 bi (bQ (p6.length+([(⟨x9.Kind,x9.Shape,x9.Flags,x9.Age,x9.Slots,p15⟩:Ta)]:List Ta).length)) (bi (in64 (p7+1)) (kb5 (p6++([(⟨x9.Kind,x9.Shape,x9.Flags,x9.Age,x9.Slots,p15⟩:Ta)]:List Ta)) (p7+1)))
def td (N:Nat)(a0:(List Ta)):Nat→(List Ta)→Int→Option (List Ta)
 |0,_,_=>none
 |m5+1,p6,p7=>bif decide (p7<(a0.length:Int)) then ((aF a0 p7).bind fun x9=>(bif decide (x9.Kind=10) then ((cW N x9).bind fun y17=>some y17) else (some false)).bind fun b16=>bif b16 then (bi ((0:Int)≤1∧0≤(1:Int).toNat∧(1:Int).toNat≤x9.More.length) (xi N (td N a0 m5) p7 a0 p6 x9 ((x9.More.drop 0).take ((1:Int).toNat - 0)))) else (xi N (td N a0 m5) p7 a0 p6 x9 x9.More)) else (Fq N p6)
def AY (N:Nat)(a0:(List Ta)):Option (List Ta):=
 td N a0 N ([]:List Ta) 0
def CL (N:Nat)(a0:SP)(a1:(List SR)):Option SV:=
 (AY N a0.Young).bind fun y6=>(AY N a0.Old).bind fun y9=>(mH N (⟨y6,y9⟩:SP) a1).bind fun y11=>some (⟨(⟨y6,y9⟩:SP),y11⟩:SV)
def Fs (N:Nat):Option Int:=
 some (-1)
def yO (N:Nat)(a1:Int)(a0:(List Int)):Nat→Int→Option Int
 |0,_=>none
 |m3+1,p4=>bif decide (p4<(a0.length:Int)) then ((aF a0 p4).bind fun x6=>bif decide (x6=a1) then (some p4) else (bi (in64 (p4+1)) ((yO N a1 a0 m3) (p4+1)))) else (Fs N)
def AZ (N:Nat)(a0:(List Int))(a1:Int):Option Int:=
 yO N a1 a0 N 0
def CJ (N:Nat):Option Bool:=
 some true
def uX (N:Nat)(a1:(List SR))(a3:(List SR))(a0:SV)(a2:SV):Nat→Int→Option Bool
 |0,_=>none
 |m13+1,p14=>bif decide (p14<(a1.length:Int)) then ((aF a1 p14).bind fun x16=>(bif decide (x16.Kind=7) then (some true) else ((aF a1 p14).bind fun x18=>some (decide (x18.Kind=9)))).bind fun b17=>(bif !b17 then ((aF a1 p14).bind fun x20=>(aF a3 p14).bind fun x21=>some (!decide (x20=x21))) else (some false)).bind fun b19=>bif b19 then (some false) else ((bif b17 then ((aF a1 p14).bind fun x24=>(aF a3 p14).bind fun x25=>(bif !decide (x24.Kind=x25.Kind) then (some true) else ((aF a1 p14).bind fun x27=>(aF a3 p14).bind fun x28=>some (!(x27.S.toList==x28.S.toList)))).bind fun b26=>(bif b26 then (some true) else ((aF a1 p14).bind fun x30=>(aF a3 p14).bind fun x31=>(lf N a0.M x30.N).bind fun y32=>(lf N a2.M x31.N).bind fun y33=>some (!(y32==y33)))).bind fun b29=>some b29) else (some false)).bind fun b23=>bif b23 then (some false) else ((bif b17 then ((aF a1 p14).bind fun x36=>(lf N a0.M x36.N).bind fun y37=>some y37) else (some false)).bind fun b35=>(bif b35 then ((aF a1 p14).bind fun x39=>(aF a3 p14).bind fun x40=>(AZ N a0.Order x39.N).bind fun y41=>(AZ N a2.Order x40.N).bind fun y42=>some (!decide (y41=y42))) else (some false)).bind fun b38=>bif b38 then (some false) else (bi (in64 (p14+1)) ((uX N a1 a3 a0 a2 m13) (p14+1)))))) else (CJ N)
def tc (N:Nat)(a0:SV)(a1:(List SR))(a2:SV)(a3:(List SR)):Option Bool:=
 bif !decide ((a1.length:Int)=(a3.length:Int)) then (some false) else (uX N a1 a3 a0 a2 N 0)
def Fw (N:Nat)(a0:Ta):Option Ta:=
 bi (bQ (([]:List SR).length+a0.Slots.length)) (bi (bQ (([]:List SR).length+a0.More.length)) (some (⟨a0.Kind,a0.Shape,a0.Flags,a0.Age,([]:List SR)++a0.Slots,([]:List SR)++a0.More⟩:Ta)))
def BH (N:Nat)(y6:(Ta))(p11:(List SR)):Option Ta:=
 some (⟨y6.Kind,y6.Shape,y6.Flags,y6.Age,y6.Slots,p11⟩:Ta)
def ud (N:Nat)(kb12:Int→(List SR)→Option Ta)(p13:Int)(a1:(List Bool))(a0:Ta)(y6:(Ta))(p18:(List SR)):Option Ta:=
 bi (in64 (p13+1)) (kb12 (p13+1) p18)
def pi (N:Nat)(a1:(List Bool))(a0:Ta)(y6:(Ta)):Nat→Int→(List SR)→Option Ta
 |0,_,_=>none
 |m12+1,p13,p14=>bif decide (p13<(a1.length:Int)) then ((aF a1 p13).bind fun x19=>bif x19 then (bi (in64 (2*p13)) ((aF a0.More (2*p13)).bind fun x22=>bi (in64 (2*p13)) (bi (in64 ((2*p13)+1)) ((aF a0.More ((2*p13)+1)).bind fun x25=>bi (bQ (p14.length+([x22,x25]:List SR).length)) (ud N (pi N a1 a0 y6 m12) p13 a1 a0 y6 (p14++([x22,x25]:List SR))))))) else (ud N (pi N a1 a0 y6 m12) p13 a1 a0 y6 p14)) else (BH N y6 p14)
def D1 (N:Nat)(a0:Ta)(a1:(List Bool)):Option Ta:=
 (Fw N a0).bind fun y6=>pi N a1 a0 y6 N 0 []
def D2 (N:Nat)(a0:Ta)(p11:(List Bool)):Option Ta:=
 (D1 N a0 p11).bind fun y23=>some y23
def xp (N:Nat)(a1:(List Int))(a0:Ta):Nat→(List Bool)→Int→Option Ta
 |0,_,_=>none
 |m12+1,p13,p14=>bif decide (p14<(a0.More.length:Int)) then ((aF a0.More p14).bind fun x17=>(vb N x17.N a1).bind fun y18=>bi (bQ (p13.length+([y18]:List Bool).length)) (bi (in64 (p14+2)) ((xp N a1 a0 m12) (p13++([y18]:List Bool)) (p14+2)))) else (D2 N a0 p13)
def GG (N:Nat)(a0:Ta)(a1:(List Int)):Option Ta:=
 (yT N a0).bind fun y6=>bif !y6 then (some (⟨0,0,0,0,[],[]⟩:Ta)) else (xp N a1 a0 N [] 0)
def xm (N:Nat)(a0:Ta)(a1:(List Int)):Option Ta:=
 (bif decide (a0.Kind=8) then ((cW N a0).bind fun y7=>some y7) else (some false)).bind fun b6=>bif b6 then ((GG N a0 a1).bind fun y9=>some y9) else (some a0)
def D0 (N:Nat):Option Bool:=
 some true
def xo (N:Nat):Nat→Int→(List Ta)→(List Ta)→(List Int)→(List Ta)→(List Ta)→(List Int)→Option Bool
 |0,_,_,_,_,_,_,_=>none
 |m23+1,p24,p25,p26,p27,p28,p29,p30=>bif decide (p24<(p27.length:Int)) then ((aF p27 p24).bind fun x32=>(qy N (⟨p25,p26⟩:SP) x32).bind fun y33=>(xm N y33 p27).bind fun y38=>(aF p30 p24).bind fun x45=>(qy N (⟨p28,p29⟩:SP) x45).bind fun y46=>(xm N y46 p30).bind fun y51=>(bif !decide (y38.Kind=y51.Kind) then (some true) else (some (!decide (y38.Shape=y51.Shape)))).bind fun b58=>(bif b58 then (some true) else (some (!decide (y38.Flags=y51.Flags)))).bind fun b59=>(bif b59 then (some true) else ((tc N (⟨(⟨p25,p26⟩:SP),p27⟩:SV) y38.Slots (⟨(⟨p28,p29⟩:SP),p30⟩:SV) y51.Slots).bind fun y61=>some (!y61))).bind fun b60=>(bif b60 then (some true) else ((tc N (⟨(⟨p25,p26⟩:SP),p27⟩:SV) y38.More (⟨(⟨p28,p29⟩:SP),p30⟩:SV) y51.More).bind fun y63=>some (!y63))).bind fun b62=>bif b62 then (some false) else (bi (in64 (p24+1)) ((xo N m23) (p24+1) p25 p26 p27 p28 p29 p30))) else (D0 N)
def Be (N:Nat)(a0:SP)(a1:(List SR))(a2:SP)(a3:(List SR)):Option Bool:=
 (CL N a0 a1).bind fun y9=>(CL N a2 a3).bind fun y14=>(bif !decide ((y9.Order.length:Int)=(y14.Order.length:Int)) then (some true) else ((tc N y9 a1 y14 a3).bind fun y20=>some (!y20))).bind fun b19=>bif b19 then (some false) else (xo N N 0 y9.M.Young y9.M.Old y9.Order y14.M.Young y14.M.Old y14.Order)
def iN (N:Nat)(a0:(List SR)):Option Ta:=
 some (⟨11,0,0,0,[],a0⟩:Ta)
def eG (N:Nat)(a0:Int):Option SR:=
 some (⟨7,a0,⟨#[]⟩⟩:SR)
def Au (N:Nat)(x11:Int×Int):((List Int)×(List Int))→Option (Option Exit×((List Int)×(List Int)))
 |(p12,p13)=>bi (bQ (p12.length+([x11.2]:List Int).length)) (bi (in64 (2*x11.1)) (bi (in64 ((2*x11.1)+2)) (bi (bQ (p13.length+([(2*x11.1)+2]:List Int).length)) (some (none,(p12++([x11.2]:List Int),p13++([(2*x11.1)+2]:List Int)))))))
def Da (N:Nat)(a0:SP)(a1:(List SR)):Option ((List Int)×(List Int)):=
 (ed N a0 a1).bind fun y7=>(iW N y7).bind fun y9=>(eu N y7 (cY (fun x st=>Au N x st)) (none,([],[]))).bind fun y14=>nO y14.1 (some (y14.2.1,y14.2.2)) none (fun _=>none)
def nR (N:Nat):Option Bool:=
 (eG N 2).bind fun y1=>(iN N ([y1]:List SR)).bind fun y3=>(iN N []).bind fun y6=>(iN N []).bind fun y11=>(iN N []).bind fun y15=>(eG N 1).bind fun y21=>(Da N (⟨([y3,y6]:List Ta),([y11,y15]:List Ta)⟩:SP) ([y21]:List SR)).bind fun y23=>(eG N 1).bind fun y26=>(ee N (⟨([y3,y6]:List Ta),([y11,y15]:List Ta)⟩:SP) ([y26]:List SR)).bind fun y29=>(eG N 4).bind fun y57=>(eG N 6).bind fun y58=>(eG N 8).bind fun y59=>(iN N []).bind fun y61=>(iN N []).bind fun y65=>(iN N []).bind fun y69=>(eG N 2).bind fun y75=>(ee N (⟨[],([(⟨10,0,0,0,([(⟨1,0,⟨#[]⟩⟩:SR)]:List SR),([y57,y58,y59,(⟨0,0,⟨#[]⟩⟩:SR),(⟨3,7,⟨#[]⟩⟩:SR)]:List SR)⟩:Ta),y61,y65,y69]:List Ta)⟩:SP) ([y75]:List SR)).bind fun y78=>(iR N y23.1 ([2,1]:List Int)).bind fun y108=>(bif y108 then ((iR N y23.2 ([2,4]:List Int)).bind fun y112=>some y112) else (some false)).bind fun b109=>((bif b109 then (some (decide (y29.2.2.2=0))) else (some false)).bind fun b113=>((bif b113 then (some (decide ((y29.1.Old.length:Int)=2))) else (some false)).bind fun b114=>((bif b114 then (some (decide ((y29.1.Young.length:Int)=0))) else (some false)).bind fun b115=>((bif b115 then ((aF y29.1.Old 1).bind fun x117=>some (decide ((x117.More.length:Int)=1))) else (some false)).bind fun b116=>((bif b116 then ((aF y29.1.Old 1).bind fun x123=>(aF x123.More 0).bind fun x128=>(eG N 2).bind fun y131=>some (decide (x128=y131))) else (some false)).bind fun b122=>((bif b122 then (some (decide ((y29.2.1.length:Int)=1))) else (some false)).bind fun b132=>((bif b132 then ((aF y29.2.1 0).bind fun x134=>(eG N 4).bind fun y135=>some (decide (x134=y135))) else (some false)).bind fun b133=>((bif b133 then (some (decide ((y29.2.2.1.length:Int)=0))) else (some false)).bind fun b136=>((bif b136 then (some (decide (y78.2.2.2=0))) else (some false)).bind fun b137=>((bif b137 then (some (decide ((y78.1.Old.length:Int)=3))) else (some false)).bind fun b138=>((bif b138 then ((eG N 4).bind fun y140=>(eG N 6).bind fun y141=>(lg N y78.2.2.1 ([y140,y141,(⟨3,7,⟨#[]⟩⟩:SR)]:List SR)).bind fun y144=>some y144) else (some false)).bind fun b139=>(some b139))))))))))))
def J4 (N:Nat)(a0:SP)(a1:(List SR)):Option Bool:=
 (sy N a0 a1).bind fun y5=>bif !y5 then ((nR N).bind fun y7=>some y7) else ((ee N a0 a1).bind fun y8=>bif !decide (y8.2.2.2=0) then (bi (in64 ((y8.1.Young.length:Int)+(y8.1.Old.length:Int))) (bi (in64 (((y8.1.Young.length:Int)+(y8.1.Old.length:Int))+(y8.2.1.length:Int))) ((bif decide (((y8.1.Young.length:Int)+(y8.1.Old.length:Int))+(y8.2.1.length:Int)=0) then ((nR N).bind fun y18=>some y18) else (some false)).bind fun b17=>some b17))) else ((Be N a0 a1 y8.1 y8.2.1).bind fun y19=>(bif y19 then ((Bc N y8.1 y8.2.1).bind fun y21=>some y21) else (some false)).bind fun b20=>(bif b20 then ((nR N).bind fun y23=>some y23) else (some false)).bind fun b22=>some b22))
def pJ (N:Nat)(a0:Int):Option SR:=
 some (⟨7,a0,⟨#[]⟩⟩:SR)
def Gp (N:Nat):Option Bool:=
 (pJ N 3).bind fun y1=>(pJ N 1).bind fun y10=>(gi N (⟨([(⟨1,0,0,0,([(⟨1,0,⟨#[]⟩⟩:SR),y1]:List SR),[]⟩:Ta),(⟨1,0,0,1,([(⟨1,0,⟨#[]⟩⟩:SR)]:List SR),[]⟩:Ta),(⟨1,0,0,1,([(⟨1,0,⟨#[]⟩⟩:SR)]:List SR),[]⟩:Ta)]:List Ta),[]⟩:SP) ([y10]:List SR) []).bind fun y13=>(bif decide (y13.2.2.2=0) then (some (decide ((y13.1.Young.length:Int)=1))) else (some false)).bind fun b42=>((bif b42 then ((aF y13.1.Young 0).bind fun x44=>some (decide (x44.Age=1))) else (some false)).bind fun b43=>((bif b43 then ((aF y13.1.Young 0).bind fun x46=>(aF x46.Slots 1).bind fun x51=>(pJ N 2).bind fun y54=>some (decide (x51=y54))) else (some false)).bind fun b45=>((bif b45 then (some (decide ((y13.1.Old.length:Int)=1))) else (some false)).bind fun b55=>((bif b55 then (some (decide ((y13.2.1.length:Int)=1))) else (some false)).bind fun b56=>((bif b56 then ((aF y13.2.1 0).bind fun x58=>(pJ N 1).bind fun y59=>some (decide (x58=y59))) else (some false)).bind fun b57=>((bif b57 then (some (decide ((y13.2.2.1.length:Int)=0))) else (some false)).bind fun b60=>(some b60)))))))
def HK (N:Nat)(p3:(List Ta)):Option (List Ta):=
 some p3
def Ck (N:Nat)(a0:(List Ta)):Nat→(List Ta)→Int→Option (List Ta)
 |0,_,_=>none
 |m4+1,p5,p6=>(bif decide (p6<(a0.length:Int)) then (some (decide (p6<40))) else (some false)).bind fun b8=>bif b8 then ((aF a0 p6).bind fun x10=>bi ((0:Int)≤min (x10.Slots.length:Int) 20∧0≤(min (x10.Slots.length:Int) 20).toNat∧(min (x10.Slots.length:Int) 20).toNat≤x10.Slots.length) (bi ((0:Int)≤min (x10.More.length:Int) 40∧0≤(min (x10.More.length:Int) 40).toNat∧(min (x10.More.length:Int) 40).toNat≤x10.More.length) (bi (bQ (p5.length+([(⟨x10.Kind,x10.Shape,x10.Flags,x10.Age,(x10.Slots.drop 0).take ((min (x10.Slots.length:Int) 20).toNat - 0),(x10.More.drop 0).take ((min (x10.More.length:Int) 40).toNat - 0)⟩:Ta)]:List Ta).length)) (bi (in64 (p6+1)) ((Ck N a0 m4) (p5++([(⟨x10.Kind,x10.Shape,x10.Flags,x10.Age,(x10.Slots.drop 0).take ((min (x10.Slots.length:Int) 20).toNat - 0),(x10.More.drop 0).take ((min (x10.More.length:Int) 40).toNat - 0)⟩:Ta)]:List Ta)) (p6+1)))))) else (HK N p5)
def Ei (N:Nat)(a0:(List Ta)):Option (List Ta):=
 Ck N a0 N [] 0
def J6 (N:Nat)(a0:SP):Option SP:=
 (Ei N a0.Young).bind fun y5=>(Ei N a0.Old).bind fun y7=>some (⟨y5,y7⟩:SP)
def Fn (N:Nat)(p3:(List Int)):Option (List Int):=
 some p3
def yK (N:Nat)(kb4:(List Int)→Int→Option (List Int))(p6:Int)(a0:(List SR))(p10:(List Int)):Option (List Int):=
 bi (in64 (p6+1)) (kb4 p10 (p6+1))
def sZ (N:Nat)(a0:(List SR)):Nat→(List Int)→Int→Option (List Int)
 |0,_,_=>none
 |m4+1,p5,p6=>bif decide (p6<(a0.length:Int)) then ((aF a0 p6).bind fun x11=>(bif decide (x11.Kind=7) then (some true) else ((aF a0 p6).bind fun x13=>some (decide (x13.Kind=9)))).bind fun b12=>bif b12 then ((aF a0 p6).bind fun x15=>bi (bQ (p5.length+([x15.N]:List Int).length)) (yK N (sZ N a0 m4) p6 a0 (p5++([x15.N]:List Int)))) else (yK N (sZ N a0 m4) p6 a0 p5)) else (Fn N p5)
def GB (N:Nat)(a0:(List SR)):Option (List Int):=
 sZ N a0 N [] 0
def uV (N:Nat)(a0:Int):Option Bool:=
 (bif decide (0<a0) then (some (decide (a0.tmod 2=1))) else (some false)).bind fun b1=>some b1
def Kr (N:Nat)(a0:SP)(a1:Int):Option Bool:=
 bif decide (a1<1) then (some false) else ((uV N a1).bind fun y5=>bif y5 then (bi (in64 (a1.tdiv 2)) (some (decide (a1.tdiv 2<(a0.Young.length:Int))))) else (bi (in64 (a1.tdiv 2)) (bi (in64 ((a1.tdiv 2) - 1)) (some (decide ((a1.tdiv 2) - 1<(a0.Old.length:Int)))))))
def Fm (N:Nat):Option Bool:=
 some true
def yJ (N:Nat)(a1:(List Int))(a0:SP):Nat→Int→Option Bool
 |0,_=>none
 |m6+1,p7=>bif decide (p7<(a1.length:Int)) then ((aF a1 p7).bind fun x9=>(Kr N a0 x9).bind fun y10=>bif !y10 then (some false) else (bi (in64 (p7+1)) ((yJ N a1 a0 m6) (p7+1)))) else (Fm N)
def uU (N:Nat)(a0:SP)(a1:(List Int)):Option Bool:=
 yJ N a1 a0 N 0
def GC (N:Nat):Option Bool:=
 some true
def yL (N:Nat)(kb10:Int→Option Bool)(p11:Int)(a0:SP)(p16:Int)(p17:Int)(p18:Int)(p19:Int)(p20:(List SR))(p21:(List SR)):Option Bool:=
 (cW N (⟨p16,p17,p18,p19,p20,p21⟩:Ta)).bind fun y32=>(bif !y32 then (some true) else ((kQ N (⟨p16,p17,p18,p19,p20,p21⟩:Ta)).bind fun y34=>(uU N a0 y34).bind fun y36=>some (!y36))).bind fun b33=>(bif b33 then (some true) else ((tf N (⟨p16,p17,p18,p19,p20,p21⟩:Ta)).bind fun y38=>(uU N a0 y38).bind fun y40=>some (!y40))).bind fun b37=>bif b37 then (some false) else (bi (in64 (p11+1)) (kb10 (p11+1)))
def ta (N:Nat)(a0:SP):Nat→Int→Option Bool
 |0,_=>none
 |m10+1,p11=>bi (in64 ((a0.Young.length:Int)+(a0.Old.length:Int))) (bif decide (p11<(a0.Young.length:Int)+(a0.Old.length:Int)) then (bif decide (p11<(a0.Young.length:Int)) then ((aF a0.Young p11).bind fun x23=>yL N (ta N a0 m10) p11 a0 x23.Kind x23.Shape x23.Flags x23.Age x23.Slots x23.More) else (bi (in64 (p11 - (a0.Young.length:Int))) ((aF a0.Old (p11 - (a0.Young.length:Int))).bind fun x28=>yL N (ta N a0 m10) p11 a0 x28.Kind x28.Shape x28.Flags x28.Age x28.Slots x28.More))) else (GC N))
def HY (N:Nat)(a0:SP)(a1:(List SR)):Option Bool:=
 (GB N a1).bind fun y5=>(uU N a0 y5).bind fun y7=>bif !y7 then (some false) else (ta N a0 N 0)
def Gn (N:Nat)(p5:(List Int)):Option (List Int):=
 some p5
def yr (N:Nat)(kb6:(List Int)→Int→Option (List Int))(p8:Int)(a0:SP)(p12:(List Int)):Option (List Int):=
 bi (in64 (p8+1)) (kb6 p12 (p8+1))
def Fe (N:Nat)(kb6:(List Int)→Int→Option (List Int))(p8:Int)(p7:(List Int))(a0:SP)(p28:Bool):Option (List Int):=
 bif p28 then (bi (in64 (2*p8)) (bi (in64 ((2*p8)+2)) (bi (bQ (p7.length+([(2*p8)+2]:List Int).length)) (yr N kb6 p8 a0 (p7++([(2*p8)+2]:List Int)))))) else (yr N kb6 p8 a0 p7)
def yq (N:Nat)(kb6:(List Int)→Int→Option (List Int))(p8:Int)(p7:(List Int))(y21:((List Int)))(y23:((List Int)))(a0:SP):Nat→Bool→Int→Option (List Int)
 |0,_,_=>none
 |m29+1,p30,p31=>bif decide (p31<((y21++y23).length:Int)) then ((bif p30 then (some true) else ((aF (y21++y23) p31).bind fun x34=>(uV N x34).bind fun y35=>some y35)).bind fun b33=>bi (in64 (p31+1)) ((yq N kb6 p8 p7 y21 y23 a0 m29) b33 (p31+1))) else (Fe N kb6 p8 p7 a0 p30)
def AP (N:Nat)(a0:SP):Nat→(List Int)→Int→Option (List Int)
 |0,_,_=>none
 |m6+1,p7,p8=>bif decide (p8<(a0.Old.length:Int)) then ((aF a0.Old p8).bind fun x13=>(aF a0.Old p8).bind fun x17=>(kQ N x13).bind fun y21=>(tf N x17).bind fun y23=>bi (bQ (y21.length+y23.length)) (yq N (AP N a0 m6) p8 p7 y21 y23 a0 N false 0)) else (Gn N p7)
def Cj (N:Nat)(a0:SP):Option (List Int):=
 AP N a0 N [] 0
def zh (N:Nat)(a0:SP)(a1:(List SR))(a2:(List Int)):Option (List Int):=
 (mL N a0 a1 a2).bind fun y6=>bif !y6 then (some []) else ((kV N a0 a1 a2).bind fun y9=>some y9.met_)
def xC (N:Nat)(y41:((List Int)))(p44:Int):Option Bool:=
 some (decide (p44=(y41.length:Int)))
def qd (N:Nat)(kb45:Int→Int→Option Bool)(p47:Int)(y37:((List Int)))(y41:((List Int)))(p50:Int):Option Bool:=
 bi (in64 (p47+1)) (kb45 p50 (p47+1))
def mg (N:Nat)(y37:((List Int)))(y41:((List Int))):Nat→Int→Int→Option Bool
 |0,_,_=>none
 |m45+1,p46,p47=>bif decide (p47<(y37.length:Int)) then ((aF y37 p47).bind fun x51=>(uV N x51).bind fun y52=>bif y52 then (bi (in64 (p46+1)) ((aF y37 p47).bind fun x55=>(vb N x55 y41).bind fun y56=>bif !y56 then (some false) else (qd N (mg N y37 y41 m45) p47 y37 y41 (p46+1)))) else (qd N (mg N y37 y41 m45) p47 y37 y41 p46)) else (xC N y41 p46)
def xD (N:Nat)(a1:(List SR))(y7:(SP))(p26:(List SR)):Option Bool:=
 (ed N y7 p26).bind fun y37=>(Cj N y7).bind fun y39=>(zh N y7 ((a1.drop 0).take ((min (a1.length:Int) 40).toNat - 0)) y39).bind fun y41=>mg N y37 y41 N 0 0
def qc (N:Nat)(a1:(List SR))(y7:(SP)):Nat→(List SR)→Int→Option Bool
 |0,_,_=>none
 |m27+1,p28,p29=>bif decide (p29<(y7.Old.length:Int)) then (bi (in64 (2*p29)) (bi (in64 ((2*p29)+2)) (bi (bQ (p28.length+([(⟨9,(2*p29)+2,⟨#[]⟩⟩:SR)]:List SR).length)) (bi (in64 (p29+1)) ((qc N a1 y7 m27) (p28++([(⟨9,(2*p29)+2,⟨#[]⟩⟩:SR)]:List SR)) (p29+1)))))) else (xD N a1 y7 p28)
def J5 (N:Nat)(a0:SP)(a1:(List SR)):Option Bool:=
 (Gp N).bind fun y5=>bif !y5 then (some false) else ((J6 N a0).bind fun y7=>bi ((0:Int)≤min (a1.length:Int) 40∧0≤(min (a1.length:Int) 40).toNat∧(min (a1.length:Int) 40).toNat≤a1.length) ((HY N y7 ((a1.drop 0).take ((min (a1.length:Int) 40).toNat - 0))).bind fun y15=>bif !y15 then ((Cj N y7).bind fun y17=>(zh N y7 ((a1.drop 0).take ((min (a1.length:Int) 40).toNat - 0)) y17).bind fun y20=>some (decide ((y20.length:Int)=0))) else (bi (bQ (([]:List SR).length+((a1.drop 0).take ((min (a1.length:Int) 40).toNat - 0)).length)) (qc N a1 y7 N (([]:List SR)++((a1.drop 0).take ((min (a1.length:Int) 40).toNat - 0))) 0))))
def eH (N:Nat)(a0:Int):Option SR:=
 some (⟨7,a0,⟨#[]⟩⟩:SR)
def si (N:Nat){σ:Type}(fy:Int→σ→Option (Bool×σ))(a1:(List Int)):Nat→Int→σ→Option σ
 |0,_,_=>none
 |m3+1,p4,p5=>bif decide (p4<(a1.length:Int)) then ((aF a1 p4).bind fun x7=>(fy x7 p5).bind fun y8=>bif !y8.1 then (some y8.2) else (bi (in64 (p4+1)) ((si N fy a1 m3) (p4+1) y8.2))) else (some p5)
def Bw (N:Nat){σ:Type}(a1:(List Int))(fy:Int→σ→Option (Bool×σ))(s0:σ):Option σ:=
 si N fy a1 N 0 s0
def xF (N:Nat)(a0:(List Int)):Option Unit:=
 some ()
def ur (N:Nat)(x5:Int):((List Int))→Option (Option Exit×(List Int))
 |p6=>bi (bQ (p6.length+([x5]:List Int).length)) (some (none,p6++([x5]:List Int)))
def uD (N:Nat)(a0:(List Int))(a1_0:(List Int)):Option (List Int):=
 (Bw N a1_0 (cY (fun x st=>ur N x st)) (none,a0)).bind fun y7=>nO y7.1 (some y7.2) none (fun _=>none)
def xJ (N:Nat)(a0_0:(List Int)):Option (List Int):=
 (uD N ([]:List Int) a0_0).bind fun y4=>some y4
def yv (N:Nat)(a0_0:(List Int)):Option (List Int):=
 (xJ N a0_0).bind fun y3=>(lP N y3).bind fun y5=>some y5
def uP (N:Nat)(a0:SP)(a1:(List SR)):Option (List Int):=
 (ke N a0 a1).bind fun y5=>(xF N y5.all_).bind fun y11=>(yv N y5.all_).bind fun y13=>some y13
def sV (N:Nat):Option Bool:=
 (eH N 3).bind fun y1=>(eH N 2).bind fun y2=>(eH N 3).bind fun y8=>(eH N 5).bind fun y9=>(eH N 1).bind fun y13=>(eE N (⟨([(⟨11,0,0,0,[],([y1,y2]:List SR)⟩:Ta),(⟨11,0,0,0,[],[]⟩:Ta)]:List Ta),([(⟨11,0,0,0,[],[]⟩:Ta)]:List Ta)⟩:SP) ([y13]:List SR)).bind fun y16=>(iR N y16 ([1,3,2]:List Int)).bind fun y21=>(bif y21 then ((eH N 1).bind fun y23=>(ed N (⟨([(⟨11,0,0,0,[],([y1,y2]:List SR)⟩:Ta),(⟨11,0,0,0,[],[]⟩:Ta)]:List Ta),([(⟨11,0,0,0,[],[]⟩:Ta)]:List Ta)⟩:SP) ([y23]:List SR)).bind fun y26=>(iR N y26 ([1,2,3]:List Int)).bind fun y31=>some y31) else (some false)).bind fun b22=>((bif b22 then ((eH N 1).bind fun y33=>(ed N (⟨([(⟨8,0,0,0,([(⟨1,0,⟨#[]⟩⟩:SR)]:List SR),([y8,y9]:List SR)⟩:Ta),(⟨11,0,0,0,[],[]⟩:Ta),(⟨11,0,0,0,[],[]⟩:Ta)]:List Ta),[]⟩:SP) ([y33]:List SR)).bind fun y36=>(iR N y36 ([1]:List Int)).bind fun y41=>some y41) else (some false)).bind fun b32=>((bif b32 then ((eH N 1).bind fun y43=>(eH N 3).bind fun y44=>(ed N (⟨([(⟨8,0,0,0,([(⟨1,0,⟨#[]⟩⟩:SR)]:List SR),([y8,y9]:List SR)⟩:Ta),(⟨11,0,0,0,[],[]⟩:Ta),(⟨11,0,0,0,[],[]⟩:Ta)]:List Ta),[]⟩:SP) ([y43,y44]:List SR)).bind fun y47=>(iR N y47 ([1,3,5]:List Int)).bind fun y52=>some y52) else (some false)).bind fun b42=>((bif b42 then ((eH N 1).bind fun y54=>(eH N 3).bind fun y55=>(uP N (⟨([(⟨8,0,0,0,([(⟨1,0,⟨#[]⟩⟩:SR)]:List SR),([y8,y9]:List SR)⟩:Ta),(⟨11,0,0,0,[],[]⟩:Ta),(⟨11,0,0,0,[],[]⟩:Ta)]:List Ta),[]⟩:SP) ([y54,y55]:List SR)).bind fun y58=>(iR N y58 ([1,3]:List Int)).bind fun y63=>some y63) else (some false)).bind fun b53=>(some b53))))
def HQ (N:Nat)(a0:(List Ta)):Option (List Ta):=
 bi (bQ (([]:List Ta).length+a0.length)) (some (([]:List Ta)++a0))
def J8 (N:Nat)(a0:SP)(a1:SP)(a2:Td):Option Bool:=
 (sy N a0 a2.e0).bind fun y10=>(bif !y10 then (some true) else ((sy N a1 a2.e1).bind fun y12=>some (!y12))).bind fun b11=>bif b11 then ((sV N).bind fun y14=>some y14) else ((rR N a0 a2.e0 a1 a2.e1).bind fun y15=>(Be N a0 a2.e0 a1 a2.e1).bind fun y16=>(bif y15==y16 then ((rR N a1 a2.e1 a0 a2.e0).bind fun y18=>some (y15==y18)) else (some false)).bind fun b17=>(bif b17 then ((rR N a0 a2.e0 a0 a2.e0).bind fun y20=>some y20) else (some false)).bind fun b19=>(bif b19 then ((sV N).bind fun y22=>some y22) else (some false)).bind fun b21=>some b21)
def DZ (N:Nat)(p4:(List Ta)):Option (List Ta):=
 some p4
def xl (N:Nat)(a0:(List Ta)):Nat→(List Ta)→Int→Option (List Ta)
 |0,_,_=>none
 |m5+1,p6,p7=>bif decide (p7<(a0.length:Int)) then ((aF a0 p7).bind fun x9=>bi (bQ (([]:List SR).length+x9.Slots.length)) (bi (bQ (([]:List SR).length+x9.More.length)) (bi (bQ (p6.length+([(⟨x9.Kind,x9.Shape,x9.Flags,x9.Age,([]:List SR)++x9.Slots,([]:List SR)++x9.More⟩:Ta)]:List Ta).length)) (bi (in64 (p7+1)) ((xl N a0 m5) (p6++([(⟨x9.Kind,x9.Shape,x9.Flags,x9.Age,([]:List SR)++x9.Slots,([]:List SR)++x9.More⟩:Ta)]:List Ta)) (p7+1)))))) else (DZ N p6)
def yP (N:Nat)(a0:(List Ta)):Option (List Ta):=
 xl N a0 N ([]:List Ta) 0
def Fu (N:Nat)(a0:SP):Option SP:=
 (yP N a0.Young).bind fun y5=>(yP N a0.Old).bind fun y7=>some (⟨y5,y7⟩:SP)
def CR (N:Nat)(a0:Ta)(a1:Ta):Option Bool:=
 (bif decide (a0.Kind=a1.Kind) then (some (decide (a0.Shape=a1.Shape))) else (some false)).bind fun b7=>(bif b7 then (some (decide (a0.Flags=a1.Flags))) else (some false)).bind fun b8=>(bif b8 then (some (decide (a0.Age=a1.Age))) else (some false)).bind fun b9=>(bif b9 then ((lg N a0.Slots a1.Slots).bind fun y11=>some y11) else (some false)).bind fun b10=>(bif b10 then ((lg N a0.More a1.More).bind fun y13=>some y13) else (some false)).bind fun b12=>some b12
def sx (N:Nat)(a0:Int)(a1:SP):Option Bool:=
 (dR N a1 a0).bind fun y4=>some (!y4)
def BD (N:Nat):Option Bool:=
 some true
def BC (N:Nat)(kb20:Int→Option Bool)(a0:SP)(p21:Int):Option Bool:=
 bi (in64 (p21+1)) (kb20 (p21+1))
def t8 (N:Nat)(kb20:Int→Option Bool)(a0:SP)(p21:Int)(x24:(List Ta)):Nat→Int→Option Bool
 |0,_=>none
 |m26+1,p27=>bif decide (p27<(x24.length:Int)) then ((aF x24 p27).bind fun x29=>(eg N x29).bind fun y34=>(bif !y34 then (some true) else ((eW N x29).bind fun y36=>(bC N y36 (fun x=>sx N x a0)).bind fun y38=>some y38)).bind fun b35=>(bif b35 then (some true) else ((gJ N x29).bind fun y40=>(bC N y40 (fun x=>sx N x a0)).bind fun y42=>some y42)).bind fun b39=>bif b39 then (some false) else (bi (in64 (p27+1)) ((t8 N kb20 a0 p21 x24 m26) (p27+1)))) else (BC N kb20 a0 p21)
def ua (N:Nat)(a0:SP):Nat→Int→Option Bool
 |0,_=>none
 |m20+1,p21=>bif decide (p21<(([a0.Young,a0.Old]:List (List Ta)).length:Int)) then ((aF ([a0.Young,a0.Old]:List (List Ta)) p21).bind fun x24=>t8 N (ua N a0 m20) a0 p21 x24 N 0) else (BD N)
def CF (N:Nat)(a0:SP):Option Bool:=
 ua N a0 N 0
def uQ (N:Nat)(a1:(List SR))(a0:SP):Nat→Int→Option Bool
 |0,_=>none
 |m8+1,p9=>bif decide (p9<(a1.length:Int)) then ((aF a1 p9).bind fun x11=>(gg N x11).bind fun y13=>(bif y13.2 then ((dR N a0 y13.1).bind fun y15=>some (!y15)) else (some false)).bind fun b14=>bif b14 then (some false) else (bi (in64 (p9+1)) ((uQ N a1 a0 m8) (p9+1)))) else (CF N a0)
def DX (N:Nat)(a0:SP)(a1:(List SR)):Option Bool:=
 bi (in64 ((a0.Young.length:Int)+(a0.Old.length:Int))) (bif decide (1048576<(a0.Young.length:Int)+(a0.Old.length:Int)) then (some false) else (uQ N a1 a0 N 0))
def Ft (N:Nat)(a0:SP)(a1:(List SR)):Option (List Int):=
 (iv N a1).bind fun y5=>(oa N a0 ([]:List Int) y5).bind fun y8=>(iQ N a0 y8 0).bind fun y10=>(pN N y10).bind fun y12=>some y12
def Fv (N:Nat):Option Bool:=
 some true
def yQ (N:Nat)(a0:(List Ta))(a1:(List Ta)):Nat→Int→Option Bool
 |0,_=>none
 |m5+1,p6=>bif decide (p6<(a0.length:Int)) then ((aF a0 p6).bind fun x8=>(aF a1 p6).bind fun x12=>(CR N x8 x12).bind fun y16=>bif !y16 then (some false) else (bi (in64 (p6+1)) ((yQ N a0 a1 m5) (p6+1)))) else (Fv N)
def uZ (N:Nat)(a0:(List Ta))(a1:(List Ta)):Option Bool:=
 bif !decide ((a0.length:Int)=(a1.length:Int)) then (some false) else (yQ N a0 a1 N 0)
def xE (N:Nat)(a0:SP)(y8:(SP)):Option Bool:=
 (uZ N y8.Young a0.Young).bind fun y55=>(bif y55 then ((uZ N y8.Old a0.Old).bind fun y57=>some y57) else (some false)).bind fun b56=>(bif b56 then ((sV N).bind fun y59=>some y59) else (some false)).bind fun b58=>some b58
def qe (N:Nat)(y44:(Ta))(a0:SP)(y8:(SP)):Nat→Int→(List SR)→Option Bool
 |0,_,_=>none
 |m49+1,p50,p51=>bif decide (p50<(y44.More.length:Int)) then ((aF p51 p50).bind fun x53=>bi (in64 (p50+1)) ((qe N y44 a0 y8 m49) (p50+1) (List.set p51 p50.toNat (⟨(-7),x53.N,x53.S⟩:SR)))) else (xE N a0 y8)
def J7 (N:Nat)(a0:SP)(a1:(List SR))(a2:Int):Option Bool:=
 (sy N a0 a1).bind fun y5=>bif !y5 then ((sV N).bind fun y7=>some y7) else ((Fu N a0).bind fun y8=>(dR N y8 a2).bind fun y12=>(lf N a0 a2).bind fun y13=>(bif !(y12==y13) then (some true) else ((fq N y8 a2).bind fun y15=>(qy N a0 a2).bind fun y18=>(CR N y15 y18).bind fun y21=>some (!y21))).bind fun b14=>(bif b14 then (some true) else ((DX N y8 a1).bind fun y23=>(Bc N a0 a1).bind fun y24=>some (!(y23==y24)))).bind fun b22=>bif b22 then (some false) else ((uP N y8 a1).bind fun y26=>(Ft N a0 a1).bind fun y28=>(iR N y26 y28).bind fun y30=>(bif !y30 then (some true) else ((ed N y8 a1).bind fun y32=>(qx N a0 a1).bind fun y34=>(iR N y32 y34).bind fun y36=>some (!y36))).bind fun b31=>(bif b31 then (some true) else ((eE N y8 a1).bind fun y38=>(mH N a0 a1).bind fun y40=>(iR N y38 y40).bind fun y42=>some (!y42))).bind fun b37=>bif b37 then (some false) else ((fq N y8 a2).bind fun y44=>qe N y44 a0 y8 N 0 y44.More)))
def xB (N:Nat)(y8:(SP×(List SR)×(List SR)×Int))(p22:Bool):Option Bool:=
 bif p22 then (some false) else ((ee N y8.1 ((([]:List SR)++y8.2.1)++y8.2.2.1)).bind fun y33=>(bif decide (y33.2.2.2=0) then ((uZ N y33.1.Old y8.1.Old).bind fun y40=>some y40) else (some false)).bind fun b39=>(bif b39 then (some (decide ((y33.1.Young.length:Int)=0))) else (some false)).bind fun b41=>(bif b41 then ((lg N y33.2.1 ((([]:List SR)++y8.2.1)++y8.2.2.1)).bind fun y43=>some y43) else (some false)).bind fun b42=>(bif b42 then (some (decide ((y33.2.2.1.length:Int)=0))) else (some false)).bind fun b44=>(bif b44 then ((nR N).bind fun y46=>some y46) else (some false)).bind fun b45=>some b45)
def J3 (N:Nat)(a0:SP)(a1:(List SR)):Option Bool:=
 (sy N a0 a1).bind fun y5=>bif !y5 then ((nR N).bind fun y7=>some y7) else ((ee N a0 a1).bind fun y8=>bif !decide (y8.2.2.2=0) then ((nR N).bind fun y15=>some y15) else (bi (bQ (([]:List SR).length+y8.2.1.length)) (bi (bQ ((([]:List SR)++y8.2.1).length+y8.2.2.1.length)) ((bif !decide ((y8.1.Young.length:Int)=0) then (some true) else ((qx N a0 a1).bind fun y24=>some (!decide ((y8.1.Old.length:Int)=(y24.length:Int))))).bind fun b23=>((bif b23 then (some true) else ((qx N y8.1 ((([]:List SR)++y8.2.1)++y8.2.2.1)).bind fun y28=>some (!decide ((y28.length:Int)=(y8.1.Old.length:Int))))).bind fun b27=>((bif b27 then (some true) else (some (!decide ((y8.2.2.1.length:Int).tmod 3=0)))).bind fun b31=>(xB N y8 b31)))))))
open Go.RowKit Go.ChangeShapes Go.WideShapes Go.Deep
set_option maxRecDepth 100000 in
theorem Qw {H:Type}{enc:TypeId×Value→H}{W:World}{r:Reach}{b0:Nat}{base:Nat}{spare:Nat→Bool}{held:Bool}{v:Value}{d:DataW H}{p:List MemPlace}
  (hv:Value.okWide Tryz.prog W r b0 39 v) (h:DataW.Trod enc Tryz.prog W base spare held 39 v d p): ∃(m:(List Int)) (Aq_0:Option Addr) (nq_0 cq_0:Nat),v=U Aq_0 nq_0 cq_0∧(∀z39∈m,in64 z39)∧(ij (iP .i64) (U Aq_0 nq_0 cq_0) m).ok (fun _=>False) (fun q=>q<W.heap.size) W:=by
 obtain ⟨A,n,c,rfl⟩:=okWide_slice z3 hv;obtain ⟨fuel,hf⟩:=h;obtain ⟨m,⟨u,e,h1⟩,hw⟩:=(PF z3 I (by decide) (NP hP)) hf;obtain ⟨rfl, -⟩:=List.cons.inj (show [_]=[_] from e);exact ⟨m,A,n,c,J,hw,h1⟩
def Sat {ρ:Type}(m:Option ρ)(R:ρ→Prop):Prop:= ∃r,m=some r∧R r
theorem aQ {ρ:Type}{x:ρ}{R:ρ→Prop}(h:R x):Sat (some x) R:=⟨x,rfl,h⟩
theorem Sat.eq {ρ:Type}{m:Option ρ}{x:ρ}(h:Sat m (· =x)):m=some x:=by obtain ⟨r,h1,rfl⟩:=h;exact h1
theorem Sat.mono {ρ:Type}{m:Option ρ}{R Q:ρ→Prop}(h:Sat m R)(k: ∀x,R x→Q x):Sat m Q:=by obtain ⟨r,h1,h2⟩:=h;exact ⟨r,h1,k _ h2⟩
theorem Sat.bind {ρ σ:Type}{m:Option σ}{f:σ→Option ρ}{P:σ→Prop}{R:ρ→Prop}(h:Sat m P)(k: ∀x,P x→Sat (f x) R):Sat (m.bind f) R:=by obtain ⟨x,rfl,h2⟩:=h;exact k x h2
theorem qn {ρ:Type}{b:Bool}{x y:Option ρ}{R:ρ→Prop}(h1:b=true→Sat x R)(h2:b=false→Sat y R):Sat (bif b then x else y) R:=by cases b with|true=>exact h1 rfl|false=>exact h2 rfl
theorem dQ {ρ:Type}{p:Prop}[Decidable p]{x y:Option ρ}{R:ρ→Prop}(h1:p→Sat x R)(h2: ¬p→Sat y R):Sat (bif decide p then x else y) R:=by
 by_cases h:p
 ·rw [Ti h];exact h1 h
 rw [Tj h];exact h2 h
theorem bs {ρ σ:Type}{x:σ}{f:σ→Option ρ}:(some x).bind f=f x:=Eq.trans rfl rfl
theorem ct {ρ:Type}{x y:ρ}:(bif true then x else y)=x:=Eq.trans rfl rfl
theorem cf {ρ:Type}{x y:ρ}:(bif false then x else y)=y:=Eq.trans rfl rfl
theorem nt:(!true)=false:=Eq.trans rfl rfl
theorem nf:(!false)=true:=Eq.trans rfl rfl
theorem cJ {a b:Int}(h:a<b):decide (a<b)=true:=Ti h
theorem cK {a b:Int}(h:b≤a):decide (a<b)=false:=Tj V
theorem LW {a b:Int}(h:a≤b):decide (a≤b)=true:=Ti h
theorem LX {a b:Int}(h:b<a):decide (a≤b)=false:=Tj V
theorem ot {a b:Int}(h:a=b):decide (a=b)=true:=Ti h
theorem gA {a b:Int}(h:a≠b):decide (a=b)=false:=Tj h
theorem kw {ρ:Type}{b:Prop}[Decidable b]{m:Option ρ}(h:b):bi b m=m:=if_pos h
theorem r64 {ρ:Type}{a:Int}{m:Option ρ}(h1: -9000000000000000000≤a)(h2:a≤9000000000000000000):bi (in64 a) m=m:=if_pos ⟨by omega,by omega⟩
theorem rF {ρ:Type}{n:Nat}{m:Option ρ}(h:n≤1000000):bi (bQ n) m=m:=if_pos (by unfold bQ;omega)
theorem FR {α:Type}{xs:List α}{i:Int}(h0:0≤i)(h1:i.toNat<xs.length):aF xs i=some xs[i.toNat]:=by
 unfold aF;rw [if_neg V,List.getElem?_eq_getElem h1]
theorem br {α:Type}{xs:List α}{i:Nat}(h1:i<xs.length):aF xs (i:Int)=some xs[i]:=by
 unfold aF;rw [if_neg V,Int.toNat_natCast,List.getElem?_eq_getElem h1]
theorem cX {σ ρ:Type}(L:Nat→Nat→σ→Option ρ)(n:Nat)(Inv:Nat→σ→Prop)(R:ρ→Prop)
  (round: ∀m i s,i<n→Inv i s→(∀s',Inv (i+1) s'→Sat (L m (i+1) s') R)→Sat (L (m+1) i s) R)
  (fin: ∀m s,Inv n s→Sat (L (m+1) n s) R): ∀m i s,n<m+i→i≤n→Inv i s→Sat (L m i s) R
 |0,i,s,h,h2,_=>by omega
 |m+1,i,s,h,h2,hi=>by
  by_cases e:i=n
  ·subst e;exact fin m s hi
  exact round m i s V hi fun s' h'=>cX L n Inv R round fin m (i+1) s' V V h'
theorem nu {σ ρ:Type}(L:Nat→σ→Option ρ)(v:σ→Nat)(Inv:σ→Prop)(R:ρ→Prop)
  (round: ∀m s,Inv s→(∀s',v s'<v s→Inv s'→Sat (L m s') R)→Sat (L (m+1) s) R): ∀m s,v s<m→Inv s→Sat (L m s) R
 |0,_,h,_=>by omega
 |m+1,s,h,hi=>round m s hi fun s' h1 h2=>nu L v Inv R round m s' V h2
theorem bh {α:Type}{l:List α}{i:Nat}(h:i<l.length):l.take (i+1)=l.take i++ [l[i]]:=by
 rw [List.take_add_one,List.getElem?_eq_getElem h];rfl
theorem JV: ∀{a b:List Int},a.Pairwise (· < ·)→b.Pairwise (· < ·)→(∀x,x∈a↔x∈b)→a=b
 | [],[],_,_,_=>rfl
 | [],y::b,_,_,h=>by have:=(h y).2 (by simp);cases this
 |x::a,[],_,_,h=>by have:=(h x).1 (by simp);cases this
 | x::a,y::b,ha,hb,h=>by
  obtain ⟨ha1,ha2⟩:=List.pairwise_cons.1 ha;obtain ⟨hb1,hb2⟩:=List.pairwise_cons.1 hb
  have e:x=y:=by
   rcases List.mem_cons.1 ((h x).1 (by simp)) with e|h1
   ·exact e
   rcases List.mem_cons.1 ((h y).2 (by simp)) with e|h2
   ·exact e.symm
   have:=hb1 x h1;have:=ha1 y h2;omega
  subst e;rw [JV ha2 hb2 fun z=> ?_];constructor
  ·intro hz;rcases List.mem_cons.1 ((h z).1 (by simp [hz])) with e|h1
   ·subst e;exact absurd (ha1 z hz) V
   exact h1
  intro hz;rcases List.mem_cons.1 ((h z).2 (by simp [hz])) with e|h1
  ·subst e;exact absurd (hb1 z hz) V
  exact h1
theorem Me {α β:Type}[DecidableEq α](a:α)(L:List (α×β)):(∃i b,fp a L 0=some (i,b)∧L[i]? =some (a,b))∨(fp a L 0=none∧a∉L.map (·.1)):=by
 cases h:fp a L 0 with
 | none=>exact .inr ⟨rfl,fun h1=>by
   obtain ⟨p,h2,h3⟩:=List.mem_map.1 h1
   exact (Oa a L).1 h p h2 h3⟩
 |some q=>obtain ⟨i,b⟩:=q;exact .inl ⟨i,b,J,(Je a L 0 i b h).2⟩
theorem Gq {α β:Type}[DecidableEq α](L:List (α×β))(a:α)(b:β):(um L a b).map (·.1)=if a∈L.map (·.1) then L.map (·.1) else L.map (·.1)++ [a]:=by
 unfold um;rcases Me a L with ⟨i,c,h1,h2⟩|⟨h1,h2⟩
 ·have hm:a∈L.map (·.1):=List.mem_map.2 ⟨_,List.mem_of_getElem? h2,rfl⟩;rw [h1,if_pos hm];show (L.set i (a,b)).map (·.1)=_;rw [List.map_set];apply List.ext_getElem?;intro j;by_cases e:i=j
  ·subst e;have hlt:=(List.getElem?_eq_some_iff.1 h2).1;rw [List.getElem?_set_self (by simpa using hlt),List.getElem?_map,h2];rfl
  rw [List.getElem?_set_ne e]
 rw [h1,if_neg h2];show (L++ [(a,b)]).map (·.1)=_;rw [List.map_append];rfl
theorem ND {α β:Type}[DecidableEq α](L:List (α×β))(a:α)(b:β)(x:α):x∈(um L a b).map (·.1)↔x=a∨x∈L.map (·.1):=by
 rw [Gq];split
 ·constructor
  ·exact .inr
  rintro (rfl|h)<;>assumption
 rw [List.mem_append,List.mem_singleton];exact Or.comm
theorem lW {α:Type}(xs:List α)(i:Nat):aF xs (i:Int)=xs[i]? :=by
 unfold aF;rw [if_neg V];simp
theorem BQ {ρ:Type}{b:Prop}[Decidable b]{m:Option ρ}(h:b):bi b m=m:=if_pos h
def bI (v:SR):Bool:=decide (v.Kind=7)||decide (v.Kind=9)
def kr (k:Int)(i:Nat):Bool:=!decide (k=8)&&(!decide (k=10)||decide ((i:Int).tmod 2=0))
def pick (f:Nat→SR→Bool):Nat→List SR→List Int
 |_,[]=> []
 |i,v::l=>(bif f i v then [v.N] else [])++pick f (i+1) l
theorem mI (f:Nat→SR→Bool)(i:Nat)(v:SR)(l:List SR):pick f i (v::l)=(bif f i v then [v.N] else [])++pick f (i+1) l:=rfl
theorem yZ (f:Nat→SR→Bool): ∀(i:Nat) (l:List SR),(pick f i l).length≤l.length
 |_,[]=>Nat.le_refl _
 |i,v::l=>by
  have:=yZ f (i+1) l;unfold pick;cases f i v<;>simp<;>omega
theorem Es: ∀(i:Nat) (l:List SR),pick (fun _ _=>false) i l=[]
 |_,[]=>rfl
 |i,v::l=>by unfold pick;simp [Es (i+1) l]
theorem pp (N:Nat)(v:SR):lr N v=some (bI v):=by
 unfold lr bI;cases decide (v.Kind=7)<;>rfl
theorem yD (N:Nat)(v:SR):sB N v=some (bI v):=by
 unfold sB bI;cases decide (v.Kind=7)<;>rfl
theorem E4 (N:Nat)(a b:Bool)(x:SR)(p:List Int)(h:p.length≤5000):cY (fun x st=>eU N a x st) (b,x) (none,p)=some (true,(none,p++(bif (b==a)&&bI x then [x.N] else []))):=by
 unfold cY eU;simp only [pp,Option.bind_some];cases b==a
 ·simp
 cases bI x
 ·simp
 have:bQ (p.length+ [x.N].length):=by unfold bQ;simp only [List.length_cons,List.length_nil];omega
 simp only [cond_true,Option.bind_some,Bool.and_self];rw [BQ this];rfl
theorem JX (N:Nat)(a:Bool)(c:Ta)(hc:c.More.length≤1000)(K:Nat)(hK:K≤1000): ∀(m i:Nat) (p:List Int),c.More.length<m+i→i≤c.More.length→p.length≤K+i→kc N (cY (fun x st=>eU N a x st)) c m (i:Int) (none,p)=some (none,p++pick (fun i v=>(kr c.Kind i==a)&&bI v) i (c.More.drop i))
 |0,i,p,h,h2,_=>by omega
 | m+1,i,p,h,h2,h3=>by
  rw [kc.eq_2];by_cases hi:i<c.More.length
  ·rw [show (decide ((i:Int)<(c.More.length:Int)))=true from Ti V,lW,List.getElem?_eq_getElem hi,List.drop_eq_getElem_cons hi];simp only [cond_true,Option.bind_some]
   have hs:(bif !decide (c.Kind=8) then ((bif !decide (c.Kind=10) then (some true) else (some (decide ((i:Int).tmod 2=0)))).bind fun b22=>some b22) else (some false))=some (kr c.Kind i):=by
    unfold kr;cases decide (c.Kind=8)<;>cases decide (c.Kind=10)<;>rfl
   rw [hs];simp only [Option.bind_some];rw [E4 N a _ _ _ V];rw [Option.bind_some]
   dsimp only
   rw [Bool.not_true,cond_false];rw [BQ (by unfold in64;omega)]
   have hlen:(p++(bif (kr c.Kind i==a)&&bI c.More[i] then [c.More[i].N] else [])).length≤K+(i+1):=by
    cases (kr c.Kind i==a)&&bI c.More[i]<;>simp<;>omega
   have:=JX N a c hc K hK m (i+1) _ V hi hlen;simp only [Int.natCast_add,Int.cast_ofNat_Int] at this;rw [this];rw [mI,Tl]
  rw [show (decide ((i:Int)<(c.More.length:Int)))=false from Tj V,List.drop_eq_nil_of_le V];simp [pick]
theorem Nn (N:Nat)(hN:2000<N)(a:Bool)(c:Ta)(hS:c.Slots.length≤1000)(hc:c.More.length≤1000): ∀(m i:Nat) (p:List Int),c.Slots.length<m+i→i≤c.Slots.length→p.length≤i→jr N (cY (fun x st=>eU N a x st)) c m (i:Int) (none,p)=some (none,(p++pick (fun _ v=>(true==a)&&bI v) i (c.Slots.drop i))++pick (fun i v=>(kr c.Kind i==a)&&bI v) 0 c.More)
 |0,i,p,h,h2,_=>by omega
 | m+1,i,p,h,h2,h3=>by
  rw [jr.eq_2];by_cases hi:i<c.Slots.length
  ·rw [show (decide ((i:Int)<(c.Slots.length:Int)))=true from Ti V,lW,List.getElem?_eq_getElem hi,List.drop_eq_getElem_cons hi];simp only [cond_true,Option.bind_some];rw [E4 N a _ _ _ V];rw [Option.bind_some]
   dsimp only
   rw [Bool.not_true,cond_false];rw [BQ (by unfold in64;omega)]
   have hlen:(p++(bif (true==a)&&bI c.Slots[i] then [c.Slots[i].N] else [])).length≤(i+1):=by
    cases (true==a)&&bI c.Slots[i]<;>simp<;>omega
   have:=Nn N hN a c hS hc m (i+1) _ V hi hlen;simp only [Int.natCast_add,Int.cast_ofNat_Int] at this;rw [this];rw [mI,Tl p]
  rw [show (decide ((i:Int)<(c.Slots.length:Int)))=false from Tj V,List.drop_eq_nil_of_le V];simp only [cond_false,qS];have:=JX N a c hc p.length V N 0 p V V V;simp only [Int.natCast_zero,Int.cast_ofNat_Int] at this;rw [this];simp [pick]
theorem vV (N:Nat)(hN:2000<N)(a:Bool)(c:Ta)(hS:c.Slots.length≤1000)(hc:c.More.length≤1000):js N c a=some (pick (fun _ v=>(true==a)&&bI v) 0 c.Slots++pick (fun i v=>(kr c.Kind i==a)&&bI v) 0 c.More):=by
 unfold js qT lX;have:=Nn N hN a c hS hc N 0 [] V V (by simp);simp only [Int.natCast_zero,Int.cast_ofNat_Int] at this;rw [Option.bind_some,this,Option.bind_some];show some _=some _;simp
def lN (k:Int)(i:Nat):Bool:=decide (k=8)||(decide (k=10)&&(decide (0<(i:Int))&&decide ((((i:Int) - 1).tmod 4).tmod 2=0)))
theorem J2 (N:Nat)(k:Int)(i:Nat)(hi:i≤5000):te N k (i:Int)=some (lN k i):=by
 unfold te lN;by_cases h1:k=8
 ·simp [h1]
 by_cases h2:k=10
 ·by_cases h3:(0:Int)<i
  ·subst h2;simp only [h3,decide_true,ct,bs,r64 (a:=(i:Int) - 1) V V,show decide ((10:Int)=8)=false from rfl,cf,Bool.false_or,Bool.true_and]
  subst h2;simp only [h3,decide_true,decide_false,ct,bs,show decide ((10:Int)=8)=false from rfl,cf,Bool.false_or,Bool.true_and,Bool.false_and]
 simp [h1,h2]
theorem CB (N:Nat)(hN:2000<N)(c:Ta)(hS:c.Slots.length≤1000)(hc:c.More.length≤1000):kQ N c=some (pick (fun _ v=>bI v) 0 c.Slots++pick (fun i v=> !lN c.Kind i&&bI v) 0 c.More):=by
 apply Sat.eq;unfold kQ;refine cX (fun m i s=>lh N c m s (i:Int)) c.Slots.length (fun i s=>s++pick (fun _ v=>bI v) i (c.Slots.drop i)=pick (fun _ v=>bI v) 0 c.Slots∧s.length≤i) _ ?_ ?_ N 0 [] V V ⟨by simp,by simp⟩
 ·rintro m i s hi ⟨h1,h2⟩ k;show Sat (lh N c (m+1) s i) _;rw [List.drop_eq_getElem_cons hi,mI] at h1;rw [lh.eq_2,cJ V,cond_true,br hi,bs,yD,bs];simp only [bs];cases hh:bI c.Slots[i]
  all_goals
   simp only [hh,ct,cf,bs,List.nil_append] at h1⊢
   first
   |(unfold oA
     rw [r64 V V]
     exact k s ⟨h1,by omega⟩)
   |(rw [rF (by simp;omega)]
     unfold oA;rw [r64 V V]
     exact k _ ⟨by rw [Tl];exact h1,by simp;omega⟩)
 rintro m s ⟨h1,h2⟩;show Sat (lh N c (m+1) s _) _;rw [List.drop_length] at h1
 have h1:s=pick (fun _ v=>bI v) 0 c.Slots:=by rw [←h1];simp [pick]
 rw [lh.eq_2,cK V,cond_false, ←h1];unfold yV;clear h1;refine cX (fun m i s=>kf N c m s (i:Int)) c.More.length (fun i t=>t++pick (fun i v=> !lN c.Kind i&&bI v) i (c.More.drop i)=s++pick (fun i v=> !lN c.Kind i&&bI v) 0 c.More∧t.length≤1000+i) _ ?_ ?_ N 0 s V V ⟨by simp,by omega⟩
 ·rintro m i s hi ⟨h1,h2⟩ k;show Sat (kf N c (m+1) s i) _;rw [List.drop_eq_getElem_cons hi,mI] at h1;rw [kf.eq_2,cJ V,cond_true,br hi,bs,yD,bs,J2 _ _ _ V];simp only [bs];cases hh:bI c.More[i]<;>cases hw:lN c.Kind i
  all_goals
   simp only [hh,hw,Bool.and_true,Bool.and_false,nt,nf,ct,cf,bs,List.nil_append] at h1⊢
   first
   |(unfold oz
     rw [r64 V V]
     exact k s ⟨h1,by omega⟩)
   |(rw [rF (by simp;omega)]
     unfold oz;rw [r64 V V]
     exact k _ ⟨by rw [Tl];exact h1,by simp;omega⟩)
 rintro m s ⟨h1,h2⟩;show Sat (kf N c (m+1) s _) _;rw [List.drop_length] at h1;rw [kf.eq_2,cK V,cond_false];exact aQ (by rw [←h1];simp [pick])
theorem AS (k:Int)(i:Nat):kr k i=!lN k i:=by
 unfold kr lN;by_cases h8:k=8
 ·subst h8;rfl
 by_cases h10:k=10
 ·subst h10;have e0:(i:Int).tmod 2=(i:Int)%2:=Int.tmod_eq_emod_of_nonneg V;by_cases hi:(0:Int)<i
  ·have e1:((i:Int) - 1).tmod 4=((i:Int) - 1)%4:=Int.tmod_eq_emod_of_nonneg V;have e2:(((i:Int) - 1)%4).tmod 2=(((i:Int) - 1)%4)%2:=Int.tmod_eq_emod_of_nonneg V;rw [e0,e1,e2];by_cases h:(i:Int)%2=0
   ·have h2: ¬(((i:Int) - 1)%4)%2=0:=by omega
    rw [Ti h,Tj h2,Ti hi];rfl
   have h2:(((i:Int) - 1)%4)%2=0:=by omega
   rw [Tj h,Ti h2,Ti hi];rfl
  have:i=0:=by omega
  subst this;rfl
 simp [h8,h10]
def cA (c:Ta):List Int:=pick (fun _ v=>bI v) 0 c.Slots++pick (fun i v=> !lN c.Kind i&&bI v) 0 c.More
theorem mu (N:Nat)(hN:2000<N)(c:Ta)(hS:c.Slots.length≤1000)(hc:c.More.length≤1000):eW N c=some (cA c):=by
 unfold eW cA;rw [vV N hN true c hS hc,bs]
 have e1:(fun (_:Nat) (v:SR)=>(true==true)&&bI v)=fun _ v=>bI v:=by funext i v;rfl
 have e2:(fun (i:Nat) (v:SR)=>(kr c.Kind i==true)&&bI v)=fun i v=> !lN c.Kind i&&bI v:=by funext i v;rw [AS];cases lN c.Kind i<;>rfl
 rw [e1,e2]
theorem KL (N:Nat)(hN:2000<N)(c:Ta)(hS:c.Slots.length≤1000)(hc:c.More.length≤1000):kQ N c=some (cA c):=CB N hN c hS hc
theorem jO (c:Ta):(cA c).length≤c.Slots.length+c.More.length:=by
 unfold cA;have h1:=yZ (fun _ v=>bI v) 0 c.Slots;have h2:=yZ (fun i v=> !lN c.Kind i&&bI v) 0 c.More;rw [List.length_append];omega
theorem yY {f:Nat→SR→Bool}{x:Int}: ∀{i:Nat} {l:List SR},x∈pick f i l→ ∃v∈l,v.N=x
 |_,[],h=>by cases h
 | i,v::l,h=>by
  rw [mI,List.mem_append] at h;rcases h with h|h
  ·cases hf:f i v
   ·rw [hf] at h;cases h
   rw [hf] at h;exact ⟨v,by simp,(List.mem_singleton.1 h).symm⟩
  obtain ⟨w,h1,h2⟩:=yY h;exact ⟨w,by simp [h1],h2⟩
theorem De {c:Ta}{x:Int}(h:x∈cA c): ∃v∈c.Slots++c.More,v.N=x:=by
 unfold cA at h;rcases List.mem_append.1 h with h|h
 ·obtain ⟨v,h1,h2⟩:=yY h;exact ⟨v,by simp [h1],h2⟩
 obtain ⟨v,h1,h2⟩:=yY h;exact ⟨v,by simp [h1],h2⟩
def Eg:Ta:=⟨0,0,0,0,[],[]⟩
def ip (m:SP)(a:Int):Option Ta:=if a<1 then none else if a%2=1 then m.Young[((a - 1) / 2).toNat]? else m.Old[((a - 2) / 2).toNat]?
def bw (m:SP)(a:Int):Bool:=(ip m a).isSome
def cc (m:SP)(a:Int):Ta:=(ip m a).getD Eg
structure Small (m:SP) (roots:List SR):Prop where
 young:m.Young.length≤600
 old:m.Old.length≤600
 roots:roots.length≤600
 cells: ∀c∈m.Young++m.Old,c.Slots.length≤600∧c.More.length≤600
theorem qX {m:SP}{a:Int}{c:Ta}(h:ip m a=some c):c∈m.Young++m.Old:=by
 unfold ip at h;split at h
 ·cases h
 split at h
 ·exact Tn _ (List.mem_of_getElem? h)
 exact To _ (List.mem_of_getElem? h)
theorem Small.at_ {m:SP}{roots:List SR}(h:Small m roots)(a:Int):(cc m a).Slots.length≤600∧(cc m a).More.length≤600:=by
 unfold cc
 cases hc:ip m a with
 |none=>exact ⟨by simp [Eg],by simp [Eg]⟩
 |some c=>exact h.cells c (qX hc)
theorem qM {m:SP}{a:Int}(h:bw m a=true):0<a:=by
 unfold bw ip at h;split at h
 ·cases h
 omega
theorem wv {m:SP}{roots:List SR}(hs:Small m roots){a:Int}(h:bw m a=true):a≤1200:=by
 have h1:=hs.young;have h2:=hs.old;unfold bw ip at h;split at h
 ·cases h
 split at h
 ·have:=(List.getElem?_eq_some_iff.1 (Option.isSome_iff_exists.1 h).choose_spec).1;omega
 have:=(List.getElem?_eq_some_iff.1 (Option.isSome_iff_exists.1 h).choose_spec).1;omega
theorem xc {a:Int}(h:0≤a):a.tdiv 2=a / 2:=Int.tdiv_eq_ediv_of_nonneg h
theorem sf {a:Int}(h:0≤a):a.tmod 2=a%2:=Int.tmod_eq_emod_of_nonneg h
theorem wu {α:Type}(l:List α)(i:Nat):(l[i]?).isSome=decide ((i:Int)<(l.length:Int)):=by
 by_cases h:i<l.length
 ·rw [List.getElem?_eq_getElem h,Ti V];rfl
 rw [List.getElem?_eq_none V,Tj V];rfl
theorem tM (m:SP)(a:Int):(a<1∧ip m a=none)∨(∃k:Nat,a=2*(k:Int)+1∧ip m a=m.Young[k]?)∨(∃k:Nat,a=2*(k:Int)+2∧ip m a=m.Old[k]?):=by
 by_cases h:a<1
 ·exact .inl ⟨h,by unfold ip;rw [if_pos h]⟩
 by_cases h2:a%2=1
 ·refine .inr (.inl ⟨((a - 1) / 2).toNat,by omega,?_⟩);unfold ip;rw [if_neg h,if_pos h2]
 refine .inr (.inr ⟨((a - 2) / 2).toNat,by omega,?_⟩);unfold ip;rw [if_neg h,if_neg h2]
theorem J9 {a:Int}(h:in64 a): -4611686018427387904≤a.tdiv 2∧a.tdiv 2≤4611686018427387904:=by
 unfold in64 at h;by_cases h0:0≤a
 ·rw [xc h0];omega
 have h1:(-a).tdiv 2= -(a.tdiv 2):=Int.neg_tdiv a 2;rw [xc V] at h1;omega
theorem CT (N:Nat)(m:SP)(a:Int)(h:in64 a):Sat (lS N m a) fun r=>r.2.2=bw m a∧(bw m a=true→aF r.1 r.2.1=ip m a):=by
 have hd:=J9 h;unfold lS;rw [r64 V V];unfold na bw;rcases tM m a with ⟨h1,h2⟩|⟨k,h1,h2⟩|⟨k,h1,h2⟩
 ·rw [h2]
  refine dQ (fun _=> ?_) fun _=> ?_
  ·rw [r64 V V,r64 V V,cK (a:=0) (b:=a) V,cf,bs];exact aQ ⟨J,fun h=>by cases h⟩
  rw [cK (a:=0) (b:=a) V,cf,bs];exact aQ ⟨J,fun h=>by cases h⟩
 ·subst h1;rw [h2,sf V,xc V,gA V,cf,cJ V,ct,bs,show (2*(k:Int)+1) / 2=k by omega];exact aQ ⟨(wu _ _).symm,fun _=>lW _ _⟩
 subst h1;rw [h2,sf V,xc V,ot V,ct,cJ V,ct,bs,show (2*(k:Int)+2) / 2 - 1=k by omega];rw [r64 V V,r64 V V];exact aQ ⟨(wu _ _).symm,fun _=>lW _ _⟩
theorem sM (N:Nat)(m:SP)(a:Int)(h:in64 a):dR N m a=some (bw m a):=by
 obtain ⟨r,h1,h2, -⟩:=CT N m a h;unfold dR;rw [h1,bs,h2]
theorem sP (N:Nat)(c:Ta)(h:c.Slots.length≤600∧c.More.length≤600):fZ N c=some c:=by
 unfold fZ cR;rw [rF (by simp;omega),bs,rF (by simp;omega),bs];rfl
theorem Gf (N:Nat){m:SP}{roots:List SR}(hs:Small m roots)(a:Int)(h:in64 a):fq N m a=some (cc m a):=by
 obtain ⟨r,h1,h2,h3⟩:=CT N m a h;unfold fq cc;rw [h1,bs,h2];unfold bw at*
 cases hc:ip m a with
 |none=>rfl
 |some c=>
  have h4:=h3 (by rw [hc];rfl);rw [hc] at h4;have h5:=sP N c (hs.cells c (qX hc));simp only [Option.isSome_some,nt,cf,h4,bs,h5];rfl
theorem Jb (N:Nat)(m:SP)(a:Int)(h:in64 a):lf N m a=some (bw m a):=by
 unfold in64 at h;unfold lf bw;rcases tM m a with ⟨h1,h2⟩|⟨k,h1,h2⟩|⟨k,h1,h2⟩
 ·rw [h2,cJ h1];rfl
 ·subst h1;rw [h2,cK V,cf,sf V,ot V,ct,xc V,show (2*(k:Int)+1 - 1) / 2=k by omega,wu];rw [kw (by unfold in64;omega),kw (by unfold in64;omega)]
 subst h1;rw [h2,cK V,cf,sf V,gA V,cf,xc V,show (2*(k:Int)+2 - 2) / 2=k by omega,wu];rw [kw (by unfold in64;omega),kw (by unfold in64;omega)]
theorem Ni (N:Nat)(m:SP)(a:Int)(h:in64 a):qy N m a=some (cc m a):=by
 have hh:=Jb N m a h;unfold in64 at h;unfold qy cc;rw [hh,bs];unfold bw;rcases tM m a with ⟨h1,h2⟩|⟨k,h1,h2⟩|⟨k,h1,h2⟩
 ·rw [h2];rfl
 ·cases hc:m.Young[k]? with
  |none=>rw [h2,hc];rfl
  |some c=>
   rw [h2,hc];subst h1;simp only [Option.isSome_some,nt,cf];rw [sf V,ot V,ct,xc V,show (2*(k:Int)+1 - 1) / 2=k by omega,lW,hc,bs];rw [kw (by unfold in64;omega),kw (by unfold in64;omega)];rfl
 cases hc:m.Old[k]? with
 |none=>rw [h2,hc];rfl
 |some c=>
  rw [h2,hc];subst h1;simp only [Option.isSome_some,nt,cf];rw [sf V,gA V,cf,xc V,show (2*(k:Int)+2 - 2) / 2=k by omega,lW,hc,bs];rw [kw (by unfold in64;omega),kw (by unfold in64;omega)];rfl
theorem KQ (N:Nat)(k:Int):tH N k=jw N k:=by
 unfold tH jw iJ;by_cases h1:k=1
 ·subst h1;rfl
 by_cases h2:k=2
 ·subst h2;rfl
 by_cases h3:k=3
 ·subst h3;rfl
 by_cases h6:k=6
 ·subst h6;rfl
 by_cases h8:k=8
 ·subst h8;rfl
 by_cases h9:k=9
 ·subst h9;rfl
 by_cases h10:k=10
 ·subst h10;rfl
 rw [gA h1,gA h2,gA h3,gA h6,gA h8,gA h9,gA h10];rfl
theorem Lk (N:Nat)(c:Ta):iI N c=iD N c:=by
 unfold iI iD;rw [KQ];rfl
theorem PL (N:Nat)(v:SR):tG N v=f3 N v:=by
 unfold tG f3 o5;by_cases h5:v.Kind=5
 ·rw [h5];rfl
 rw [gA h5];simp only [cf];by_cases hr:v.Kind<0∨9<v.Kind
 ·have h2:v.Kind≠2:=by omega
  have h3:v.Kind≠3:=by omega
  have h6:v.Kind≠6:=by omega
  have h7:v.Kind≠7:=by omega
  have h9:v.Kind≠9:=by omega
  have e1:((bif decide (v.Kind<0) then (some true) else (some (decide (9<v.Kind)))):Option Bool)=some true:=by
   rcases hr with h|h
   ·rw [cJ h];rfl
   rw [cJ (a:=9) h];cases decide (v.Kind<0)<;>rfl
  rw [e1,bs,ct,gA h2,gA h3,gA h6,gA h7,gA h9];simp only [cf]
  have e2:(((bif decide (v.N=0) then (some (decide (0≤v.Kind))) else (some false)).bind fun b14=>(bif b14 then (some (decide (v.Kind≤9))) else (some false)).bind fun b15=>some b15):Option Bool)=some false:=by
   cases decide (v.N=0)
   ·rfl
   rcases hr with h|h
   ·rw [LX (a:=0) (b:=v.Kind) V];rfl
   rw [LX (a:=v.Kind) (b:=9) V];cases decide (0≤v.Kind)<;>rfl
  rw [e2];cases s:(v.S.toList==(⟨#[]⟩:ByteArray).toList)<;>rfl
 have e1:((bif decide (v.Kind<0) then (some true) else (some (decide (9<v.Kind)))):Option Bool)=some false:=by
  rw [cK (a:=v.Kind) (b:=0) V,cK (a:=9) (b:=v.Kind) V];rfl
 rw [e1,bs,cf];cases hs:(v.S.toList==(⟨#[]⟩:ByteArray).toList)
 ·rfl
 simp only [nt,cf];by_cases h2:v.Kind=2
 ·rw [h2];rfl
 rw [gA h2];simp only [cf];by_cases h3:v.Kind=3
 ·rw [h3];rfl
 rw [gA h3];simp only [cf];by_cases h6:v.Kind=6
 ·rw [h6];rfl
 rw [gA h6];simp only [cf];by_cases h7:v.Kind=7
 ·rw [h7];rfl
 rw [gA h7];simp only [cf];by_cases h9:v.Kind=9
 ·rw [h9];rfl
 rw [gA h9,LW (a:=0) V,LW (a:=v.Kind) V];cases decide (v.N=0)<;>rfl
theorem GP (N:Nat)(v:SR): ∃b,f3 N v=some b:=by
 unfold f3;cases decide (v.Kind<0)<;>cases decide (9<v.Kind)<;>cases decide (v.Kind=5)<;>cases decide (v.N=0)<;>cases (v.S.toList==(⟨#[]⟩:ByteArray).toList)<;>cases decide (v.Kind=2)<;>cases decide (v.Kind=3)<;>cases decide ((-9007199254740992)≤v.N)<;>cases decide (v.Kind=6)<;>cases decide (v.Kind=7)<;>cases decide (v.Kind=9)<;>exact ⟨_,rfl⟩
theorem zL (N:Nat)(k:Nat)(hk:k=2∨k=4)(l:List SR)(hl:l.length≤1000): ∀(m i:Nat),l.length<m+i→i≤l.length→(l.length - i)%k=0→ ∃b,fN N (k:Int) l m (i:Int)=some b∧
  ir N (cY (fun x st=>cq N (k:Int) x st)) l (k:Int) m (i:Int) (none,())=some (bif b then (none,()) else (some .ret,()))
 |0,i,h,h2,_=>by omega
 | m + 1,i,h,h2,h3=>by
  by_cases hi:i<l.length
  ·have hik:i+k≤l.length:=by
    rcases hk with rfl|rfl<;>omega
   have hmin:(min (k:Int) (((l.drop (i:Int).toNat).take (l.length - (i:Int).toNat)).length:Int))=k:=by
    rw [List.length_take,List.length_drop,Int.toNat_natCast];omega
   have hto:((i:Int)+(k:Int)).toNat=i+k:=by omega
   have hx: ∀j,j<k→aF ((l.drop i).take k) (j:Int)=l[i+j]? :=fun j hj=>by
    rw [lW,List.getElem?_take,if_pos hj,List.getElem?_drop]
   have hk0:=hx 0 V;have hk1:=hx 1 V;rw [List.getElem?_eq_getElem V] at hk0 hk1;have hl0:aF l (i:Int)=some l[i]:=br hi
   have hl1:aF l ((i:Int)+1)=some (l[i+1]'V):=by
    have:=br (xs:=l) (i:=i+1) V;simpa using this
   obtain ⟨b,hb1,hb2⟩:=zL N k hk l hl m (i+k) V hik (by rcases hk with rfl|rfl<;>omega);simp only [Int.natCast_add] at hb1 hb2
   have fin: ∀b',(bif b' then some false else bi (in64 ((i:Int)+(k:Int))) (fN N (k:Int) l m ((i:Int)+(k:Int))))=some (bif b' then false else b):=fun b'=>by
    cases b'
    ·rw [cf,r64 V V,hb1];rfl
    rfl
   have fin2: ∀b':Bool,((bif b' then (some (some Exit.ret,())) else (some (none,())):Option (Option Exit×Unit)).map fun r=>(r.1.isNone,r))=some (!b',(bif b' then some Exit.ret else none,())):=fun b'=>by cases b'<;>rfl
   have goal: ∀b',((some (!b',((bif b' then some Exit.ret else none:Option Exit),())):Option (Bool×(Option Exit×Unit))).bind fun y14=>bif !y14.1 then (some y14.2) else (bi (in64 ((i:Int)+(k:Int))) ((ir N (cY (fun x st=>cq N (k:Int) x st)) l (k:Int) m) ((i:Int)+(k:Int)) y14.2)))=some (bif (bif b' then false else b) then (none,()) else (some .ret,())):=fun b'=>by
    cases b'
    ·rw [bs];simp only [nf,nt,cf];rw [r64 V V];exact hb2
    rfl
   have lift: ∀(x:List SR) (b':Bool),cq N (k:Int) x ()=(bif b' then (some (some Exit.ret,())) else (some (none,())))→cY (fun x st=>cq N (k:Int) x st) x (none,())=some (!b',(bif b' then some Exit.ret else none,())):=fun x b' hb=>by
    unfold cY;simp only [hb];exact fin2 b'
   have key: ∃b',((aF l (i:Int)).bind fun x8=>(bif !decide (x8.Kind=7) then (some true) else (bi (in64 ((i:Int)+1)) ((aF l ((i:Int)+1)).bind fun x11=>some (decide (x11.Kind=8))))).bind fun b9=>bif b9 then (some false) else ((bif decide ((k:Int)=4) then (bi (in64 ((i:Int)+2)) ((aF l ((i:Int)+2)).bind fun x15=>(dI N x15 7).bind fun y16=>(bif !y16 then (some true) else (bi (in64 ((i:Int)+3)) ((aF l ((i:Int)+3)).bind fun x19=>(f0 N x19 0 9007199254740992).bind fun y20=>some (!y20)))).bind fun b17=>some b17)) else (some false)).bind fun b13=>bif b13 then (some false) else (bi (in64 ((i:Int)+(k:Int))) ((fN N (k:Int) l m) ((i:Int)+(k:Int))))))=some (bif b' then false else b)∧cq N (k:Int) ((l.drop i).take k) ()=(bif b' then (some (some Exit.ret,())) else (some (none,()))):=by
    unfold cq;simp only [Int.cast_ofNat_Int,Int.natCast_zero,Int.natCast_one] at hk0 hk1;rw [hl0,bs,r64 (a:=(i:Int)+1) V V,hl1,bs];have hk0':aF ((l.drop i).take k) 0=some l[i]:=hk0;have hk1':aF ((l.drop i).take k) 1=some (l[i+1]'V):=hk1;simp only [hk0',bs,hk1'];cases h7:(!decide (l[i].Kind=7))
    ·simp only [cf,bs];cases h8:decide ((l[i+1]'V).Kind=8)
     ·simp only [cf];rcases hk with rfl|rfl
      ·simp only [show decide (((2:Nat):Int)=4)=false from rfl,cf,bs];have f:=fin false;rw [cf] at f;refine ⟨false,?_,J⟩;exact f
      have hk2:=hx 2 V;have hk3:=hx 3 V;rw [List.getElem?_eq_getElem V] at hk2 hk3;have hk2':aF ((l.drop i).take 4) 2=some (l[i+2]'V):=hk2;have hk3':aF ((l.drop i).take 4) 3=some (l[i+3]'V):=hk3
      have hl2:aF l ((i:Int)+2)=some (l[i+2]'V):=by
       have:=br (xs:=l) (i:=i+2) V;simpa using this
      have hl3:aF l ((i:Int)+3)=some (l[i+3]'V):=by
       have:=br (xs:=l) (i:=i+3) V;simpa using this
      simp only [show decide (((4:Nat):Int)=4)=true from rfl,ct];rw [r64 (a:=(i:Int)+2) V V,hl2,bs,hk2',bs,r64 (a:=(i:Int)+3) V V,hl3,bs,hk3']
      have en: ∀v,gH N v 7=dI N v 7:=fun v=>rfl
      have em: ∀v,gI N v 0 9007199254740992=f0 N v 0 9007199254740992:=fun v=>rfl
      have hn: ∃b1,dI N (l[i+2]'V) 7=some b1:=by unfold dI;cases decide ((l[i+2]'V).Kind=0)<;>exact ⟨_,rfl⟩
      have hm: ∃b1,f0 N (l[i+3]'V) 0 9007199254740992=some b1:=by unfold f0;cases decide ((l[i+3]'V).Kind=3)<;>cases decide (0≤(l[i+3]'V).N)<;>exact ⟨_,rfl⟩
      obtain ⟨b1,hn⟩:=hn;obtain ⟨b2,hm⟩:=hm;simp only [bs,en,em,hn,hm];cases b1
      ·simp only [nf,ct,bs];exact ⟨true,J,J⟩
      simp only [nt,cf,bs];exact ⟨!b2,fin (!b2),by cases b2<;>rfl⟩
     exact ⟨true,J,J⟩
    exact ⟨true,J,J⟩
   obtain ⟨b',e1,e2⟩:=key;refine ⟨bif b' then false else b,?_,?_⟩
   ·rw [fN.eq_2,cJ V,ct];exact e1
   rw [ir.eq_2,cJ V,ct,hmin,kw (show (0:Int)≤(i:Int)∧(i:Int).toNat≤l.length∧l.length≤l.length from ⟨by omega,by omega,Nat.le_refl _⟩),r64 (a:=(i:Int)+(k:Int)) V V,r64 (a:=(i:Int)+(k:Int)) V V];rw [kw (show (0:Int)≤(i:Int)∧(0:Int)≤(i:Int)+(k:Int)∧(i:Int).toNat≤((i:Int)+(k:Int)).toNat∧((i:Int)+(k:Int)).toNat≤l.length from ⟨by omega,by omega,by omega,by omega⟩),hto,Int.toNat_natCast,show i+k - i=k by omega,lift _ b' e2];exact goal b'
  rw [fN.eq_2,ir.eq_2,cK V,cf,cf];exact ⟨true,J,J⟩
theorem qR (N:Nat)(hN:2000<N)(k:Nat)(hk:k=2∨k=4)(l:List SR)(hl:l.length≤1000): ∃b,dL N l (k:Int)=some b∧dg N l (k:Int)=some b∧(b=true→l.length%k=0):=by
 unfold dL dg
 have hk0:(k:Int)≠0:=by rcases hk with rfl|rfl<;>decide
 rw [kw hk0,kw hk0]
 have ht:(l.length:Int).tmod (k:Int)=((l.length%k:Nat):Int):=by
  rw [Int.tmod_eq_emod_of_nonneg V];rfl
 rw [ht];by_cases h:l.length%k=0
 ·rw [ot V];obtain ⟨b,h1,h2⟩:=zL N k hk l hl N 0 V V (by simpa using h)
  have e:jF N l (k:Int)=some ():=by
   unfold jF;rw [cK (by rcases hk with rfl|rfl<;>omega),cf]
  unfold qj;simp only [nt,cf,e,bs];have h1':fN N (k:Int) l N 0=some b:=h1;have h2':ir N (cY (fun x st=>cq N (k:Int) x st)) l (k:Int) N 0 (none,())=some (bif b then (none,()) else (some .ret,())):=h2;rw [h1',h2',bs];exact ⟨b,by cases b<;>rfl,rfl,fun _=>h⟩
 rw [gA V];exact ⟨false,J,J,fun h=>by cases h⟩
theorem NZ (N:Nat)(hN:2000<N)(c:Ta)(hc:c.More.length≤1000):jq N c.Kind c.More=jL N c:=by
 obtain ⟨b2,h2,h2', -⟩:=qR N hN 2 (.inl rfl) c.More hc;obtain ⟨b4,h4,h4', -⟩:=qR N hN 4 (.inr rfl) ((c.More.drop ((1:Int).toNat)).take (c.More.length - (1:Int).toNat)) (by rw [List.length_take,List.length_drop];omega);have e2:dL N c.More 2=dg N c.More 2:=h2.trans h2'.symm;have e4:dL N ((c.More.drop ((1:Int).toNat)).take (c.More.length - (1:Int).toNat)) 4=dg N ((c.More.drop ((1:Int).toNat)).take (c.More.length - (1:Int).toNat)) 4:=h4.trans h4'.symm;unfold jq jL kE jv;rw [e2,e4];rfl
theorem GQ (N:Nat)(c:Ta)(b:Bool)(v:SR): ∃y,f3 N v=some y∧cY (fun x st=>fW N c x st) (b,v) (none,())=some (y,(bif y then none else some Exit.ret,())):=by
 obtain ⟨y,hy⟩:=GP N v;refine ⟨y,hy,?_⟩;unfold cY fW;simp only [PL,hy,bs];cases y<;>rfl
theorem Cy (N:Nat)(c:Ta)(hc:c.More.length≤1000): ∀(m i:Nat),c.More.length<m+i→i≤c.More.length→ ∃b,lU N c m (i:Int)=(bif b then dh N c else some false)∧
  kc N (cY (fun x st=>fW N c x st)) c m (i:Int) (none,())=some (bif b then none else some Exit.ret,())
 |0,i,h,h2=>by omega
 | m+1,i,h,h2=>by
  rw [lU.eq_2,kc.eq_2];by_cases hi:i<c.More.length
  ·rw [cJ V,ct,ct,br hi,bs,bs]
   have hs:(bif !decide (c.Kind=8) then ((bif !decide (c.Kind=10) then (some true) else (some (decide ((i:Int).tmod 2=0)))).bind fun b22=>some b22) else (some false))=some (kr c.Kind i):=by
    unfold kr;cases decide (c.Kind=8)<;>cases decide (c.Kind=10)<;>rfl
   obtain ⟨y,h3,h4⟩:=GQ N c (kr c.Kind i) c.More[i];rw [hs,bs,h3,h4,bs,bs];cases y
   ·simp only [nf,nt,ct,cf];exact ⟨false,cf.symm,by rw [cf]⟩
   obtain ⟨b,h5,h6⟩:=Cy N c hc m (i+1) V hi;simp only [Int.natCast_add,Int.cast_ofNat_Int] at h5 h6;simp only [nt,cf,ct];rw [r64 V V,r64 V V];exact ⟨b,h5,h6⟩
  rw [cK V,cf,cf];exact ⟨true,ct.symm,by rw [ct]⟩
theorem rl (N:Nat)(hN:2000<N)(c:Ta)(hS:c.Slots.length≤1000)(hc:c.More.length≤1000): ∀(m i:Nat),c.Slots.length<m+i→i≤c.Slots.length→ ∃b,gF N c m (i:Int)=(bif b then dh N c else some false)∧
  jr N (cY (fun x st=>fW N c x st)) c m (i:Int) (none,())=some (bif b then none else some Exit.ret,())
 |0,i,h,h2=>by omega
 | m+1,i,h,h2=>by
  rw [gF.eq_2,jr.eq_2];by_cases hi:i<c.Slots.length
  ·rw [cJ V,ct,ct,br hi,bs,bs];obtain ⟨y,h3,h4⟩:=GQ N c true c.Slots[i];rw [h3,h4,bs,bs];cases y
   ·simp only [nf,nt,ct,cf];exact ⟨false,cf.symm,by rw [cf]⟩
   obtain ⟨b,h5,h6⟩:=rl N hN c hS hc m (i+1) V hi;simp only [Int.natCast_add,Int.cast_ofNat_Int] at h5 h6;simp only [nt,cf,ct];rw [r64 V V,r64 V V];exact ⟨b,h5,h6⟩
  rw [cK V,cf,cf];exact Cy N c hc N 0 V V
theorem uK (N:Nat)(hN:2000<N)(c:Ta)(hS:c.Slots.length≤1000)(hc:c.More.length≤1000):eg N c=cW N c:=by
 unfold eg cW lX
 have hAge:((bif !decide (c.Age=0) then (some (!decide (c.Age=1))) else (some false)).bind fun b10=>some b10)=(some (decide (c.Age<0)||decide (1<c.Age)):Option Bool):=by
  by_cases h0:c.Age=0
  ·rw [h0];rfl
  by_cases h1:c.Age=1
  ·rw [h1];rfl
  rw [gA h0,gA h1];by_cases h2:c.Age<0
  ·rw [cJ h2];rfl
  rw [cJ (a:=1) (b:=c.Age) V,cK (a:=c.Age) V];rfl
 obtain ⟨b,h1,h2⟩:=rl N hN c hS hc N 0 V V;have h1':gF N c N 0=(bif b then dh N c else some false):=h1;have h2':jr N (cY (fun x st=>fW N c x st)) c N 0 (none,())=some (bif b then none else some Exit.ret,()):=h2;have e:qT N c=some ():=rfl;rw [hAge,h1',h2',e]
 have tail:((some ()).bind fun (y12:Unit)=>(some ((bif b then none else some Exit.ret:Option Exit),())).bind fun y15=>nO y15.1 ((iI N c).bind fun y19=>(bif y19 then ((jq N c.Kind c.More).bind fun y21=>some y21) else (some false)).bind fun b20=>some b20) (some false) (fun _=>none))=(bif b then dh N c else some false):=by
  cases b
  ·rfl
  rw [Lk,NZ N hN c hc];rfl
 rw [tail];cases decide (c.Kind<1)<;>cases decide (11<c.Kind)<;>cases decide (c.Shape<0)<;>cases decide (c.Flags<0)<;>cases decide (63<c.Flags)<;>cases decide (c.Age<0)<;>cases decide (1<c.Age)<;>rfl
theorem Lx {m:Option Bool}{x:Bool}:m=some x→(m.bind fun b=>some b)=some x:=fun h=>by rw [h];rfl
theorem HW (N:Nat)(hN:2000<N)(c:Ta)(hS:c.Slots.length≤1000)(hc:c.More.length≤1000)(h8:c.Kind=8): ∃b,cW N c=some b∧(b=true→c.More.length%2=0):=by
 obtain ⟨b1,g1, -⟩:=rl N hN c hS hc N 0 V V;have g1':gF N c N 0=(bif b1 then dh N c else some false):=g1;obtain ⟨b2, -,h2,h3⟩:=qR N hN 2 (.inl rfl) c.More hc
 have hm:jL N c=some b2:=by
  unfold jL jv;rw [h8,cK V];show ((dg N c.More 2).bind fun y37=>some y37)=_;exact Lx h2
 have hs: ∃b3,iD N c=some b3:=by
  unfold iD;rw [h8];have:jw N 8=some true:=rfl;rw [this,bs,ct,bs,ct];by_cases hl:1≤(c.Slots.length:Int)
  ·rw [LW hl,ct,bs,FR (xs:=c.Slots) (i:=0) V V,bs];cases decide ((c.Slots.length:Int)≤1025)
   ·exact ⟨_,J⟩
   cases decide (c.Slots[(0:Int).toNat].Kind=1)<;>exact ⟨_,rfl⟩
  rw [LX V];exact ⟨_,J⟩
 obtain ⟨b3,hs⟩:=hs
 have hj:dh N c=some (b3&&b2):=by
  unfold dh;rw [hs,hm];cases b3<;>rfl
 unfold cW;rw [g1',hj]
 have fin: ∃b,((bif b1 then some (b3&&b2) else some false):Option Bool)=some b∧(b=true→c.More.length%2=0):=by
  cases b1
  ·exact ⟨false,J,fun h=>by cases h⟩
  exact ⟨b3&&b2,J,fun h=>h3 (by cases b3<;>cases b2<;>first|rfl|cases h)⟩
 obtain ⟨b,e1,e2⟩:=fin;rw [e1];have ff: ∃b',(some false:Option Bool)=some b'∧(b'=true→c.More.length%2=0):=⟨false,rfl,fun h=>by cases h⟩
 cases decide (c.Kind<1)<;>cases decide (11<c.Kind)<;>cases decide (c.Shape<0)<;>cases decide (c.Flags<0)<;>cases decide (63<c.Flags)<;>cases decide (c.Age<0)<;>cases decide (1<c.Age)<;>first|exact ff|exact ⟨b,rfl,e2⟩
def pm (N:Nat)(c:Ta):Bool:=decide (c.Kind=8)&&(cW N c).getD false
theorem Ig (N:Nat)(hN:2000<N)(c:Ta)(hS:c.Slots.length≤1000)(hc:c.More.length≤1000):yT N c=some (pm N c)∧se N c=some (pm N c)∧(pm N c=true→c.More.length%2=0):=by
 unfold yT se pm;rw [uK N hN c hS hc];by_cases h8:c.Kind=8
 ·obtain ⟨b,h1,h2⟩:=HW N hN c hS hc h8;rw [h1,h8];exact ⟨J,J,h2⟩
 rw [gA h8];exact ⟨J,J,fun h=>by cases h⟩
abbrev Gg {ρ:Type}(m:Option ρ):Prop:=Sat m fun _=>True
theorem bF {ρ:Type}(x:ρ):Gg (some x):=aQ trivial
theorem kq {ρ:Type}{b:Bool}{x y:Option ρ}(hx:b=true→Gg x)(hy:b=false→Gg y):Gg (bif b then x else y):=qn hx hy
theorem ze (N:Nat)(v:SR)(a b:Int):Gg (f0 N v a b):=by
 unfold f0
 refine Sat.bind (P:=fun _=>True) (kq (fun _=>bF _) fun _=>bF _) fun x _=>Sat.bind (P:=fun _=>True) (kq (fun _=>bF _) fun _=>bF _) fun y _=>bF _
theorem vh (N:Nat)(v:SR)(a:Int):Gg (dI N v a):=by
 unfold dI
 exact Sat.bind (P:=fun _=>True) (kq (fun _=>bF _) fun _=>bF _) fun x _=>bF _
theorem we {c:Bool}{m:Option Bool}(h:c=true→Gg m):Gg (bif c then m else some false):=kq h fun _=>bF _
theorem uA {l:List SR}{i:Nat}{f:SR→Option Bool}(hi:i<l.length)(h: ∀v,Gg (f v)):Gg ((aF l (i:Int)).bind f):=by
 rw [br hi,bs];exact h _
theorem eI {m:Option Bool}{f:Bool→Option Bool}(h:Gg m)(k: ∀b,Gg (f b)):Gg (m.bind f):=Sat.bind h fun b _=>k b
theorem pW {m:Option Bool}{p:Prop}{f:Bool→Option Bool}(h:Sat m fun b=>b=true→p)(k: ∀b,(b=true→p)→Gg (f b)):Gg (m.bind f):=Sat.bind h k
theorem Kh (N:Nat)(c:Ta):Gg (iD N c):=by
 unfold iD
 have hp:Gg (jw N c.Kind):=by
  unfold jw
  iterate 6 refine eI (kq (fun _=>bF _) fun _=>bF _) fun _=> ?_
  exact bF _
 refine eI hp fun y=>eI (kq (fun _=>bF _) fun _=>eI (kq (fun _=>bF _) fun _=>bF _) fun _=>bF _) fun b=> ?_
 refine kq (fun _=> ?_) fun _=> ?_
 ·refine pW (p:=0<c.Slots.length) (dQ (fun h=>aQ fun _=>by omega) fun _=>aQ fun h=>by cases h) fun b hb=>eI (we fun h=> ?_) fun _=>bF _
  have h0:=hb h
  refine uA (i:=0) h0 fun v=>eI (kq (fun _=>bF _) fun _=>uA (i:=0) h0 fun _=>bF _) fun _=>bF _
 refine kq (fun _=>bF _) fun _=>eI (kq (fun _=>bF _) fun _=>bF _) fun _=>kq (fun _=>bF _) fun _=>qn (fun _=> ?_) fun _=>bF _
 refine pW (p:=1<c.Slots.length) (dQ (fun h=> ?_) fun _=>aQ fun h=>by cases h) fun b hb=>eI (we fun h=> ?_) fun _=>bF _
 ·rw [show ((0:Int))=((0:Nat):Int) from rfl,br V,bs];obtain ⟨x,hx, -⟩:=vh N c.Slots[0] 7
  rw [hx,bs];exact aQ fun _=>by omega
 refine uA (i:=1) (hb h) fun v=>eI (vh N v 7) fun _=>bF _
theorem IG {l:List SR}{i:Nat}{m:SR→Option Bool}(hi:i<l.length)(h: ∀v,Gg (m v)){p:Prop}(hp:p):Sat ((aF l (i:Int)).bind fun x=>(m x).bind fun y=>some y) fun b=>b=true→p:=by
 rw [br hi,bs];obtain ⟨x,hx, -⟩:=h l[i]
 rw [hx,bs];exact aQ fun _=>hp
def yl (c:Ta):Prop:=(c.Kind=8→c.More.length%2=0)∧(c.Kind=10→1≤c.More.length∧(c.More.length - 1)%4=0)
theorem LJ (N:Nat)(hN:2000<N)(c:Ta)(hc:c.More.length≤1000):Sat (jL N c) fun b=>b=true→yl c:=by
 have j6: ∀p,(p=true→c.Kind=1∨c.Kind=5)→Sat (jv N c p) fun b=>b=true→yl c:=by
  intro p hp
  have other: ∀{m:Option Bool},c.Kind≠8→c.Kind≠10→Gg m→Sat m fun b=>b=true→yl c:=fun h8 h10 h=>h.mono fun _ _ _=>⟨fun e=>absurd e h8,fun e=>absurd e h10⟩
  unfold jv
  refine qn (fun h=>other (by rcases hp h with e|e<;>omega) (by rcases hp h with e|e<;>omega) (bF _)) fun _=> ?_
  refine dQ (fun hk=>other V V ?_) fun _=> ?_
  ·refine pW (p:=1<c.More.length) (dQ (fun h=>IG (i:=0) V (fun v=>ze N v _ _) V) fun _=>aQ fun h=>by cases h) fun b hb=>eI (we fun h=>uA (i:=1) (hb h) fun v=>eI (vh N v 9) fun _=>bF _) fun _=>bF _
  refine dQ (fun hk=>other V V ?_) fun _=> ?_
  ·refine pW (p:=0<c.More.length) (dQ (fun h=>aQ fun _=>by omega) fun _=>aQ fun h=>by cases h) fun b hb=>eI (we fun h=>uA (i:=0) (hb h) fun v=>eI (vh N v 9) fun _=>bF _) fun _=>bF _
  refine dQ (fun hk=>other V V ?_) fun _=> ?_
  ·refine pW (p:=1<c.More.length) (dQ (fun h=>IG (i:=0) V (fun v=>ze N v _ _) V) fun _=>aQ fun h=>by cases h) fun b hb=>eI (we fun h=>uA (i:=1) (hb h) fun v=>eI (vh N v 9) fun _=>bF _) fun _=>bF _
  refine dQ (fun hk=>other V V ?_) fun _=> ?_
  ·refine pW (p:=3<c.More.length) (dQ (fun h=>IG (i:=2) V (fun v=>ze N v _ _) V) fun _=>aQ fun h=>by cases h) fun b hb=>eI (we fun h=>uA (i:=3) (hb h) fun v=>eI (ze N v _ _) fun _=>bF _) fun _=>bF _
  refine dQ (fun hk=> ?_) fun hk8=> ?_
  ·obtain ⟨b, -,h2,h3⟩:=qR N hN 2 (.inl rfl) c.More hc;have h2':dg N c.More 2=some b:=h2;rw [h2',bs]
   exact aQ fun hb=>⟨fun _=>h3 hb,fun e=>absurd e V⟩
  refine dQ (fun hk=> ?_) fun hk10=> ?_
  ·refine Sat.bind (P:=fun b=>b=true→1≤c.More.length) (dQ (fun h=> ?_) fun _=>aQ fun h=>by cases h) fun b hb=> ?_
   ·rw [show ((0:Int))=((0:Nat):Int) from rfl,br V,bs];exact aQ fun _=>by omega
   refine Sat.bind (P:=fun b=>b=true→yl c) (qn (fun h=> ?_) fun _=>aQ fun h=>by cases h) fun b' hb'=>aQ hb'
   have h1:=hb h;rw [BQ ⟨by omega,by show (1:Int).toNat≤_;exact h1,Nat.le_refl _⟩]
   have hl:((c.More.drop ((1:Int).toNat)).take (c.More.length - (1:Int).toNat)).length=c.More.length - 1:=by
    rw [List.length_take,List.length_drop];show min (c.More.length - 1) (c.More.length - 1)=_;omega
   obtain ⟨b2, -,h2,h3⟩:=qR N hN 4 (.inr rfl) ((c.More.drop ((1:Int).toNat)).take (c.More.length - (1:Int).toNat)) (by rw [hl];omega);have h2':dg N ((c.More.drop ((1:Int).toNat)).take (c.More.length - (1:Int).toNat)) 4=some b2:=h2;rw [h2',bs]
   exact aQ fun hb2=>⟨fun e=>absurd e V,fun _=>⟨h1,by have:=h3 hb2;rw [hl] at this;exact this⟩⟩
  refine dQ (fun hk=>other V V ?_) fun _=>other hk8 hk10 (bF _)
  refine eI ?_ fun _=>bF _
  exact kq (fun h=>uA (i:=0) (by have:=of_decide_eq_true h;omega) fun v=>eI (ze N v _ _) fun _=>bF _) fun _=>bF _
 unfold jL
 refine dQ (fun _=>aQ fun h=>by cases h) fun _=>dQ (fun hk=>aQ fun _=>⟨fun e=>absurd e V,fun e=>absurd e V⟩) fun _=>dQ (fun hk=>j6 _ fun _=> .inl hk) fun _=>j6 _ fun h=> .inr (of_decide_eq_true h)
theorem Ac (N:Nat)(hN:2000<N)(c:Ta)(hS:c.Slots.length≤1000)(hc:c.More.length≤1000):Sat (cW N c) fun b=>b=true→yl c:=by
 obtain ⟨b1,g1, -⟩:=rl N hN c hS hc N 0 V V;have g1':gF N c N 0=(bif b1 then dh N c else some false):=g1
 have hj:Sat (dh N c) fun b=>b=true→yl c:=by
  unfold dh
  refine Sat.bind (Kh N c) fun y _=> ?_
  refine Sat.bind (P:=fun b=>b=true→yl c) (qn (fun _=>Sat.bind (LJ N hN c hc) fun _ h=>aQ h) fun _=>aQ fun h=>by cases h) fun _ h=>aQ h
 unfold cW;rw [g1']
 iterate 6 refine Sat.bind (P:=fun _=>True) (kq (fun _=>bF _) fun _=>bF _) fun _ _=> ?_
 refine qn (fun _=>aQ fun h=>by cases h) fun _=>qn (fun _=>hj) fun _=>aQ fun h=>by cases h
theorem wr {α ρ:Type}(L:Nat→Int→Option ρ)(l:List α)(p:α→Bool)(bad k:Option ρ)
  (step: ∀m (i:Nat) (h:i<l.length),L (m+1) (i:Int)=bif p l[i] then L m ((i:Int)+1) else bad)
  (fin: ∀m,L (m+1) (l.length:Int)=k) (N:Nat) (hN:l.length<N):L N 0=bif l.all p then k else bad:=by
 have key: ∀m i:Nat,l.length<m+i→i≤l.length→L m (i:Int)=bif (l.drop i).all p then k else bad:=by
  intro m
  induction m with
  |zero=>intro i h1 h2;omega
  | succ m ih=>
   intro i h1 h2;by_cases hi:i<l.length
   ·rw [step m i hi,List.drop_eq_getElem_cons hi,List.all_cons];have h3:=ih (i+1) V hi;rw [show (((i+1:Nat)):Int)=(i:Int)+1 by omega] at h3;rw [h3];cases p l[i]<;>rfl
   have e:i=l.length:=by omega
   subst e;rw [fin,List.drop_length];rfl
 have:=key N 0 V V;simpa using this
theorem GR {α:Type}(L:Nat→Int→Option Bool)(l:List α)(p:α→Bool)
  (step: ∀m (i:Nat) (h:i<l.length),L (m+1) (i:Int)=bif p l[i] then L m ((i:Int)+1) else some false)
  (fin: ∀m,L (m+1) (l.length:Int)=some true) (N:Nat) (hN:l.length<N):L N 0=some (l.all p):=by
 rw [wr L l p _ _ step fin N hN];cases l.all p<;>rfl
theorem all_map {α β:Type}(f:α→β)(p:β→Bool)(l:List α):(l.map f).all p=l.all fun x=>p (f x):=by rw [List.all_map];rfl
theorem DO {α:Type}(q p:α→Bool): ∀l:List α,(l.filter q).all p=l.all fun x=> !q x||p x
 | []=>rfl
 |x::l=>by
  rw [List.filter_cons,List.all_cons, ←DO q p l];cases h:q x<;>simp
def NB {α β:Type}[DecidableEq α](a:α)(b:β):List (α×β)→List (α×β)
 | []=> [(a,b)]
 |p::l=>if p.1=a then (a,b)::l else p::NB a b l
theorem NC {α β:Type}[DecidableEq α](L:List (α×β))(a:α)(b:β):um L a b=NB a b L:=by
 have key: ∀(L:List (α×β)) (j:Nat),(∃i c,fp a L j=some (i,c)∧j≤i∧L.set (i - j) (a,b)=NB a b L)∨(fp a L j=none∧L++ [(a,b)]=NB a b L):=by
  intro L
  induction L with
  |nil=>intro j;exact .inr ⟨J,J⟩
  | cons p l ih=>
   intro j;obtain ⟨x,y⟩:=p;by_cases e:a=x
   ·refine .inl ⟨j,y,by simp [fp,e],Nat.le_refl _,?_⟩;rw [Nat.sub_self];simp [NB,e]
   have e': ¬x=a:=fun h=>e h.symm
   rcases ih (j+1) with ⟨i,c,h1,h2,h3⟩|⟨h1,h2⟩
   ·refine .inl ⟨i,c,by simp [fp,e,h1],by omega,?_⟩;rw [show i - j=(i - (j+1))+1 by omega,List.set_cons_succ,h3];simp [NB,e']
   exact .inr ⟨by simp [fp,e,h1],by simp [NB,e',h2]⟩
 unfold um;rcases key L 0 with ⟨i,c,h1, -,h3⟩|⟨h1,h2⟩
 ·rw [h1];exact h3
 rw [h1];exact h2
theorem zl {α β:Type}[DecidableEq α](p:α×β)(l:List (α×β))(x:α):lk (p::l) x=if p.1=x then some p.2 else lk l x:=by
 unfold lk;rw [List.find?_cons];by_cases e:p.1=x<;>simp [e]
theorem GS {α β:Type}[DecidableEq α](L:List (α×β))(a:α)(b:β)(x:α):lk (um L a b) x=if a=x then some b else lk L x:=by
 rw [NC]
 induction L with
 |nil=>rw [NB,zl]
 | cons p l ih=>
  unfold NB;by_cases e:p.1=a
  ·rw [if_pos e,zl,zl,e];by_cases e2:a=x<;>simp [e2]
  rw [if_neg e,zl,zl,ih];by_cases e2:p.1=x
  ·rw [if_pos e2,if_pos e2,if_neg (fun h=>e (by rw [e2,h]))]
  rw [if_neg e2,if_neg e2]
abbrev vZ:SR:=⟨0,0,⟨#[]⟩⟩
def pu (l:List SR)(i:Nat):SR:=l.getD i vZ
theorem ka {l:List SR}{i:Nat}(h:i<l.length):aF l (i:Int)=some (pu l i):=by
 rw [br h];unfold pu;simp [List.getD,h]
def oX (v:SR):Bool:=(f3 0 v).getD false
theorem GO (N:Nat)(v:SR):f3 N v=some (oX v):=by
 obtain ⟨b,hb⟩:=GP 0 v;have e:f3 N v=f3 0 v:=Eq.trans rfl rfl;unfold oX;rw [e,hb];rfl
def numB (v:SR)(a b:Int):Bool:=decide (v.Kind=3)&&(decide (a≤v.N)&&decide (v.N≤b))
def noneB (v:SR)(k:Int):Bool:=decide (v.Kind=0)||decide (v.Kind=k)
theorem ve (N:Nat)(v:SR)(a b:Int):f0 N v a b=some (numB v a b):=by
 unfold f0 numB;cases decide (v.Kind=3)<;>cases decide (a≤v.N)<;>cases decide (v.N≤b)<;>rfl
theorem sE (N:Nat)(v:SR)(k:Int):dI N v k=some (noneB v k):=by
 unfold dI noneB;cases decide (v.Kind=0)<;>cases decide (v.Kind=k)<;>rfl
def Fy (k:Int):Bool:=decide (k=1)||decide (k=2)||decide (k=3)||decide (k=6)||decide (k=8)||decide (k=9)||decide (k=10)
theorem H1 (N:Nat)(k:Int):jw N k=some (Fy k):=by
 unfold jw Fy;cases decide (k=1)<;>cases decide (k=2)<;>cases decide (k=3)<;>cases decide (k=6)<;>cases decide (k=8)<;>cases decide (k=9)<;>cases decide (k=10)<;>rfl
def o9 (k sh fl:Int)(l:List SR):Bool:=
 bif Fy k||(decide (k=7)&&decide (0<l.length)) then decide (1≤l.length)&&decide (l.length≤1025)&&(decide ((pu l 0).Kind=1)||decide ((pu l 0).Kind=7))
 else bif decide (k=7) then decide (sh=0) else bif !decide (sh=0)|| !decide (fl=0) then false else bif decide (k=5) then decide (l.length=2)&&noneB (pu l 0) 7&&noneB (pu l 1) 7 else decide (l.length=0)
theorem gu {p q:Prop}[Decidable p][Decidable q](h:p↔q):decide p=decide q:=by
 by_cases hp:p
 ·rw [Ti hp,Ti (h.1 hp)]
 rw [Tj hp,Tj fun hq=>hp (h.2 hq)]
theorem HP (N:Nat)(c:Ta):iD N c=some (o9 c.Kind c.Shape c.Flags c.Slots):=by
 unfold iD o9;rw [H1,bs,gu (p:=(0:Int)<(c.Slots.length:Int)) (q:=0<c.Slots.length) V,gu (p:=(1:Int)≤(c.Slots.length:Int)) (q:=1≤c.Slots.length) V,gu (p:=(c.Slots.length:Int)≤1025) (q:=c.Slots.length≤1025) V,gu (p:=(c.Slots.length:Int)=2) (q:=c.Slots.length=2) V,gu (p:=(c.Slots.length:Int)=0) (q:=c.Slots.length=0) V]
 have hA: ∀b:Bool,((bif decide (1≤c.Slots.length) then some (decide (c.Slots.length≤1025)) else some false).bind fun b8=>(bif b8 then ((aF c.Slots 0).bind fun x10=>(bif decide (x10.Kind=1) then (some true) else ((aF c.Slots 0).bind fun x12=>some (decide (x12.Kind=7)))).bind fun b11=>some b11) else (some false)).bind fun b9=>some b9)=some (decide (1≤c.Slots.length)&&decide (c.Slots.length≤1025)&&(decide ((pu c.Slots 0).Kind=1)||decide ((pu c.Slots 0).Kind=7))):=fun _=>by
  by_cases h:1≤c.Slots.length
  ·have g:aF c.Slots 0=some (pu c.Slots 0):=ka (i:=0) V;rw [Ti h,g];simp only [bs];cases decide (c.Slots.length≤1025)<;>cases decide ((pu c.Slots 0).Kind=1)<;>cases decide ((pu c.Slots 0).Kind=7)<;>rfl
  rw [Tj h];rfl
 have hB:((bif decide (c.Slots.length=2) then ((aF c.Slots 0).bind fun x18=>(dI N x18 7).bind fun y19=>some y19) else (some false)).bind fun b17=>(bif b17 then ((aF c.Slots 1).bind fun x21=>(dI N x21 7).bind fun y22=>some y22) else (some false)).bind fun b20=>some b20)=some (decide (c.Slots.length=2)&&noneB (pu c.Slots 0) 7&&noneB (pu c.Slots 1) 7):=by
  by_cases h:c.Slots.length=2
  ·have g:aF c.Slots 0=some (pu c.Slots 0):=ka (i:=0) V;have g1:aF c.Slots 1=some (pu c.Slots 1):=ka (i:=1) V;rw [Ti h,g,g1];simp only [bs,sE];cases noneB (pu c.Slots 0) 7<;>cases noneB (pu c.Slots 1) 7<;>rfl
  rw [Tj h];rfl
 rw [hA true,hB];cases Fy c.Kind<;>cases decide (c.Kind=7)<;>cases decide (0<c.Slots.length)<;>cases decide (c.Shape=0)<;>cases decide (c.Flags=0)<;>cases decide (c.Kind=5)<;>rfl
def pF:List SR→Bool
 |k::v::r=>decide (k.Kind=7)&& !decide (v.Kind=8)&&pF r
 | [_]=>false
 | []=>true
def lB:List SR→Bool
 |t::h::k::s::r=>decide (t.Kind=7)&& !decide (h.Kind=8)&&(noneB k 7&&numB s 0 9007199254740992)&&lB r
 | []=>true
 |_=>false
theorem mA (k v:SR)(r:List SR):pF (k::v::r)=(decide (k.Kind=7)&& !decide (v.Kind=8)&&pF r):=Eq.trans rfl rfl
theorem my (t h k s:SR)(r:List SR):lB (t::h::k::s::r)=(decide (t.Kind=7)&& !decide (h.Kind=8)&&(noneB k 7&&numB s 0 9007199254740992)&&lB r):=Eq.trans rfl rfl
theorem EU: ∀{l:List SR},pF l=true→l.length%2=0
 | [],_=>rfl
 | [_],h=>by cases h
 |k::v::r,h=>by
  rw [mA] at h;rw [Bool.and_eq_true] at h;have:=EU h.2;simp only [List.length_cons];omega
theorem ET: ∀{l:List SR},lB l=true→l.length%4=0
 | [],_=>rfl
 | [_],h=>by cases h
 | [_,_],h=>by cases h
 | [_,_,_],h=>by cases h
 |t::a::k::s::r,h=>by
  rw [my] at h;rw [Bool.and_eq_true] at h;have:=ET h.2;simp only [List.length_cons];omega
theorem wG {l r:List SR}{i:Nat}{v:SR}(h:l.drop i=v::r):aF l (i:Int)=some v∧l.drop (i+1)=r:=by
 have hl:i<l.length:=by
  rcases Nat.lt_or_ge i l.length with h1|h1
  ·exact h1
  rw [List.drop_eq_nil_of_le h1] at h;cases h
 rw [List.drop_eq_getElem_cons hl] at h;obtain ⟨e1,e2⟩:=List.cons.inj h;exact ⟨by rw [br hl,e1],e2⟩
theorem EX (N:Nat)(l:List SR)(hl:l.length≤1000): ∀(m i:Nat),l.length<m+i→i≤l.length→(l.length - i)%2=0→fN N 2 l m (i:Int)=some (pF (l.drop i))
 |0,i,h,h2,_=>by omega
 | m+1,i,h,h2,h3=>by
  rw [fN.eq_2]
  match hd:l.drop i with
  | []=>
   have hi:l.length≤i:=by have:=congrArg List.length hd;rw [List.length_drop] at this;simp at this;omega
   rw [cK V,cf];rfl
  | [x]=>have:=congrArg List.length hd;rw [List.length_drop] at this;simp at this;omega
  |k::v::r=>
   have hlen:=congrArg List.length hd;rw [List.length_drop] at hlen;simp only [List.length_cons] at hlen;obtain ⟨g1,d1⟩:=wG hd;obtain ⟨g2,d2⟩:=wG d1;rw [show (((i+1:Nat)):Int)=(i:Int)+1 by omega] at g2;have ih:=EX N l hl m (i+2) V V V;rw [show (((i+2:Nat)):Int)=(i:Int)+2 by omega,d2] at ih;rw [cJ V,ct,g1,bs,r64 V V,g2,bs,Tj (p:=(2:Int)=4) (by decide),cf,bs,cf,r64 V V,ih];simp only [mA];cases decide (k.Kind=7)<;>cases decide (v.Kind=8)<;>rfl
theorem EV (N:Nat)(l:List SR)(hl:l.length≤1000): ∀(m i:Nat),l.length<m+i→i≤l.length→(l.length - i)%4=0→fN N 4 l m (i:Int)=some (lB (l.drop i))
 |0,i,h,h2,_=>by omega
 | m+1,i,h,h2,h3=>by
  rw [fN.eq_2]
  match hd:l.drop i with
  | []=>
   have hi:l.length≤i:=by have:=congrArg List.length hd;rw [List.length_drop] at this;simp at this;omega
   rw [cK V,cf];rfl
  | [x]=>have:=congrArg List.length hd;rw [List.length_drop] at this;simp at this;omega
  | [x,y]=>have:=congrArg List.length hd;rw [List.length_drop] at this;simp at this;omega
  | [x,y,z]=>have:=congrArg List.length hd;rw [List.length_drop] at this;simp at this;omega
  |t::v::k::s::r=>
   have hlen:=congrArg List.length hd;rw [List.length_drop] at hlen;simp only [List.length_cons] at hlen;obtain ⟨g1,d1⟩:=wG hd;obtain ⟨g2,d2⟩:=wG d1;obtain ⟨g3,d3⟩:=wG d2;obtain ⟨g4,d4⟩:=wG d3;rw [show (((i+1:Nat)):Int)=(i:Int)+1 by omega] at g2;rw [show (((i+1+1:Nat)):Int)=(i:Int)+2 by omega] at g3;rw [show (((i+1+1+1:Nat)):Int)=(i:Int)+3 by omega] at g4;have ih:=EV N l hl m (i+4) V V V;rw [show (((i+4:Nat)):Int)=(i:Int)+4 by omega,d4] at ih;rw [cJ V,ct,g1,bs,r64 V V,g2,bs,Ti (p:=(4:Int)=4) rfl,ct,r64 V V,g3,bs,sE,bs,r64 V V,g4,bs,ve,bs,r64 V V,ih];simp only [my];cases decide (t.Kind=7)<;>cases decide (v.Kind=8)<;>cases noneB k 7<;>cases numB s 0 9007199254740992<;>rfl
theorem Mz (N:Nat)(hN:2000<N)(l:List SR)(hl:l.length≤1000):dg N l 2=some (pF l):=by
 unfold dg;rw [kw (by decide)]
 have e:(l.length:Int).tmod 2=((l.length%2:Nat):Int):=by rw [Int.tmod_eq_emod_of_nonneg V];omega
 rw [e];by_cases h:l.length%2=0
 ·rw [h,Ti (p:=((0:Nat):Int)=0) rfl,nt,cf];exact EX N l hl N 0 V V V
 rw [Tj V,nf,ct]
 cases hb:pF l with
 |false=>rfl
 |true=>exact absurd (EU hb) h
theorem My (N:Nat)(hN:2000<N)(l:List SR)(hl:l.length≤1000):dg N l 4=some (lB l):=by
 unfold dg;rw [kw (by decide)]
 have e:(l.length:Int).tmod 4=((l.length%4:Nat):Int):=by rw [Int.tmod_eq_emod_of_nonneg V];omega
 rw [e];by_cases h:l.length%4=0
 ·rw [h,Ti (p:=((0:Nat):Int)=0) rfl,nt,cf];exact EV N l hl N 0 V V V
 rw [Tj V,nf,ct]
 cases hb:lB l with
 |false=>rfl
 |true=>exact absurd (ET hb) h
def qC (k:Int)(l:List SR):Bool:=
 bif decide (k=2) then decide (l.length≤4096)
 else bif decide (k=1)||decide (k=5) then decide (l.length=0)
 else bif decide (k=3) then decide (l.length=3)&&numB (pu l 0) 0 9007199254740992&&noneB (pu l 1) 9
 else bif decide (k=4) then decide (1≤l.length)&&decide (l.length≤4097)&&noneB (pu l 0) 9
 else bif decide (k=6) then decide (l.length=2)&&numB (pu l 0) 0 3&&noneB (pu l 1) 9
 else bif decide (k=7) then decide (4≤l.length)&&numB (pu l 2) 0 1&&numB (pu l 3) 0 9007199254740992
 else bif decide (k=8) then pF l
 else bif decide (k=10) then decide (1≤l.length)&&decide ((pu l 0).Kind=7)&&lB (l.drop 1)
 else bif decide (k=9) then decide (2≤l.length)&&numB (pu l 0) 0 2
 else true
theorem KF (N:Nat)(hN:2000<N)(c:Ta)(hc:c.More.length≤1000):jL N c=some (qC c.Kind c.More):=by
 have h6: ∀p:Bool,p=(decide (c.Kind=1)||decide (c.Kind=5))→c.Kind≠2→jv N c p=some (qC c.Kind c.More):=by
  intro p hp h2;subst hp;unfold jv qC;rw [gA h2,cf];rcases Bool.eq_false_or_eq_true (decide (c.Kind=1)||decide (c.Kind=5)) with h15|h15
  ·rw [h15,ct,ct,gu (p:=(c.More.length:Int)=0) (q:=c.More.length=0) V]
  rw [h15,cf,cf];by_cases k3:c.Kind=3
  ·rw [ot k3,ct,ct,gu (p:=(c.More.length:Int)=3) (q:=c.More.length=3) V];by_cases h:c.More.length=3
   ·have g0:aF c.More 0=some (pu c.More 0):=ka (i:=0) V;have g1:aF c.More 1=some (pu c.More 1):=ka (i:=1) V;rw [Ti h,g0,g1];simp only [bs,ve,sE];cases numB (pu c.More 0) 0 9007199254740992<;>cases noneB (pu c.More 1) 9<;>rfl
   rw [Tj h];rfl
  rw [gA k3,cf,cf];by_cases k4:c.Kind=4
  ·rw [ot k4,ct,ct,gu (p:=(1:Int)≤(c.More.length:Int)) (q:=1≤c.More.length) V,gu (p:=(c.More.length:Int)≤4097) (q:=c.More.length≤4097) V];by_cases h:1≤c.More.length
   ·have g0:aF c.More 0=some (pu c.More 0):=ka (i:=0) V;rw [Ti h,g0];simp only [bs,sE];cases decide (c.More.length≤4097)<;>cases noneB (pu c.More 0) 9<;>rfl
   rw [Tj h];rfl
  rw [gA k4,cf,cf];by_cases k6:c.Kind=6
  ·rw [ot k6,ct,ct,gu (p:=(c.More.length:Int)=2) (q:=c.More.length=2) V];by_cases h:c.More.length=2
   ·have g0:aF c.More 0=some (pu c.More 0):=ka (i:=0) V;have g1:aF c.More 1=some (pu c.More 1):=ka (i:=1) V;rw [Ti h,g0,g1];simp only [bs,ve,sE];cases numB (pu c.More 0) 0 3<;>cases noneB (pu c.More 1) 9<;>rfl
   rw [Tj h];rfl
  rw [gA k6,cf,cf];by_cases k7:c.Kind=7
  ·rw [ot k7,ct,ct,gu (p:=(4:Int)≤(c.More.length:Int)) (q:=4≤c.More.length) V];by_cases h:4≤c.More.length
   ·have g2:aF c.More 2=some (pu c.More 2):=ka (i:=2) V;have g3:aF c.More 3=some (pu c.More 3):=ka (i:=3) V;rw [Ti h,g2,g3];simp only [bs,ve];cases numB (pu c.More 2) 0 1<;>cases numB (pu c.More 3) 0 9007199254740992<;>rfl
   rw [Tj h];rfl
  rw [gA k7,cf,cf];by_cases k8:c.Kind=8
  ·rw [ot k8,ct,ct,Mz N hN _ hc,bs]
  rw [gA k8,cf,cf];by_cases k10:c.Kind=10
  ·rw [ot k10,ct,ct,gu (p:=(1:Int)≤(c.More.length:Int)) (q:=1≤c.More.length) V];by_cases h:1≤c.More.length
   ·have g0:aF c.More 0=some (pu c.More 0):=ka (i:=0) V;have hd:((c.More.drop ((1:Int).toNat)).take (c.More.length - (1:Int).toNat))=c.More.drop 1:=List.take_of_length_le (by rw [List.length_drop];exact Nat.le_refl _);rw [Ti h,g0,hd,kw ⟨by omega,by show 1≤_;omega,Nat.le_refl _⟩,My N hN _ (by rw [List.length_drop];omega)];simp only [bs];cases decide ((pu c.More 0).Kind=7)<;>cases lB (c.More.drop 1)<;>rfl
   rw [Tj h];rfl
  rw [gA k10,cf,cf];by_cases k9:c.Kind=9
  ·rw [ot k9,ct,ct,gu (p:=(2:Int)≤(c.More.length:Int)) (q:=2≤c.More.length) V];by_cases h:2≤c.More.length
   ·have g0:aF c.More 0=some (pu c.More 0):=ka (i:=0) V;rw [Ti h,g0];simp only [bs,ve];cases numB (pu c.More 0) 0 2<;>rfl
   rw [Tj h];rfl
  rw [gA k9,cf,cf]
 unfold jL;rw [cK V,cf];by_cases k2:c.Kind=2
 ·rw [ot k2,ct];unfold qC;rw [ot k2,ct,gu (p:=(c.More.length:Int)≤4096) (q:=c.More.length≤4096) V]
 rw [gA k2,cf];by_cases k1:c.Kind=1
 ·rw [ot k1,ct];exact h6 _ (by rw [ot k1];rfl) k2
 rw [gA k1,cf];exact h6 _ (by rw [gA k1];rfl) k2
def di (c:Ta):Bool:=
 (!decide (c.Kind<1)&& !decide (11<c.Kind)&& !decide (c.Shape<0)&& !decide (c.Flags<0)&& !decide (63<c.Flags)&& !decide (c.Age<0)&& !decide (1<c.Age))&&(c.Slots.all oX&&(c.More.all oX&&(o9 c.Kind c.Shape c.Flags c.Slots&&qC c.Kind c.More)))
theorem nU (N:Nat)(hN:2000<N)(c:Ta)(hS:c.Slots.length≤1000)(hc:c.More.length≤1000):cW N c=some (di c):=by
 have h19:dh N c=some (o9 c.Kind c.Shape c.Flags c.Slots&&qC c.Kind c.More):=by
  unfold dh;rw [HP,KF N hN c hc,bs];cases o9 c.Kind c.Shape c.Flags c.Slots<;>rfl
 have h20:lU N c N 0=some (c.More.all oX&&(o9 c.Kind c.Shape c.Flags c.Slots&&qC c.Kind c.More)):=by
  rw [wr (fun k i=>lU N c k i) c.More oX (some false) (some (o9 c.Kind c.Shape c.Flags c.Slots&&qC c.Kind c.More)) (fun k i h=> ?_) (fun k=> ?_) N V]
  ·cases c.More.all oX<;>rfl
  ·rw [lU.eq_2,cJ V,ct,br h,bs,GO,bs,r64 V V];cases oX c.More[i]<;>rfl
  rw [lU.eq_2,cK V,cf,h19]
 have h12:gF N c N 0=some (c.Slots.all oX&&(c.More.all oX&&(o9 c.Kind c.Shape c.Flags c.Slots&&qC c.Kind c.More))):=by
  rw [wr (fun k i=>gF N c k i) c.Slots oX (some false) (some (c.More.all oX&&(o9 c.Kind c.Shape c.Flags c.Slots&&qC c.Kind c.More))) (fun k i h=> ?_) (fun k=> ?_) N V]
  ·cases c.Slots.all oX<;>rfl
  ·rw [gF.eq_2,cJ V,ct,br h,bs,GO,bs,r64 V V];cases oX c.Slots[i]<;>rfl
  rw [gF.eq_2,cK V,cf];unfold xq;exact h20
 unfold cW di;rw [h12];cases decide (c.Kind<1)<;>cases decide (11<c.Kind)<;>cases decide (c.Shape<0)<;>cases decide (c.Flags<0)<;>cases decide (63<c.Flags)<;>cases decide (c.Age<0)<;>cases decide (1<c.Age)<;>rfl
theorem Dl (N:Nat)(x:Int)(l:List Int)(hl:l.length≤5000): ∀(m i:Nat),l.length<m+i→i≤l.length→Sat (jT N x l m (i:Int)) fun r=>decide (0≤r)=decide (x∈l.drop i)
 |0,i,h,h2=>by omega
 | m+1,i,h,h2=>by
  rw [jT.eq_2];by_cases hi:i<l.length
  ·rw [cJ V,ct,br hi,bs,List.drop_eq_getElem_cons hi]
   refine dQ (fun e=> ?_) fun e=> ?_
   ·exact aQ (by rw [Ti V,Ti];rw [e];exact List.mem_cons_self ..)
   rw [r64 V V];have:=Dl N x l hl m (i+1) V hi;simp only [Int.natCast_add,Int.cast_ofNat_Int] at this
   refine this.mono fun r hr=> ?_
   rw [hr];have:(x∈l[i]::l.drop (i+1))↔x∈l.drop (i+1):=⟨fun h=>(List.mem_cons.1 h).resolve_left (fun e2=>e e2),List.mem_cons_of_mem _⟩;rw [decide_eq_decide];exact this.symm
  rw [cK V,cf,List.drop_eq_nil_of_le V];exact aQ (by simp)
theorem oK (N:Nat)(hN:5000<N)(l:List Int)(hl:l.length≤5000)(x:Int):dM N l x=some (decide (x∈l)):=by
 obtain ⟨r,h1,h2⟩:=Dl N x l hl N 0 V V;unfold dM qh;rw [show jT N x l N 0=some r from h1,bs,h2];rfl
theorem RF (N:Nat)(hN:5000<N)(l:List Int)(hl:l.length≤5000)(x:Int):vb N x l=some (decide (x∈l)):=by
 apply Sat.eq;unfold vb
 have key: ∀(m i:Nat),l.length<m+i→i≤l.length→Sat (Al N x l m (i:Int)) (· =decide (x∈l.drop i)):=by
  intro m
  induction m with
  |zero=>intro i h h2;omega
  | succ m ih=>
   intro i h h2;rw [Al.eq_2];by_cases hi:i<l.length
   ·rw [cJ V,ct,br hi,bs,List.drop_eq_getElem_cons hi]
    refine dQ (fun e=> ?_) fun e=> ?_
    ·exact aQ (by rw [Ti];rw [e];exact List.mem_cons_self ..)
    rw [r64 V V];have:=ih (i+1) V hi;simp only [Int.natCast_add,Int.cast_ofNat_Int] at this
    refine this.mono fun r hr=> ?_
    rw [hr];have:(x∈l[i]::l.drop (i+1))↔x∈l.drop (i+1):=⟨fun h=>(List.mem_cons.1 h).resolve_left (fun e2=>e e2.symm),List.mem_cons_of_mem _⟩;rw [decide_eq_decide];exact this.symm
   rw [cK V,cf,List.drop_eq_nil_of_le V];exact aQ (by simp)
 exact key N 0 V V
theorem RE (N:Nat)(hN:5000<N)(l:List Int)(hl:l.length≤5000)(x:Int):CO N l x=some (decide (x∈l)):=by
 apply Sat.eq;unfold CO
 have key: ∀(m i:Nat),l.length<m+i→i≤l.length→Sat (Ak N x l m (i:Int)) (· =decide (x∈l.drop i)):=by
  intro m
  induction m with
  |zero=>intro i h h2;omega
  | succ m ih=>
   intro i h h2;rw [Ak.eq_2];by_cases hi:i<l.length
   ·rw [cJ V,ct,br hi,bs,List.drop_eq_getElem_cons hi]
    refine dQ (fun e=> ?_) fun e=> ?_
    ·exact aQ (by rw [Ti];rw [e];exact List.mem_cons_self ..)
    rw [r64 V V];have:=ih (i+1) V hi;simp only [Int.natCast_add,Int.cast_ofNat_Int] at this
    refine this.mono fun r hr=> ?_
    rw [hr];have:(x∈l[i]::l.drop (i+1))↔x∈l.drop (i+1):=⟨fun h=>(List.mem_cons.1 h).resolve_left (fun e2=>e e2.symm),List.mem_cons_of_mem _⟩;rw [decide_eq_decide];exact this.symm
   rw [cK V,cf,List.drop_eq_nil_of_le V];exact aQ (by simp)
 exact key N 0 V V
def opens (p:Int→Bool):List SR→List Int
 |k::v::l=>(bif bI v&&p k.N then [v.N] else [])++opens p l
 |_=> []
theorem oc (p:Int→Bool)(k v:SR)(l:List SR):opens p (k::v::l)=(bif bI v&&p k.N then [v.N] else [])++opens p l:=rfl
theorem EB (p:Int→Bool): ∀l:List SR,(opens p l).length≤l.length
 | []=>Nat.le_refl _
 | [_]=>Nat.zero_le _
 |k::v::l=>by
  have:=EB p l;rw [oc,List.length_append];cases bI v&&p k.N<;>simp<;>omega
theorem EA {p:Int→Bool}{x:Int}: ∀{l:List SR},x∈opens p l→ ∃v∈l,v.N=x
 | [],h=>by cases h
 | [_],h=>by cases h
 | k::v::l,h=>by
  rw [oc,List.mem_append] at h;rcases h with h|h
  ·cases hb:bI v&&p k.N
   ·rw [hb] at h;cases h
   rw [hb] at h;exact ⟨v,by simp,(List.mem_singleton.1 h).symm⟩
  obtain ⟨w,h1,h2⟩:=EA h;exact ⟨w,by simp [h1],h2⟩
theorem GI {p q:Int→Bool}(h: ∀x,p x=q x)(l:List SR):opens p l=opens q l:=by rw [show p=q from funext h]
theorem qJ (v:SR):((bif decide (v.Kind=7) then (some true) else (some (decide (v.Kind=9)))):Option Bool)=some (bI v):=by unfold bI;cases decide (v.Kind=7)<;>rfl
def dJ (N:Nat)(c:Ta)(l:List Int):List Int:=bif pm N c then opens (fun x=>decide (x∈l)) c.More else []
theorem CX (N:Nat)(c:Ta)(l:List Int):(dJ N c l).length≤c.More.length:=by
 unfold dJ;cases pm N c
 ·exact Nat.zero_le _
 exact EB _ _
theorem H5 {N:Nat}{c:Ta}{l:List Int}{x:Int}(h:x∈dJ N c l): ∃v∈c.Slots++c.More,v.N=x:=by
 unfold dJ at h;cases hw:pm N c
 ·rw [hw] at h;cases h
 rw [hw] at h;obtain ⟨v,h1,h2⟩:=EA h;exact ⟨v,by simp [h1],h2⟩
theorem H3 (N:Nat)(hN:5000<N)(l:List Int)(hl:l.length≤5000)(k v:SR)(s:List Int)(hs:s.length≤5000):cY (fun x st=>gT N l x st) (k,v) (none,s)=some (true,(none,s++(bif bI v&&decide (k.N∈l) then [v.N] else []))):=by
 unfold cY gT;simp only [qJ,bs,oK N hN l hl];cases bI v
 ·simp only [cf,bs,Bool.false_and,List.append_nil];rfl
 simp only [ct,bs,Bool.true_and];cases decide (k.N∈l)
 ·simp only [cf,List.append_nil];rfl
 simp only [ct];rw [rF (by simp;omega)];rfl
theorem zK (N:Nat)(hN:5000<N)(l:List Int)(hl:l.length≤5000)(c:Ta)(hc:c.More.length≤1000)(he:c.More.length%2=0): ∀(m i:Nat) (s:List Int),c.More.length<m+i→i≤c.More.length→i%2=0→s.length≤i→ei N (cY (fun x st=>gT N l x st)) c m (i:Int) (none,s)=some (none,s++opens (fun x=>decide (x∈l)) (c.More.drop i))
 |0,i,s,h,h2,_,_=>by omega
 | m+1,i,s,h,h2,h3,h4=>by
  rw [ei.eq_2,r64 (a:=(i:Int)+1) V V];by_cases hi:i<c.More.length
  ·have hi1:i+1<c.More.length:=by omega
   have hl1:aF c.More ((i:Int)+1)=some c.More[i+1]:=by
    have:=br hi1;simpa using this
   rw [cJ V,ct,br hi,bs,r64 (a:=(i:Int)+1) V V,hl1,bs,H3 N hN l hl _ _ s V,bs];simp only [nt,cf];rw [r64 V V]
   have hlen:(s++(bif bI c.More[i+1]&&decide (c.More[i].N∈l) then [c.More[i+1].N] else [])).length≤i+2:=by
    cases bI c.More[i+1]&&decide (c.More[i].N∈l)<;>simp<;>omega
   have:=zK N hN l hl c hc he m (i+2) _ V V V hlen;simp only [Int.natCast_add,Int.cast_ofNat_Int] at this;rw [this,List.drop_eq_getElem_cons hi,List.drop_eq_getElem_cons hi1,oc,Tl]
  rw [cK V,cf,List.drop_eq_nil_of_le V];simp [opens]
theorem CW (N:Nat)(hN:5000<N)(l:List Int)(hl:l.length≤5000)(c:Ta)(hS:c.Slots.length≤1000)(hc:c.More.length≤1000):mP N c l=some (dJ N c l):=by
 obtain ⟨-,h1,h2⟩:=Ig N V c hS hc;unfold mP dJ iy;rw [h1,bs];cases hw:pm N c
 ·rfl
 have e:kF N c=some ():=rfl;have:=zK N hN l hl c hc (h2 hw) N 0 [] V V rfl (by simp);simp only [nt,cf,ct,e,bs];have h3:ei N (cY (fun x st=>gT N l x st)) c N 0 (none,[])=some (none,[]++opens (fun x=>decide (x∈l)) (c.More.drop 0)):=this;rw [h3,bs];rfl
theorem Ky (N:Nat)(hN:5000<N)(l:List Int)(hl:l.length≤5000)(c:Ta)(hS:c.Slots.length≤1000)(hc:c.More.length≤1000):va N c l=some (dJ N c l):=by
 obtain ⟨h1, -,h2⟩:=Ig N V c hS hc;unfold va dJ;cases hw:pm N c
 ·obtain ⟨n,rfl⟩: ∃n,N=n+1:=⟨N - 1,by omega⟩;rw [pO.eq_2,h1,bs,hw];simp only [cf,bs];rfl
 have he:=h2 hw
 have key: ∀(m i:Nat) (s:List Int),c.More.length<m+i→i≤c.More.length→i%2=0→s.length≤i→pO N l c m s (i:Int)=some (s++opens (fun x=>decide (x∈l)) (c.More.drop i)):=by
  intro m
  induction m with
  |zero=>intro i s h h2;omega
  | succ m ih=>
   intro i s h h2 h3 h4;rw [pO.eq_2,h1,bs,hw,ct,bs];by_cases hi:i<c.More.length
   ·have hi1:i+1<c.More.length:=by omega
    have hl1:aF c.More ((i:Int)+1)=some c.More[i+1]:=by
     have:=br hi1;simpa using this
    rw [cJ V,ct,r64 (a:=(i:Int)+1) V V,hl1,bs,br hi,bs,RF N hN l hl,bs];simp only [qJ,bs]
    have hlen:(s++(bif bI c.More[i+1]&&decide (c.More[i].N∈l) then [c.More[i+1].N] else [])).length≤i+2:=by
     cases bI c.More[i+1]&&decide (c.More[i].N∈l)<;>simp<;>omega
    have:=ih (i+2) _ V V V hlen;simp only [Int.natCast_add,Int.cast_ofNat_Int] at this;rw [List.drop_eq_getElem_cons hi,List.drop_eq_getElem_cons hi1,oc, ←Tl, ←this];unfold rS;rw [r64 (a:=(i:Int)+2) V V,r64 (a:=(i:Int)+2) V V];cases decide (c.More[i].N∈l)
    ·simp only [cf,bs,Bool.and_false,List.append_nil]
    cases bI c.More[i+1]
    ·simp only [ct,cf,bs,Bool.and_true,List.append_nil]
    simp only [ct,bs,Bool.and_true];rw [rF (by simp;omega)]
   rw [cK V,cf,List.drop_eq_nil_of_le V];simp [opens,yR]
 have:=key N 0 [] V V rfl (by simp);simpa using this
theorem zf: ∀(b:Nat) {l:List Int},l.Nodup→(∀x∈l,1≤x∧x≤(b:Int))→l.length≤b
 |0,l,_,h=>by
  cases l with
  |nil=>exact Nat.le_refl _
  |cons x l=>have:=h x (by simp);omega
 | b+1,l,hn,h=>by
  have h1:=zf b (hn.erase ((b:Int)+1)) fun x hx=>by
   obtain ⟨h2,h3⟩:=hn.mem_erase_iff.1 hx;have:=h x h3;omega
  have h2:=List.length_erase (a:=(b:Int)+1) (l:=l);split at h2<;>omega
theorem PO (kv:List (Int×Unit))(a:Int):(lk kv a).isSome=decide (a∈kv.map (·.1)):=by
 unfold lk;rw [Bool.eq_iff_iff];simp [List.find?_isSome,List.mem_map]
def W64 (m:SP):Prop:= ∀c∈m.Young++m.Old, ∀v∈c.Slots++c.More,in64 v.N
theorem W64.at_ {m:SP}(h:W64 m)(a:Int): ∀v∈(cc m a).Slots++(cc m a).More,in64 v.N:=by
 unfold cc
 cases hc:ip m a with
 |none=>intro v hv;simp [Eg] at hv
 |some c=>exact h c (qX hc)
structure Tr (m:SP) (all:List Int) (met:List (Int×Unit)):Prop where
 nd:all.Nodup
 mem: ∀x,x∈met.map (·.1)↔x∈all
 has: ∀x∈all,bw m x=true
theorem Tr.len {m:SP}{roots:List SR}(hs:Small m roots){all:List Int}{met:List (Int×Unit)}(h:Tr m all met):all.length≤1200:=zf 1200 h.nd fun x hx=>⟨by have:=qM (h.has x hx);omega,by have:=wv hs (h.has x hx);omega⟩
theorem Tr.in64 {m:SP}{roots:List SR}(hs:Small m roots){all:List Int}{met:List (Int×Unit)}(h:Tr m all met){x:Int}(hx:x∈all):in64 x:=by
 have h1:=qM (h.has x hx);have h2:=wv hs (h.has x hx);unfold Go.Proofs.YtdcccmadhipinaaGreat.in64;omega
theorem Tr.add {m:SP}{all:List Int}{met:List (Int×Unit)}(h:Tr m all met){x:Int}(hx:x∉all)(hh:bw m x=true):Tr m (all++ [x]) (um met x ()):=⟨List.nodup_append.2 ⟨h.nd,by simp,fun a ha b hb e=>by rw [List.mem_singleton] at hb;subst hb;subst e;exact hx ha⟩,fun y=>by
 rw [ND,List.mem_append,List.mem_singleton,h.mem y];exact Or.comm,fun y hy=>by
 rcases List.mem_append.1 hy with hy|hy
 ·exact h.has y hy
 ·rw [List.mem_singleton] at hy;subst hy;exact hh⟩
def SI (m:SP)(all:List Int)(k:Nat):Prop:= ∀(i:Nat) (a x:Int),i<k→all[i]? =some a→x∈cA (cc m a)→bw m x=true→x∈all
theorem GT {m:SP}{roots:List SR}(hs:Small m roots)(hw:W64 m)(a:Int):(cA (cc m a)).length≤2000∧ ∀x∈cA (cc m a),in64 x:=by
 have h1:=hs.at_ a;have h2:=jO (cc m a);refine ⟨by omega,fun x hx=> ?_⟩;obtain ⟨v,h3,rfl⟩:=De hx;exact hw.at_ a v h3
structure Gr where
 has:Int→Bool
 leads:Int→List Int
 opens:List Int→Int→List Int
def dz (has:Int→Bool):List Int→List Int→List Int
 |row,[]=>row
 |row,x::l=>dz has (bif has x&& !decide (x∈row) then row++ [x] else row) l
inductive Thr (g:Gr):List Int→Nat→List Int→Prop
 |done {row:List Int} {k:Nat}:row.length≤k→Thr g row k row
 |step {row:List Int} {k:Nat} {a:Int} {r:List Int}:row[k]? =some a→Thr g (dz g.has row (g.leads a)) (k+1) r→Thr g row k r
def mJ (g:Gr):List Int→List Int→List Int
 |row,[]=>row
 |row,a::avs=>mJ g (dz g.has row (g.opens row a)) avs
inductive Ord (g:Gr):List Int→List Int→Prop
 |done {row:List Int}:mJ g row row=row→Ord g row row
 |step {row r1 r:List Int}:mJ g row row≠row→Thr g (mJ g row row) row.length r1→Ord g r1 r→Ord g row r
structure IsOrder (g:Gr) (roots:List Int) (b l:List Int):Prop where
 strong:Thr g (dz g.has [] roots) 0 b
 all:Ord g b l
theorem gZ (has:Int→Bool): ∀(row l:List Int), ∃t,dz has row l=row++t∧(∀x∈t,has x=true∧x∈l)
 |row,[]=>⟨[],by simp [dz],by simp⟩
 | row,x::l=>by
  unfold dz
  cases h:has x&& !decide (x∈row) with
  |false=>
   obtain ⟨t,h1,h2⟩:=gZ has row l;exact ⟨t,h1,fun y hy=>⟨(h2 y hy).1,by simp [(h2 y hy).2]⟩⟩
  |true=>
   obtain ⟨t,h1,h2⟩:=gZ has (row++ [x]) l;refine ⟨x::t,by rw [cond_true,h1];simp,fun y hy=> ?_⟩;rw [Bool.and_eq_true] at h;rcases List.mem_cons.1 hy with e|hy
   ·subst e;exact ⟨h.1,by simp⟩
   exact ⟨(h2 y hy).1,by simp [(h2 y hy).2]⟩
theorem qI (has:Int→Bool): ∀(row l l':List Int),dz has row (l++l')=dz has (dz has row l) l'
 |_,[],_=>rfl
 |row,x::l,l'=>by
  show dz has _ (l++l')=_;rw [qI has _ l l'];rfl
theorem oe {has:Int→Bool}: ∀{row:List Int} (l:List Int),row.Nodup→(dz has row l).Nodup
 |_,[],h=>h
 | row,x::l,h=>by
  unfold dz
  cases h2:has x&& !decide (x∈row) with
  |false=>exact oe l h
  |true=>
   rw [Bool.and_eq_true] at h2
   have hx:x∉row:=by simpa using h2.2
   exact oe l (List.nodup_append.2 ⟨h,by simp,fun a ha b hb e=>by rw [List.mem_singleton] at hb;subst hb;subst e;exact hx ha⟩)
theorem sK {has:Int→Bool}: ∀(row l:List Int) {x:Int},x∈l→has x=true→x∈dz has row l
 | row,y::l,x,h,hx=>by
  unfold dz;rcases List.mem_cons.1 h with e|h
  ·subst e;obtain ⟨t,h1, -⟩:=gZ has (bif has x&& !decide (x∈row) then row++ [x] else row) l;rw [h1];refine Tn _ ?_;rw [hx,Bool.true_and];by_cases hm:x∈row<;>simp [hm]
  exact sK _ l h hx
theorem zn {has:Int→Bool}{row l:List Int}{x:Int}(h:x∈dz has row l):x∈row∨(has x=true∧x∈l):=by
 obtain ⟨t,h1,h2⟩:=gZ has row l;rw [h1] at h;rcases List.mem_append.1 h with h|h
 ·exact .inl h
 exact .inr (h2 x h)
theorem sC (g:Gr): ∀(row avs:List Int), ∃t,mJ g row avs=row++t
 |row,[]=>⟨[],by simp [mJ]⟩
 |row,a::avs=>by
  obtain ⟨t,h1, -⟩:=gZ g.has row (g.opens row a);obtain ⟨t2,h2⟩:=sC g (dz g.has row (g.opens row a)) avs;exact ⟨t++t2,by unfold mJ;rw [h2,h1,Tl]⟩
theorem Am (g:Gr): ∀(row avs bs:List Int),mJ g row (avs++bs)=mJ g (mJ g row avs) bs
 |_,[],_=>rfl
 |row,a::avs,bs=>by
  show mJ g _ (avs++bs)=_;rw [Am g _ avs bs];rfl
theorem Bf {g:Gr}: ∀{row:List Int} (avs:List Int),row.Nodup→(mJ g row avs).Nodup
 |_,[],h=>h
 |_,_::avs,h=>Bf avs (oe _ h)
theorem Et {g:Gr}: ∀{row:List Int} (avs:List Int),(∀x∈row,g.has x=true)→ ∀x∈mJ g row avs,g.has x=true
 |_,[],h=>h
 |_,_::avs,h=>Et avs fun x hx=>(zn hx).elim (h x) (·.1)
theorem Thr.app {g:Gr}{row r:List Int}{k:Nat}(h:Thr g row k r): ∃t,r=row++t:=by
 induction h with
 |done _=>exact ⟨[],by simp⟩
 |step _ _ ih=>
  rename_i row _ a _ _ _
  obtain ⟨t,rfl⟩:=ih;obtain ⟨t2,h1, -⟩:=gZ g.has row (g.leads a);exact ⟨t2++t,by rw [h1,Tl]⟩
theorem Thr.nodup {g:Gr}{row r:List Int}{k:Nat}(h:Thr g row k r)(hn:row.Nodup):r.Nodup:=by
 induction h with
 |done _=>exact hn
 |step _ _ ih=>exact ih (oe _ hn)
theorem Thr.has {g:Gr}{row r:List Int}{k:Nat}(h:Thr g row k r)(hn: ∀x∈row,g.has x=true): ∀x∈r,g.has x=true:=by
 induction h with
 |done _=>exact hn
 |step _ _ ih=>exact ih fun x hx=>(zn hx).elim (hn x) (·.1)
theorem Thr.det {g:Gr}{row r r':List Int}{k:Nat}(h:Thr g row k r)(h':Thr g row k r'):r=r':=by
 induction h with
 |done hk=>
  cases h' with
  |done _=>rfl
  |step ha _=>rw [List.getElem?_eq_none hk] at ha;cases ha
 |step ha _ ih=>
  cases h' with
  |done hk=>rw [List.getElem?_eq_none hk] at ha;cases ha
  |step ha' h2=>rw [ha] at ha';cases ha';exact ih h2
theorem Ord.det {g:Gr}{row r r':List Int}(h:Ord g row r)(h':Ord g row r'):r=r':=by
 induction h with
 |done hk=>
  cases h' with
  |done _=>rfl
  |step ha _ _=>exact absurd hk ha
 |step ha h1 _ ih=>
  cases h' with
  |done hk=>exact absurd hk ha
  |step _ h1' h2=>exact ih (h1.det h1'▸h2)
theorem IsOrder.det {g:Gr}{roots b l b' l':List Int}(h:IsOrder g roots b l)(h':IsOrder g roots b' l'):b=b'∧l=l':=by
 obtain ⟨h1,h2⟩:=h;obtain ⟨h3,h4⟩:=h';have e:=h1.det h3;subst e;exact ⟨J,h2.det h4⟩
theorem Ord.app {g:Gr}{row r:List Int}(h:Ord g row r): ∃t,r=row++t:=by
 induction h with
 |done _=>exact ⟨[],by simp⟩
 |step _ h1 _ ih=>
  rename_i row r1 _ _ _
  obtain ⟨t,rfl⟩:=ih;obtain ⟨t1,rfl⟩:=h1.app;obtain ⟨t2,h2⟩:=sC g row row;exact ⟨t2++t1++t,by rw [h2];simp [Tl]⟩
theorem Ord.nodup {g:Gr}{row r:List Int}(h:Ord g row r)(hn:row.Nodup):r.Nodup:=by
 induction h with
 |done _=>exact hn
 |step _ h1 _ ih=>exact ih (h1.nodup (Bf _ hn))
theorem Ord.has {g:Gr}{row r:List Int}(h:Ord g row r)(hn: ∀x∈row,g.has x=true): ∀x∈r,g.has x=true:=by
 induction h with
 |done _=>exact hn
 |step _ h1 _ ih=>exact ih (h1.has (Et _ hn))
theorem IsOrder.nodup {g:Gr}{roots b l:List Int}(h:IsOrder g roots b l):b.Nodup∧l.Nodup:=
 have hb:=h.strong.nodup (oe _ List.nodup_nil)
 ⟨hb,h.all.nodup hb⟩
theorem IsOrder.has {g:Gr}{roots b l:List Int}(h:IsOrder g roots b l):(∀x∈b,g.has x=true)∧ ∀x∈l,g.has x=true:=
 have hb:=h.strong.has fun x hx=>(zn hx).elim (fun h=>by cases h) (·.1)
 ⟨hb,h.all.has hb⟩
theorem IsOrder.sub {g:Gr}{roots b l:List Int}(h:IsOrder g roots b l){x:Int}(hx:x∈b):x∈l:=by
 obtain ⟨t,e⟩:=h.all.app;rw [e];exact Tn _ hx
theorem IsOrder.roots {g:Gr}{roots b l:List Int}(h:IsOrder g roots b l){x:Int}(hx:x∈roots)(hh:g.has x=true):x∈b:=by
 obtain ⟨t,e⟩:=h.strong.app;rw [e];exact Tn _ (sK _ _ hx hh)
def CloG (g:Gr)(row:List Int)(k:Nat):Prop:= ∀(i:Nat) (a x:Int),i<k→row[i]? =some a→x∈g.leads a→g.has x=true→x∈row
theorem CloG.app {g:Gr}{row t:List Int}{k:Nat}(hk:k≤row.length)(h:CloG g row k):CloG g (row++t) k:=fun i a x hi ha hx hh=>by
 rw [List.getElem?_append_left V] at ha;exact Tn _ (h i a x hi ha hx hh)
theorem Thr.clo {g:Gr}{row r:List Int}{k:Nat}(h:Thr g row k r)(hk:k≤row.length)(hc:CloG g row k):CloG g r r.length:=by
 induction h with
 |done hk2=>intro i a x hi ha hx hh;exact hc i a x V ha hx hh
 | step ha _ ih=>
  rename_i row k a _ _
  have hlt:=(List.getElem?_eq_some_iff.1 ha).1;obtain ⟨t,h1, -⟩:=gZ g.has row (g.leads a)
  refine ih (by rw [h1,List.length_append];omega) fun i b x hi hb hx hh=> ?_
  by_cases e:i=k
  ·subst e;rw [h1,List.getElem?_append_left hlt,ha] at hb;cases hb;exact sK _ _ hx hh
  rw [h1] at hb⊢;exact (CloG.app hk hc (t:=t)) i b x V hb hx hh
theorem Eu {g:Gr}: ∀{row avs:List Int},mJ g row avs=row→ ∀a∈avs, ∀x∈g.opens row a,g.has x=true→x∈row
 | row,b::avs,h,a,ha,x,hx,hh=>by
  have h1:dz g.has row (g.opens row b)=row:=by
   obtain ⟨t,e1, -⟩:=gZ g.has row (g.opens row b);obtain ⟨t2,e2⟩:=sC g (dz g.has row (g.opens row b)) avs
   have h3:row++t++t2=row:=by rw [←e1, ←e2];exact h
   have h4:=congrArg List.length h3;simp only [List.length_append] at h4;have h5:t=[]:=List.eq_nil_of_length_eq_zero V;rw [e1,h5,List.append_nil]
  rcases List.mem_cons.1 ha with e|ha
  ·subst e;have:=sK row _ hx hh;rwa [h1] at this
  refine Eu (avs:=avs) ?_ a ha x hx hh;unfold mJ at h;rw [h1] at h;exact h
theorem Ord.closed {g:Gr}{row r:List Int}(h:Ord g row r)(hc:CloG g row row.length):CloG g r r.length∧ ∀a∈r, ∀x∈g.opens r a,g.has x=true→x∈r:=by
 induction h with
 |done hp=>exact ⟨hc,Eu hp⟩
 |step _ h1 _ ih=>
  rename_i row _ _ _ _
  obtain ⟨t,e⟩:=sC g row row;refine ih (h1.clo (by rw [e,List.length_append];omega) ?_);rw [e];exact hc.app (Nat.le_refl _)
theorem IsOrder.closed {g:Gr}{roots b l:List Int}(h:IsOrder g roots b l):(∀a∈l, ∀x∈g.leads a,g.has x=true→x∈l)∧ ∀a∈l, ∀x∈g.opens l a,g.has x=true→x∈l:=by
 obtain ⟨h1,h2⟩:=h.all.closed (h.strong.clo (Nat.zero_le _) fun i _ _ hi=>absurd hi V);refine ⟨fun a ha x hx hh=> ?_,h2⟩;obtain ⟨i,hi,e⟩:=List.getElem_of_mem ha;exact h1 i a x hi (by rw [List.getElem?_eq_getElem hi,e]) hx hh
structure ClosedS (g:Gr) (S:Int→Prop):Prop where
 leads: ∀a,S a→ ∀x∈g.leads a,g.has x=true→S x
 opens: ∀row:List Int,(∀x∈row,S x)→ ∀a,S a→ ∀x∈g.opens row a,g.has x=true→S x
def DT (N:Nat)(m:SP):Gr:=⟨bw m,fun a=>cA (cc m a),fun row a=>dJ N (cc m a) row⟩
def bZ (l:List SR):List Int:=(l.filter bI).map (·.N)
theorem wH (l l':List SR):bZ (l++l')=bZ l++bZ l':=by unfold bZ;simp
theorem lw {l:List SR}{x:Int}:x∈bZ l↔ ∃v∈l,bI v=true∧v.N=x:=by
 unfold bZ;simp only [List.mem_map,List.mem_filter];constructor
 ·rintro ⟨v,⟨h1,h2⟩,h3⟩;exact ⟨v,h1,h2,h3⟩
 rintro ⟨v,h1,h2,h3⟩;exact ⟨v,⟨h1,h2⟩,h3⟩
theorem FJ (N:Nat){m:SP}{roots:List SR}(hN:5000<N)(hs:Small m roots)(d:Int)(l:List Int)(hl:l.length≤2000)(h64: ∀x∈l,in64 x){all:List Int}{met:List (Int×Unit)}(ht:Tr m all met):
  Sat (eb N ⟨m,all,met,d⟩ l) fun r=>r.m_=m∧r.done_=d∧Tr m r.all_ r.met_∧r.all_=dz (bw m) all l:=by
 unfold eb;refine cX (fun k i (s:List Int×List (Int×Unit))=>df N l ⟨m,all,met,d⟩ k (i:Int) s.1 s.2) l.length (fun i s=>Tr m s.1 s.2∧s.1=dz (bw m) all (l.take i)) _ ?_ ?_ N 0 (all,met) V V ⟨ht,J⟩
 ·rintro k i ⟨al,mt⟩ hi ⟨h1,h2⟩ go;show Sat (df N l ⟨m,all,met,d⟩ (k+1) i al mt) _;simp only at h1 h2;have hx64:=h64 l[i] (List.getElem_mem _)
  have hnext:dz (bw m) all (l.take (i+1))=(bif bw m l[i]&& !decide (l[i]∈al) then al++ [l[i]] else al):=by
   rw [bh hi,qI, ←h2];rfl
  rw [df.eq_2,cJ V,ct,br hi,bs,PO];unfold iC;rw [r64 (a:=(i:Int)+1) V V,r64 (a:=(i:Int)+1) V V];by_cases hm:l[i]∈al
  ·rw [Ti ((h1.mem _).2 hm)];simp only [nt,cf,bs];exact go (al,mt) ⟨h1,by rw [hnext,Ti hm];simp⟩
  rw [Tj (fun h=>hm ((h1.mem _).1 h))];simp only [nf,ct,bs,sM N m _ hx64];cases hh:bw m l[i]
  ·simp only [cf];exact go (al,mt) ⟨h1,by rw [hnext,hh];rfl⟩
  simp only [ct];have hlen:=h1.len hs;rw [rF (by simp;omega)];exact go (al++ [l[i]],um mt l[i] ()) ⟨h1.add hm hh,by rw [hnext,hh,Tj hm];rfl⟩
 rintro k ⟨al,mt⟩ ⟨h1,h2⟩;show Sat (df N l ⟨m,all,met,d⟩ (k+1) _ al mt) _;rw [df.eq_2,cK V,cf];exact aQ ⟨J,J,h1,by simpa using h2⟩
theorem AQ (N:Nat)(hN:5000<N){m:SP}{roots:List SR}(hs:Small m roots)(hw:W64 m){all:List Int}{met:List (Int×Unit)}(ht:Tr m all met)(k:Nat)(hk:k≤all.length):
  Sat (gn N ⟨m,all,met,(k:Int)⟩) fun r=>r.m_=m∧r.done_=(r.all_.length:Int)∧Tr m r.all_ r.met_∧Thr (DT N m) all k r.all_:=by
 unfold gn;refine nu (fun f (s:List Int×List (Int×Unit)×Nat)=>fM N f m.Young m.Old s.1 s.2.1 (s.2.2:Int)) (fun s=>1300 - s.2.2) (fun s=>Tr m s.1 s.2.1∧s.2.2≤s.1.length∧ ∀r,Thr (DT N m) s.1 s.2.2 r→Thr (DT N m) all k r) _ ?_ N (all,met,k) (by show 1300 - k<N;omega) ⟨ht,hk,fun _ h=>h⟩;rintro f ⟨al,mt,j⟩ ⟨h1,h3,h4⟩ go;show Sat (fM N (f+1) m.Young m.Old al mt (j:Int)) _;simp only at h1 h3 h4;have hlen:=h1.len hs;rw [fM.eq_2];by_cases hj:j<al.length
 ·have hx:=List.getElem_mem hj;have hat:=Gf N hs al[j] (h1.in64 hs hx);have hsm:=hs.at_ al[j];obtain ⟨hl1,hl2⟩:=GT hs hw al[j];rw [cJ V,ct,br hj,bs];have hat':fq N ⟨m.Young,m.Old⟩ al[j]=some (cc m al[j]):=hat;rw [hat',bs,mu N V _ V V,bs];refine Sat.bind (FJ N hN hs (j:Int) _ hl1 hl2 h1) ?_;rintro ⟨m',al',mt',d'⟩ ⟨e1,e2,h5,h6⟩;simp only at e1 e2 h5 h6;subst e1 e2;have hlen':=h5.len hs
  dsimp only
  rw [r64 V V]
  have hge:al.length≤al'.length:=by
   obtain ⟨t,e, -⟩:=gZ (bw m') al (cA (cc m' al[j]));rw [h6,e,List.length_append];omega
  have hgo:=go (al',mt',j+1) (by show 1300 - (j+1)<1300 - j;omega) ⟨h5,by show j+1≤al'.length;omega,fun r hr=>h4 r (.step (List.getElem?_eq_getElem hj) (by rw [h6] at hr;exact hr))⟩;simpa using hgo
 have:j=al.length:=by omega
 subst this;rw [cK V,cf];exact aQ ⟨J,J,h1,h4 _ (.done (Nat.le_refl _))⟩
theorem K9 (N:Nat)(hN:5000<N){m:SP}{roots:List SR}(hs:Small m roots)(hw:W64 m)(hr: ∀v∈roots,in64 v.N):
  Sat (ke N m roots) fun r=>r.m_=m∧r.done_=(r.all_.length:Int)∧Tr m r.all_ r.met_∧Thr (DT N m) (dz (bw m) [] (bZ roots)) 0 r.all_:=by
 have hrl:=hs.roots;unfold ke;refine cX (fun k i (s:List Int×List (Int×Unit))=>iu N roots k (i:Int) m.Young m.Old s.1 s.2 0) roots.length (fun i s=>Tr m s.1 s.2∧s.1=dz (bw m) [] (bZ (roots.take i))) _ ?_ ?_ N 0 ([],[]) V V ⟨⟨by simp,by simp,by simp⟩,J⟩
 ·rintro k i ⟨al,mt⟩ hi ⟨h1,h2⟩ go;show Sat (iu N roots (k+1) (i:Int) m.Young m.Old al mt 0) _;simp only at h1 h2;have hx64:=hr roots[i] (List.getElem_mem _)
  have ha:gg N roots[i]=some (roots[i].N,bI roots[i]):=by
   unfold gg;rw [qJ,bs]
  have hnext:dz (bw m) [] (bZ (roots.take (i+1)))=dz (bw m) al (bZ [roots[i]]):=by
   rw [bh hi,wH,qI, ←h2]
  rw [iu.eq_2,cJ V,ct,br hi,bs];unfold nV;rw [ha,bs];cases hb:bI roots[i]
  ·simp only [cf,bs];rw [r64 V V];refine go (al,mt) ⟨h1,?_⟩;rw [hnext];simp [bZ,hb,dz]
  simp only [ct];obtain ⟨⟨m',al',mt',d'⟩,e0,e1,e2,h5,h6⟩:=FJ N hN hs 0 [roots[i].N] (by simp) (by intro x hx;rw [List.mem_singleton] at hx;subst hx;exact hx64) h1;simp only at e1 e2 h5 h6;subst e1 e2;have e0':eb N ⟨⟨m'.Young,m'.Old⟩,al,mt,0⟩ [roots[i].N]=some ⟨m',al',mt',0⟩:=e0;rw [e0',bs,bs]
  dsimp only
  rw [r64 V V];refine go (al',mt') ⟨h5,?_⟩;show al'=_;rw [hnext,h6];simp [bZ,hb]
 rintro k ⟨al,mt⟩ ⟨h1,h2⟩;show Sat (iu N roots (k+1) _ m.Young m.Old al mt 0) _;rw [iu.eq_2,cK V,cf];unfold qu;refine Sat.bind (AQ N hN hs hw h1 0 (Nat.zero_le _)) ?_;rintro r ⟨e1,e2,h5,h6⟩;simp only [List.take_length] at h2;exact aQ ⟨e1,e2,h5,by rw [←h2];exact h6⟩
theorem GH (N:Nat){m:SP}{roots:List SR}(hs:Small m roots)(hw:W64 m)(a:Int)(l:List Int):(dJ N (cc m a) l).length≤2000∧ ∀x∈dJ N (cc m a) l,in64 x:=by
 have h1:=hs.at_ a;have h2:=CX N (cc m a) l;refine ⟨by omega,fun x hx=> ?_⟩;obtain ⟨v,h3,rfl⟩:=H5 hx;exact hw.at_ a v h3
theorem Lu (N:Nat)(hN:5000<N){m:SP}{roots:List SR}(hs:Small m roots)(hw:W64 m){all:List Int}{met:List (Int×Unit)}(ht:Tr m all met)(d:Int):
  Sat (jj N ⟨m,all,met,d⟩) fun r=>r.2.m_=m∧r.2.done_=d∧Tr m r.2.all_ r.2.met_∧r.1=decide ((all.length:Int)<(r.2.all_.length:Int))∧r.2.all_=mJ (DT N m) all all:=by
 have hlen:=ht.len hs;unfold jj;refine cX (fun k i (s:List Int×List (Int×Unit))=>dt N ⟨m,all,met,d⟩ k (i:Int) m.Young m.Old s.1 s.2 d) all.length (fun i s=>Tr m s.1 s.2∧(∃t,s.1=all++t)∧s.1=mJ (DT N m) all (all.take i)) _ ?_ ?_ N 0 (all,met) V V ⟨ht,⟨[],by simp⟩,J⟩
 ·rintro k i ⟨al,mt⟩ hi ⟨h1,⟨t,h2⟩,h3⟩ go;show Sat (dt N ⟨m,all,met,d⟩ (k+1) (i:Int) m.Young m.Old al mt d) _;simp only at h1 h2 h3;have hlen1:=h1.len hs
  have htk:List.take all.length al=all:=by rw [h2,List.take_left'];rfl
  have hx:=List.getElem_mem hi;have hsm:=hs.at_ all[i];have hat:fq N ⟨m.Young,m.Old⟩ all[i]=some (cc m all[i]):=Gf N hs all[i] (ht.in64 hs hx)
  have hnext:mJ (DT N m) all (all.take (i+1))=dz (bw m) al (dJ N (cc m all[i]) al):=by
   rw [bh hi,Am, ←h3];rfl
  rw [dt.eq_2];simp only [List.take_length];rw [cJ V,ct,htk,br hi,bs,hat,bs];unfold jJ;by_cases h8:(cc m all[i]).Kind=8
  ·rw [ot h8,ct,CW N hN al V _ V V,bs];obtain ⟨hl1,hl2⟩:=GH N hs hw all[i] al;obtain ⟨⟨m',al',mt',d'⟩,e0,e1,e2,h5,h6⟩:=FJ N hN hs d _ hl1 hl2 h1;simp only at e1 e2 h5 h6;subst e1 e2;have e0':eb N ⟨⟨m'.Young,m'.Old⟩,al,mt,d'⟩ (dJ N (cc m' all[i]) al)=some ⟨m',al',mt',d'⟩:=e0;rw [e0',bs]
   dsimp only
   rw [r64 V V];obtain ⟨t',e', -⟩:=gZ (bw m') al (dJ N (cc m' all[i]) al);exact go (al',mt') ⟨h5,⟨t++t',by show al'=_;rw [h6,e',h2,Tl]⟩,by show al'=_;rw [hnext,h6]⟩
  rw [gA h8,cf,r64 V V];refine go (al,mt) ⟨h1,⟨t,h2⟩,?_⟩
  have h0:dJ N (cc m all[i]) al=[]:=by
   unfold dJ pm;rw [gA h8];rfl
  show al=_;rw [hnext,h0];rfl
 rintro k ⟨al,mt⟩ ⟨h1,⟨t,h2⟩,h3⟩;show Sat (dt N ⟨m,all,met,d⟩ (k+1) _ m.Young m.Old al mt d) _;rw [dt.eq_2];simp only [List.take_length] at h3⊢;rw [cK V,cf];exact aQ ⟨J,J,h1,J,h3⟩
theorem Kx (N:Nat)(hN:5000<N){m:SP}{roots:List SR}(hs:Small m roots)(hw:W64 m)(hr: ∀v∈roots,in64 v.N):
  ∃b all,IsOrder (DT N m) (bZ roots) b.all_ all∧all.length≤1200∧b.all_.length≤1200∧ke N m roots=some b∧eE N m roots=some all:=by
 obtain ⟨⟨m',al0,mt0,d0⟩,e0,e1,e2,h1,h2⟩:=K9 N hN hs hw hr;simp only at e1 e2 h1 h2;subst e1 e2;have hlen0:=h1.len hs
 have key:Sat (eE N m' roots) fun all=>Ord (DT N m') al0 all∧all.length≤1200:=by
  unfold eE;rw [e0,bs];refine nu (fun f (s:List Int×List (Int×Unit))=>jX N f m'.Young m'.Old s.1 s.2 (s.1.length:Int)) (fun s=>1300 - s.1.length) (fun s=>Tr m' s.1 s.2∧ ∀r,Ord (DT N m') s.1 r→Ord (DT N m') al0 r) _ ?_ N (al0,mt0) (by show 1300 - al0.length<N;omega) ⟨h1,fun _ h=>h⟩;rintro f ⟨al,mt⟩ ⟨h4,h5⟩ go;show Sat (jX N (f+1) m'.Young m'.Old al mt (al.length:Int)) _;simp only at h4 h5;have hlen:=h4.len hs;rw [jX.eq_2];obtain ⟨⟨b,m2,al2,mt2,d2⟩,g0,g1,g2,g3,g5,g6⟩:=Lu N hN hs hw h4 (al.length:Int);simp only at g1 g2 g3 g5 g6;subst g1 g2;have hlen2:=g3.len hs;have g0':jj N ⟨⟨m2.Young,m2.Old⟩,al,mt,(al.length:Int)⟩=some (b,⟨m2,al2,mt2,(al.length:Int)⟩):=g0;obtain ⟨t2,ht2⟩:=sC (DT N m2) al al;rw [g0',bs]
  dsimp only
  rw [g5]
  refine dQ (fun hlt=> ?_) fun hge=> ?_
  ·refine Sat.bind (AQ N hN hs hw g3 al.length V) ?_;rintro ⟨m3,al3,mt3,d3⟩ ⟨k1,k2,k3,k4⟩;simp only at k1 k2 k3 k4;subst k1 k2;have hlen3:=k3.len hs;refine go (al3,mt3) ?_ ⟨k3,fun r h=>h5 r (.step ?_ (by rw [←g6];exact k4) h)⟩
   ·show 1300 - al3.length<1300 - al.length;obtain ⟨t3,e3⟩:=k4.app
    have:al2.length≤al3.length:=by rw [e3,List.length_append];omega
    omega
   rw [←g6];intro e;rw [e] at hlt;omega
  have e:al2=al:=by
   rw [ht2] at g6;have h0:t2=[]:=List.eq_nil_of_length_eq_zero (by rw [g6,List.length_append] at hge;omega);rw [g6,h0,List.append_nil]
  subst e;unfold ph;exact aQ ⟨h5 _ (.done g6.symm),by omega⟩
 obtain ⟨all,k1,k2,k3⟩:=key;exact ⟨⟨m',al0,mt0,(al0.length:Int)⟩,all,⟨h2,k2⟩,k3,hlen0,e0,k1⟩
theorem pX (l:List Int)(x:Int):x∈iY l↔x∈l:=by unfold iY;exact List.mem_mergeSort
theorem z7 {l:List Int}(h:l.Nodup):(iY l).Pairwise (· < ·):=by
 have h1:(iY l).Pairwise fun a b=>decide (a≤b)=true:=List.pairwise_mergeSort (by intro a b c h1 h2;simp at*;omega) (by intro a b;simp;omega) l
 have h2:(iY l).Nodup:=(List.mergeSort_perm l _).nodup_iff.2 h;rw [List.nodup_iff_pairwise_ne] at h2;exact h1.imp₂ (fun a b h3 h4=>by simp at h3;omega) h2
theorem Co {l s:List Int}(h:l.Nodup)(hs:s.Pairwise (· < ·))(he: ∀x,x∈l↔x∈s):iY l=s:=JV (z7 h) hs fun x=>(pX l x).trans (he x)
theorem Ke (N:Nat)(l:List Int)(h:l.length≤5000):lP N l=some (iY l):=by
 unfold lP;rw [rF V]
def Sw (n:Int):SR:=⟨7,n,⟨#[]⟩⟩
def Se (l:List SR):Ta:=⟨11,0,0,0,[],l⟩
def SA:SP:=⟨[⟨11,0,0,0,[],[⟨7,3,⟨#[]⟩⟩,⟨7,2,⟨#[]⟩⟩]⟩,⟨11,0,0,0,[],[]⟩],[⟨11,0,0,0,[],[]⟩]⟩
def Sy:SP:=⟨[⟨8,0,0,0,[⟨1,0,⟨#[]⟩⟩],[⟨7,3,⟨#[]⟩⟩,⟨7,5,⟨#[]⟩⟩]⟩,⟨11,0,0,0,[],[]⟩,⟨11,0,0,0,[],[]⟩],[]⟩
theorem N2 {N:Nat}{m:SP}{roots:List SR}{l s:List Int}(h:eE N m roots=some l)(hl:l.length≤5000)(hs:iY l=s):ed N m roots=some s:=by
 unfold ed;rw [h,bs,Ke N l hl,bs,hs]
structure Tq (m:SP) (all:List Int):Prop where
 nd:all.Nodup
 has: ∀x∈all,bw m x=true
theorem Tq.len {m:SP}{roots:List SR}(hs:Small m roots){all:List Int}(h:Tq m all):all.length≤1200:=zf 1200 h.nd fun x hx=>⟨by have:=qM (h.has x hx);omega,by have:=wv hs (h.has x hx);omega⟩
theorem Tq.in64 {m:SP}{roots:List SR}(hs:Small m roots){all:List Int}(h:Tq m all){x:Int}(hx:x∈all):in64 x:=by
 have h1:=qM (h.has x hx);have h2:=wv hs (h.has x hx);unfold Go.Proofs.YtdcccmadhipinaaGreat.in64;omega
theorem Tq.lay {m:SP}{all:List Int}(h:Tq m all)(l:List Int):Tq m (dz (bw m) all l):=⟨oe l h.nd,fun x hx=>(zn hx).elim (h.has x) (·.1)⟩
theorem Cu (N:Nat){m:SP}{roots:List SR}(hN:5000<N)(hs:Small m roots)(l:List Int)(hl:l.length≤2000)(h64: ∀x∈l,in64 x){all:List Int}(ht:Tq m all):oa N m all l=some (dz (bw m) all l):=by
 apply Sat.eq;unfold oa;refine cX (fun k i (s:List Int)=>nZ N l m k s (i:Int)) l.length (fun i s=>Tq m s∧s=dz (bw m) all (l.take i)) _ ?_ ?_ N 0 all V V ⟨ht,J⟩
 ·rintro k i s hi ⟨h0,h1⟩ go;show Sat (nZ N l m (k+1) s (i:Int)) _;have hx64:=h64 l[i] (List.getElem_mem _);have hsl:=h0.len hs
  have hnext:dz (bw m) all (l.take (i+1))=(bif bw m l[i]&& !decide (l[i]∈s) then s++ [l[i]] else s):=by
   rw [bh hi,qI, ←h1];rfl
  have hT:Tq m (dz (bw m) all (l.take (i+1))):=ht.lay _;rw [nZ.eq_2,cJ V,ct];simp only [br hi,bs,Jb N m _ hx64,RE N hN s V l[i]];unfold uY;cases hh:bw m l[i]
  ·simp only [cf,bs];rw [r64 V V];exact go s ⟨h0,by rw [hnext,hh];rfl⟩
  simp only [ct,bs];by_cases hm:l[i]∈s
  ·rw [Ti hm];simp only [nt,cf];rw [r64 V V];exact go s ⟨h0,by rw [hnext,hh,Ti hm];rfl⟩
  have e:dz (bw m) all (l.take (i+1))=s++ [l[i]]:=by rw [hnext,hh,Tj hm];rfl
  rw [Tj hm];simp only [nf,ct];rw [rF (by simp;omega),r64 V V];exact go (s++ [l[i]]) ⟨e▸hT,e.symm⟩
 rintro k s ⟨h0,h1⟩;show Sat (nZ N l m (k+1) s _) _;rw [nZ.eq_2,cK V,cf];exact aQ (by simpa using h1)
theorem Kq (N:Nat)(hN:5000<N)(l:List SR)(hl:l.length≤2000):iv N l=some (bZ l):=by
 apply Sat.eq;unfold iv;refine cX (fun k i (s:List Int)=>gL N l k s (i:Int)) l.length (fun i s=>s=bZ (l.take i)) _ ?_ ?_ N 0 [] V V J
 ·rintro k i s hi h1 go;show Sat (gL N l (k+1) s (i:Int)) _
  have hsl:s.length≤2000:=by
   rw [h1];unfold bZ;rw [List.length_map];exact Nat.le_trans (List.length_filter_le _ _) (by rw [List.length_take];omega)
  have hnext:bZ (l.take (i+1))=s++bZ [l[i]]:=by rw [bh hi,wH,h1]
  rw [gL.eq_2,cJ V,ct];simp only [br hi,bs,qJ];unfold ob;cases hb:bI l[i]
  ·simp only [cf];rw [r64 V V];exact go s (by rw [hnext];simp [bZ,hb])
  simp only [ct];rw [rF (by simp;omega),r64 V V];exact go (s++ [l[i].N]) (by rw [hnext];simp [bZ,hb])
 rintro k s h1;show Sat (gL N l (k+1) s _) _;rw [gL.eq_2,cK V,cf];exact aQ (by simpa using h1)
theorem yy (N:Nat)(hN:5000<N){m:SP}{roots:List SR}(hs:Small m roots)(hw:W64 m){all:List Int}(ht:Tq m all)(k:Nat)(hk:k≤all.length):
  Sat (iQ N m all (k:Int)) fun r=>Tq m r∧Thr (DT N m) all k r:=by
 unfold iQ;refine nu (fun f (s:List Int×Nat)=>nc N m f s.1 (s.2:Int)) (fun s=>1300 - s.2) (fun s=>Tq m s.1∧s.2≤s.1.length∧ ∀r,Thr (DT N m) s.1 s.2 r→Thr (DT N m) all k r) _ ?_ N (all,k) (by show 1300 - k<N;omega) ⟨ht,hk,fun _ h=>h⟩;rintro f ⟨al,j⟩ ⟨h1,h3,h4⟩ go;show Sat (nc N m (f+1) al (j:Int)) _;simp only at h1 h3 h4;have hlen:=h1.len hs;rw [nc.eq_2];by_cases hj:j<al.length
 ·have hx:=List.getElem_mem hj;have hsm:=hs.at_ al[j];obtain ⟨hl1,hl2⟩:=GT hs hw al[j];rw [cJ V,ct,br hj,bs,Ni N m _ (h1.in64 hs hx),bs,KL N V _ V V,bs,Cu N hN hs _ hl1 hl2 h1,bs,r64 V V]
  have hge:al.length≤(dz (bw m) al (cA (cc m al[j]))).length:=by
   obtain ⟨t,e, -⟩:=gZ (bw m) al (cA (cc m al[j]));rw [e,List.length_append];omega
  exact go (dz (bw m) al (cA (cc m al[j])),j+1) (by show 1300 - (j+1)<1300 - j;omega) ⟨h1.lay _,by show j+1≤(dz (bw m) al (cA (cc m al[j]))).length;omega,fun r hr=>h4 r (.step (List.getElem?_eq_getElem hj) hr)⟩
 have:j=al.length:=by omega
 subst this;rw [cK V,cf];exact aQ ⟨h1,h4 _ (.done (Nat.le_refl _))⟩
theorem HU (N:Nat)(hN:5000<N){m:SP}{roots:List SR}(hs:Small m roots)(hw:W64 m)(hr: ∀v∈roots,in64 v.N):
  ∃b all,IsOrder (DT N m) (bZ roots) b all∧mH N m roots=some all∧((iv N roots).bind fun y5=>(oa N m ([]:List Int) y5).bind fun y8=>iQ N m y8 0)=some b:=by
 have hrl:=hs.roots;have ha:=Kq N hN roots V
 have h64: ∀x∈bZ roots,in64 x:=fun x hx=>by
  obtain ⟨v,h1, -,rfl⟩:=lw.1 hx;exact hr v h1
 have hal:(bZ roots).length≤2000:=by
  unfold bZ;rw [List.length_map];exact Nat.le_trans (List.length_filter_le _ _) V
 have hT0:Tq m []:=⟨List.nodup_nil,by simp⟩;have hlay:=Cu N hN hs (bZ roots) hal h64 hT0;obtain ⟨b,b0,b1,b2⟩:=yy N hN hs hw (hT0.lay (bZ roots)) 0 (Nat.zero_le _);have b0':iQ N m (dz (bw m) [] (bZ roots)) 0=some b:=b0
 have key:Sat (mH N m roots) fun all=>Ord (DT N m) b all:=by
  unfold mH;rw [ha,bs,hlay,bs,b0',bs];refine nu (fun f (s:List Int)=>iS N m f s) (fun s=>1300 - s.length) (fun s=>Tq m s∧ ∀r,Ord (DT N m) s r→Ord (DT N m) b r) _ ?_ N b (by show 1300 - b.length<N;omega) ⟨b1,fun _ h=>h⟩;rintro f al ⟨h4,h5⟩ go;show Sat (iS N m (f+1) al) _;have hlen:=h4.len hs;rw [iS.eq_2];refine cX (fun k i (s:List Int)=>lT N (iS N m f) al m k s (i:Int)) al.length (fun i s=>Tq m s∧(∃t,s=al++t)∧s=mJ (DT N m) al (al.take i)) _ ?_ ?_ N 0 al V V ⟨h4,⟨[],by simp⟩,J⟩
  ·rintro k i s hi ⟨h0,⟨t,h1⟩,h2⟩ go2;show Sat (lT N (iS N m f) al m (k+1) s (i:Int)) _;have hsl:=h0.len hs
   have hg:aF s (i:Int)=some al[i]:=by
    rw [lW,h1,List.getElem?_append_left hi,List.getElem?_eq_getElem hi]
   have hx:=List.getElem_mem hi;have hsm:=hs.at_ al[i];obtain ⟨hl1,hl2⟩:=GH N hs hw al[i] s
   have hnext:mJ (DT N m) al (al.take (i+1))=dz (bw m) s (dJ N (cc m al[i]) s):=by
    rw [bh hi,Am, ←h2];rfl
   rw [lT.eq_2,cJ V,ct,hg,bs,Ni N m _ (h4.in64 hs hx),bs,Ky N hN s V _ V V,bs,Cu N hN hs _ hl1 hl2 h0,bs,r64 V V];obtain ⟨t',e', -⟩:=gZ (bw m) s (dJ N (cc m al[i]) s);exact go2 _ ⟨h0.lay _,⟨t++t',by rw [e',h1,Tl]⟩,hnext.symm⟩
  rintro k s ⟨h0,⟨t,h1⟩,h2⟩;show Sat (lT N (iS N m f) al m (k+1) s _) _;have hsl:=h0.len hs;simp only [List.take_length] at h2;rw [lT.eq_2,cK V,cf];unfold xn
  refine dQ (fun he=> ?_) fun hne=> ?_
  ·have h6:t=[]:=List.eq_nil_of_length_eq_zero (by rw [h1,List.length_append] at he;omega)
   have h7:s=al:=by rw [h1,h6,List.append_nil]
   exact aQ (by rw [h7] at h2⊢;exact h5 _ (.done h2.symm))
  have hle:al.length≤s.length:=by rw [h1,List.length_append];omega
  refine Sat.bind (yy N hN hs hw h0 al.length hle) fun r ⟨r1,r2⟩=> ?_
  obtain ⟨t3,e3⟩:=r2.app;have hl3:=r1.len hs;refine go r ?_ ⟨r1,fun r' hr'=>h5 r' (.step ?_ (by rw [←h2];exact r2) hr')⟩
  ·show 1300 - r.length<1300 - al.length
   have:s.length≤r.length:=by rw [e3,List.length_append];omega
   omega
  rw [←h2];intro e;rw [e] at hne;omega
 obtain ⟨all,k1,k2⟩:=key;exact ⟨b,all,⟨b2,k2⟩,k1,by rw [ha,bs,hlay,bs];exact b0'⟩
theorem Ek: ∀{s:List Int} {k:Nat} (h:k+1<s.length),((s.set (k+1) (s[k]'V)).set k s[k+1]).Perm s
 |a::b::r,0,_=>List.Perm.swap a b r
 |a::r,k+1,h=>by
  have ih:=Ek (s:=r) (k:=k) (by simpa using h);simp only [List.set_cons_succ,List.getElem_cons_succ];exact ih.cons a
def RV (s:List Int)(i k:Nat):Prop:= ∀a b:Nat,a<b→b≤i→b≠k→s.getD a 0≤s.getD b 0
theorem zt (s:List Int)(i j:Nat)(x:Int)(hi:i<s.length):(s.set i x).getD j 0=if j=i then x else s.getD j 0:=by
 by_cases e:j=i
 ·subst e;simp [List.getD,hi]
 rw [if_neg e];simp only [List.getD];rw [List.getElem?_set_ne (fun h=>e h.symm)]
theorem ww (s:List Int)(i:Nat)(hi:i<s.length):s.getD i 0=s[i]:=by simp [List.getD,hi]
theorem HV (N:Nat)(hN:5000<N)(l:List Int)(hl:l.length≤2000)(hn:l.Nodup):pN N l=some (iY l):=by
 apply Sat.eq;unfold pN;rw [rF (by simp;omega),List.nil_append]
 have fin: ∀s:List Int,s.Perm l→RV s (l.length - 1) l.length→s=iY l:=fun s hp hi=>by
  have hlen:=hp.length_eq;have hnd:s.Nodup:=hp.nodup_iff.2 hn;refine (Co hn (List.pairwise_iff_getElem.2 fun a b ha hb hab=> ?_) fun x=>(hp.mem_iff).symm).symm;have h1:=hi a b hab V V;rw [ww s a ha,ww s b hb] at h1;have h2:=List.pairwise_iff_getElem.1 (List.nodup_iff_pairwise_ne.1 hnd) a b ha hb hab;omega
 by_cases h0:l.length=0
 ·have e:l=[]:=List.eq_nil_of_length_eq_zero h0;subst e;obtain ⟨n,rfl⟩: ∃n,N=n+1:=⟨N - 1,by omega⟩;rw [gC.eq_2,cK (by simp),cf];exact aQ (by unfold iY;simp)
 refine cX (fun k i (s:List Int)=>gC N k s (i:Int)) l.length (fun i s=>s.Perm l∧RV s (i - 1) l.length) _ ?_ ?_ N 1 l V V ⟨List.Perm.refl _,fun a b h1 h2=>absurd h2 V⟩
 ·rintro f i s hi ⟨h1,h2⟩ go;show Sat (gC N (f+1) s (i:Int)) _;have hlen:=h1.length_eq;rw [gC.eq_2,hlen,cJ V,ct]
  have hi0:i≤l.length:=by omega
  refine nu (fun k (st:List Int×Nat)=>ne N (gC N f) (i:Int) k st.1 (st.2:Int)) (fun st=>st.2) (fun st=>st.1.Perm l∧st.2≤i∧RV st.1 i st.2) _ ?_ N (s,i) (by show i<N;omega) ⟨h1,Nat.le_refl _,fun a b q1 q2 q3=>h2 a b q1 (by show b≤i - 1;simp only at q3;omega) V⟩;rintro k ⟨t,j⟩ ⟨g1,g2,g3⟩ go2;simp only at g1 g2 g3;show Sat (ne N (gC N f) (i:Int) (k+1) t (j:Int)) _;have hlt:=g1.length_eq
  have stop:(j=0∨t.getD (j - 1) 0≤t.getD j 0)→Sat (qw N (gC N f) (i:Int) t) (· =iY l):=fun hst=>by
   unfold qw;rw [r64 V V];refine go t ⟨g1,fun a b q1 q2 q3=> ?_⟩
   have q2':b≤i:=by omega
   by_cases e:b=j
   ·subst e;rcases hst with h|h
    ·omega
    by_cases e2:a=b - 1
    ·subst e2;exact h
    have:=g3 a (b - 1) V V V;omega
   exact g3 a b q1 q2' e
  rw [ne.eq_2];by_cases hj:0<j
  ·have hp:aF t ((j:Int) - 1)=some (t[j - 1]'V):=by
    have:=br (xs:=t) (i:=j - 1) V;rw [show (((j - 1:Nat)):Int)=(j:Int) - 1 by omega] at this;exact this
   have hq:aF t (j:Int)=some (t[j]'V):=br V;rw [cJ V,ct,r64 V V,hp,bs,hq,bs,bs];by_cases hc:t[j]'V<t[j - 1]'V
   ·rw [cJ hc,ct,bs,r64 (a:=(j:Int) - 1) V V,bs,bs,r64 (a:=(j:Int) - 1) V V]
    have hs2:aF (List.set t (j:Int).toNat (t[j - 1]'V)) ((j:Int) - 1)=some ((List.set t (j:Int).toNat (t[j - 1]'V))[j - 1]'(by simp;omega)):=by
     have:=br (xs:=List.set t (j:Int).toNat (t[j - 1]'V)) (i:=j - 1) (by simp;omega);rw [show (((j - 1:Nat)):Int)=(j:Int) - 1 by omega] at this;exact this
    rw [hs2,bs,r64 (a:=(j:Int) - 1) V V,Int.toNat_natCast,show ((j:Int) - 1).toNat=j - 1 by omega,show (j:Int) - 1=((j - 1:Nat):Int) by omega];obtain ⟨q,rfl⟩: ∃q,j=q+1:=⟨j - 1,by omega⟩;simp only [Nat.add_sub_cancel] at*;refine go2 ((t.set (q+1) (t[q]'V)).set q (t[q+1]'V),q) (by show q<q+1;omega) ⟨(Ek V).trans g1,by show q≤i;omega,fun a b q1 q2 q3=> ?_⟩;have q3':b≠q:=q3;have hqa:=ww t q V;have hqb:=ww t (q+1) V;show ((t.set (q+1) (t[q]'V)).set q (t[q+1]'V)).getD a 0≤((t.set (q+1) (t[q]'V)).set q (t[q+1]'V)).getD b 0;rw [zt _ q _ _ (by simp;omega),zt _ q _ _ (by simp;omega),zt t (q+1) _ _ V,zt t (q+1) _ _ V,if_neg q3'];by_cases b1:b=q+1
    ·rw [if_pos b1];by_cases a1:a=q
     ·rw [if_pos a1];omega
     rw [if_neg a1,if_neg V, ←hqa];exact g3 a q V V V
    rw [if_neg b1];by_cases a1:a=q
    ·rw [if_pos a1, ←hqb];exact g3 (q+1) b V q2 b1
    rw [if_neg a1];by_cases a2:a=q+1
    ·rw [if_pos a2, ←hqa];exact g3 q b V q2 b1
    rw [if_neg a2];exact g3 a b q1 q2 b1
   rw [cK V,cf];refine stop (.inr ?_);rw [ww t (j - 1) V,ww t j V];omega
  rw [cK V,cf,bs,cf];exact stop (.inl V)
 rintro f s ⟨h1,h2⟩;show Sat (gC N (f+1) s _) _;rw [gC.eq_2,h1.length_eq,cK V,cf];unfold xj;exact aQ (fin s h1 h2)
def ko (c:Ta):List Int:=pick (fun i v=>lN c.Kind i&&bI v) 0 c.More
theorem rc (N:Nat)(hN:2000<N)(c:Ta)(hS:c.Slots.length≤1000)(hc:c.More.length≤1000):gJ N c=some (ko c):=by
 unfold gJ ko;rw [vV N hN false c hS hc,bs]
 have e1:(fun (_:Nat) (v:SR)=>(true==false)&&bI v)=fun _ _=>false:=by funext i v;rfl
 have e2:(fun (i:Nat) (v:SR)=>(kr c.Kind i==false)&&bI v)=fun i v=>lN c.Kind i&&bI v:=by funext i v;rw [AS];cases lN c.Kind i<;>rfl
 rw [e1,e2,Es,List.nil_append]
theorem mC (c:Ta):(ko c).length≤c.More.length:=yZ _ 0 c.More
theorem Gm {c:Ta}{x:Int}(h:x∈ko c): ∃v∈c.Slots++c.More,v.N=x:=by
 obtain ⟨v,h1,h2⟩:=yY h;exact ⟨v,To _ h1,h2⟩
def dp (m:SP)(l:List Int):Bool:=l.all (bw m)
def zx (N:Nat)(m:SP)(c:Ta):Bool:=(cW N c).getD false&&(dp m (cA c)&&dp m (ko c))
def Rz (N:Nat)(m:SP)(roots:List SR):Bool:=m.Young.all (zx N m)&&(m.Old.all (zx N m)&&dp m (bZ roots))
theorem zZ {m:SP}{roots:List SR}(hs:Small m roots)(hw:W64 m){c:Ta}(hc:c∈m.Young++m.Old):((cA c).length≤1200∧ ∀x∈cA c,in64 x)∧(ko c).length≤1200∧ ∀x∈ko c,in64 x:=by
 have h1:=hs.cells c hc;have h2:=jO c;have h3:=mC c;refine ⟨⟨by omega,fun x hx=> ?_⟩,by omega,fun x hx=> ?_⟩
 ·obtain ⟨v,h4,rfl⟩:=De hx;exact hw c hc v h4
 obtain ⟨v,h4,rfl⟩:=Gm hx;exact hw c hc v h4
structure Bnd (B:Nat) (m:SP) (roots:List SR):Prop where
 young:m.Young.length≤B
 old:m.Old.length≤B
 roots:roots.length≤B
 cells: ∀c∈m.Young++m.Old,c.Slots.length≤B∧c.More.length≤B
def wt:List Ta→Nat
 | []=>0
 |c::l=>1+c.Slots.length+c.More.length+wt l
theorem Cf: ∀a b:List Ta,wt (a++b)=wt a+wt b
 | [],b=>by simp [wt]
 |c::a,b=>by rw [List.cons_append,wt,wt,Cf a b];omega
theorem NA {l:List Ta}{i:Nat}(h:i<l.length):wt (l.take (i+1))=wt (l.take i)+(1+l[i].Slots.length+l[i].More.length):=by
 rw [bh h,Cf];simp [wt]
def W6 (m:SP)(roots:List SR):Prop:=roots.length+wt m.Young+wt m.Old≤600
structure Wtd (m:SP) (roots:List SR):Prop where
 le:roots.length+wt m.Young+wt m.Old≤2400
 cnt:m.Young.length+m.Old.length≤600
def io (p:Int→Bool):List SR→List SR
 |k::v::r=>(bif p k.N then [k,v] else [])++io p r
 |_=> []
theorem DF (p:Int→Bool): ∀l:List SR,(io p l).length≤l.length
 | []=>by simp [io]
 | [_]=>by simp [io]
 |k::v::r=>by
  have:=DF p r;unfold io;cases p k.N<;>simp<;>omega
theorem ye {p:Int→Bool}{x:SR}: ∀{l:List SR},x∈io p l→x∈l
 | [],h=>by simp [io] at h
 | [_],h=>by simp [io] at h
 | k::v::r,h=>by
  unfold io at h;rcases List.mem_append.1 h with h|h
  ·cases hp:p k.N with
   |false=>rw [hp] at h;cases h
   |true=>rw [hp] at h;simp at h;rcases h with h|h<;>simp [h]
  have:=ye h;simp [this]
def nB (N:Nat)(l:List Int)(c:Ta):Ta:=bif pm N c then ⟨c.Kind,c.Shape,c.Flags,c.Age,c.Slots,io (fun x=>decide (x∈l)) c.More⟩ else c
theorem KM (N:Nat)(hN:5000<N)(l:List Int)(hl:l.length≤5000)(y:Ta)(k v:SR)(s:List SR)(hs:s.length≤5000):cY (fun x st=>iL N (fun x=>iq N x l) y x st) (k,v) (none,s)=some (true,(none,s++(bif decide (k.N∈l) then [k,v] else []))):=by
 unfold cY iL iq;simp only [bs,oK N hN l hl];cases decide (k.N∈l)
 ·simp only [cf,List.append_nil];rfl
 simp only [ct];rw [rF (by simp;omega)];rfl
theorem EL (N:Nat)(hN:5000<N)(l:List Int)(hl:l.length≤5000)(y c:Ta)(hc:c.More.length≤1000)(he:c.More.length%2=0): ∀(m i:Nat) (s:List SR),c.More.length<m+i→i≤c.More.length→i%2=0→s.length≤i→ei N (cY (fun x st=>iL N (fun x=>iq N x l) y x st)) c m (i:Int) (none,s)=some (none,s++io (fun x=>decide (x∈l)) (c.More.drop i))
 |0,i,s,h,h2,_,_=>by omega
 | m+1,i,s,h,h2,h3,h4=>by
  rw [ei.eq_2,r64 (a:=(i:Int)+1) V V];by_cases hi:i<c.More.length
  ·have hi1:i+1<c.More.length:=by omega
   have hl1:aF c.More ((i:Int)+1)=some c.More[i+1]:=by
    have:=br hi1;simpa using this
   rw [cJ V,ct,br hi,bs,r64 (a:=(i:Int)+1) V V,hl1,bs,KM N hN l hl y _ _ s V,bs];simp only [nt,cf];rw [r64 V V]
   have hlen:(s++(bif decide (c.More[i].N∈l) then [c.More[i],c.More[i+1]] else [])).length≤i+2:=by
    cases decide (c.More[i].N∈l)<;>simp<;>omega
   have:=EL N hN l hl y c hc he m (i+2) _ V V V hlen;simp only [Int.natCast_add,Int.cast_ofNat_Int] at this;rw [this,List.drop_eq_getElem_cons hi,List.drop_eq_getElem_cons hi1,Tl];rfl
  rw [cK V,cf,List.drop_eq_nil_of_le V];simp [io]
theorem DE (N:Nat)(hN:5000<N)(l:List Int)(hl:l.length≤5000)(c:Ta)(hS:c.Slots.length≤600)(hc:c.More.length≤600):jz N c l=some (bif pm N c then nB N l c else Eg):=by
 obtain ⟨-,h1,h2⟩:=Ig N V c V V;unfold jz uz iy nB;rw [h1,bs];cases hw:pm N c
 ·rfl
 have e:kF N c=some ():=rfl;have:=EL N hN l hl c c V (h2 hw) N 0 [] V V rfl (by simp);simp only [nt,cf,ct,e,bs,sP N c ⟨hS,hc⟩];have h3:ei N (cY (fun x st=>iL N (fun x=>iq N x l) c x st)) c N 0 (none,[])=some (none,[]++io (fun x=>decide (x∈l)) (c.More.drop 0)):=this;rw [h3,bs];rfl
theorem Iu (N:Nat)(l:List Int)(c:Ta):(nB N l c).Slots.length=c.Slots.length∧(nB N l c).More.length≤c.More.length:=by
 unfold nB;cases pm N c
 ·exact ⟨J,Nat.le_refl _⟩
 exact ⟨J,DF _ _⟩
theorem It {N:Nat}{l:List Int}{c:Ta}{v:SR}(h:v∈(nB N l c).Slots++(nB N l c).More):v∈c.Slots++c.More:=by
 unfold nB at h;cases hw:pm N c
 ·rw [hw] at h;exact h
 rw [hw] at h;rcases List.mem_append.1 h with h|h
 ·exact Tn _ h
 exact To _ (ye h)
def Dk (N:Nat)(c:Ta):Bool:=decide (c.Kind=10)&&(cW N c).getD false
def Px (N:Nat)(c:Ta):Ta:=bif Dk N c then ⟨c.Kind,c.Shape,c.Flags,c.Age,c.Slots,c.More.take 1⟩ else c
def Sf (N:Nat)(m:SP):SP:=⟨m.Young.map (Px N),m.Old.map (Px N)⟩
theorem BT {m:SP}{roots:List SR}(hs:Small m roots){x:Int}(h:bw m x=true):in64 x:=by
 have h2:=qM h;have h3:=wv hs h;unfold in64;omega
end Go.Proofs.YtdcccmadhipinaaGreat