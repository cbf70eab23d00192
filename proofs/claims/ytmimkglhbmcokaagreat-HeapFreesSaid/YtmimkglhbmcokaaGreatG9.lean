/- Merged texts: part 9. No conditions of their own. -/
import Derived.Test.YtmimkglhbmcokaaGreatG8
import Derived.Test.YtmimkglhbmcokaaGreatG1
import Derived.ProofKit
namespace Go.Proofs.YtmimkglhbmcokaaGreat
open Go.RowKit
structure DTwins where
 a_:DMemory
 b_:DMemory
 x_:(List Int)
 y_:(List Int)
 from_:(List (Int×Int))
 to_:(List (Int×Int))
 deriving DecidableEq,Inhabited
structure DS55 where
 e0:(List DValue)
 e1:(List DValue)
 deriving DecidableEq,Inhabited
def CJ (N:Nat)(p25:Int):Option Bool:=
 some (decide (p25≤600))
def wV (N:Nat)(a0:DMemory):Nat→Int→Int→Option Bool
 |0,_,_=>none
 |m26+1,p27,p28=>(bif decide (p28<(a0.Old.length:Int)) then (some (decide (p27≤600))) else (some false)).bind fun b29=>bif b29 then (bA (in64 (p27+1)) ((aM a0.Old p28).bind fun x32=>bA (in64 ((p27+1)+(x32.Slots.length:Int))) ((aM a0.Old p28).bind fun x37=>bA (in64 (((p27+1)+(x32.Slots.length:Int))+(x37.More.length:Int))) (bA (in64 (p28+1)) ((wV N a0 m26) (((p27+1)+(x32.Slots.length:Int))+(x37.More.length:Int)) (p28+1)))))) else (CJ N p27)
def DT (N:Nat)(a0:DMemory)(p6:Int):Option Bool:=
 wV N a0 N p6 0
def yH (N:Nat)(a0:DMemory):Nat→Int→Int→Option Bool
 |0,_,_=>none
 |m7+1,p8,p9=>(bif decide (p9<(a0.Young.length:Int)) then (some (decide (p8≤600))) else (some false)).bind fun b10=>bif b10 then (bA (in64 (p8+1)) ((aM a0.Young p9).bind fun x13=>bA (in64 ((p8+1)+(x13.Slots.length:Int))) ((aM a0.Young p9).bind fun x18=>bA (in64 (((p8+1)+(x13.Slots.length:Int))+(x18.More.length:Int))) (bA (in64 (p9+1)) ((yH N a0 m7) (((p8+1)+(x13.Slots.length:Int))+(x18.More.length:Int)) (p9+1)))))) else (DT N a0 p8)
def wh (N:Nat)(a0:DMemory)(a1:(List DValue)):Option Bool:=
 yH N a0 N (a1.length:Int) 0
def dW (N:Nat)(a0:Int):Option DValue:=
 some (⟨7,a0,⟨#[]⟩⟩:DValue)
def CH (N:Nat):Option Bool:=
 some true
def wU (N:Nat)(a0:(List Int))(a1:(List Int)):Nat→Int→Option Bool
 |0,_=>none
 |m5+1,p6=>bif decide (p6<(a0.length:Int)) then ((aM a0 p6).bind fun x8=>(aM a1 p6).bind fun x9=>bif !decide (x8=x9) then (some false) else (bA (in64 (p6+1)) ((wU N a0 a1 m5) (p6+1)))) else (CH N)
def gi (N:Nat)(a0:(List Int))(a1:(List Int)):Option Bool:=
 bif !decide ((a0.length:Int)=(a1.length:Int)) then (some false) else (wU N a0 a1 N 0)
def pp (N:Nat){σ:Type}(fy:Int→σ→Option (Bool×σ))(a1:(List Int)):Nat→Int→σ→Option σ
 |0,_,_=>none
 |m3+1,p4,p5=>bif decide (p4<(a1.length:Int)) then ((aM a1 p4).bind fun x7=>(fy x7 p5).bind fun y8=>bif !y8.1 then (some y8.2) else (bA (in64 (p4+1)) ((pp N fy a1 m3) (p4+1) y8.2))) else (some p5)
def xo (N:Nat){σ:Type}(a1:(List Int))(fy:Int→σ→Option (Bool×σ))(s0:σ):Option σ:=
 pp N fy a1 N 0 s0
def sP (N:Nat)(a0:(List Int)):Option Unit:=
 some ()
def qW (N:Nat)(x5:Int):((List Int))→Option (Option Exit×(List Int))
 |p6=>bA (bY (p6.length+([x5]:List Int).length)) (some (none,p6++([x5]:List Int)))
def re (N:Nat)(a0:(List Int))(a1_0:(List Int)):Option (List Int):=
 (xo N a1_0 (cJ (fun x st=>qW N x st)) (none,a0)).bind fun y7=>mg y7.1 (some y7.2) none (fun _=>none)
def tO (N:Nat)(a0_0:(List Int)):Option (List Int):=
 (re N ([]:List Int) a0_0).bind fun y4=>some y4
def ux (N:Nat)(a0_0:(List Int)):Option (List Int):=
 (tO N a0_0).bind fun y3=>(jU N y3).bind fun y5=>some y5
def rm (N:Nat)(a0:DMemory)(a1:(List DValue)):Option (List Int):=
 (iG N a0 a1).bind fun y5=>(sP N y5.all_).bind fun y11=>(ux N y5.all_).bind fun y13=>some y13
def yh (N:Nat):Option Bool:=
 (dW N 3).bind fun y1=>(dW N 2).bind fun y2=>(dW N 3).bind fun y8=>(dW N 5).bind fun y9=>(dW N 1).bind fun y13=>(dT N (⟨([(⟨11,0,0,0,[],([y1,y2]:List DValue)⟩:DCell),(⟨11,0,0,0,[],[]⟩:DCell)]:List DCell),([(⟨11,0,0,0,[],[]⟩:DCell)]:List DCell)⟩:DMemory) ([y13]:List DValue)).bind fun y16=>(gi N y16 ([1,3,2]:List Int)).bind fun y21=>(bif y21 then ((dW N 1).bind fun y23=>(dF N (⟨([(⟨11,0,0,0,[],([y1,y2]:List DValue)⟩:DCell),(⟨11,0,0,0,[],[]⟩:DCell)]:List DCell),([(⟨11,0,0,0,[],[]⟩:DCell)]:List DCell)⟩:DMemory) ([y23]:List DValue)).bind fun y26=>(gi N y26 ([1,2,3]:List Int)).bind fun y31=>some y31) else (some false)).bind fun b22=>((bif b22 then ((dW N 1).bind fun y33=>(dF N (⟨([(⟨8,0,0,0,([(⟨1,0,⟨#[]⟩⟩:DValue)]:List DValue),([y8,y9]:List DValue)⟩:DCell),(⟨11,0,0,0,[],[]⟩:DCell),(⟨11,0,0,0,[],[]⟩:DCell)]:List DCell),[]⟩:DMemory) ([y33]:List DValue)).bind fun y36=>(gi N y36 ([1]:List Int)).bind fun y41=>some y41) else (some false)).bind fun b32=>((bif b32 then ((dW N 1).bind fun y43=>(dW N 3).bind fun y44=>(dF N (⟨([(⟨8,0,0,0,([(⟨1,0,⟨#[]⟩⟩:DValue)]:List DValue),([y8,y9]:List DValue)⟩:DCell),(⟨11,0,0,0,[],[]⟩:DCell),(⟨11,0,0,0,[],[]⟩:DCell)]:List DCell),[]⟩:DMemory) ([y43,y44]:List DValue)).bind fun y47=>(gi N y47 ([1,3,5]:List Int)).bind fun y52=>some y52) else (some false)).bind fun b42=>((bif b42 then ((dW N 1).bind fun y54=>(dW N 3).bind fun y55=>(rm N (⟨([(⟨8,0,0,0,([(⟨1,0,⟨#[]⟩⟩:DValue)]:List DValue),([y8,y9]:List DValue)⟩:DCell),(⟨11,0,0,0,[],[]⟩:DCell),(⟨11,0,0,0,[],[]⟩:DCell)]:List DCell),[]⟩:DMemory) ([y54,y55]:List DValue)).bind fun y58=>(gi N y58 ([1,3]:List Int)).bind fun y63=>some y63) else (some false)).bind fun b53=>(some b53))))
def zP (N:Nat)(p4:(List DCell)):Option (List DCell):=
 some p4
def tj (N:Nat)(a0:(List DCell)):Nat→(List DCell)→Int→Option (List DCell)
 |0,_,_=>none
 |m5+1,p6,p7=>bif decide (p7<(a0.length:Int)) then ((aM a0 p7).bind fun x9=>bA (bY (([]:List DValue).length+x9.Slots.length)) (bA (bY (([]:List DValue).length+x9.More.length)) (bA (bY (p6.length+([(⟨x9.Kind,x9.Shape,x9.Flags,x9.Age,([]:List DValue)++x9.Slots,([]:List DValue)++x9.More⟩:DCell)]:List DCell).length)) (bA (in64 (p7+1)) ((tj N a0 m5) (p6++([(⟨x9.Kind,x9.Shape,x9.Flags,x9.Age,([]:List DValue)++x9.Slots,([]:List DValue)++x9.More⟩:DCell)]:List DCell)) (p7+1)))))) else (zP N p6)
def uM (N:Nat)(a0:(List DCell)):Option (List DCell):=
 tj N a0 N ([]:List DCell) 0
def BA (N:Nat)(a0:DMemory):Option DMemory:=
 (uM N a0.Young).bind fun y5=>(uM N a0.Old).bind fun y7=>some (⟨y5,y7⟩:DMemory)
def px (N:Nat)(a0:Int)(a1:DMemory):Option Bool:=
 (dq N a1 a0).bind fun y4=>some (!y4)
def xx (N:Nat):Option Bool:=
 some true
def xw (N:Nat)(kb20:Int→Option Bool)(a0:DMemory)(p21:Int):Option Bool:=
 bA (in64 (p21+1)) (kb20 (p21+1))
def qI (N:Nat)(kb20:Int→Option Bool)(a0:DMemory)(p21:Int)(x24:(List DCell)):Nat→Int→Option Bool
 |0,_=>none
 |m26+1,p27=>bif decide (p27<(x24.length:Int)) then ((aM x24 p27).bind fun x29=>(di N x29).bind fun y34=>(bif !y34 then (some true) else ((ea N x29).bind fun y36=>(bE N y36 (fun x=>px N x a0)).bind fun y38=>some y38)).bind fun b35=>(bif b35 then (some true) else ((fh N x29).bind fun y40=>(bE N y40 (fun x=>px N x a0)).bind fun y42=>some y42)).bind fun b39=>bif b39 then (some false) else (bA (in64 (p27+1)) ((qI N kb20 a0 p21 x24 m26) (p27+1)))) else (xw N kb20 a0 p21)
def qJ (N:Nat)(a0:DMemory):Nat→Int→Option Bool
 |0,_=>none
 |m20+1,p21=>bif decide (p21<(([a0.Young,a0.Old]:List (List DCell)).length:Int)) then ((aM ([a0.Young,a0.Old]:List (List DCell)) p21).bind fun x24=>qI N (qJ N a0 m20) a0 p21 x24 N 0) else (xx N)
def yz (N:Nat)(a0:DMemory):Option Bool:=
 qJ N a0 N 0
def rn (N:Nat)(a1:(List DValue))(a0:DMemory):Nat→Int→Option Bool
 |0,_=>none
 |m8+1,p9=>bif decide (p9<(a1.length:Int)) then ((aM a1 p9).bind fun x11=>(eO N x11).bind fun y13=>(bif y13.2 then ((dq N a0 y13.1).bind fun y15=>some (!y15)) else (some false)).bind fun b14=>bif b14 then (some false) else (bA (in64 (p9+1)) ((rn N a1 a0 m8) (p9+1)))) else (yz N a0)
def th (N:Nat)(a0:DMemory)(a1:(List DValue)):Option Bool:=
 bA (in64 ((a0.Young.length:Int)+(a0.Old.length:Int))) (bif decide (1048576<(a0.Young.length:Int)+(a0.Old.length:Int)) then (some false) else (rn N a1 a0 N 0))
def By (N:Nat):Option Bool:=
 some true
def uL (N:Nat)(a1:(List Int))(a0:DMemory):Nat→Int→Option Bool
 |0,_=>none
 |m6+1,p7=>bif decide (p7<(a1.length:Int)) then ((aM a1 p7).bind fun x9=>(mT N a0 x9).bind fun y10=>bif !y10 then (some false) else (bA (in64 (p7+1)) ((uL N a1 a0 m6) (p7+1)))) else (By N)
def rz (N:Nat)(a0:DMemory)(a1:(List Int)):Option Bool:=
 uL N a1 a0 N 0
def zQ (N:Nat)(p5:(List Int)):Option (List Int):=
 some p5
def rD (N:Nat)(kb6:(List Int)→Int→Option (List Int))(p8:Int)(a0:DCell)(p12:(List Int)):Option (List Int):=
 bA (in64 (p8+1)) (kb6 p12 (p8+1))
def pc (N:Nat)(a0:DCell):Nat→(List Int)→Int→Option (List Int)
 |0,_,_=>none
 |m6+1,p7,p8=>bif decide (p8<(a0.More.length:Int)) then ((aM a0.More p8).bind fun x13=>(pz N x13).bind fun y14=>(bif y14 then ((qb N a0.Kind p8).bind fun y16=>some y16) else (some false)).bind fun b15=>bif b15 then ((aM a0.More p8).bind fun x18=>bA (bY (p7.length+([x18.N]:List Int).length)) (rD N (pc N a0 m6) p8 a0 (p7++([x18.N]:List Int)))) else (rD N (pc N a0 m6) p8 a0 p7)) else (zQ N p7)
def qc (N:Nat)(a0:DCell):Option (List Int):=
 pc N a0 N [] 0
def CG (N:Nat):Option Bool:=
 some true
def wT (N:Nat)(a1:(List DCell))(a0:DMemory):Nat→Int→Option Bool
 |0,_=>none
 |m6+1,p7=>bif decide (p7<(a1.length:Int)) then ((aM a1 p7).bind fun x9=>(da N x9).bind fun y13=>(bif !y13 then (some true) else ((aM a1 p7).bind fun x15=>(jg N x15).bind fun y18=>(rz N a0 y18).bind fun y20=>some (!y20))).bind fun b14=>(bif b14 then (some true) else ((aM a1 p7).bind fun x22=>(qc N x22).bind fun y25=>(rz N a0 y25).bind fun y27=>some (!y27))).bind fun b21=>bif b21 then (some false) else (bA (in64 (p7+1)) ((wT N a1 a0 m6) (p7+1)))) else (CG N)
def yF (N:Nat)(a0:DMemory)(a1:(List DCell)):Option Bool:=
 wT N a1 a0 N 0
def CI (N:Nat)(a0:DMemory)(a1:(List DValue)):Option Bool:=
 bA (in64 ((a0.Young.length:Int)+(a0.Old.length:Int))) ((bif decide ((a0.Young.length:Int)+(a0.Old.length:Int)≤1048576) then ((yF N a0 a0.Young).bind fun y7=>some y7) else (some false)).bind fun b6=>(bif b6 then ((yF N a0 a0.Old).bind fun y9=>some y9) else (some false)).bind fun b8=>(bif b8 then ((fK N a1).bind fun y11=>(rz N a0 y11).bind fun y13=>some y13) else (some false)).bind fun b10=>some b10)
def ti (N:Nat)(p6:(List Int)):Option (List Int):=
 some p6
def nw (N:Nat)(kb7:(List Int)→Int→Option (List Int))(p9:Int)(p12:(List Int)):Option (List Int):=
 bA (in64 (p9+1)) (kb7 p12 (p9+1))
def r19_rising_l13 (N:Nat)(kb7:(List Int)→Int→Option (List Int))(p9:Int):Nat→(List Int)→Int→Option (List Int)
 |0,_,_=>none
 |m13+1,p14,p15=>(bif decide (0<p15) then (bA (in64 (p15 - 1)) ((aM p14 (p15 - 1)).bind fun x18=>(aM p14 p15).bind fun x19=>some (decide (x19<x18)))) else (some false)).bind fun b16=>bif b16 then ((aM p14 p15).bind fun x21=>bA (in64 (p15 - 1)) ((aM p14 (p15 - 1)).bind fun x23=>(aM p14 p15).bind fun x24=>bA (in64 (p15 - 1)) ((aM (List.set p14 p15.toNat x23) (p15 - 1)).bind fun x26=>bA (in64 (p15 - 1)) ((r19_rising_l13 N kb7 p9 m13) (List.set (List.set p14 p15.toNat x23) ((p15 - 1).toNat) x21) (p15 - 1))))) else (nw N kb7 p9 p14)
def r19_rising_l7 (N:Nat):Nat→(List Int)→Int→Option (List Int)
 |0,_,_=>none
 |m7+1,p8,p9=>bif decide (p9<(p8.length:Int)) then (r19_rising_l13 N (r19_rising_l7 N m7) p9 N p8 p9) else (ti N p8)
def mK (N:Nat)(a0:(List Int)):Option (List Int):=
 bA (bY (([]:List Int).length+a0.length)) (r19_rising_l7 N N (([]:List Int)++a0) 1)
def Bz (N:Nat)(a0:DMemory)(a1:(List DValue)):Option (List Int):=
 (fK N a1).bind fun y5=>(lj N a0 ([]:List Int) y5).bind fun y8=>(gh N a0 y8 0).bind fun y10=>(mK N y10).bind fun y12=>some y12
def ny (N:Nat)(a0:DMemory)(a1:(List DValue)):Option (List Int):=
 (lV N a0 a1).bind fun y5=>(mK N y5).bind fun y7=>some y7
def tK (N:Nat)(a0:DMemory)(y8:(DMemory)):Option Bool:=
 (jf N y8.Young a0.Young).bind fun y55=>(bif y55 then ((jf N y8.Old a0.Old).bind fun y57=>some y57) else (some false)).bind fun b56=>(bif b56 then ((yh N).bind fun y59=>some y59) else (some false)).bind fun b58=>some b58
def ne (N:Nat)(y44:(DCell))(a0:DMemory)(y8:(DMemory)):Nat→Int→(List DValue)→Option Bool
 |0,_,_=>none
 |m49+1,p50,p51=>bif decide (p50<(y44.More.length:Int)) then ((aM p51 p50).bind fun x53=>bA (in64 (p50+1)) ((ne N y44 a0 y8 m49) (p50+1) (List.set p51 p50.toNat (⟨(-7),x53.N,x53.S⟩:DValue)))) else (tK N a0 y8)
def FV (N:Nat)(a0:DMemory)(a1:(List DValue))(a2:Int):Option Bool:=
 (wh N a0 a1).bind fun y5=>bif !y5 then ((yh N).bind fun y7=>some y7) else ((BA N a0).bind fun y8=>(dq N y8 a2).bind fun y12=>(mT N a0 a2).bind fun y13=>(bif !(y12==y13) then (some true) else ((eo N y8 a2).bind fun y15=>(rB N a0 a2).bind fun y18=>(nz N y15 y18).bind fun y21=>some (!y21))).bind fun b14=>(bif b14 then (some true) else ((th N y8 a1).bind fun y23=>(CI N a0 a1).bind fun y24=>some (!(y23==y24)))).bind fun b22=>bif b22 then (some false) else ((rm N y8 a1).bind fun y26=>(Bz N a0 a1).bind fun y28=>(gi N y26 y28).bind fun y30=>(bif !y30 then (some true) else ((dF N y8 a1).bind fun y32=>(ny N a0 a1).bind fun y34=>(gi N y32 y34).bind fun y36=>some (!y36))).bind fun b31=>(bif b31 then (some true) else ((dT N y8 a1).bind fun y38=>(lV N a0 a1).bind fun y40=>(gi N y38 y40).bind fun y42=>some (!y42))).bind fun b37=>bif b37 then (some false) else ((eo N y8 a2).bind fun y44=>ne N y44 a0 y8 N 0 y44.More)))
def sS (N:Nat)(a0:(List DCell)):Option (List DCell):=
 bA (bY (([]:List DCell).length+a0.length)) (some (([]:List DCell)++a0))
def wb (N:Nat)(p5:(List DCell)):Option (List DCell):=
 some p5
def oE (N:Nat)(kb6:(List DCell)→Int→Option (List DCell))(y2:((List DCell)))(p8:Int)(p11:(List DCell)):Option (List DCell):=
 bA (in64 (p8+1)) (kb6 p11 (p8+1))
def li (N:Nat)(y2:((List DCell))):Nat→(List DCell)→Int→Option (List DCell)
 |0,_,_=>none
 |m6+1,p7,p8=>bif decide (p8<(y2.length:Int)) then ((aM p7 p8).bind fun x12=>(bif decide (x12.Kind=10) then ((di N x12).bind fun y17=>some y17) else (some false)).bind fun b16=>bif b16 then (bA ((0:Int)≤1∧0≤(1:Int).toNat∧(1:Int).toNat≤x12.More.length) ((aM p7 p8).bind fun x21=>oE N (li N y2 m6) y2 p8 (List.set p7 p8.toNat (⟨x21.Kind,x21.Shape,x21.Flags,x21.Age,x21.Slots,(x12.More.drop 0).take ((1:Int).toNat - 0)⟩:DCell)))) else (oE N (li N y2 m6) y2 p8 p7)) else (wb N p7)
def qH (N:Nat)(a0:(List DCell)):Option (List DCell):=
 (sS N a0).bind fun y2=>li N y2 N y2 0
def uG (N:Nat)(a0:DMemory):Option DMemory:=
 (qH N a0.Young).bind fun y5=>(qH N a0.Old).bind fun y7=>some (⟨y5,y7⟩:DMemory)
def sV (N:Nat)(a0:DTwins)(a1:DValue)(a2:DValue):Option Bool:=
 (eO N a1).bind fun y12=>(eO N a2).bind fun y13=>(bif !y12.2 then (some true) else (some (!y13.2))).bind fun b14=>bif b14 then (some (decide (a1=a2))) else ((bif !decide (a1.Kind=a2.Kind) then (some true) else (some (!(a1.S.toList==a2.S.toList)))).bind fun b16=>bif b16 then (some false) else ((bif !((lk a0.from_ y12.1).isSome) then (some true) else (some (!((lk a0.to_ y13.1).isSome)))).bind fun b18=>bif b18 then ((bif !((lk a0.from_ y12.1).isSome) then (some (!((lk a0.to_ y13.1).isSome))) else (some false)).bind fun b20=>(bif b20 then ((dq N a0.a_ y12.1).bind fun y22=>(dq N a0.b_ y13.1).bind fun y23=>some (y22==y23)) else (some false)).bind fun b21=>some b21) else (some (decide ((lk a0.from_ y12.1).getD 0=(lk a0.to_ y13.1).getD 0)))))
def sR (N:Nat)(ff:(DValue×DValue)→Option Bool):Option Bool:=
 some true
def mC (N:Nat)(ff:(DValue×DValue)→Option Bool)(a0:(List DValue))(a1:(List DValue)):Nat→Int→Option Bool
 |0,_=>none
 |m5+1,p6=>bif decide (p6<(a0.length:Int)) then ((aM a0 p6).bind fun x8=>(aM a1 p6).bind fun x10=>(ff (x8,x10)).bind fun y12=>bif !y12 then (some false) else (bA (in64 (p6+1)) ((mC N ff a0 a1 m5) (p6+1)))) else (sR N ff)
def tN (N:Nat)(a0:(List DValue))(a1:(List DValue))(ff:(DValue×DValue)→Option Bool):Option Bool:=
 bif !decide ((a0.length:Int)=(a1.length:Int)) then (some false) else (mC N ff a0 a1 N 0)
def jd (N:Nat)(a0:DTwins)(a1:(List DValue))(a2:(List DValue)):Option Bool:=
 (tN N a1 a2 (fun x=>sV N a0 x.1 x.2)).bind fun y12=>some y12
def qG (N:Nat)(a0:DCell)(a1:(List Int)):Option DCell:=
 (bif decide (a0.Kind=8) then ((di N a0).bind fun y7=>some y7) else (some false)).bind fun b6=>bif b6 then ((gY N a0 a1).bind fun y9=>some y9) else (some a0)
def xz (N:Nat):Option Bool:=
 some true
def qK (N:Nat)(y24:((List Int)))(y9:(DMemory))(y14:(DMemory))(p31:(List (Int×Int)))(p32:(List (Int×Int))):Nat→Int→(List Int)→(List Int)→Option Bool
 |0,_,_,_=>none
 |m46+1,p47,p48,p49=>bif decide (p47<(y24.length:Int)) then ((aM p48 p47).bind fun x51=>(eo N y9 x51).bind fun y52=>(qG N y52 p48).bind fun y57=>(aM p49 p47).bind fun x62=>(eo N y14 x62).bind fun y63=>(qG N y63 p49).bind fun y68=>(bif !decide (y57.Kind=y68.Kind) then (some true) else (some (!decide (y57.Shape=y68.Shape)))).bind fun b77=>(bif b77 then (some true) else (some (!decide (y57.Flags=y68.Flags)))).bind fun b78=>(bif b78 then (some true) else ((jd N (⟨y9,y14,p48,p49,p31,p32⟩:DTwins) y57.Slots y68.Slots).bind fun y80=>some (!y80))).bind fun b79=>(bif b79 then (some true) else ((jd N (⟨y9,y14,p48,p49,p31,p32⟩:DTwins) y57.More y68.More).bind fun y82=>some (!y82))).bind fun b81=>bif b81 then (some false) else (bA (in64 (p47+1)) ((qK N y24 y9 y14 p31 p32 m46) (p47+1) p48 p49))) else (xz N)
def xA (N:Nat)(a1:(List DValue))(a3:(List DValue))(y9:(DMemory))(y14:(DMemory))(y24:((List Int)))(y27:((List Int)))(p31:(List (Int×Int)))(p32:(List (Int×Int))):Option Bool:=
 (jd N (⟨y9,y14,y24,y27,p31,p32⟩:DTwins) a1 a3).bind fun y43=>bif !y43 then (some false) else (qK N y24 y9 y14 p31 p32 N 0 y24 y27)
def qL (N:Nat)(y24:((List Int)))(a1:(List DValue))(a3:(List DValue))(y9:(DMemory))(y14:(DMemory))(y27:((List Int))):Nat→Int→(List (Int×Int))→(List (Int×Int))→Option Bool
 |0,_,_,_=>none
 |m33+1,p34,p35,p36=>bif decide (p34<(y24.length:Int)) then ((aM y24 p34).bind fun x38=>(aM y27 p34).bind fun x39=>bA (in64 (p34+1)) ((qL N y24 a1 a3 y9 y14 y27 m33) (p34+1) (pS (Ly p35 x38 0) x38 p34) (pS (Ly p36 x39 0) x39 p34))) else (xA N a1 a3 y9 y14 y24 y27 p35 p36)
def zO (N:Nat)(a0:DMemory)(a1:(List DValue))(a2:DMemory)(a3:(List DValue)):Option Bool:=
 (uG N a0).bind fun y9=>(uG N a2).bind fun y14=>(dT N y9 a1).bind fun y24=>(dT N y14 a3).bind fun y27=>bif !decide ((y24.length:Int)=(y27.length:Int)) then (some false) else (qL N y24 a1 a3 y9 y14 y27 N 0 ([]:(List (Int×Int))) ([]:(List (Int×Int))))
def ge (N:Nat)(a0:(List DValue)):Option DCell:=
 some (⟨11,0,0,0,[],a0⟩:DCell)
def dV (N:Nat)(a0:Int):Option DValue:=
 some (⟨7,a0,⟨#[]⟩⟩:DValue)
def ws (N:Nat)(x11:Int×Int):((List Int)×(List Int))→Option (Option Exit×((List Int)×(List Int)))
 |(p12,p13)=>bA (bY (p12.length+([x11.2]:List Int).length)) (bA (in64 (2*x11.1)) (bA (in64 ((2*x11.1)+2)) (bA (bY (p13.length+([(2*x11.1)+2]:List Int).length)) (some (none,(p12++([x11.2]:List Int),p13++([(2*x11.1)+2]:List Int)))))))
def zh (N:Nat)(a0:DMemory)(a1:(List DValue)):Option ((List Int)×(List Int)):=
 (dF N a0 a1).bind fun y7=>(gm N y7).bind fun y9=>(dM N y7 (cJ (fun x st=>ws N x st)) (none,([],[]))).bind fun y14=>mg y14.1 (some (y14.2.1,y14.2.2)) none (fun _=>none)
def na (N:Nat):Option Bool:=
 (dV N 2).bind fun y1=>(ge N ([y1]:List DValue)).bind fun y3=>(ge N []).bind fun y6=>(ge N []).bind fun y11=>(ge N []).bind fun y15=>(dV N 1).bind fun y21=>(zh N (⟨([y3,y6]:List DCell),([y11,y15]:List DCell)⟩:DMemory) ([y21]:List DValue)).bind fun y23=>(dV N 1).bind fun y26=>(df N (⟨([y3,y6]:List DCell),([y11,y15]:List DCell)⟩:DMemory) ([y26]:List DValue)).bind fun y29=>(dV N 4).bind fun y57=>(dV N 6).bind fun y58=>(dV N 8).bind fun y59=>(ge N []).bind fun y61=>(ge N []).bind fun y65=>(ge N []).bind fun y69=>(dV N 2).bind fun y75=>(df N (⟨[],([(⟨10,0,0,0,([(⟨1,0,⟨#[]⟩⟩:DValue)]:List DValue),([y57,y58,y59,(⟨0,0,⟨#[]⟩⟩:DValue),(⟨3,7,⟨#[]⟩⟩:DValue)]:List DValue)⟩:DCell),y61,y65,y69]:List DCell)⟩:DMemory) ([y75]:List DValue)).bind fun y78=>(gi N y23.1 ([2,1]:List Int)).bind fun y108=>(bif y108 then ((gi N y23.2 ([2,4]:List Int)).bind fun y112=>some y112) else (some false)).bind fun b109=>((bif b109 then (some (decide (y29.2.2.2=0))) else (some false)).bind fun b113=>((bif b113 then (some (decide ((y29.1.Old.length:Int)=2))) else (some false)).bind fun b114=>((bif b114 then (some (decide ((y29.1.Young.length:Int)=0))) else (some false)).bind fun b115=>((bif b115 then ((aM y29.1.Old 1).bind fun x117=>some (decide ((x117.More.length:Int)=1))) else (some false)).bind fun b116=>((bif b116 then ((aM y29.1.Old 1).bind fun x123=>(aM x123.More 0).bind fun x128=>(dV N 2).bind fun y131=>some (decide (x128=y131))) else (some false)).bind fun b122=>((bif b122 then (some (decide ((y29.2.1.length:Int)=1))) else (some false)).bind fun b132=>((bif b132 then ((aM y29.2.1 0).bind fun x134=>(dV N 4).bind fun y135=>some (decide (x134=y135))) else (some false)).bind fun b133=>((bif b133 then (some (decide ((y29.2.2.1.length:Int)=0))) else (some false)).bind fun b136=>((bif b136 then (some (decide (y78.2.2.2=0))) else (some false)).bind fun b137=>((bif b137 then (some (decide ((y78.1.Old.length:Int)=3))) else (some false)).bind fun b138=>((bif b138 then ((dV N 4).bind fun y140=>(dV N 6).bind fun y141=>(ep N y78.2.2.1 ([y140,y141,(⟨3,7,⟨#[]⟩⟩:DValue)]:List DValue)).bind fun y144=>some y144) else (some false)).bind fun b139=>(some b139))))))))))))
def tH (N:Nat)(y8:(DMemory×(List DValue)×(List DValue)×Int))(p22:Bool):Option Bool:=
 bif p22 then (some false) else ((df N y8.1 ((([]:List DValue)++y8.2.1)++y8.2.2.1)).bind fun y33=>(bif decide (y33.2.2.2=0) then ((jf N y33.1.Old y8.1.Old).bind fun y40=>some y40) else (some false)).bind fun b39=>(bif b39 then (some (decide ((y33.1.Young.length:Int)=0))) else (some false)).bind fun b41=>(bif b41 then ((ep N y33.2.1 ((([]:List DValue)++y8.2.1)++y8.2.2.1)).bind fun y43=>some y43) else (some false)).bind fun b42=>(bif b42 then (some (decide ((y33.2.2.1.length:Int)=0))) else (some false)).bind fun b44=>(bif b44 then ((na N).bind fun y46=>some y46) else (some false)).bind fun b45=>some b45)
def FR (N:Nat)(a0:DMemory)(a1:(List DValue)):Option Bool:=
 (wh N a0 a1).bind fun y5=>bif !y5 then ((na N).bind fun y7=>some y7) else ((df N a0 a1).bind fun y8=>bif !decide (y8.2.2.2=0) then ((na N).bind fun y15=>some y15) else (bA (bY (([]:List DValue).length+y8.2.1.length)) (bA (bY ((([]:List DValue)++y8.2.1).length+y8.2.2.1.length)) ((bif !decide ((y8.1.Young.length:Int)=0) then (some true) else ((ny N a0 a1).bind fun y24=>some (!decide ((y8.1.Old.length:Int)=(y24.length:Int))))).bind fun b23=>((bif b23 then (some true) else ((ny N y8.1 ((([]:List DValue)++y8.2.1)++y8.2.2.1)).bind fun y28=>some (!decide ((y28.length:Int)=(y8.1.Old.length:Int))))).bind fun b27=>((bif b27 then (some true) else (some (!decide ((y8.2.2.1.length:Int).tmod 3=0)))).bind fun b31=>(tH N y8 b31)))))))
def mH (N:Nat)(a0:Int):Option DValue:=
 some (⟨7,a0,⟨#[]⟩⟩:DValue)
def Cr (N:Nat):Option Bool:=
 (mH N 3).bind fun y1=>(mH N 1).bind fun y10=>(eh N (⟨([(⟨1,0,0,0,([(⟨1,0,⟨#[]⟩⟩:DValue),y1]:List DValue),[]⟩:DCell),(⟨1,0,0,1,([(⟨1,0,⟨#[]⟩⟩:DValue)]:List DValue),[]⟩:DCell),(⟨1,0,0,1,([(⟨1,0,⟨#[]⟩⟩:DValue)]:List DValue),[]⟩:DCell)]:List DCell),[]⟩:DMemory) ([y10]:List DValue) []).bind fun y13=>(bif decide (y13.2.2.2=0) then (some (decide ((y13.1.Young.length:Int)=1))) else (some false)).bind fun b42=>((bif b42 then ((aM y13.1.Young 0).bind fun x44=>some (decide (x44.Age=1))) else (some false)).bind fun b43=>((bif b43 then ((aM y13.1.Young 0).bind fun x46=>(aM x46.Slots 1).bind fun x51=>(mH N 2).bind fun y54=>some (decide (x51=y54))) else (some false)).bind fun b45=>((bif b45 then (some (decide ((y13.1.Old.length:Int)=1))) else (some false)).bind fun b55=>((bif b55 then (some (decide ((y13.2.1.length:Int)=1))) else (some false)).bind fun b56=>((bif b56 then ((aM y13.2.1 0).bind fun x58=>(mH N 1).bind fun y59=>some (decide (x58=y59))) else (some false)).bind fun b57=>((bif b57 then (some (decide ((y13.2.2.1.length:Int)=0))) else (some false)).bind fun b60=>(some b60)))))))
def DA (N:Nat)(p3:(List DCell)):Option (List DCell):=
 some p3
def yg (N:Nat)(a0:(List DCell)):Nat→(List DCell)→Int→Option (List DCell)
 |0,_,_=>none
 |m4+1,p5,p6=>(bif decide (p6<(a0.length:Int)) then (some (decide (p6<40))) else (some false)).bind fun b8=>bif b8 then ((aM a0 p6).bind fun x10=>bA ((0:Int)≤min (x10.Slots.length:Int) 20∧0≤(min (x10.Slots.length:Int) 20).toNat∧(min (x10.Slots.length:Int) 20).toNat≤x10.Slots.length) (bA ((0:Int)≤min (x10.More.length:Int) 40∧0≤(min (x10.More.length:Int) 40).toNat∧(min (x10.More.length:Int) 40).toNat≤x10.More.length) (bA (bY (p5.length+([(⟨x10.Kind,x10.Shape,x10.Flags,x10.Age,(x10.Slots.drop 0).take ((min (x10.Slots.length:Int) 20).toNat - 0),(x10.More.drop 0).take ((min (x10.More.length:Int) 40).toNat - 0)⟩:DCell)]:List DCell).length)) (bA (in64 (p6+1)) ((yg N a0 m4) (p5++([(⟨x10.Kind,x10.Shape,x10.Flags,x10.Age,(x10.Slots.drop 0).take ((min (x10.Slots.length:Int) 20).toNat - 0),(x10.More.drop 0).take ((min (x10.More.length:Int) 40).toNat - 0)⟩:DCell)]:List DCell)) (p6+1)))))) else (DA N p5)
def z8 (N:Nat)(a0:(List DCell)):Option (List DCell):=
 yg N a0 N [] 0
def FU (N:Nat)(a0:DMemory):Option DMemory:=
 (z8 N a0.Young).bind fun y5=>(z8 N a0.Old).bind fun y7=>some (⟨y5,y7⟩:DMemory)
def Bx (N:Nat)(p3:(List Int)):Option (List Int):=
 some p3
def uJ (N:Nat)(kb4:(List Int)→Int→Option (List Int))(p6:Int)(a0:(List DValue))(p10:(List Int)):Option (List Int):=
 bA (in64 (p6+1)) (kb4 p10 (p6+1))
def pZ (N:Nat)(a0:(List DValue)):Nat→(List Int)→Int→Option (List Int)
 |0,_,_=>none
 |m4+1,p5,p6=>bif decide (p6<(a0.length:Int)) then ((aM a0 p6).bind fun x11=>(bif decide (x11.Kind=7) then (some true) else ((aM a0 p6).bind fun x13=>some (decide (x13.Kind=9)))).bind fun b12=>bif b12 then ((aM a0 p6).bind fun x15=>bA (bY (p5.length+([x15.N]:List Int).length)) (uJ N (pZ N a0 m4) p6 a0 (p5++([x15.N]:List Int)))) else (uJ N (pZ N a0 m4) p6 a0 p5)) else (Bx N p5)
def CE (N:Nat)(a0:(List DValue)):Option (List Int):=
 pZ N a0 N [] 0
def ry (N:Nat)(a0:Int):Option Bool:=
 (bif decide (0<a0) then (some (decide (a0.tmod 2=1))) else (some false)).bind fun b1=>some b1
def F8 (N:Nat)(a0:DMemory)(a1:Int):Option Bool:=
 bif decide (a1<1) then (some false) else ((ry N a1).bind fun y5=>bif y5 then (bA (in64 (a1.tdiv 2)) (some (decide (a1.tdiv 2<(a0.Young.length:Int))))) else (bA (in64 (a1.tdiv 2)) (bA (in64 ((a1.tdiv 2) - 1)) (some (decide ((a1.tdiv 2) - 1<(a0.Old.length:Int)))))))
def Bw (N:Nat):Option Bool:=
 some true
def uI (N:Nat)(a1:(List Int))(a0:DMemory):Nat→Int→Option Bool
 |0,_=>none
 |m6+1,p7=>bif decide (p7<(a1.length:Int)) then ((aM a1 p7).bind fun x9=>(F8 N a0 x9).bind fun y10=>bif !y10 then (some false) else (bA (in64 (p7+1)) ((uI N a1 a0 m6) (p7+1)))) else (Bw N)
def rx (N:Nat)(a0:DMemory)(a1:(List Int)):Option Bool:=
 uI N a1 a0 N 0
def CF (N:Nat):Option Bool:=
 some true
def uK (N:Nat)(kb10:Int→Option Bool)(p11:Int)(a0:DMemory)(p16:Int)(p17:Int)(p18:Int)(p19:Int)(p20:(List DValue))(p21:(List DValue)):Option Bool:=
 (da N (⟨p16,p17,p18,p19,p20,p21⟩:DCell)).bind fun y32=>(bif !y32 then (some true) else ((jg N (⟨p16,p17,p18,p19,p20,p21⟩:DCell)).bind fun y34=>(rx N a0 y34).bind fun y36=>some (!y36))).bind fun b33=>(bif b33 then (some true) else ((qc N (⟨p16,p17,p18,p19,p20,p21⟩:DCell)).bind fun y38=>(rx N a0 y38).bind fun y40=>some (!y40))).bind fun b37=>bif b37 then (some false) else (bA (in64 (p11+1)) (kb10 (p11+1)))
def qa (N:Nat)(a0:DMemory):Nat→Int→Option Bool
 |0,_=>none
 |m10+1,p11=>bA (in64 ((a0.Young.length:Int)+(a0.Old.length:Int))) (bif decide (p11<(a0.Young.length:Int)+(a0.Old.length:Int)) then (bif decide (p11<(a0.Young.length:Int)) then ((aM a0.Young p11).bind fun x23=>uK N (qa N a0 m10) p11 a0 x23.Kind x23.Shape x23.Flags x23.Age x23.Slots x23.More) else (bA (in64 (p11 - (a0.Young.length:Int))) ((aM a0.Old (p11 - (a0.Young.length:Int))).bind fun x28=>uK N (qa N a0 m10) p11 a0 x28.Kind x28.Shape x28.Flags x28.Age x28.Slots x28.More))) else (CF N))
def DR (N:Nat)(a0:DMemory)(a1:(List DValue)):Option Bool:=
 (CE N a1).bind fun y5=>(rx N a0 y5).bind fun y7=>bif !y7 then (some false) else (qa N a0 N 0)
def Cq (N:Nat)(p5:(List Int)):Option (List Int):=
 some p5
def ur (N:Nat)(kb6:(List Int)→Int→Option (List Int))(p8:Int)(a0:DMemory)(p12:(List Int)):Option (List Int):=
 bA (in64 (p8+1)) (kb6 p12 (p8+1))
def Bn (N:Nat)(kb6:(List Int)→Int→Option (List Int))(p8:Int)(p7:(List Int))(a0:DMemory)(p28:Bool):Option (List Int):=
 bif p28 then (bA (in64 (2*p8)) (bA (in64 ((2*p8)+2)) (bA (bY (p7.length+([(2*p8)+2]:List Int).length)) (ur N kb6 p8 a0 (p7++([(2*p8)+2]:List Int)))))) else (ur N kb6 p8 a0 p7)
def uq (N:Nat)(kb6:(List Int)→Int→Option (List Int))(p8:Int)(p7:(List Int))(y21:((List Int)))(y23:((List Int)))(a0:DMemory):Nat→Bool→Int→Option (List Int)
 |0,_,_=>none
 |m29+1,p30,p31=>bif decide (p31<((y21++y23).length:Int)) then ((bif p30 then (some true) else ((aM (y21++y23) p31).bind fun x34=>(ry N x34).bind fun y35=>some y35)).bind fun b33=>bA (in64 (p31+1)) ((uq N kb6 p8 p7 y21 y23 a0 m29) b33 (p31+1))) else (Bn N kb6 p8 p7 a0 p30)
def wN (N:Nat)(a0:DMemory):Nat→(List Int)→Int→Option (List Int)
 |0,_,_=>none
 |m6+1,p7,p8=>bif decide (p8<(a0.Old.length:Int)) then ((aM a0.Old p8).bind fun x13=>(aM a0.Old p8).bind fun x17=>(jg N x13).bind fun y21=>(qc N x17).bind fun y23=>bA (bY (y21.length+y23.length)) (uq N (wN N a0 m6) p8 p7 y21 y23 a0 N false 0)) else (Cq N p7)
def yf (N:Nat)(a0:DMemory):Option (List Int):=
 wN N a0 N [] 0
def vd (N:Nat)(a0:DMemory)(a1:(List DValue))(a2:(List Int)):Option (List Int):=
 (ky N a0 a1 a2).bind fun y6=>bif !y6 then (some []) else ((jk N a0 a1 a2).bind fun y9=>some y9.met_)
def tI (N:Nat)(y41:((List Int)))(p44:Int):Option Bool:=
 some (decide (p44=(y41.length:Int)))
def nc (N:Nat)(kb45:Int→Int→Option Bool)(p47:Int)(y37:((List Int)))(y41:((List Int)))(p50:Int):Option Bool:=
 bA (in64 (p47+1)) (kb45 p50 (p47+1))
def kh (N:Nat)(y37:((List Int)))(y41:((List Int))):Nat→Int→Int→Option Bool
 |0,_,_=>none
 |m45+1,p46,p47=>bif decide (p47<(y37.length:Int)) then ((aM y37 p47).bind fun x51=>(ry N x51).bind fun y52=>bif y52 then (bA (in64 (p46+1)) ((aM y37 p47).bind fun x55=>(uP N x55 y41).bind fun y56=>bif !y56 then (some false) else (nc N (kh N y37 y41 m45) p47 y37 y41 (p46+1)))) else (nc N (kh N y37 y41 m45) p47 y37 y41 p46)) else (tI N y41 p46)
def tJ (N:Nat)(a1:(List DValue))(y7:(DMemory))(p26:(List DValue)):Option Bool:=
 (dF N y7 p26).bind fun y37=>(yf N y7).bind fun y39=>(vd N y7 ((a1.drop 0).take ((min (a1.length:Int) 40).toNat - 0)) y39).bind fun y41=>kh N y37 y41 N 0 0
def nb (N:Nat)(a1:(List DValue))(y7:(DMemory)):Nat→(List DValue)→Int→Option Bool
 |0,_,_=>none
 |m27+1,p28,p29=>bif decide (p29<(y7.Old.length:Int)) then (bA (in64 (2*p29)) (bA (in64 ((2*p29)+2)) (bA (bY (p28.length+([(⟨9,(2*p29)+2,⟨#[]⟩⟩:DValue)]:List DValue).length)) (bA (in64 (p29+1)) ((nb N a1 y7 m27) (p28++([(⟨9,(2*p29)+2,⟨#[]⟩⟩:DValue)]:List DValue)) (p29+1)))))) else (tJ N a1 y7 p28)
def FT (N:Nat)(a0:DMemory)(a1:(List DValue)):Option Bool:=
 (Cr N).bind fun y5=>bif !y5 then (some false) else ((FU N a0).bind fun y7=>bA ((0:Int)≤min (a1.length:Int) 40∧0≤(min (a1.length:Int) 40).toNat∧(min (a1.length:Int) 40).toNat≤a1.length) ((DR N y7 ((a1.drop 0).take ((min (a1.length:Int) 40).toNat - 0))).bind fun y15=>bif !y15 then ((yf N y7).bind fun y17=>(vd N y7 ((a1.drop 0).take ((min (a1.length:Int) 40).toNat - 0)) y17).bind fun y20=>some (decide ((y20.length:Int)=0))) else (bA (bY (([]:List DValue).length+((a1.drop 0).take ((min (a1.length:Int) 40).toNat - 0)).length)) (nb N a1 y7 N (([]:List DValue)++((a1.drop 0).take ((min (a1.length:Int) 40).toNat - 0))) 0))))
def FS (N:Nat)(a0:DMemory)(a1:(List DValue)):Option Bool:=
 (wh N a0 a1).bind fun y5=>(bif !y5 then (some true) else ((th N a0 a1).bind fun y7=>some (!y7))).bind fun b6=>bif b6 then ((na N).bind fun y9=>some y9) else ((mJ N).bind fun y10=>(cc N y10 a0).bind fun y13=>(eI N y13).bind fun y15=>(eh N a0 a1 y15).bind fun y18=>bif !decide (y18.2.2.2=0) then (some false) else ((df N y18.1 y18.2.1).bind fun y46=>(df N a0 a1).bind fun y52=>(bif decide (y46.2.2.2=0) then (some (decide (y52.2.2.2=0))) else (some false)).bind fun b58=>(bif b58 then ((zO N y46.1 y46.2.1 y52.1 y52.2.1).bind fun y60=>some y60) else (some false)).bind fun b59=>(bif b59 then ((na N).bind fun y62=>some y62) else (some false)).bind fun b61=>some b61))
def Sat {ρ:Type}(m:Option ρ)(R:ρ→Prop):Prop:= ∃r,m=some r∧R r
theorem aS {ρ:Type}{x:ρ}{R:ρ→Prop}(h:R x):Sat (some x) R:=⟨x,rfl,h⟩
theorem Sat.eq {ρ:Type}{m:Option ρ}{x:ρ}(h:Sat m (· =x)):m=some x:=by obtain ⟨r,h1,rfl⟩:=h;exact h1
theorem Sat.mono {ρ:Type}{m:Option ρ}{R Q:ρ→Prop}(h:Sat m R)(k: ∀x,R x→Q x):Sat m Q:=by obtain ⟨r,h1,h2⟩:=h;exact ⟨r,h1,k _ h2⟩
theorem Sat.bind {ρ σ:Type}{m:Option σ}{f:σ→Option ρ}{P:σ→Prop}{R:ρ→Prop}(h:Sat m P)(k: ∀x,P x→Sat (f x) R):Sat (m.bind f) R:=by obtain ⟨x,rfl,h2⟩:=h;exact k x h2
theorem nq {ρ:Type}{b:Bool}{x y:Option ρ}{R:ρ→Prop}(h1:b=true→Sat x R)(h2:b=false→Sat y R):Sat (bif b then x else y) R:=by cases b with|true=>exact h1 rfl|false=>exact h2 rfl
theorem dP {ρ:Type}{p:Prop}[Decidable p]{x y:Option ρ}{R:ρ→Prop}(h1:p→Sat x R)(h2: ¬p→Sat y R):Sat (bif decide p then x else y) R:=by
 by_cases h:p
 ·rw [decide_eq_true h];exact h1 h
 rw [decide_eq_false h];exact h2 h
theorem bs {ρ σ:Type}{x:σ}{f:σ→Option ρ}:(some x).bind f=f x:=Eq.trans rfl rfl
theorem ct {ρ:Type}{x y:ρ}:(bif true then x else y)=x:=Eq.trans rfl rfl
theorem cf {ρ:Type}{x y:ρ}:(bif false then x else y)=y:=Eq.trans rfl rfl
theorem nt:(!true)=false:=Eq.trans rfl rfl
theorem nf:(!false)=true:=Eq.trans rfl rfl
theorem cI {a b:Int}(h:a<b):decide (a<b)=true:=decide_eq_true h
theorem cG {a b:Int}(h:b≤a):decide (a<b)=false:=decide_eq_false (by omega)
theorem HE {a b:Int}(h:a≤b):decide (a≤b)=true:=decide_eq_true h
theorem HF {a b:Int}(h:b<a):decide (a≤b)=false:=decide_eq_false (by omega)
theorem mw {a b:Int}(h:a=b):decide (a=b)=true:=decide_eq_true h
theorem fa {a b:Int}(h:a≠b):decide (a=b)=false:=decide_eq_false h
theorem iS {ρ:Type}{b:Prop}[Decidable b]{m:Option ρ}(h:b):bA b m=m:=if_pos h
theorem r64 {ρ:Type}{a:Int}{m:Option ρ}(h1: -9000000000000000000≤a)(h2:a≤9000000000000000000):bA (in64 a) m=m:=if_pos ⟨by omega,by omega⟩
theorem rF {ρ:Type}{n:Nat}{m:Option ρ}(h:n≤1000000):bA (bY n) m=m:=if_pos (by unfold bY;omega)
theorem Jc {α:Type}{xs:List α}{i:Int}(h0:0≤i)(h1:i.toNat<xs.length):aM xs i=some xs[i.toNat]:=by
 unfold aM;rw [if_neg (by omega),List.getElem?_eq_getElem h1]
theorem bn {α:Type}{xs:List α}{i:Nat}(h1:i<xs.length):aM xs (i:Int)=some xs[i]:=by
 unfold aM;rw [if_neg (by omega),Int.toNat_natCast,List.getElem?_eq_getElem h1]
theorem cy {σ ρ:Type}(L:Nat→Nat→σ→Option ρ)(n:Nat)(Inv:Nat→σ→Prop)(R:ρ→Prop)
  (round: ∀m i s,i<n→Inv i s→(∀s',Inv (i+1) s'→Sat (L m (i+1) s') R)→Sat (L (m+1) i s) R)
  (fin: ∀m s,Inv n s→Sat (L (m+1) n s) R): ∀m i s,n<m+i→i≤n→Inv i s→Sat (L m i s) R
 |0,i,s,h,h2,_=>by omega
 |m+1,i,s,h,h2,hi=>by
  by_cases e:i=n
  ·subst e;exact fin m s hi
  exact round m i s (by omega) hi fun s' h'=>cy L n Inv R round fin m (i+1) s' (by omega) (by omega) h'
theorem lZ {σ ρ:Type}(L:Nat→σ→Option ρ)(v:σ→Nat)(Inv:σ→Prop)(R:ρ→Prop)
  (round: ∀m s,Inv s→(∀s',v s'<v s→Inv s'→Sat (L m s') R)→Sat (L (m+1) s) R): ∀m s,v s<m→Inv s→Sat (L m s) R
 |0,_,h,_=>by omega
 |m+1,s,h,hi=>round m s hi fun s' h1 h2=>lZ L v Inv R round m s' (by omega) h2
theorem bf {α:Type}{l:List α}{i:Nat}(h:i<l.length):l.take (i+1)=l.take i++ [l[i]]:=by
 rw [List.take_add_one,List.getElem?_eq_getElem h];rfl
theorem FK: ∀{a b:List Int},a.Pairwise (· < ·)→b.Pairwise (· < ·)→(∀x,x∈a↔x∈b)→a=b
 | [],[],_,_,_=>rfl
 | [],y::b,_,_,h=>by have:=(h y).2 (by simp);cases this
 |x::a,[],_,_,h=>by have:=(h x).1 (by simp);cases this
 | x::a,y::b,ha,hb,h=>by
  obtain ⟨ha1,ha2⟩:=List.pairwise_cons.1 ha;obtain ⟨hb1,hb2⟩:=List.pairwise_cons.1 hb
  have e:x=y:=by
   rcases List.mem_cons.1 ((h x).1 (by simp)) with e|h1
   ·exact e
   rcases List.mem_cons.1 ((h y).2 (by simp)) with e|h2
   ·exact e.symm
   have:=hb1 x h1;have:=ha1 y h2;omega
  subst e;rw [FK ha2 hb2 fun z=> ?_];constructor
  ·intro hz;rcases List.mem_cons.1 ((h z).1 (by simp [hz])) with e|h1
   ·subst e;exact absurd (ha1 z hz) (by omega)
   exact h1
  intro hz;rcases List.mem_cons.1 ((h z).2 (by simp [hz])) with e|h1
  ·subst e;exact absurd (hb1 z hz) (by omega)
  exact h1
theorem GS {a:List Int}(h:a.Pairwise (· < ·)):a.Nodup:=h.imp fun h=>by omega
theorem Ed {α β:Type}[DecidableEq α](a:α)(L:List (α×β)):(∃i b,fp a L 0=some (i,b)∧L[i]? =some (a,b))∨(fp a L 0=none∧a∉L.map (·.1)):=by
 cases h:fp a L 0 with
 | none=>exact .inr ⟨rfl,fun h1=>by
   obtain ⟨p,h2,h3⟩:=List.mem_map.1 h1
   exact (Jd a L).1 h p h2 h3⟩
 |some q=>obtain ⟨i,b⟩:=q;exact .inl ⟨i,b,rfl,(E5 a L 0 i b h).2⟩
theorem uu {α β:Type}[DecidableEq α](L:List (α×β))(a:α)(b:β):(pS L a b).map (·.1)=if a∈L.map (·.1) then L.map (·.1) else L.map (·.1)++ [a]:=by
 unfold pS;rcases Ed a L with ⟨i,c,h1,h2⟩|⟨h1,h2⟩
 ·have hm:a∈L.map (·.1):=List.mem_map.2 ⟨_,List.mem_of_getElem? h2,rfl⟩;rw [h1,if_pos hm];show (L.set i (a,b)).map (·.1)=_;rw [List.map_set];apply List.ext_getElem?;intro j;by_cases e:i=j
  ·subst e;have hlt:=(List.getElem?_eq_some_iff.1 h2).1;rw [List.getElem?_set_self (by simpa using hlt),List.getElem?_map,h2];rfl
  rw [List.getElem?_set_ne e]
 rw [h1,if_neg h2];show (L++ [(a,b)]).map (·.1)=_;rw [List.map_append];rfl
theorem IK {α β:Type}[DecidableEq α](L:List (α×β))(a:α)(b:β)(x:α):x∈(pS L a b).map (·.1)↔x=a∨x∈L.map (·.1):=by
 rw [uu];split
 ·constructor
  ·exact .inr
  rintro (rfl|h)<;>assumption
 rw [List.mem_append,List.mem_singleton];exact Or.comm
theorem qM {α:Type}: ∀{l:List α} {i:Nat} {a:α},l.Nodup→l[i]? =some a→ ∀x,x∈l.eraseIdx i↔x∈l∧x≠a
 | [],_,_,_,h,_=>by simp at h
 |y::l,0,a,hn,h,x=>by
  simp only [List.getElem?_cons_zero,Option.some.injEq] at h;subst h;rw [List.eraseIdx_cons_zero];obtain ⟨h1, -⟩:=List.nodup_cons.1 hn;constructor
  ·intro hx;exact ⟨by simp [hx],fun e=>h1 (e▸hx)⟩
  rintro ⟨hx,hne⟩;rcases List.mem_cons.1 hx with e|hx
  ·exact absurd e hne
  exact hx
 | y::l,i+1,a,hn,h,x=>by
  simp only [List.getElem?_cons_succ] at h;obtain ⟨h1,h2⟩:=List.nodup_cons.1 hn;rw [List.eraseIdx_cons_succ,List.mem_cons,List.mem_cons,qM h2 h x];have ha:a∈l:=List.mem_of_getElem? h;constructor
  ·rintro (rfl|⟨h3,h4⟩)
   ·exact ⟨.inl rfl,fun e=>h1 (e▸ha)⟩
   exact ⟨.inr h3,h4⟩
  rintro ⟨rfl|h3,h4⟩
  ·exact .inl rfl
  exact .inr ⟨h3,h4⟩
theorem AU {α β:Type}[DecidableEq α]{L:List (α×β)}(h:(L.map (·.1)).Nodup)(a:α):(∀x,x∈(wI L a).map (·.1)↔x∈L.map (·.1)∧x≠a)∧((wI L a).map (·.1)).Nodup∧(wI L a).length≤L.length:=by
 unfold wI;rcases Ed a L with ⟨i,c,h1,h2⟩|⟨h1,h2⟩
 ·rw [h1]
  have h3:(L.map (·.1))[i]? =some a:=by rw [List.getElem?_map,h2];rfl
  show (∀x,x∈(L.eraseIdx i).map (·.1)↔_)∧((L.eraseIdx i).map (·.1)).Nodup∧(L.eraseIdx i).length≤_;rw [←wH];exact ⟨qM h h3,h.sublist (List.eraseIdx_sublist _ _),(List.eraseIdx_sublist _ _).length_le⟩
 rw [h1];exact ⟨fun x=>⟨fun hx=>⟨hx,fun e=>h2 (e▸hx)⟩,fun hx=>hx.1⟩,h,Nat.le_refl _⟩
theorem jY {α:Type}(xs:List α)(i:Nat):aM xs (i:Int)=xs[i]? :=by
 unfold aM;rw [if_neg (by omega)];simp
theorem xI {ρ:Type}{b:Prop}[Decidable b]{m:Option ρ}(h:b):bA b m=m:=if_pos h
def bH (v:DValue):Bool:=decide (v.Kind=7)||decide (v.Kind=9)
def iR (k:Int)(i:Nat):Bool:=!decide (k=8)&&(!decide (k=10)||decide ((i:Int).tmod 2=0))
def pick (f:Nat→DValue→Bool):Nat→List DValue→List Int
 |_,[]=> []
 |i,v::l=>(bif f i v then [v.N] else [])++pick f (i+1) l
theorem fM (f:Nat→DValue→Bool)(i:Nat)(v:DValue)(l:List DValue):pick f i (v::l)=(bif f i v then [v.N] else [])++pick f (i+1) l:=rfl
theorem uU (f:Nat→DValue→Bool): ∀(i:Nat) (l:List DValue),(pick f i l).length≤l.length
 |_,[]=>Nat.le_refl _
 |i,v::l=>by
  have:=uU f (i+1) l;unfold pick;cases f i v<;>simp<;>omega
theorem wi: ∀(i:Nat) (l:List DValue),pick (fun _ _=>false) i l=[]
 |_,[]=>rfl
 |i,v::l=>by unfold pick;simp [wi (i+1) l]
theorem mx (N:Nat)(v:DValue):jD N v=some (bH v):=by
 unfold jD bH;cases decide (v.Kind=7)<;>rfl
theorem uD (N:Nat)(v:DValue):pz N v=some (bH v):=by
 unfold pz bH;cases decide (v.Kind=7)<;>rfl
theorem Ba (N:Nat)(a b:Bool)(x:DValue)(p:List Int)(h:p.length≤5000):cJ (fun x st=>d9 N a x st) (b,x) (none,p)=some (true,(none,p++(bif (b==a)&&bH x then [x.N] else []))):=by
 unfold cJ d9;simp only [mx,Option.bind_some];cases b==a
 ·simp
 cases bH x
 ·simp
 have:bY (p.length+ [x.N].length):=by unfold bY;simp only [List.length_cons,List.length_nil];omega
 simp only [cond_true,Option.bind_some,Bool.and_self];rw [xI this];rfl
theorem FL (N:Nat)(a:Bool)(c:DCell)(hc:c.More.length≤1000)(K:Nat)(hK:K≤1000): ∀(m i:Nat) (p:List Int),c.More.length<m+i→i≤c.More.length→p.length≤K+i→cell_all_c1_l15 N (cJ (fun x st=>d9 N a x st)) c m (i:Int) (none,p)=some (none,p++pick (fun i v=>(iR c.Kind i==a)&&bH v) i (c.More.drop i))
 |0,i,p,h,h2,_=>by omega
 | m+1,i,p,h,h2,h3=>by
  rw [cell_all_c1_l15.eq_2];by_cases hi:i<c.More.length
  ·rw [show (decide ((i:Int)<(c.More.length:Int)))=true from decide_eq_true (by omega),jY,List.getElem?_eq_getElem hi,List.drop_eq_getElem_cons hi];simp only [cond_true,Option.bind_some]
   have hs:(bif !decide (c.Kind=8) then ((bif !decide (c.Kind=10) then (some true) else (some (decide ((i:Int).tmod 2=0)))).bind fun b22=>some b22) else (some false))=some (iR c.Kind i):=by
    unfold iR;cases decide (c.Kind=8)<;>cases decide (c.Kind=10)<;>rfl
   rw [hs];simp only [Option.bind_some];rw [Ba N a _ _ _ (by omega)];rw [Option.bind_some]
   dsimp only
   rw [Bool.not_true,cond_false];rw [xI (by unfold in64;omega)]
   have hlen:(p++(bif (iR c.Kind i==a)&&bH c.More[i] then [c.More[i].N] else [])).length≤K+(i+1):=by
    cases (iR c.Kind i==a)&&bH c.More[i]<;>simp<;>omega
   have:=FL N a c hc K hK m (i+1) _ (by omega) hi hlen;simp only [Int.natCast_add,Int.cast_ofNat_Int] at this;rw [this];rw [fM,List.append_assoc]
  rw [show (decide ((i:Int)<(c.More.length:Int)))=false from decide_eq_false (by omega),List.drop_eq_nil_of_le (by omega)];simp [pick]
theorem Iw (N:Nat)(hN:2000<N)(a:Bool)(c:DCell)(hS:c.Slots.length≤1000)(hc:c.More.length≤1000): ∀(m i:Nat) (p:List Int),c.Slots.length<m+i→i≤c.Slots.length→p.length≤i→cell_all_c1_l6 N (cJ (fun x st=>d9 N a x st)) c m (i:Int) (none,p)=some (none,(p++pick (fun _ v=>(true==a)&&bH v) i (c.Slots.drop i))++pick (fun i v=>(iR c.Kind i==a)&&bH v) 0 c.More)
 |0,i,p,h,h2,_=>by omega
 | m+1,i,p,h,h2,h3=>by
  rw [cell_all_c1_l6.eq_2];by_cases hi:i<c.Slots.length
  ·rw [show (decide ((i:Int)<(c.Slots.length:Int)))=true from decide_eq_true (by omega),jY,List.getElem?_eq_getElem hi,List.drop_eq_getElem_cons hi];simp only [cond_true,Option.bind_some];rw [Ba N a _ _ _ (by omega)];rw [Option.bind_some]
   dsimp only
   rw [Bool.not_true,cond_false];rw [xI (by unfold in64;omega)]
   have hlen:(p++(bif (true==a)&&bH c.Slots[i] then [c.Slots[i].N] else [])).length≤(i+1):=by
    cases (true==a)&&bH c.Slots[i]<;>simp<;>omega
   have:=Iw N hN a c hS hc m (i+1) _ (by omega) hi hlen;simp only [Int.natCast_add,Int.cast_ofNat_Int] at this;rw [this];rw [fM,List.append_assoc p]
  rw [show (decide ((i:Int)<(c.Slots.length:Int)))=false from decide_eq_false (by omega),List.drop_eq_nil_of_le (by omega)];simp only [cond_false,nW];have:=FL N a c hc p.length (by omega) N 0 p (by omega) (by omega) (by omega);simp only [Int.natCast_zero,Int.cast_ofNat_Int] at this;rw [this];simp [pick]
theorem sg (N:Nat)(hN:2000<N)(a:Bool)(c:DCell)(hS:c.Slots.length≤1000)(hc:c.More.length≤1000):gM N c a=some (pick (fun _ v=>(true==a)&&bH v) 0 c.Slots++pick (fun i v=>(iR c.Kind i==a)&&bH v) 0 c.More):=by
 unfold gM nX jZ;have:=Iw N hN a c hS hc N 0 [] (by omega) (by omega) (by simp);simp only [Int.natCast_zero,Int.cast_ofNat_Int] at this;rw [Option.bind_some,this,Option.bind_some];show some _=some _;simp
def fc (k:Int)(i:Nat):Bool:=decide (k=8)||(decide (k=10)&&(decide (0<(i:Int))&&decide ((((i:Int) - 1).tmod 4).tmod 2=0)))
theorem FP (N:Nat)(k:Int)(i:Nat)(hi:i≤5000):qb N k (i:Int)=some (fc k i):=by
 unfold qb fc;by_cases h1:k=8
 ·simp [h1]
 by_cases h2:k=10
 ·by_cases h3:(0:Int)<i
  ·subst h2;simp only [h3,decide_true,ct,bs,r64 (a:=(i:Int) - 1) (by omega) (by omega),show decide ((10:Int)=8)=false from rfl,cf,Bool.false_or,Bool.true_and]
  subst h2;simp only [h3,decide_true,decide_false,ct,bs,show decide ((10:Int)=8)=false from rfl,cf,Bool.false_or,Bool.true_and,Bool.false_and]
 simp [h1,h2]
theorem yx (N:Nat)(hN:2000<N)(c:DCell)(hS:c.Slots.length≤1000)(hc:c.More.length≤1000):jg N c=some (pick (fun _ v=>bH v) 0 c.Slots++pick (fun i v=> !fc c.Kind i&&bH v) 0 c.More):=by
 apply Sat.eq;unfold jg;refine cy (fun m i s=>r15_Leads_l6 N c m s (i:Int)) c.Slots.length (fun i s=>s++pick (fun _ v=>bH v) i (c.Slots.drop i)=pick (fun _ v=>bH v) 0 c.Slots∧s.length≤i) _ ?_ ?_ N 0 [] (by omega) (by omega) ⟨by simp,by simp⟩
 ·rintro m i s hi ⟨h1,h2⟩ k;show Sat (r15_Leads_l6 N c (m+1) s i) _;rw [List.drop_eq_getElem_cons hi,fM] at h1;rw [r15_Leads_l6.eq_2,cI (by omega),cond_true,bn hi,bs,uD,bs];simp only [bs];cases hh:bH c.Slots[i]
  all_goals
   simp only [hh,ct,cf,bs,List.nil_append] at h1⊢
   first
   |(unfold lE
     rw [r64 (by omega) (by omega)]
     exact k s ⟨h1,by omega⟩)
   |(rw [rF (by simp;omega)]
     unfold lE;rw [r64 (by omega) (by omega)]
     exact k _ ⟨by rw [List.append_assoc];exact h1,by simp;omega⟩)
 rintro m s ⟨h1,h2⟩;show Sat (r15_Leads_l6 N c (m+1) s _) _;rw [List.drop_length] at h1
 have h1:s=pick (fun _ v=>bH v) 0 c.Slots:=by rw [←h1];simp [pick]
 rw [r15_Leads_l6.eq_2,cG (by omega),cond_false, ←h1];unfold uQ;clear h1;refine cy (fun m i s=>r15_Leads_l23 N c m s (i:Int)) c.More.length (fun i t=>t++pick (fun i v=> !fc c.Kind i&&bH v) i (c.More.drop i)=s++pick (fun i v=> !fc c.Kind i&&bH v) 0 c.More∧t.length≤1000+i) _ ?_ ?_ N 0 s (by omega) (by omega) ⟨by simp,by omega⟩
 ·rintro m i s hi ⟨h1,h2⟩ k;show Sat (r15_Leads_l23 N c (m+1) s i) _;rw [List.drop_eq_getElem_cons hi,fM] at h1;rw [r15_Leads_l23.eq_2,cI (by omega),cond_true,bn hi,bs,uD,bs,FP _ _ _ (by omega)];simp only [bs];cases hh:bH c.More[i]<;>cases hw:fc c.Kind i
  all_goals
   simp only [hh,hw,Bool.and_true,Bool.and_false,nt,nf,ct,cf,bs,List.nil_append] at h1⊢
   first
   |(unfold lD
     rw [r64 (by omega) (by omega)]
     exact k s ⟨h1,by omega⟩)
   |(rw [rF (by simp;omega)]
     unfold lD;rw [r64 (by omega) (by omega)]
     exact k _ ⟨by rw [List.append_assoc];exact h1,by simp;omega⟩)
 rintro m s ⟨h1,h2⟩;show Sat (r15_Leads_l23 N c (m+1) s _) _;rw [List.drop_length] at h1;rw [r15_Leads_l23.eq_2,cG (by omega),cond_false];exact aS (by rw [←h1];simp [pick])
theorem wQ (k:Int)(i:Nat):iR k i=!fc k i:=by
 unfold iR fc;by_cases h8:k=8
 ·subst h8;rfl
 by_cases h10:k=10
 ·subst h10;have e0:(i:Int).tmod 2=(i:Int)%2:=Int.tmod_eq_emod_of_nonneg (by omega);by_cases hi:(0:Int)<i
  ·have e1:((i:Int) - 1).tmod 4=((i:Int) - 1)%4:=Int.tmod_eq_emod_of_nonneg (by omega);have e2:(((i:Int) - 1)%4).tmod 2=(((i:Int) - 1)%4)%2:=Int.tmod_eq_emod_of_nonneg (by omega);rw [e0,e1,e2];by_cases h:(i:Int)%2=0
   ·have h2: ¬(((i:Int) - 1)%4)%2=0:=by omega
    rw [decide_eq_true h,decide_eq_false h2,decide_eq_true hi];rfl
   have h2:(((i:Int) - 1)%4)%2=0:=by omega
   rw [decide_eq_false h,decide_eq_true h2,decide_eq_true hi];rfl
  have:i=0:=by omega
  subst this;rfl
 simp [h8,h10]
def bN (c:DCell):List Int:=pick (fun _ v=>bH v) 0 c.Slots++pick (fun i v=> !fc c.Kind i&&bH v) 0 c.More
theorem lp (N:Nat)(hN:2000<N)(c:DCell)(hS:c.Slots.length≤1000)(hc:c.More.length≤1000):ea N c=some (bN c):=by
 unfold ea bN;rw [sg N hN true c hS hc,bs]
 have e1:(fun (_:Nat) (v:DValue)=>(true==true)&&bH v)=fun _ v=>bH v:=by funext i v;rfl
 have e2:(fun (i:Nat) (v:DValue)=>(iR c.Kind i==true)&&bH v)=fun i v=> !fc c.Kind i&&bH v:=by funext i v;rw [wQ];cases fc c.Kind i<;>rfl
 rw [e1,e2]
theorem Gt (N:Nat)(hN:2000<N)(c:DCell)(hS:c.Slots.length≤1000)(hc:c.More.length≤1000):jg N c=some (bN c):=yx N hN c hS hc
theorem jl (c:DCell):(bN c).length≤c.Slots.length+c.More.length:=by
 unfold bN;have h1:=uU (fun _ v=>bH v) 0 c.Slots;have h2:=uU (fun i v=> !fc c.Kind i&&bH v) 0 c.More;rw [List.length_append];omega
theorem uT {f:Nat→DValue→Bool}{x:Int}: ∀{i:Nat} {l:List DValue},x∈pick f i l→ ∃v∈l,v.N=x
 |_,[],h=>by cases h
 | i,v::l,h=>by
  rw [fM,List.mem_append] at h;rcases h with h|h
  ·cases hf:f i v
   ·rw [hf] at h;cases h
   rw [hf] at h;exact ⟨v,by simp,(List.mem_singleton.1 h).symm⟩
  obtain ⟨w,h1,h2⟩:=uT h;exact ⟨w,by simp [h1],h2⟩
theorem zm {c:DCell}{x:Int}(h:x∈bN c): ∃v∈c.Slots++c.More,v.N=x:=by
 unfold bN at h;rcases List.mem_append.1 h with h|h
 ·obtain ⟨v,h1,h2⟩:=uT h;exact ⟨v,by simp [h1],h2⟩
 obtain ⟨v,h1,h2⟩:=uT h;exact ⟨v,by simp [h1],h2⟩
def z7:DCell:=⟨0,0,0,0,[],[]⟩
def fI (m:DMemory)(a:Int):Option DCell:=if a<1 then none else if a%2=1 then m.Young[((a - 1) / 2).toNat]? else m.Old[((a - 2) / 2).toNat]?
def bK (m:DMemory)(a:Int):Bool:=(fI m a).isSome
def ce (m:DMemory)(a:Int):DCell:=(fI m a).getD z7
structure Small (m:DMemory) (roots:List DValue):Prop where
 young:m.Young.length≤600
 old:m.Old.length≤600
 roots:roots.length≤600
 cells: ∀c∈m.Young++m.Old,c.Slots.length≤600∧c.More.length≤600
theorem oc {m:DMemory}{a:Int}{c:DCell}(h:fI m a=some c):c∈m.Young++m.Old:=by
 unfold fI at h;split at h
 ·cases h
 split at h
 ·exact List.mem_append_left _ (List.mem_of_getElem? h)
 exact List.mem_append_right _ (List.mem_of_getElem? h)
theorem Small.at_ {m:DMemory}{roots:List DValue}(h:Small m roots)(a:Int):(ce m a).Slots.length≤600∧(ce m a).More.length≤600:=by
 unfold ce
 cases hc:fI m a with
 |none=>exact ⟨by simp [z7],by simp [z7]⟩
 |some c=>exact h.cells c (oc hc)
theorem nQ {m:DMemory}{a:Int}(h:bK m a=true):0<a:=by
 unfold bK fI at h;split at h
 ·cases h
 omega
theorem sE {m:DMemory}{roots:List DValue}(hs:Small m roots){a:Int}(h:bK m a=true):a≤1200:=by
 have h1:=hs.young;have h2:=hs.old;unfold bK fI at h;split at h
 ·cases h
 split at h
 ·have:=(List.getElem?_eq_some_iff.1 (Option.isSome_iff_exists.1 h).choose_spec).1;omega
 have:=(List.getElem?_eq_some_iff.1 (Option.isSome_iff_exists.1 h).choose_spec).1;omega
theorem tc {a:Int}(h:0≤a):a.tdiv 2=a / 2:=Int.tdiv_eq_ediv_of_nonneg h
theorem ng {a:Int}(h:0≤a):a.tmod 2=a%2:=Int.tmod_eq_emod_of_nonneg h
theorem sD {α:Type}(l:List α)(i:Nat):(l[i]?).isSome=decide ((i:Int)<(l.length:Int)):=by
 by_cases h:i<l.length
 ·rw [List.getElem?_eq_getElem h,decide_eq_true (by omega)];rfl
 rw [List.getElem?_eq_none (by omega),decide_eq_false (by omega)];rfl
theorem qt (m:DMemory)(a:Int):(a<1∧fI m a=none)∨(∃k:Nat,a=2*(k:Int)+1∧fI m a=m.Young[k]?)∨(∃k:Nat,a=2*(k:Int)+2∧fI m a=m.Old[k]?):=by
 by_cases h:a<1
 ·exact .inl ⟨h,by unfold fI;rw [if_pos h]⟩
 by_cases h2:a%2=1
 ·refine .inr (.inl ⟨((a - 1) / 2).toNat,by omega,?_⟩);unfold fI;rw [if_neg h,if_pos h2]
 refine .inr (.inr ⟨((a - 2) / 2).toNat,by omega,?_⟩);unfold fI;rw [if_neg h,if_neg h2]
theorem FW {a:Int}(h:in64 a): -4611686018427387904≤a.tdiv 2∧a.tdiv 2≤4611686018427387904:=by
 unfold in64 at h;by_cases h0:0≤a
 ·rw [tc h0];omega
 have h1:(-a).tdiv 2= -(a.tdiv 2):=Int.neg_tdiv a 2;rw [tc (by omega)] at h1;omega
theorem yM (N:Nat)(m:DMemory)(a:Int)(h:in64 a):Sat (jV N m a) fun r=>r.2.2=bK m a∧(bK m a=true→aM r.1 r.2.1=fI m a):=by
 have hd:=FW h;unfold jV;rw [r64 (by omega) (by omega)];unfold kH bK;rcases qt m a with ⟨h1,h2⟩|⟨k,h1,h2⟩|⟨k,h1,h2⟩
 ·rw [h2]
  refine dP (fun _=> ?_) fun _=> ?_
  ·rw [r64 (by omega) (by omega),r64 (by omega) (by omega),cG (a:=0) (b:=a) (by omega),cf,bs];exact aS ⟨rfl,fun h=>by cases h⟩
  rw [cG (a:=0) (b:=a) (by omega),cf,bs];exact aS ⟨rfl,fun h=>by cases h⟩
 ·subst h1;rw [h2,ng (by omega),tc (by omega),fa (by omega),cf,cI (by omega),ct,bs,show (2*(k:Int)+1) / 2=k by omega];exact aS ⟨(sD _ _).symm,fun _=>jY _ _⟩
 subst h1;rw [h2,ng (by omega),tc (by omega),mw (by omega),ct,cI (by omega),ct,bs,show (2*(k:Int)+2) / 2 - 1=k by omega];rw [r64 (by omega) (by omega),r64 (by omega) (by omega)];exact aS ⟨(sD _ _).symm,fun _=>jY _ _⟩
theorem pO (N:Nat)(m:DMemory)(a:Int)(h:in64 a):dq N m a=some (bK m a):=by
 obtain ⟨r,h1,h2, -⟩:=yM N m a h;unfold dq;rw [h1,bs,h2]
theorem kz (N:Nat)(c:DCell)(h:c.Slots.length≤600∧c.More.length≤600):dx N c=some c:=by
 unfold dx cE;rw [rF (by simp;omega),bs,rF (by simp;omega),bs];rfl
theorem Ci (N:Nat){m:DMemory}{roots:List DValue}(hs:Small m roots)(a:Int)(h:in64 a):eo N m a=some (ce m a):=by
 obtain ⟨r,h1,h2,h3⟩:=yM N m a h;unfold eo ce;rw [h1,bs,h2];unfold bK at*
 cases hc:fI m a with
 |none=>rfl
 |some c=>
  have h4:=h3 (by rw [hc];rfl);rw [hc] at h4;have h5:=kz N c (hs.cells c (oc hc));simp only [Option.isSome_some,nt,cf,h4,bs,h5];rfl
theorem E2 (N:Nat)(m:DMemory)(a:Int)(h:in64 a):mT N m a=some (bK m a):=by
 unfold in64 at h;unfold mT bK;rcases qt m a with ⟨h1,h2⟩|⟨k,h1,h2⟩|⟨k,h1,h2⟩
 ·rw [h2,cI h1];rfl
 ·subst h1;rw [h2,cG (by omega),cf,ng (by omega),mw (by omega),ct,tc (by omega),show (2*(k:Int)+1 - 1) / 2=k by omega,sD];rw [iS (by unfold in64;omega),iS (by unfold in64;omega)]
 subst h1;rw [h2,cG (by omega),cf,ng (by omega),fa (by omega),cf,tc (by omega),show (2*(k:Int)+2 - 2) / 2=k by omega,sD];rw [iS (by unfold in64;omega),iS (by unfold in64;omega)]
theorem Iu (N:Nat)(m:DMemory)(a:Int)(h:in64 a):rB N m a=some (ce m a):=by
 have hh:=E2 N m a h;unfold in64 at h;unfold rB ce;rw [hh,bs];unfold bK;rcases qt m a with ⟨h1,h2⟩|⟨k,h1,h2⟩|⟨k,h1,h2⟩
 ·rw [h2];rfl
 ·cases hc:m.Young[k]? with
  |none=>rw [h2,hc];rfl
  |some c=>
   rw [h2,hc];subst h1;simp only [Option.isSome_some,nt,cf];rw [ng (by omega),mw (by omega),ct,tc (by omega),show (2*(k:Int)+1 - 1) / 2=k by omega,jY,hc,bs];rw [iS (by unfold in64;omega),iS (by unfold in64;omega)];rfl
 cases hc:m.Old[k]? with
 |none=>rw [h2,hc];rfl
 |some c=>
  rw [h2,hc];subst h1;simp only [Option.isSome_some,nt,cf];rw [ng (by omega),fa (by omega),cf,tc (by omega),show (2*(k:Int)+2 - 2) / 2=k by omega,jY,hc,bs];rw [iS (by unfold in64;omega),iS (by unfold in64;omega)];rfl
theorem Gy (N:Nat)(k:Int):qo N k=gV N k:=by
 unfold qo gV f9;by_cases h1:k=1
 ·subst h1;rfl
 by_cases h2:k=2
 ·subst h2;rfl
 by_cases h3:k=3
 ·subst h3;rfl
 by_cases h6:k=6
 ·subst h6;rfl
 by_cases h8:k=8
 ·subst h8;rfl
 by_cases h9:k=9
 ·subst h9;rfl
 by_cases h10:k=10
 ·subst h10;rfl
 rw [fa h1,fa h2,fa h3,fa h6,fa h8,fa h9,fa h10];rfl
theorem G6 (N:Nat)(c:DCell):f4 N c=fT N c:=by
 unfold f4 fT;rw [Gy];rfl
theorem KB (N:Nat)(v:DValue):qn N v=fL N v:=by
 unfold qn fL me;by_cases h5:v.Kind=5
 ·rw [h5];rfl
 rw [fa h5];simp only [cf];by_cases hr:v.Kind<0∨9<v.Kind
 ·have h2:v.Kind≠2:=by omega
  have h3:v.Kind≠3:=by omega
  have h6:v.Kind≠6:=by omega
  have h7:v.Kind≠7:=by omega
  have h9:v.Kind≠9:=by omega
  have e1:((bif decide (v.Kind<0) then (some true) else (some (decide (9<v.Kind)))):Option Bool)=some true:=by
   rcases hr with h|h
   ·rw [cI h];rfl
   rw [cI (a:=9) h];cases decide (v.Kind<0)<;>rfl
  rw [e1,bs,ct,fa h2,fa h3,fa h6,fa h7,fa h9];simp only [cf]
  have e2:(((bif decide (v.N=0) then (some (decide (0≤v.Kind))) else (some false)).bind fun b14=>(bif b14 then (some (decide (v.Kind≤9))) else (some false)).bind fun b15=>some b15):Option Bool)=some false:=by
   cases decide (v.N=0)
   ·rfl
   rcases hr with h|h
   ·rw [HF (a:=0) (b:=v.Kind) (by omega)];rfl
   rw [HF (a:=v.Kind) (b:=9) (by omega)];cases decide (0≤v.Kind)<;>rfl
  rw [e2];cases s:(v.S.toList==(⟨#[]⟩:ByteArray).toList)<;>rfl
 have e1:((bif decide (v.Kind<0) then (some true) else (some (decide (9<v.Kind)))):Option Bool)=some false:=by
  rw [cG (a:=v.Kind) (b:=0) (by omega),cG (a:=9) (b:=v.Kind) (by omega)];rfl
 rw [e1,bs,cf];cases hs:(v.S.toList==(⟨#[]⟩:ByteArray).toList)
 ·rfl
 simp only [nt,cf];by_cases h2:v.Kind=2
 ·rw [h2];rfl
 rw [fa h2];simp only [cf];by_cases h3:v.Kind=3
 ·rw [h3];rfl
 rw [fa h3];simp only [cf];by_cases h6:v.Kind=6
 ·rw [h6];rfl
 rw [fa h6];simp only [cf];by_cases h7:v.Kind=7
 ·rw [h7];rfl
 rw [fa h7];simp only [cf];by_cases h9:v.Kind=9
 ·rw [h9];rfl
 rw [fa h9,HE (a:=0) (by omega),HE (a:=v.Kind) (by omega)];cases decide (v.N=0)<;>rfl
theorem CX (N:Nat)(v:DValue): ∃b,fL N v=some b:=by
 unfold fL;cases decide (v.Kind<0)<;>cases decide (9<v.Kind)<;>cases decide (v.Kind=5)<;>cases decide (v.N=0)<;>cases (v.S.toList==(⟨#[]⟩:ByteArray).toList)<;>cases decide (v.Kind=2)<;>cases decide (v.Kind=3)<;>cases decide ((-9007199254740992)≤v.N)<;>cases decide (v.Kind=6)<;>cases decide (v.Kind=7)<;>cases decide (v.Kind=9)<;>exact ⟨_,rfl⟩
theorem vF (N:Nat)(k:Nat)(hk:k=2∨k=4)(l:List DValue)(hl:l.length≤1000): ∀(m i:Nat),l.length<m+i→i≤l.length→(l.length - i)%k=0→ ∃b,r15_entries_l5 N (k:Int) l m (i:Int)=some b∧
  slices_Chunk_l4 N (cJ (fun x st=>cg N (k:Int) x st)) l (k:Int) m (i:Int) (none,())=some (bif b then (none,()) else (some .ret,()))
 |0,i,h,h2,_=>by omega
 | m + 1,i,h,h2,h3=>by
  by_cases hi:i<l.length
  ·have hik:i+k≤l.length:=by
    rcases hk with rfl|rfl<;>omega
   have hmin:(min (k:Int) (((l.drop (i:Int).toNat).take (l.length - (i:Int).toNat)).length:Int))=k:=by
    rw [List.length_take,List.length_drop,Int.toNat_natCast];omega
   have hto:((i:Int)+(k:Int)).toNat=i+k:=by omega
   have hx: ∀j,j<k→aM ((l.drop i).take k) (j:Int)=l[i+j]? :=fun j hj=>by
    rw [jY,List.getElem?_take,if_pos hj,List.getElem?_drop]
   have hk0:=hx 0 (by omega);have hk1:=hx 1 (by omega);rw [List.getElem?_eq_getElem (by omega)] at hk0 hk1;have hl0:aM l (i:Int)=some l[i]:=bn hi
   have hl1:aM l ((i:Int)+1)=some (l[i+1]'(by omega)):=by
    have:=bn (xs:=l) (i:=i+1) (by omega);simpa using this
   obtain ⟨b,hb1,hb2⟩:=vF N k hk l hl m (i+k) (by omega) hik (by rcases hk with rfl|rfl<;>omega);simp only [Int.natCast_add] at hb1 hb2
   have fin: ∀b',(bif b' then some false else bA (in64 ((i:Int)+(k:Int))) (r15_entries_l5 N (k:Int) l m ((i:Int)+(k:Int))))=some (bif b' then false else b):=fun b'=>by
    cases b'
    ·rw [cf,r64 (by omega) (by omega),hb1];rfl
    rfl
   have fin2: ∀b':Bool,((bif b' then (some (some Exit.ret,())) else (some (none,())):Option (Option Exit×Unit)).map fun r=>(r.1.isNone,r))=some (!b',(bif b' then some Exit.ret else none,())):=fun b'=>by cases b'<;>rfl
   have goal: ∀b',((some (!b',((bif b' then some Exit.ret else none:Option Exit),())):Option (Bool×(Option Exit×Unit))).bind fun y14=>bif !y14.1 then (some y14.2) else (bA (in64 ((i:Int)+(k:Int))) ((slices_Chunk_l4 N (cJ (fun x st=>cg N (k:Int) x st)) l (k:Int) m) ((i:Int)+(k:Int)) y14.2)))=some (bif (bif b' then false else b) then (none,()) else (some .ret,())):=fun b'=>by
    cases b'
    ·rw [bs];simp only [nf,nt,cf];rw [r64 (by omega) (by omega)];exact hb2
    rfl
   have lift: ∀(x:List DValue) (b':Bool),cg N (k:Int) x ()=(bif b' then (some (some Exit.ret,())) else (some (none,())))→cJ (fun x st=>cg N (k:Int) x st) x (none,())=some (!b',(bif b' then some Exit.ret else none,())):=fun x b' hb=>by
    unfold cJ;simp only [hb];exact fin2 b'
   have key: ∃b',((aM l (i:Int)).bind fun x8=>(bif !decide (x8.Kind=7) then (some true) else (bA (in64 ((i:Int)+1)) ((aM l ((i:Int)+1)).bind fun x11=>some (decide (x11.Kind=8))))).bind fun b9=>bif b9 then (some false) else ((bif decide ((k:Int)=4) then (bA (in64 ((i:Int)+2)) ((aM l ((i:Int)+2)).bind fun x15=>(dk N x15 7).bind fun y16=>(bif !y16 then (some true) else (bA (in64 ((i:Int)+3)) ((aM l ((i:Int)+3)).bind fun x19=>(eJ N x19 0 9007199254740992).bind fun y20=>some (!y20)))).bind fun b17=>some b17)) else (some false)).bind fun b13=>bif b13 then (some false) else (bA (in64 ((i:Int)+(k:Int))) ((r15_entries_l5 N (k:Int) l m) ((i:Int)+(k:Int))))))=some (bif b' then false else b)∧cg N (k:Int) ((l.drop i).take k) ()=(bif b' then (some (some Exit.ret,())) else (some (none,()))):=by
    unfold cg;simp only [Int.cast_ofNat_Int,Int.natCast_zero,Int.natCast_one] at hk0 hk1;rw [hl0,bs,r64 (a:=(i:Int)+1) (by omega) (by omega),hl1,bs];have hk0':aM ((l.drop i).take k) 0=some l[i]:=hk0;have hk1':aM ((l.drop i).take k) 1=some (l[i+1]'(by omega)):=hk1;simp only [hk0',bs,hk1'];cases h7:(!decide (l[i].Kind=7))
    ·simp only [cf,bs];cases h8:decide ((l[i+1]'(by omega)).Kind=8)
     ·simp only [cf];rcases hk with rfl|rfl
      ·simp only [show decide (((2:Nat):Int)=4)=false from rfl,cf,bs];have f:=fin false;rw [cf] at f;refine ⟨false,?_,rfl⟩;exact f
      have hk2:=hx 2 (by omega);have hk3:=hx 3 (by omega);rw [List.getElem?_eq_getElem (by omega)] at hk2 hk3;have hk2':aM ((l.drop i).take 4) 2=some (l[i+2]'(by omega)):=hk2;have hk3':aM ((l.drop i).take 4) 3=some (l[i+3]'(by omega)):=hk3
      have hl2:aM l ((i:Int)+2)=some (l[i+2]'(by omega)):=by
       have:=bn (xs:=l) (i:=i+2) (by omega);simpa using this
      have hl3:aM l ((i:Int)+3)=some (l[i+3]'(by omega)):=by
       have:=bn (xs:=l) (i:=i+3) (by omega);simpa using this
      simp only [show decide (((4:Nat):Int)=4)=true from rfl,ct];rw [r64 (a:=(i:Int)+2) (by omega) (by omega),hl2,bs,hk2',bs,r64 (a:=(i:Int)+3) (by omega) (by omega),hl3,bs,hk3']
      have en: ∀v,fe N v 7=dk N v 7:=fun v=>rfl
      have em: ∀v,fg N v 0 9007199254740992=eJ N v 0 9007199254740992:=fun v=>rfl
      have hn: ∃b1,dk N (l[i+2]'(by omega)) 7=some b1:=by unfold dk;cases decide ((l[i+2]'(by omega)).Kind=0)<;>exact ⟨_,rfl⟩
      have hm: ∃b1,eJ N (l[i+3]'(by omega)) 0 9007199254740992=some b1:=by unfold eJ;cases decide ((l[i+3]'(by omega)).Kind=3)<;>cases decide (0≤(l[i+3]'(by omega)).N)<;>exact ⟨_,rfl⟩
      obtain ⟨b1,hn⟩:=hn;obtain ⟨b2,hm⟩:=hm;simp only [bs,en,em,hn,hm];cases b1
      ·simp only [nf,ct,bs];exact ⟨true,rfl,rfl⟩
      simp only [nt,cf,bs];exact ⟨!b2,fin (!b2),by cases b2<;>rfl⟩
     exact ⟨true,rfl,rfl⟩
    exact ⟨true,rfl,rfl⟩
   obtain ⟨b',e1,e2⟩:=key;refine ⟨bif b' then false else b,?_,?_⟩
   ·rw [r15_entries_l5.eq_2,cI (by omega),ct];exact e1
   rw [slices_Chunk_l4.eq_2,cI (by omega),ct,hmin,iS (show (0:Int)≤(i:Int)∧(i:Int).toNat≤l.length∧l.length≤l.length from ⟨by omega,by omega,Nat.le_refl _⟩),r64 (a:=(i:Int)+(k:Int)) (by omega) (by omega),r64 (a:=(i:Int)+(k:Int)) (by omega) (by omega)];rw [iS (show (0:Int)≤(i:Int)∧(0:Int)≤(i:Int)+(k:Int)∧(i:Int).toNat≤((i:Int)+(k:Int)).toNat∧((i:Int)+(k:Int)).toNat≤l.length from ⟨by omega,by omega,by omega,by omega⟩),hto,Int.toNat_natCast,show i+k - i=k by omega,lift _ b' e2];exact goal b'
  rw [r15_entries_l5.eq_2,slices_Chunk_l4.eq_2,cG (by omega),cf,cf];exact ⟨true,rfl,rfl⟩
theorem nT (N:Nat)(hN:2000<N)(k:Nat)(hk:k=2∨k=4)(l:List DValue)(hl:l.length≤1000): ∃b,dm N l (k:Int)=some b∧cQ N l (k:Int)=some b∧(b=true→l.length%k=0):=by
 unfold dm cQ
 have hk0:(k:Int)≠0:=by rcases hk with rfl|rfl<;>decide
 rw [iS hk0,iS hk0]
 have ht:(l.length:Int).tmod (k:Int)=((l.length%k:Nat):Int):=by
  rw [Int.tmod_eq_emod_of_nonneg (by omega)];rfl
 rw [ht];by_cases h:l.length%k=0
 ·rw [mw (by omega)];obtain ⟨b,h1,h2⟩:=vF N k hk l hl N 0 (by omega) (by omega) (by simpa using h)
  have e:ie N l (k:Int)=some ():=by
   unfold ie;rw [cG (by rcases hk with rfl|rfl<;>omega),cf]
  unfold nn;simp only [nt,cf,e,bs];have h1':r15_entries_l5 N (k:Int) l N 0=some b:=h1;have h2':slices_Chunk_l4 N (cJ (fun x st=>cg N (k:Int) x st)) l (k:Int) N 0 (none,())=some (bif b then (none,()) else (some .ret,())):=h2;rw [h1',h2',bs];exact ⟨b,by cases b<;>rfl,rfl,fun _=>h⟩
 rw [fa (by omega)];exact ⟨false,rfl,rfl,fun h=>by cases h⟩
theorem I5 (N:Nat)(hN:2000<N)(c:DCell)(hc:c.More.length≤1000):gL N c.Kind c.More=ik N c:=by
 obtain ⟨b2,h2,h2', -⟩:=nT N hN 2 (.inl rfl) c.More hc;obtain ⟨b4,h4,h4', -⟩:=nT N hN 4 (.inr rfl) ((c.More.drop ((1:Int).toNat)).take (c.More.length - (1:Int).toNat)) (by rw [List.length_take,List.length_drop];omega);have e2:dm N c.More 2=cQ N c.More 2:=h2.trans h2'.symm;have e4:dm N ((c.More.drop ((1:Int).toNat)).take (c.More.length - (1:Int).toNat)) 4=cQ N ((c.More.drop ((1:Int).toNat)).take (c.More.length - (1:Int).toNat)) 4:=h4.trans h4'.symm;unfold gL ik i4 gU;rw [e2,e4];rfl
theorem CY (N:Nat)(c:DCell)(b:Bool)(v:DValue): ∃y,fL N v=some y∧cJ (fun x st=>eG N c x st) (b,v) (none,())=some (y,(bif y then none else some Exit.ret,())):=by
 obtain ⟨y,hy⟩:=CX N v;refine ⟨y,hy,?_⟩;unfold cJ eG;simp only [KB,hy,bs];cases y<;>rfl
theorem yu (N:Nat)(c:DCell)(hc:c.More.length≤1000): ∀(m i:Nat),c.More.length<m+i→i≤c.More.length→ ∃b,r15_Right_l20 N c m (i:Int)=(bif b then cR N c else some false)∧
  cell_all_c1_l15 N (cJ (fun x st=>eG N c x st)) c m (i:Int) (none,())=some (bif b then none else some Exit.ret,())
 |0,i,h,h2=>by omega
 | m+1,i,h,h2=>by
  rw [r15_Right_l20.eq_2,cell_all_c1_l15.eq_2];by_cases hi:i<c.More.length
  ·rw [cI (by omega),ct,ct,bn hi,bs,bs]
   have hs:(bif !decide (c.Kind=8) then ((bif !decide (c.Kind=10) then (some true) else (some (decide ((i:Int).tmod 2=0)))).bind fun b22=>some b22) else (some false))=some (iR c.Kind i):=by
    unfold iR;cases decide (c.Kind=8)<;>cases decide (c.Kind=10)<;>rfl
   obtain ⟨y,h3,h4⟩:=CY N c (iR c.Kind i) c.More[i];rw [hs,bs,h3,h4,bs,bs];cases y
   ·simp only [nf,nt,ct,cf];exact ⟨false,cf.symm,by rw [cf]⟩
   obtain ⟨b,h5,h6⟩:=yu N c hc m (i+1) (by omega) hi;simp only [Int.natCast_add,Int.cast_ofNat_Int] at h5 h6;simp only [nt,cf,ct];rw [r64 (by omega) (by omega),r64 (by omega) (by omega)];exact ⟨b,h5,h6⟩
  rw [cG (by omega),cf,cf];exact ⟨true,ct.symm,by rw [ct]⟩
theorem oz (N:Nat)(hN:2000<N)(c:DCell)(hS:c.Slots.length≤1000)(hc:c.More.length≤1000): ∀(m i:Nat),c.Slots.length<m+i→i≤c.Slots.length→ ∃b,r15_Right_l12 N c m (i:Int)=(bif b then cR N c else some false)∧
  cell_all_c1_l6 N (cJ (fun x st=>eG N c x st)) c m (i:Int) (none,())=some (bif b then none else some Exit.ret,())
 |0,i,h,h2=>by omega
 | m+1,i,h,h2=>by
  rw [r15_Right_l12.eq_2,cell_all_c1_l6.eq_2];by_cases hi:i<c.Slots.length
  ·rw [cI (by omega),ct,ct,bn hi,bs,bs];obtain ⟨y,h3,h4⟩:=CY N c true c.Slots[i];rw [h3,h4,bs,bs];cases y
   ·simp only [nf,nt,ct,cf];exact ⟨false,cf.symm,by rw [cf]⟩
   obtain ⟨b,h5,h6⟩:=oz N hN c hS hc m (i+1) (by omega) hi;simp only [Int.natCast_add,Int.cast_ofNat_Int] at h5 h6;simp only [nt,cf,ct];rw [r64 (by omega) (by omega),r64 (by omega) (by omega)];exact ⟨b,h5,h6⟩
  rw [cG (by omega),cf,cf];exact yu N c hc N 0 (by omega) (by omega)
theorem rj (N:Nat)(hN:2000<N)(c:DCell)(hS:c.Slots.length≤1000)(hc:c.More.length≤1000):di N c=da N c:=by
 unfold di da jZ
 have hAge:((bif !decide (c.Age=0) then (some (!decide (c.Age=1))) else (some false)).bind fun b10=>some b10)=(some (decide (c.Age<0)||decide (1<c.Age)):Option Bool):=by
  by_cases h0:c.Age=0
  ·rw [h0];rfl
  by_cases h1:c.Age=1
  ·rw [h1];rfl
  rw [fa h0,fa h1];by_cases h2:c.Age<0
  ·rw [cI h2];rfl
  rw [cI (a:=1) (b:=c.Age) (by omega),cG (a:=c.Age) (by omega)];rfl
 obtain ⟨b,h1,h2⟩:=oz N hN c hS hc N 0 (by omega) (by omega);have h1':r15_Right_l12 N c N 0=(bif b then cR N c else some false):=h1;have h2':cell_all_c1_l6 N (cJ (fun x st=>eG N c x st)) c N 0 (none,())=some (bif b then none else some Exit.ret,()):=h2;have e:nX N c=some ():=rfl;rw [hAge,h1',h2',e]
 have tail:((some ()).bind fun (y12:Unit)=>(some ((bif b then none else some Exit.ret:Option Exit),())).bind fun y15=>mg y15.1 ((f4 N c).bind fun y19=>(bif y19 then ((gL N c.Kind c.More).bind fun y21=>some y21) else (some false)).bind fun b20=>some b20) (some false) (fun _=>none))=(bif b then cR N c else some false):=by
  cases b
  ·rfl
  rw [G6,I5 N hN c hc];rfl
 rw [tail];cases decide (c.Kind<1)<;>cases decide (11<c.Kind)<;>cases decide (c.Shape<0)<;>cases decide (c.Flags<0)<;>cases decide (63<c.Flags)<;>cases decide (c.Age<0)<;>cases decide (1<c.Age)<;>rfl
theorem Hk {m:Option Bool}{x:Bool}:m=some x→(m.bind fun b=>some b)=some x:=fun h=>by rw [h];rfl
theorem DM (N:Nat)(hN:2000<N)(c:DCell)(hS:c.Slots.length≤1000)(hc:c.More.length≤1000)(h8:c.Kind=8): ∃b,da N c=some b∧(b=true→c.More.length%2=0):=by
 obtain ⟨b1,g1, -⟩:=oz N hN c hS hc N 0 (by omega) (by omega);have g1':r15_Right_l12 N c N 0=(bif b1 then cR N c else some false):=g1;obtain ⟨b2, -,h2,h3⟩:=nT N hN 2 (.inl rfl) c.More hc
 have hm:ik N c=some b2:=by
  unfold ik gU;rw [h8,cG (by omega)];show ((cQ N c.More 2).bind fun y37=>some y37)=_;exact Hk h2
 have hs: ∃b3,fT N c=some b3:=by
  unfold fT;rw [h8];have:gV N 8=some true:=rfl;rw [this,bs,ct,bs,ct];by_cases hl:1≤(c.Slots.length:Int)
  ·rw [HE hl,ct,bs,Jc (xs:=c.Slots) (i:=0) (by omega) (by omega),bs];cases decide ((c.Slots.length:Int)≤1025)
   ·exact ⟨_,rfl⟩
   cases decide (c.Slots[(0:Int).toNat].Kind=1)<;>exact ⟨_,rfl⟩
  rw [HF (by omega)];exact ⟨_,rfl⟩
 obtain ⟨b3,hs⟩:=hs
 have hj:cR N c=some (b3&&b2):=by
  unfold cR;rw [hs,hm];cases b3<;>rfl
 unfold da;rw [g1',hj]
 have fin: ∃b,((bif b1 then some (b3&&b2) else some false):Option Bool)=some b∧(b=true→c.More.length%2=0):=by
  cases b1
  ·exact ⟨false,rfl,fun h=>by cases h⟩
  exact ⟨b3&&b2,rfl,fun h=>h3 (by cases b3<;>cases b2<;>first|rfl|cases h)⟩
 obtain ⟨b,e1,e2⟩:=fin;rw [e1];have ff: ∃b',(some false:Option Bool)=some b'∧(b'=true→c.More.length%2=0):=⟨false,rfl,fun h=>by cases h⟩
 cases decide (c.Kind<1)<;>cases decide (11<c.Kind)<;>cases decide (c.Shape<0)<;>cases decide (c.Flags<0)<;>cases decide (63<c.Flags)<;>cases decide (c.Age<0)<;>cases decide (1<c.Age)<;>first|exact ff|exact ⟨b,rfl,e2⟩
def ma (N:Nat)(c:DCell):Bool:=decide (c.Kind=8)&&(da N c).getD false
theorem D7 (N:Nat)(hN:2000<N)(c:DCell)(hS:c.Slots.length≤1000)(hc:c.More.length≤1000):yJ N c=some (ma N c)∧pn N c=some (ma N c)∧(ma N c=true→c.More.length%2=0):=by
 unfold yJ pn ma;rw [rj N hN c hS hc];by_cases h8:c.Kind=8
 ·obtain ⟨b,h1,h2⟩:=DM N hN c hS hc h8;rw [h1,h8];exact ⟨rfl,rfl,h2⟩
 rw [fa h8];exact ⟨rfl,rfl,fun h=>by cases h⟩
abbrev Ck {ρ:Type}(m:Option ρ):Prop:=Sat m fun _=>True
theorem bG {ρ:Type}(x:ρ):Ck (some x):=aS trivial
theorem iQ {ρ:Type}{b:Bool}{x y:Option ρ}(hx:b=true→Ck x)(hy:b=false→Ck y):Ck (bif b then x else y):=nq hx hy
theorem uZ (N:Nat)(v:DValue)(a b:Int):Ck (eJ N v a b):=by
 unfold eJ
 refine Sat.bind (P:=fun _=>True) (iQ (fun _=>bG _) fun _=>bG _) fun x _=>Sat.bind (P:=fun _=>True) (iQ (fun _=>bG _) fun _=>bG _) fun y _=>bG _
theorem rH (N:Nat)(v:DValue)(a:Int):Ck (dk N v a):=by
 unfold dk
 exact Sat.bind (P:=fun _=>True) (iQ (fun _=>bG _) fun _=>bG _) fun x _=>bG _
theorem sr {c:Bool}{m:Option Bool}(h:c=true→Ck m):Ck (bif c then m else some false):=iQ h fun _=>bG _
theorem rb {l:List DValue}{i:Nat}{f:DValue→Option Bool}(hi:i<l.length)(h: ∀v,Ck (f v)):Ck ((aM l (i:Int)).bind f):=by
 rw [bn hi,bs];exact h _
theorem dX {m:Option Bool}{f:Bool→Option Bool}(h:Ck m)(k: ∀b,Ck (f b)):Ck (m.bind f):=Sat.bind h fun b _=>k b
theorem mP {m:Option Bool}{p:Prop}{f:Bool→Option Bool}(h:Sat m fun b=>b=true→p)(k: ∀b,(b=true→p)→Ck (f b)):Ck (m.bind f):=Sat.bind h k
theorem F2 (N:Nat)(c:DCell):Ck (fT N c):=by
 unfold fT
 have hp:Ck (gV N c.Kind):=by
  unfold gV
  iterate 6 refine dX (iQ (fun _=>bG _) fun _=>bG _) fun _=> ?_
  exact bG _
 refine dX hp fun y=>dX (iQ (fun _=>bG _) fun _=>dX (iQ (fun _=>bG _) fun _=>bG _) fun _=>bG _) fun b=> ?_
 refine iQ (fun _=> ?_) fun _=> ?_
 ·refine mP (p:=0<c.Slots.length) (dP (fun h=>aS fun _=>by omega) fun _=>aS fun h=>by cases h) fun b hb=>dX (sr fun h=> ?_) fun _=>bG _
  have h0:=hb h
  refine rb (i:=0) h0 fun v=>dX (iQ (fun _=>bG _) fun _=>rb (i:=0) h0 fun _=>bG _) fun _=>bG _
 refine iQ (fun _=>bG _) fun _=>dX (iQ (fun _=>bG _) fun _=>bG _) fun _=>iQ (fun _=>bG _) fun _=>nq (fun _=> ?_) fun _=>bG _
 refine mP (p:=1<c.Slots.length) (dP (fun h=> ?_) fun _=>aS fun h=>by cases h) fun b hb=>dX (sr fun h=> ?_) fun _=>bG _
 ·rw [show ((0:Int))=((0:Nat):Int) from rfl,bn (by omega),bs];obtain ⟨x,hx, -⟩:=rH N c.Slots[0] 7
  rw [hx,bs];exact aS fun _=>by omega
 refine rb (i:=1) (hb h) fun v=>dX (rH N v 7) fun _=>bG _
theorem Ez {l:List DValue}{i:Nat}{m:DValue→Option Bool}(hi:i<l.length)(h: ∀v,Ck (m v)){p:Prop}(hp:p):Sat ((aM l (i:Int)).bind fun x=>(m x).bind fun y=>some y) fun b=>b=true→p:=by
 rw [bn hi,bs];obtain ⟨x,hx, -⟩:=h l[i]
 rw [hx,bs];exact aS fun _=>hp
def uh (c:DCell):Prop:=(c.Kind=8→c.More.length%2=0)∧(c.Kind=10→1≤c.More.length∧(c.More.length - 1)%4=0)
theorem Hu (N:Nat)(hN:2000<N)(c:DCell)(hc:c.More.length≤1000):Sat (ik N c) fun b=>b=true→uh c:=by
 have j6: ∀p,(p=true→c.Kind=1∨c.Kind=5)→Sat (gU N c p) fun b=>b=true→uh c:=by
  intro p hp
  have other: ∀{m:Option Bool},c.Kind≠8→c.Kind≠10→Ck m→Sat m fun b=>b=true→uh c:=fun h8 h10 h=>h.mono fun _ _ _=>⟨fun e=>absurd e h8,fun e=>absurd e h10⟩
  unfold gU
  refine nq (fun h=>other (by rcases hp h with e|e<;>omega) (by rcases hp h with e|e<;>omega) (bG _)) fun _=> ?_
  refine dP (fun hk=>other (by omega) (by omega) ?_) fun _=> ?_
  ·refine mP (p:=1<c.More.length) (dP (fun h=>Ez (i:=0) (by omega) (fun v=>uZ N v _ _) (by omega)) fun _=>aS fun h=>by cases h) fun b hb=>dX (sr fun h=>rb (i:=1) (hb h) fun v=>dX (rH N v 9) fun _=>bG _) fun _=>bG _
  refine dP (fun hk=>other (by omega) (by omega) ?_) fun _=> ?_
  ·refine mP (p:=0<c.More.length) (dP (fun h=>aS fun _=>by omega) fun _=>aS fun h=>by cases h) fun b hb=>dX (sr fun h=>rb (i:=0) (hb h) fun v=>dX (rH N v 9) fun _=>bG _) fun _=>bG _
  refine dP (fun hk=>other (by omega) (by omega) ?_) fun _=> ?_
  ·refine mP (p:=1<c.More.length) (dP (fun h=>Ez (i:=0) (by omega) (fun v=>uZ N v _ _) (by omega)) fun _=>aS fun h=>by cases h) fun b hb=>dX (sr fun h=>rb (i:=1) (hb h) fun v=>dX (rH N v 9) fun _=>bG _) fun _=>bG _
  refine dP (fun hk=>other (by omega) (by omega) ?_) fun _=> ?_
  ·refine mP (p:=3<c.More.length) (dP (fun h=>Ez (i:=2) (by omega) (fun v=>uZ N v _ _) (by omega)) fun _=>aS fun h=>by cases h) fun b hb=>dX (sr fun h=>rb (i:=3) (hb h) fun v=>dX (uZ N v _ _) fun _=>bG _) fun _=>bG _
  refine dP (fun hk=> ?_) fun hk8=> ?_
  ·obtain ⟨b, -,h2,h3⟩:=nT N hN 2 (.inl rfl) c.More hc;have h2':cQ N c.More 2=some b:=h2;rw [h2',bs]
   exact aS fun hb=>⟨fun _=>h3 hb,fun e=>absurd e (by omega)⟩
  refine dP (fun hk=> ?_) fun hk10=> ?_
  ·refine Sat.bind (P:=fun b=>b=true→1≤c.More.length) (dP (fun h=> ?_) fun _=>aS fun h=>by cases h) fun b hb=> ?_
   ·rw [show ((0:Int))=((0:Nat):Int) from rfl,bn (by omega),bs];exact aS fun _=>by omega
   refine Sat.bind (P:=fun b=>b=true→uh c) (nq (fun h=> ?_) fun _=>aS fun h=>by cases h) fun b' hb'=>aS hb'
   have h1:=hb h;rw [xI ⟨by omega,by show (1:Int).toNat≤_;exact h1,Nat.le_refl _⟩]
   have hl:((c.More.drop ((1:Int).toNat)).take (c.More.length - (1:Int).toNat)).length=c.More.length - 1:=by
    rw [List.length_take,List.length_drop];show min (c.More.length - 1) (c.More.length - 1)=_;omega
   obtain ⟨b2, -,h2,h3⟩:=nT N hN 4 (.inr rfl) ((c.More.drop ((1:Int).toNat)).take (c.More.length - (1:Int).toNat)) (by rw [hl];omega);have h2':cQ N ((c.More.drop ((1:Int).toNat)).take (c.More.length - (1:Int).toNat)) 4=some b2:=h2;rw [h2',bs]
   exact aS fun hb2=>⟨fun e=>absurd e (by omega),fun _=>⟨h1,by have:=h3 hb2;rw [hl] at this;exact this⟩⟩
  refine dP (fun hk=>other (by omega) (by omega) ?_) fun _=>other hk8 hk10 (bG _)
  refine dX ?_ fun _=>bG _
  exact iQ (fun h=>rb (i:=0) (by have:=of_decide_eq_true h;omega) fun v=>dX (uZ N v _ _) fun _=>bG _) fun _=>bG _
 unfold ik
 refine dP (fun _=>aS fun h=>by cases h) fun _=>dP (fun hk=>aS fun _=>⟨fun e=>absurd e (by omega),fun e=>absurd e (by omega)⟩) fun _=>dP (fun hk=>j6 _ fun _=> .inl hk) fun _=>j6 _ fun h=> .inr (of_decide_eq_true h)
theorem wa (N:Nat)(hN:2000<N)(c:DCell)(hS:c.Slots.length≤1000)(hc:c.More.length≤1000):Sat (da N c) fun b=>b=true→uh c:=by
 obtain ⟨b1,g1, -⟩:=oz N hN c hS hc N 0 (by omega) (by omega);have g1':r15_Right_l12 N c N 0=(bif b1 then cR N c else some false):=g1
 have hj:Sat (cR N c) fun b=>b=true→uh c:=by
  unfold cR
  refine Sat.bind (F2 N c) fun y _=> ?_
  refine Sat.bind (P:=fun b=>b=true→uh c) (nq (fun _=>Sat.bind (Hu N hN c hc) fun _ h=>aS h) fun _=>aS fun h=>by cases h) fun _ h=>aS h
 unfold da;rw [g1']
 iterate 6 refine Sat.bind (P:=fun _=>True) (iQ (fun _=>bG _) fun _=>bG _) fun _ _=> ?_
 refine nq (fun _=>aS fun h=>by cases h) fun _=>nq (fun _=>hj) fun _=>aS fun h=>by cases h
theorem sC {α ρ:Type}(L:Nat→Int→Option ρ)(l:List α)(p:α→Bool)(bad k:Option ρ)
  (step: ∀m (i:Nat) (h:i<l.length),L (m+1) (i:Int)=bif p l[i] then L m ((i:Int)+1) else bad)
  (fin: ∀m,L (m+1) (l.length:Int)=k) (N:Nat) (hN:l.length<N):L N 0=bif l.all p then k else bad:=by
 have key: ∀m i:Nat,l.length<m+i→i≤l.length→L m (i:Int)=bif (l.drop i).all p then k else bad:=by
  intro m
  induction m with
  |zero=>intro i h1 h2;omega
  | succ m ih=>
   intro i h1 h2;by_cases hi:i<l.length
   ·rw [step m i hi,List.drop_eq_getElem_cons hi,List.all_cons];have h3:=ih (i+1) (by omega) hi;rw [show (((i+1:Nat)):Int)=(i:Int)+1 by omega] at h3;rw [h3];cases p l[i]<;>rfl
   have e:i=l.length:=by omega
   subst e;rw [fin,List.drop_length];rfl
 have:=key N 0 (by omega) (by omega);simpa using this
theorem zj {α:Type}(L:Nat→Int→Option Bool)(l:List α)(p:α→Bool)
  (step: ∀m (i:Nat) (h:i<l.length),L (m+1) (i:Int)=bif p l[i] then L m ((i:Int)+1) else some false)
  (fin: ∀m,L (m+1) (l.length:Int)=some true) (N:Nat) (hN:l.length<N):L N 0=some (l.all p):=by
 rw [sC L l p _ _ step fin N hN];cases l.all p<;>rfl
theorem HA {α ρ:Type}[DecidableEq α](L:Nat→Int→Option ρ)(a b:List α)(bad k:Option ρ)(hl:a.length=b.length)
  (step: ∀m (i:Nat) (h:i<a.length) (h':i<b.length),L (m+1) (i:Int)=bif decide (a[i]=b[i]) then L m ((i:Int)+1) else bad)
  (fin: ∀m,L (m+1) (a.length:Int)=k) (N:Nat) (hN:a.length<N):L N 0=bif decide (a=b) then k else bad:=by
 have key: ∀m i:Nat,a.length<m+i→i≤a.length→L m (i:Int)=bif decide (a.drop i=b.drop i) then k else bad:=by
  intro m
  induction m with
  |zero=>intro i h1 h2;omega
  | succ m ih=>
   intro i h1 h2;by_cases hi:i<a.length
   ·have hi':i<b.length:=by omega
    rw [step m i hi hi',List.drop_eq_getElem_cons hi,List.drop_eq_getElem_cons hi'];have h3:=ih (i+1) (by omega) hi;rw [show (((i+1:Nat)):Int)=(i:Int)+1 by omega] at h3;rw [h3];by_cases e:a[i]=b[i]
    ·rw [decide_eq_true e,cond_true,e];by_cases e2:a.drop (i+1)=b.drop (i+1)
     ·rw [decide_eq_true e2,e2,decide_eq_true rfl]
     rw [decide_eq_false e2,decide_eq_false (fun h=>e2 (List.cons.inj h).2)]
    rw [decide_eq_false e,decide_eq_false (fun h=>e (List.cons.inj h).1)];rfl
   have e:i=a.length:=by omega
   subst e;rw [fin,List.drop_length,hl,List.drop_length,decide_eq_true rfl];rfl
 have:=key N 0 (by omega) (by omega);simpa using this
theorem E8 {α:Type}[DecidableEq α](L:Nat→Int→Option Bool)(a b:List α)
  (step:a.length=b.length→ ∀m (i:Nat) (h:i<a.length) (h':i<b.length),L (m+1) (i:Int)=bif decide (a[i]=b[i]) then L m ((i:Int)+1) else some false)
  (fin: ∀m,L (m+1) (a.length:Int)=some true) (N:Nat) (hN:a.length<N):(bif !decide ((a.length:Int)=(b.length:Int)) then some false else L N 0)=some (decide (a=b)):=by
 by_cases hl:a.length=b.length
 ·rw [decide_eq_true (p:=((a.length:Int)=(b.length:Int))) (by omega),nt,cf,HA L a b (some false) (some true) hl (step hl) fin N hN];cases decide (a=b)<;>rfl
 rw [decide_eq_false (p:=((a.length:Int)=(b.length:Int))) (by omega),nf,ct,decide_eq_false (fun e=>hl (by rw [e]))]
theorem all_map {α β:Type}(f:α→β)(p:β→Bool)(l:List α):(l.map f).all p=l.all fun x=>p (f x):=by rw [List.all_map];rfl
theorem zG {α:Type}(q p:α→Bool): ∀l:List α,(l.filter q).all p=l.all fun x=> !q x||p x
 | []=>rfl
 |x::l=>by
  rw [List.filter_cons,List.all_cons, ←zG q p l];cases h:q x<;>simp
def II {α β:Type}[DecidableEq α](a:α)(b:β):List (α×β)→List (α×β)
 | []=> [(a,b)]
 |p::l=>if p.1=a then (a,b)::l else p::II a b l
theorem IJ {α β:Type}[DecidableEq α](L:List (α×β))(a:α)(b:β):pS L a b=II a b L:=by
 have key: ∀(L:List (α×β)) (j:Nat),(∃i c,fp a L j=some (i,c)∧j≤i∧L.set (i - j) (a,b)=II a b L)∨(fp a L j=none∧L++ [(a,b)]=II a b L):=by
  intro L
  induction L with
  |nil=>intro j;exact .inr ⟨rfl,rfl⟩
  | cons p l ih=>
   intro j;obtain ⟨x,y⟩:=p;by_cases e:a=x
   ·refine .inl ⟨j,y,by simp [fp,e],Nat.le_refl _,?_⟩;rw [Nat.sub_self];simp [II,e]
   have e': ¬x=a:=fun h=>e h.symm
   rcases ih (j+1) with ⟨i,c,h1,h2,h3⟩|⟨h1,h2⟩
   ·refine .inl ⟨i,c,by simp [fp,e,h1],by omega,?_⟩;rw [show i - j=(i - (j+1))+1 by omega,List.set_cons_succ,h3];simp [II,e']
   exact .inr ⟨by simp [fp,e,h1],by simp [II,e',h2]⟩
 unfold pS;rcases key L 0 with ⟨i,c,h1, -,h3⟩|⟨h1,h2⟩
 ·rw [h1];exact h3
 rw [h1];exact h2
theorem vl {α β:Type}[DecidableEq α](p:α×β)(l:List (α×β))(x:α):lk (p::l) x=if p.1=x then some p.2 else lk l x:=by
 unfold lk;rw [List.find?_cons];by_cases e:p.1=x<;>simp [e]
theorem C0 {α β:Type}[DecidableEq α](L:List (α×β))(a:α)(b:β)(x:α):lk (pS L a b) x=if a=x then some b else lk L x:=by
 rw [IJ]
 induction L with
 |nil=>rw [II,vl]
 | cons p l ih=>
  unfold II;by_cases e:p.1=a
  ·rw [if_pos e,vl,vl,e];by_cases e2:a=x<;>simp [e2]
  rw [if_neg e,vl,vl,ih];by_cases e2:p.1=x
  ·rw [if_pos e2,if_pos e2,if_neg (fun h=>e (by rw [e2,h]))]
  rw [if_neg e2,if_neg e2]
abbrev vZ:DValue:=⟨0,0,⟨#[]⟩⟩
def mh (l:List DValue)(i:Nat):DValue:=l.getD i vZ
theorem iE {l:List DValue}{i:Nat}(h:i<l.length):aM l (i:Int)=some (mh l i):=by
 rw [bn h];unfold mh;simp [List.getD,h]
def mL (v:DValue):Bool:=(fL 0 v).getD false
theorem CW (N:Nat)(v:DValue):fL N v=some (mL v):=by
 obtain ⟨b,hb⟩:=CX 0 v;have e:fL N v=fL 0 v:=Eq.trans rfl rfl;unfold mL;rw [e,hb];rfl
def numB (v:DValue)(a b:Int):Bool:=decide (v.Kind=3)&&(decide (a≤v.N)&&decide (v.N≤b))
def noneB (v:DValue)(k:Int):Bool:=decide (v.Kind=0)||decide (v.Kind=k)
theorem rG (N:Nat)(v:DValue)(a b:Int):eJ N v a b=some (numB v a b):=by
 unfold eJ numB;cases decide (v.Kind=3)<;>cases decide (a≤v.N)<;>cases decide (v.N≤b)<;>rfl
theorem pC (N:Nat)(v:DValue)(k:Int):dk N v k=some (noneB v k):=by
 unfold dk noneB;cases decide (v.Kind=0)<;>cases decide (v.Kind=k)<;>rfl
def BC (k:Int):Bool:=decide (k=1)||decide (k=2)||decide (k=3)||decide (k=6)||decide (k=8)||decide (k=9)||decide (k=10)
theorem DU (N:Nat)(k:Int):gV N k=some (BC k):=by
 unfold gV BC;cases decide (k=1)<;>cases decide (k=2)<;>cases decide (k=3)<;>cases decide (k=6)<;>cases decide (k=8)<;>cases decide (k=9)<;>cases decide (k=10)<;>rfl
def mi (k sh fl:Int)(l:List DValue):Bool:=
 bif BC k||(decide (k=7)&&decide (0<l.length)) then decide (1≤l.length)&&decide (l.length≤1025)&&(decide ((mh l 0).Kind=1)||decide ((mh l 0).Kind=7))
 else bif decide (k=7) then decide (sh=0) else bif !decide (sh=0)|| !decide (fl=0) then false else bif decide (k=5) then decide (l.length=2)&&noneB (mh l 0) 7&&noneB (mh l 1) 7 else decide (l.length=0)
theorem eW {p q:Prop}[Decidable p][Decidable q](h:p↔q):decide p=decide q:=by
 by_cases hp:p
 ·rw [decide_eq_true hp,decide_eq_true (h.1 hp)]
 rw [decide_eq_false hp,decide_eq_false fun hq=>hp (h.2 hq)]
theorem DF (N:Nat)(c:DCell):fT N c=some (mi c.Kind c.Shape c.Flags c.Slots):=by
 unfold fT mi;rw [DU,bs,eW (p:=(0:Int)<(c.Slots.length:Int)) (q:=0<c.Slots.length) (by omega),eW (p:=(1:Int)≤(c.Slots.length:Int)) (q:=1≤c.Slots.length) (by omega),eW (p:=(c.Slots.length:Int)≤1025) (q:=c.Slots.length≤1025) (by omega),eW (p:=(c.Slots.length:Int)=2) (q:=c.Slots.length=2) (by omega),eW (p:=(c.Slots.length:Int)=0) (q:=c.Slots.length=0) (by omega)]
 have hA: ∀b:Bool,((bif decide (1≤c.Slots.length) then some (decide (c.Slots.length≤1025)) else some false).bind fun b8=>(bif b8 then ((aM c.Slots 0).bind fun x10=>(bif decide (x10.Kind=1) then (some true) else ((aM c.Slots 0).bind fun x12=>some (decide (x12.Kind=7)))).bind fun b11=>some b11) else (some false)).bind fun b9=>some b9)=some (decide (1≤c.Slots.length)&&decide (c.Slots.length≤1025)&&(decide ((mh c.Slots 0).Kind=1)||decide ((mh c.Slots 0).Kind=7))):=fun _=>by
  by_cases h:1≤c.Slots.length
  ·have g:aM c.Slots 0=some (mh c.Slots 0):=iE (i:=0) (by omega);rw [decide_eq_true h,g];simp only [bs];cases decide (c.Slots.length≤1025)<;>cases decide ((mh c.Slots 0).Kind=1)<;>cases decide ((mh c.Slots 0).Kind=7)<;>rfl
  rw [decide_eq_false h];rfl
 have hB:((bif decide (c.Slots.length=2) then ((aM c.Slots 0).bind fun x18=>(dk N x18 7).bind fun y19=>some y19) else (some false)).bind fun b17=>(bif b17 then ((aM c.Slots 1).bind fun x21=>(dk N x21 7).bind fun y22=>some y22) else (some false)).bind fun b20=>some b20)=some (decide (c.Slots.length=2)&&noneB (mh c.Slots 0) 7&&noneB (mh c.Slots 1) 7):=by
  by_cases h:c.Slots.length=2
  ·have g:aM c.Slots 0=some (mh c.Slots 0):=iE (i:=0) (by omega);have g1:aM c.Slots 1=some (mh c.Slots 1):=iE (i:=1) (by omega);rw [decide_eq_true h,g,g1];simp only [bs,pC];cases noneB (mh c.Slots 0) 7<;>cases noneB (mh c.Slots 1) 7<;>rfl
  rw [decide_eq_false h];rfl
 rw [hA true,hB];cases BC c.Kind<;>cases decide (c.Kind=7)<;>cases decide (0<c.Slots.length)<;>cases decide (c.Shape=0)<;>cases decide (c.Flags=0)<;>cases decide (c.Kind=5)<;>rfl
def ld:List DValue→Bool
 |k::v::r=>decide (k.Kind=7)&& !decide (v.Kind=8)&&ld r
 | [_]=>false
 | []=>true
def f3:List DValue→Bool
 |t::h::k::s::r=>decide (t.Kind=7)&& !decide (h.Kind=8)&&(noneB k 7&&numB s 0 9007199254740992)&&f3 r
 | []=>true
 |_=>false
theorem ir (k v:DValue)(r:List DValue):ld (k::v::r)=(decide (k.Kind=7)&& !decide (v.Kind=8)&&ld r):=Eq.trans rfl rfl
theorem eR (t h k s:DValue)(r:List DValue):f3 (t::h::k::s::r)=(decide (t.Kind=7)&& !decide (h.Kind=8)&&(noneB k 7&&numB s 0 9007199254740992)&&f3 r):=Eq.trans rfl rfl
theorem AM: ∀{l:List DValue},ld l=true→l.length%2=0
 | [],_=>rfl
 | [_],h=>by cases h
 |k::v::r,h=>by
  rw [ir] at h;rw [Bool.and_eq_true] at h;have:=AM h.2;simp only [List.length_cons];omega
theorem AL: ∀{l:List DValue},f3 l=true→l.length%4=0
 | [],_=>rfl
 | [_],h=>by cases h
 | [_,_],h=>by cases h
 | [_,_,_],h=>by cases h
 |t::a::k::s::r,h=>by
  rw [eR] at h;rw [Bool.and_eq_true] at h;have:=AL h.2;simp only [List.length_cons];omega
theorem sN {l r:List DValue}{i:Nat}{v:DValue}(h:l.drop i=v::r):aM l (i:Int)=some v∧l.drop (i+1)=r:=by
 have hl:i<l.length:=by
  rcases Nat.lt_or_ge i l.length with h1|h1
  ·exact h1
  rw [List.drop_eq_nil_of_le h1] at h;cases h
 rw [List.drop_eq_getElem_cons hl] at h;obtain ⟨e1,e2⟩:=List.cons.inj h;exact ⟨by rw [bn hl,e1],e2⟩
theorem AP (N:Nat)(l:List DValue)(hl:l.length≤1000): ∀(m i:Nat),l.length<m+i→i≤l.length→(l.length - i)%2=0→r15_entries_l5 N 2 l m (i:Int)=some (ld (l.drop i))
 |0,i,h,h2,_=>by omega
 | m+1,i,h,h2,h3=>by
  rw [r15_entries_l5.eq_2]
  match hd:l.drop i with
  | []=>
   have hi:l.length≤i:=by have:=congrArg List.length hd;rw [List.length_drop] at this;simp at this;omega
   rw [cG (by omega),cf];rfl
  | [x]=>have:=congrArg List.length hd;rw [List.length_drop] at this;simp at this;omega
  |k::v::r=>
   have hlen:=congrArg List.length hd;rw [List.length_drop] at hlen;simp only [List.length_cons] at hlen;obtain ⟨g1,d1⟩:=sN hd;obtain ⟨g2,d2⟩:=sN d1;rw [show (((i+1:Nat)):Int)=(i:Int)+1 by omega] at g2;have ih:=AP N l hl m (i+2) (by omega) (by omega) (by omega);rw [show (((i+2:Nat)):Int)=(i:Int)+2 by omega,d2] at ih;rw [cI (by omega),ct,g1,bs,r64 (by omega) (by omega),g2,bs,decide_eq_false (p:=(2:Int)=4) (by decide),cf,bs,cf,r64 (by omega) (by omega),ih];simp only [ir];cases decide (k.Kind=7)<;>cases decide (v.Kind=8)<;>rfl
theorem AN (N:Nat)(l:List DValue)(hl:l.length≤1000): ∀(m i:Nat),l.length<m+i→i≤l.length→(l.length - i)%4=0→r15_entries_l5 N 4 l m (i:Int)=some (f3 (l.drop i))
 |0,i,h,h2,_=>by omega
 | m+1,i,h,h2,h3=>by
  rw [r15_entries_l5.eq_2]
  match hd:l.drop i with
  | []=>
   have hi:l.length≤i:=by have:=congrArg List.length hd;rw [List.length_drop] at this;simp at this;omega
   rw [cG (by omega),cf];rfl
  | [x]=>have:=congrArg List.length hd;rw [List.length_drop] at this;simp at this;omega
  | [x,y]=>have:=congrArg List.length hd;rw [List.length_drop] at this;simp at this;omega
  | [x,y,z]=>have:=congrArg List.length hd;rw [List.length_drop] at this;simp at this;omega
  |t::v::k::s::r=>
   have hlen:=congrArg List.length hd;rw [List.length_drop] at hlen;simp only [List.length_cons] at hlen;obtain ⟨g1,d1⟩:=sN hd;obtain ⟨g2,d2⟩:=sN d1;obtain ⟨g3,d3⟩:=sN d2;obtain ⟨g4,d4⟩:=sN d3;rw [show (((i+1:Nat)):Int)=(i:Int)+1 by omega] at g2;rw [show (((i+1+1:Nat)):Int)=(i:Int)+2 by omega] at g3;rw [show (((i+1+1+1:Nat)):Int)=(i:Int)+3 by omega] at g4;have ih:=AN N l hl m (i+4) (by omega) (by omega) (by omega);rw [show (((i+4:Nat)):Int)=(i:Int)+4 by omega,d4] at ih;rw [cI (by omega),ct,g1,bs,r64 (by omega) (by omega),g2,bs,decide_eq_true (p:=(4:Int)=4) rfl,ct,r64 (by omega) (by omega),g3,bs,pC,bs,r64 (by omega) (by omega),g4,bs,rG,bs,r64 (by omega) (by omega),ih];simp only [eR];cases decide (t.Kind=7)<;>cases decide (v.Kind=8)<;>cases noneB k 7<;>cases numB s 0 9007199254740992<;>rfl
theorem HX (N:Nat)(hN:2000<N)(l:List DValue)(hl:l.length≤1000):cQ N l 2=some (ld l):=by
 unfold cQ;rw [iS (by decide)]
 have e:(l.length:Int).tmod 2=((l.length%2:Nat):Int):=by rw [Int.tmod_eq_emod_of_nonneg (by omega)];omega
 rw [e];by_cases h:l.length%2=0
 ·rw [h,decide_eq_true (p:=((0:Nat):Int)=0) rfl,nt,cf];exact AP N l hl N 0 (by omega) (by omega) (by omega)
 rw [decide_eq_false (by omega),nf,ct]
 cases hb:ld l with
 |false=>rfl
 |true=>exact absurd (AM hb) h
theorem HW (N:Nat)(hN:2000<N)(l:List DValue)(hl:l.length≤1000):cQ N l 4=some (f3 l):=by
 unfold cQ;rw [iS (by decide)]
 have e:(l.length:Int).tmod 4=((l.length%4:Nat):Int):=by rw [Int.tmod_eq_emod_of_nonneg (by omega)];omega
 rw [e];by_cases h:l.length%4=0
 ·rw [h,decide_eq_true (p:=((0:Nat):Int)=0) rfl,nt,cf];exact AN N l hl N 0 (by omega) (by omega) (by omega)
 rw [decide_eq_false (by omega),nf,ct]
 cases hb:f3 l with
 |false=>rfl
 |true=>exact absurd (AL hb) h
def nF (k:Int)(l:List DValue):Bool:=
 bif decide (k=2) then decide (l.length≤4096)
 else bif decide (k=1)||decide (k=5) then decide (l.length=0)
 else bif decide (k=3) then decide (l.length=3)&&numB (mh l 0) 0 9007199254740992&&noneB (mh l 1) 9
 else bif decide (k=4) then decide (1≤l.length)&&decide (l.length≤4097)&&noneB (mh l 0) 9
 else bif decide (k=6) then decide (l.length=2)&&numB (mh l 0) 0 3&&noneB (mh l 1) 9
 else bif decide (k=7) then decide (4≤l.length)&&numB (mh l 2) 0 1&&numB (mh l 3) 0 9007199254740992
 else bif decide (k=8) then ld l
 else bif decide (k=10) then decide (1≤l.length)&&decide ((mh l 0).Kind=7)&&f3 (l.drop 1)
 else bif decide (k=9) then decide (2≤l.length)&&numB (mh l 0) 0 2
 else true
theorem Gp (N:Nat)(hN:2000<N)(c:DCell)(hc:c.More.length≤1000):ik N c=some (nF c.Kind c.More):=by
 have h6: ∀p:Bool,p=(decide (c.Kind=1)||decide (c.Kind=5))→c.Kind≠2→gU N c p=some (nF c.Kind c.More):=by
  intro p hp h2;subst hp;unfold gU nF;rw [fa h2,cf];rcases Bool.eq_false_or_eq_true (decide (c.Kind=1)||decide (c.Kind=5)) with h15|h15
  ·rw [h15,ct,ct,eW (p:=(c.More.length:Int)=0) (q:=c.More.length=0) (by omega)]
  rw [h15,cf,cf];by_cases k3:c.Kind=3
  ·rw [mw k3,ct,ct,eW (p:=(c.More.length:Int)=3) (q:=c.More.length=3) (by omega)];by_cases h:c.More.length=3
   ·have g0:aM c.More 0=some (mh c.More 0):=iE (i:=0) (by omega);have g1:aM c.More 1=some (mh c.More 1):=iE (i:=1) (by omega);rw [decide_eq_true h,g0,g1];simp only [bs,rG,pC];cases numB (mh c.More 0) 0 9007199254740992<;>cases noneB (mh c.More 1) 9<;>rfl
   rw [decide_eq_false h];rfl
  rw [fa k3,cf,cf];by_cases k4:c.Kind=4
  ·rw [mw k4,ct,ct,eW (p:=(1:Int)≤(c.More.length:Int)) (q:=1≤c.More.length) (by omega),eW (p:=(c.More.length:Int)≤4097) (q:=c.More.length≤4097) (by omega)];by_cases h:1≤c.More.length
   ·have g0:aM c.More 0=some (mh c.More 0):=iE (i:=0) (by omega);rw [decide_eq_true h,g0];simp only [bs,pC];cases decide (c.More.length≤4097)<;>cases noneB (mh c.More 0) 9<;>rfl
   rw [decide_eq_false h];rfl
  rw [fa k4,cf,cf];by_cases k6:c.Kind=6
  ·rw [mw k6,ct,ct,eW (p:=(c.More.length:Int)=2) (q:=c.More.length=2) (by omega)];by_cases h:c.More.length=2
   ·have g0:aM c.More 0=some (mh c.More 0):=iE (i:=0) (by omega);have g1:aM c.More 1=some (mh c.More 1):=iE (i:=1) (by omega);rw [decide_eq_true h,g0,g1];simp only [bs,rG,pC];cases numB (mh c.More 0) 0 3<;>cases noneB (mh c.More 1) 9<;>rfl
   rw [decide_eq_false h];rfl
  rw [fa k6,cf,cf];by_cases k7:c.Kind=7
  ·rw [mw k7,ct,ct,eW (p:=(4:Int)≤(c.More.length:Int)) (q:=4≤c.More.length) (by omega)];by_cases h:4≤c.More.length
   ·have g2:aM c.More 2=some (mh c.More 2):=iE (i:=2) (by omega);have g3:aM c.More 3=some (mh c.More 3):=iE (i:=3) (by omega);rw [decide_eq_true h,g2,g3];simp only [bs,rG];cases numB (mh c.More 2) 0 1<;>cases numB (mh c.More 3) 0 9007199254740992<;>rfl
   rw [decide_eq_false h];rfl
  rw [fa k7,cf,cf];by_cases k8:c.Kind=8
  ·rw [mw k8,ct,ct,HX N hN _ hc,bs]
  rw [fa k8,cf,cf];by_cases k10:c.Kind=10
  ·rw [mw k10,ct,ct,eW (p:=(1:Int)≤(c.More.length:Int)) (q:=1≤c.More.length) (by omega)];by_cases h:1≤c.More.length
   ·have g0:aM c.More 0=some (mh c.More 0):=iE (i:=0) (by omega);have hd:((c.More.drop ((1:Int).toNat)).take (c.More.length - (1:Int).toNat))=c.More.drop 1:=List.take_of_length_le (by rw [List.length_drop];exact Nat.le_refl _);rw [decide_eq_true h,g0,hd,iS ⟨by omega,by show 1≤_;omega,Nat.le_refl _⟩,HW N hN _ (by rw [List.length_drop];omega)];simp only [bs];cases decide ((mh c.More 0).Kind=7)<;>cases f3 (c.More.drop 1)<;>rfl
   rw [decide_eq_false h];rfl
  rw [fa k10,cf,cf];by_cases k9:c.Kind=9
  ·rw [mw k9,ct,ct,eW (p:=(2:Int)≤(c.More.length:Int)) (q:=2≤c.More.length) (by omega)];by_cases h:2≤c.More.length
   ·have g0:aM c.More 0=some (mh c.More 0):=iE (i:=0) (by omega);rw [decide_eq_true h,g0];simp only [bs,rG];cases numB (mh c.More 0) 0 2<;>rfl
   rw [decide_eq_false h];rfl
  rw [fa k9,cf,cf]
 unfold ik;rw [cG (by omega),cf];by_cases k2:c.Kind=2
 ·rw [mw k2,ct];unfold nF;rw [mw k2,ct,eW (p:=(c.More.length:Int)≤4096) (q:=c.More.length≤4096) (by omega)]
 rw [fa k2,cf];by_cases k1:c.Kind=1
 ·rw [mw k1,ct];exact h6 _ (by rw [mw k1];rfl) k2
 rw [fa k1,cf];exact h6 _ (by rw [fa k1];rfl) k2
def cX (c:DCell):Bool:=
 (!decide (c.Kind<1)&& !decide (11<c.Kind)&& !decide (c.Shape<0)&& !decide (c.Flags<0)&& !decide (63<c.Flags)&& !decide (c.Age<0)&& !decide (1<c.Age))&&(c.Slots.all mL&&(c.More.all mL&&(mi c.Kind c.Shape c.Flags c.Slots&&nF c.Kind c.More)))
theorem ns (N:Nat)(hN:2000<N)(c:DCell)(hS:c.Slots.length≤1000)(hc:c.More.length≤1000):da N c=some (cX c):=by
 have h19:cR N c=some (mi c.Kind c.Shape c.Flags c.Slots&&nF c.Kind c.More):=by
  unfold cR;rw [DF,Gp N hN c hc,bs];cases mi c.Kind c.Shape c.Flags c.Slots<;>rfl
 have h20:r15_Right_l20 N c N 0=some (c.More.all mL&&(mi c.Kind c.Shape c.Flags c.Slots&&nF c.Kind c.More)):=by
  rw [sC (fun k i=>r15_Right_l20 N c k i) c.More mL (some false) (some (mi c.Kind c.Shape c.Flags c.Slots&&nF c.Kind c.More)) (fun k i h=> ?_) (fun k=> ?_) N (by omega)]
  ·cases c.More.all mL<;>rfl
  ·rw [r15_Right_l20.eq_2,cI (by omega),ct,bn h,bs,CW,bs,r64 (by omega) (by omega)];cases mL c.More[i]<;>rfl
  rw [r15_Right_l20.eq_2,cG (by omega),cf,h19]
 have h12:r15_Right_l12 N c N 0=some (c.Slots.all mL&&(c.More.all mL&&(mi c.Kind c.Shape c.Flags c.Slots&&nF c.Kind c.More))):=by
  rw [sC (fun k i=>r15_Right_l12 N c k i) c.Slots mL (some false) (some (c.More.all mL&&(mi c.Kind c.Shape c.Flags c.Slots&&nF c.Kind c.More))) (fun k i h=> ?_) (fun k=> ?_) N (by omega)]
  ·cases c.Slots.all mL<;>rfl
  ·rw [r15_Right_l12.eq_2,cI (by omega),ct,bn h,bs,CW,bs,r64 (by omega) (by omega)];cases mL c.Slots[i]<;>rfl
  rw [r15_Right_l12.eq_2,cG (by omega),cf];unfold tq;exact h20
 unfold da cX;rw [h12];cases decide (c.Kind<1)<;>cases decide (11<c.Kind)<;>cases decide (c.Shape<0)<;>cases decide (c.Flags<0)<;>cases decide (63<c.Flags)<;>cases decide (c.Age<0)<;>cases decide (1<c.Age)<;>rfl
theorem zq (N:Nat)(x:Int)(l:List Int)(hl:l.length≤5000): ∀(m i:Nat),l.length<m+i→i≤l.length→Sat (slices_Index_l3 N x l m (i:Int)) fun r=>decide (0≤r)=decide (x∈l.drop i)
 |0,i,h,h2=>by omega
 | m+1,i,h,h2=>by
  rw [slices_Index_l3.eq_2];by_cases hi:i<l.length
  ·rw [cI (by omega),ct,bn hi,bs,List.drop_eq_getElem_cons hi]
   refine dP (fun e=> ?_) fun e=> ?_
   ·exact aS (by rw [decide_eq_true (by omega),decide_eq_true];rw [e];exact List.mem_cons_self ..)
   rw [r64 (by omega) (by omega)];have:=zq N x l hl m (i+1) (by omega) hi;simp only [Int.natCast_add,Int.cast_ofNat_Int] at this
   refine this.mono fun r hr=> ?_
   rw [hr];have:(x∈l[i]::l.drop (i+1))↔x∈l.drop (i+1):=⟨fun h=>(List.mem_cons.1 h).resolve_left (fun e2=>e e2),List.mem_cons_of_mem _⟩;rw [decide_eq_decide];exact this.symm
  rw [cG (by omega),cf,List.drop_eq_nil_of_le (by omega)];exact aS (by simp)
theorem lK (N:Nat)(hN:5000<N)(l:List Int)(hl:l.length≤5000)(x:Int):dn N l x=some (decide (x∈l)):=by
 obtain ⟨r,h1,h2⟩:=zq N x l hl N 0 (by omega) (by omega);unfold dn nl;rw [show slices_Index_l3 N x l N 0=some r from h1,bs,h2];rfl
theorem Mc (N:Nat)(hN:5000<N)(l:List Int)(hl:l.length≤5000)(x:Int):uP N x l=some (decide (x∈l)):=by
 apply Sat.eq;unfold uP
 have key: ∀(m i:Nat),l.length<m+i→i≤l.length→Sat (r17_In_l3 N x l m (i:Int)) (· =decide (x∈l.drop i)):=by
  intro m
  induction m with
  |zero=>intro i h h2;omega
  | succ m ih=>
   intro i h h2;rw [r17_In_l3.eq_2];by_cases hi:i<l.length
   ·rw [cI (by omega),ct,bn hi,bs,List.drop_eq_getElem_cons hi]
    refine dP (fun e=> ?_) fun e=> ?_
    ·exact aS (by rw [decide_eq_true];rw [e];exact List.mem_cons_self ..)
    rw [r64 (by omega) (by omega)];have:=ih (i+1) (by omega) hi;simp only [Int.natCast_add,Int.cast_ofNat_Int] at this
    refine this.mono fun r hr=> ?_
    rw [hr];have:(x∈l[i]::l.drop (i+1))↔x∈l.drop (i+1):=⟨fun h=>(List.mem_cons.1 h).resolve_left (fun e2=>e e2.symm),List.mem_cons_of_mem _⟩;rw [decide_eq_decide];exact this.symm
   rw [cG (by omega),cf,List.drop_eq_nil_of_le (by omega)];exact aS (by simp)
 exact key N 0 (by omega) (by omega)
theorem Mb (N:Nat)(hN:5000<N)(l:List Int)(hl:l.length≤5000)(x:Int):yG N l x=some (decide (x∈l)):=by
 apply Sat.eq;unfold yG
 have key: ∀(m i:Nat),l.length<m+i→i≤l.length→Sat (r19_In_l3 N x l m (i:Int)) (· =decide (x∈l.drop i)):=by
  intro m
  induction m with
  |zero=>intro i h h2;omega
  | succ m ih=>
   intro i h h2;rw [r19_In_l3.eq_2];by_cases hi:i<l.length
   ·rw [cI (by omega),ct,bn hi,bs,List.drop_eq_getElem_cons hi]
    refine dP (fun e=> ?_) fun e=> ?_
    ·exact aS (by rw [decide_eq_true];rw [e];exact List.mem_cons_self ..)
    rw [r64 (by omega) (by omega)];have:=ih (i+1) (by omega) hi;simp only [Int.natCast_add,Int.cast_ofNat_Int] at this
    refine this.mono fun r hr=> ?_
    rw [hr];have:(x∈l[i]::l.drop (i+1))↔x∈l.drop (i+1):=⟨fun h=>(List.mem_cons.1 h).resolve_left (fun e2=>e e2.symm),List.mem_cons_of_mem _⟩;rw [decide_eq_decide];exact this.symm
   rw [cG (by omega),cf,List.drop_eq_nil_of_le (by omega)];exact aS (by simp)
 exact key N 0 (by omega) (by omega)
def opens (p:Int→Bool):List DValue→List Int
 |k::v::l=>(bif bH v&&p k.N then [v.N] else [])++opens p l
 |_=> []
theorem gj (p:Int→Bool)(k v:DValue)(l:List DValue):opens p (k::v::l)=(bif bH v&&p k.N then [v.N] else [])++opens p l:=rfl
theorem At (p:Int→Bool): ∀l:List DValue,(opens p l).length≤l.length
 | []=>Nat.le_refl _
 | [_]=>Nat.zero_le _
 |k::v::l=>by
  have:=At p l;rw [gj,List.length_append];cases bH v&&p k.N<;>simp<;>omega
theorem Ar {p:Int→Bool}{x:Int}: ∀{l:List DValue},x∈opens p l→ ∃v∈l,v.N=x
 | [],h=>by cases h
 | [_],h=>by cases h
 | k::v::l,h=>by
  rw [gj,List.mem_append] at h;rcases h with h|h
  ·cases hb:bH v&&p k.N
   ·rw [hb] at h;cases h
   rw [hb] at h;exact ⟨v,by simp,(List.mem_singleton.1 h).symm⟩
  obtain ⟨w,h1,h2⟩:=Ar h;exact ⟨w,by simp [h1],h2⟩
theorem CP {p q:Int→Bool}(h: ∀x,p x=q x)(l:List DValue):opens p l=opens q l:=by rw [show p=q from funext h]
theorem nM (v:DValue):((bif decide (v.Kind=7) then (some true) else (some (decide (v.Kind=9)))):Option Bool)=some (bH v):=by unfold bH;cases decide (v.Kind=7)<;>rfl
def cM (N:Nat)(c:DCell)(l:List Int):List Int:=bif ma N c then opens (fun x=>decide (x∈l)) c.More else []
theorem yT (N:Nat)(c:DCell)(l:List Int):(cM N c l).length≤c.More.length:=by
 unfold cM;cases ma N c
 ·exact Nat.zero_le _
 exact At _ _
theorem DY {N:Nat}{c:DCell}{l:List Int}{x:Int}(h:x∈cM N c l): ∃v∈c.Slots++c.More,v.N=x:=by
 unfold cM at h;cases hw:ma N c
 ·rw [hw] at h;cases h
 rw [hw] at h;obtain ⟨v,h1,h2⟩:=Ar h;exact ⟨v,by simp [h1],h2⟩
theorem DW (N:Nat)(hN:5000<N)(l:List Int)(hl:l.length≤5000)(k v:DValue)(s:List Int)(hs:s.length≤5000):cJ (fun x st=>fw N l x st) (k,v) (none,s)=some (true,(none,s++(bif bH v&&decide (k.N∈l) then [v.N] else []))):=by
 unfold cJ fw;simp only [nM,bs,lK N hN l hl];cases bH v
 ·simp only [cf,bs,Bool.false_and,List.append_nil];rfl
 simp only [ct,bs,Bool.true_and];cases decide (k.N∈l)
 ·simp only [cf,List.append_nil];rfl
 simp only [ct];rw [rF (by simp;omega)];rfl
theorem vE (N:Nat)(hN:5000<N)(l:List Int)(hl:l.length≤5000)(c:DCell)(hc:c.More.length≤1000)(he:c.More.length%2=0): ∀(m i:Nat) (s:List Int),c.More.length<m+i→i≤c.More.length→i%2=0→s.length≤i→weak_entries_c1_l4 N (cJ (fun x st=>fw N l x st)) c m (i:Int) (none,s)=some (none,s++opens (fun x=>decide (x∈l)) (c.More.drop i))
 |0,i,s,h,h2,_,_=>by omega
 | m+1,i,s,h,h2,h3,h4=>by
  rw [weak_entries_c1_l4.eq_2,r64 (a:=(i:Int)+1) (by omega) (by omega)];by_cases hi:i<c.More.length
  ·have hi1:i+1<c.More.length:=by omega
   have hl1:aM c.More ((i:Int)+1)=some c.More[i+1]:=by
    have:=bn hi1;simpa using this
   rw [cI (by omega),ct,bn hi,bs,r64 (a:=(i:Int)+1) (by omega) (by omega),hl1,bs,DW N hN l hl _ _ s (by omega),bs];simp only [nt,cf];rw [r64 (by omega) (by omega)]
   have hlen:(s++(bif bH c.More[i+1]&&decide (c.More[i].N∈l) then [c.More[i+1].N] else [])).length≤i+2:=by
    cases bH c.More[i+1]&&decide (c.More[i].N∈l)<;>simp<;>omega
   have:=vE N hN l hl c hc he m (i+2) _ (by omega) (by omega) (by omega) hlen;simp only [Int.natCast_add,Int.cast_ofNat_Int] at this;rw [this,List.drop_eq_getElem_cons hi,List.drop_eq_getElem_cons hi1,gj,List.append_assoc]
  rw [cG (by omega),cf,List.drop_eq_nil_of_le (by omega)];simp [opens]
theorem yQ (N:Nat)(hN:5000<N)(l:List Int)(hl:l.length≤5000)(c:DCell)(hS:c.Slots.length≤1000)(hc:c.More.length≤1000):kB N c l=some (cM N c l):=by
 obtain ⟨-,h1,h2⟩:=D7 N (by omega) c hS hc;unfold kB cM fQ;rw [h1,bs];cases hw:ma N c
 ·rfl
 have e:i7 N c=some ():=rfl;have:=vE N hN l hl c hc (h2 hw) N 0 [] (by omega) (by omega) rfl (by simp);simp only [nt,cf,ct,e,bs];have h3:weak_entries_c1_l4 N (cJ (fun x st=>fw N l x st)) c N 0 (none,[])=some (none,[]++opens (fun x=>decide (x∈l)) (c.More.drop 0)):=this;rw [h3,bs];rfl
theorem Gf (N:Nat)(hN:5000<N)(l:List Int)(hl:l.length≤5000)(c:DCell)(hS:c.Slots.length≤1000)(hc:c.More.length≤1000):rC N c l=some (cM N c l):=by
 obtain ⟨h1, -,h2⟩:=D7 N (by omega) c hS hc;unfold rC cM;cases hw:ma N c
 ·obtain ⟨n,rfl⟩: ∃n,N=n+1:=⟨N - 1,by omega⟩;rw [r17_Opens_l7.eq_2,h1,bs,hw];simp only [cf,bs];rfl
 have he:=h2 hw
 have key: ∀(m i:Nat) (s:List Int),c.More.length<m+i→i≤c.More.length→i%2=0→s.length≤i→r17_Opens_l7 N l c m s (i:Int)=some (s++opens (fun x=>decide (x∈l)) (c.More.drop i)):=by
  intro m
  induction m with
  |zero=>intro i s h h2;omega
  | succ m ih=>
   intro i s h h2 h3 h4;rw [r17_Opens_l7.eq_2,h1,bs,hw,ct,bs];by_cases hi:i<c.More.length
   ·have hi1:i+1<c.More.length:=by omega
    have hl1:aM c.More ((i:Int)+1)=some c.More[i+1]:=by
     have:=bn hi1;simpa using this
    rw [cI (by omega),ct,r64 (a:=(i:Int)+1) (by omega) (by omega),hl1,bs,bn hi,bs,Mc N hN l hl,bs];simp only [nM,bs]
    have hlen:(s++(bif bH c.More[i+1]&&decide (c.More[i].N∈l) then [c.More[i+1].N] else [])).length≤i+2:=by
     cases bH c.More[i+1]&&decide (c.More[i].N∈l)<;>simp<;>omega
    have:=ih (i+2) _ (by omega) (by omega) (by omega) hlen;simp only [Int.natCast_add,Int.cast_ofNat_Int] at this;rw [List.drop_eq_getElem_cons hi,List.drop_eq_getElem_cons hi1,gj, ←List.append_assoc, ←this];unfold pa;rw [r64 (a:=(i:Int)+2) (by omega) (by omega),r64 (a:=(i:Int)+2) (by omega) (by omega)];cases decide (c.More[i].N∈l)
    ·simp only [cf,bs,Bool.and_false,List.append_nil]
    cases bH c.More[i+1]
    ·simp only [ct,cf,bs,Bool.and_true,List.append_nil]
    simp only [ct,bs,Bool.and_true];rw [rF (by simp;omega)]
   rw [cG (by omega),cf,List.drop_eq_nil_of_le (by omega)];simp [opens,uO]
 have:=key N 0 [] (by omega) (by omega) rfl (by simp);simpa using this
theorem va: ∀(b:Nat) {l:List Int},l.Nodup→(∀x∈l,1≤x∧x≤(b:Int))→l.length≤b
 |0,l,_,h=>by
  cases l with
  |nil=>exact Nat.le_refl _
  |cons x l=>have:=h x (by simp);omega
 | b+1,l,hn,h=>by
  have h1:=va b (hn.erase ((b:Int)+1)) fun x hx=>by
   obtain ⟨h2,h3⟩:=hn.mem_erase_iff.1 hx;have:=h x h3;omega
  have h2:=List.length_erase (a:=(b:Int)+1) (l:=l);split at h2<;>omega
theorem KF (kv:List (Int×Unit))(a:Int):(lk kv a).isSome=decide (a∈kv.map (·.1)):=by
 unfold lk;rw [Bool.eq_iff_iff];simp [List.find?_isSome,List.mem_map]
def W64 (m:DMemory):Prop:= ∀c∈m.Young++m.Old, ∀v∈c.Slots++c.More,in64 v.N
theorem W64.at_ {m:DMemory}(h:W64 m)(a:Int): ∀v∈(ce m a).Slots++(ce m a).More,in64 v.N:=by
 unfold ce
 cases hc:fI m a with
 |none=>intro v hv;simp [z7] at hv
 |some c=>exact h c (oc hc)
structure Tr (m:DMemory) (all:List Int) (met:List (Int×Unit)):Prop where
 nd:all.Nodup
 mem: ∀x,x∈met.map (·.1)↔x∈all
 has: ∀x∈all,bK m x=true
theorem Tr.len {m:DMemory}{roots:List DValue}(hs:Small m roots){all:List Int}{met:List (Int×Unit)}(h:Tr m all met):all.length≤1200:=va 1200 h.nd fun x hx=>⟨by have:=nQ (h.has x hx);omega,by have:=sE hs (h.has x hx);omega⟩
theorem Tr.in64 {m:DMemory}{roots:List DValue}(hs:Small m roots){all:List Int}{met:List (Int×Unit)}(h:Tr m all met){x:Int}(hx:x∈all):in64 x:=by
 have h1:=nQ (h.has x hx);have h2:=sE hs (h.has x hx);unfold Go.Proofs.YtmimkglhbmcokaaGreat.in64;omega
theorem Tr.add {m:DMemory}{all:List Int}{met:List (Int×Unit)}(h:Tr m all met){x:Int}(hx:x∉all)(hh:bK m x=true):Tr m (all++ [x]) (pS met x ()):=⟨List.nodup_append.2 ⟨h.nd,by simp,fun a ha b hb e=>by rw [List.mem_singleton] at hb;subst hb;subst e;exact hx ha⟩,fun y=>by
 rw [IK,List.mem_append,List.mem_singleton,h.mem y];exact Or.comm,fun y hy=>by
 rcases List.mem_append.1 hy with hy|hy
 ·exact h.has y hy
 ·rw [List.mem_singleton] at hy;subst hy;exact hh⟩
def Nb (m:DMemory)(all:List Int)(k:Nat):Prop:= ∀(i:Nat) (a x:Int),i<k→all[i]? =some a→x∈bN (ce m a)→bK m x=true→x∈all
theorem C1 {m:DMemory}{roots:List DValue}(hs:Small m roots)(hw:W64 m)(a:Int):(bN (ce m a)).length≤2000∧ ∀x∈bN (ce m a),in64 x:=by
 have h1:=hs.at_ a;have h2:=jl (ce m a);refine ⟨by omega,fun x hx=> ?_⟩;obtain ⟨v,h3,rfl⟩:=zm hx;exact hw.at_ a v h3
structure Gr where
 has:Int→Bool
 leads:Int→List Int
 opens:List Int→Int→List Int
def db (has:Int→Bool):List Int→List Int→List Int
 |row,[]=>row
 |row,x::l=>db has (bif has x&& !decide (x∈row) then row++ [x] else row) l
inductive Thr (g:Gr):List Int→Nat→List Int→Prop
 |done {row:List Int} {k:Nat}:row.length≤k→Thr g row k row
 |step {row:List Int} {k:Nat} {a:Int} {r:List Int}:row[k]? =some a→Thr g (db g.has row (g.leads a)) (k+1) r→Thr g row k r
def jW (g:Gr):List Int→List Int→List Int
 |row,[]=>row
 |row,a::avs=>jW g (db g.has row (g.opens row a)) avs
inductive Ord (g:Gr):List Int→List Int→Prop
 |done {row:List Int}:jW g row row=row→Ord g row row
 |step {row r1 r:List Int}:jW g row row≠row→Thr g (jW g row row) row.length r1→Ord g r1 r→Ord g row r
structure IsOrder (g:Gr) (roots:List Int) (b l:List Int):Prop where
 strong:Thr g (db g.has [] roots) 0 b
 all:Ord g b l
theorem fB (has:Int→Bool): ∀(row l:List Int), ∃t,db has row l=row++t∧(∀x∈t,has x=true∧x∈l)
 |row,[]=>⟨[],by simp [db],by simp⟩
 | row,x::l=>by
  unfold db
  cases h:has x&& !decide (x∈row) with
  |false=>
   obtain ⟨t,h1,h2⟩:=fB has row l;exact ⟨t,h1,fun y hy=>⟨(h2 y hy).1,by simp [(h2 y hy).2]⟩⟩
  |true=>
   obtain ⟨t,h1,h2⟩:=fB has (row++ [x]) l;refine ⟨x::t,by rw [cond_true,h1];simp,fun y hy=> ?_⟩;rw [Bool.and_eq_true] at h;rcases List.mem_cons.1 hy with e|hy
   ·subst e;exact ⟨h.1,by simp⟩
   exact ⟨(h2 y hy).1,by simp [(h2 y hy).2]⟩
theorem nL (has:Int→Bool): ∀(row l l':List Int),db has row (l++l')=db has (db has row l) l'
 |_,[],_=>rfl
 |row,x::l,l'=>by
  show db has _ (l++l')=_;rw [nL has _ l l'];rfl
theorem lq {has:Int→Bool}: ∀{row:List Int} (l:List Int),row.Nodup→(db has row l).Nodup
 |_,[],h=>h
 | row,x::l,h=>by
  unfold db
  cases h2:has x&& !decide (x∈row) with
  |false=>exact lq l h
  |true=>
   rw [Bool.and_eq_true] at h2
   have hx:x∉row:=by simpa using h2.2
   exact lq l (List.nodup_append.2 ⟨h,by simp,fun a ha b hb e=>by rw [List.mem_singleton] at hb;subst hb;subst e;exact hx ha⟩)
theorem pI {has:Int→Bool}: ∀(row l:List Int) {x:Int},x∈l→has x=true→x∈db has row l
 | row,y::l,x,h,hx=>by
  unfold db;rcases List.mem_cons.1 h with e|h
  ·subst e;obtain ⟨t,h1, -⟩:=fB has (bif has x&& !decide (x∈row) then row++ [x] else row) l;rw [h1];refine List.mem_append_left _ ?_;rw [hx,Bool.true_and];by_cases hm:x∈row<;>simp [hm]
  exact pI _ l h hx
theorem rS {has:Int→Bool}{row l:List Int}{x:Int}(h:x∈db has row l):x∈row∨(has x=true∧x∈l):=by
 obtain ⟨t,h1,h2⟩:=fB has row l;rw [h1] at h;rcases List.mem_append.1 h with h|h
 ·exact .inl h
 exact .inr (h2 x h)
theorem pA (g:Gr): ∀(row avs:List Int), ∃t,jW g row avs=row++t
 |row,[]=>⟨[],by simp [jW]⟩
 |row,a::avs=>by
  obtain ⟨t,h1, -⟩:=fB g.has row (g.opens row a);obtain ⟨t2,h2⟩:=pA g (db g.has row (g.opens row a)) avs;exact ⟨t++t2,by unfold jW;rw [h2,h1,List.append_assoc]⟩
theorem wj (g:Gr): ∀(row avs bs:List Int),jW g row (avs++bs)=jW g (jW g row avs) bs
 |_,[],_=>rfl
 |row,a::avs,bs=>by
  show jW g _ (avs++bs)=_;rw [wj g _ avs bs];rfl
theorem wW {g:Gr}: ∀{row:List Int} (avs:List Int),row.Nodup→(jW g row avs).Nodup
 |_,[],h=>h
 |_,_::avs,h=>wW avs (lq _ h)
theorem Am {g:Gr}: ∀{row:List Int} (avs:List Int),(∀x∈row,g.has x=true)→ ∀x∈jW g row avs,g.has x=true
 |_,[],h=>h
 |_,_::avs,h=>Am avs fun x hx=>(rS hx).elim (h x) (·.1)
theorem Thr.app {g:Gr}{row r:List Int}{k:Nat}(h:Thr g row k r): ∃t,r=row++t:=by
 induction h with
 |done _=>exact ⟨[],by simp⟩
 |step _ _ ih=>
  rename_i row _ a _ _ _
  obtain ⟨t,rfl⟩:=ih;obtain ⟨t2,h1, -⟩:=fB g.has row (g.leads a);exact ⟨t2++t,by rw [h1,List.append_assoc]⟩
theorem Thr.nodup {g:Gr}{row r:List Int}{k:Nat}(h:Thr g row k r)(hn:row.Nodup):r.Nodup:=by
 induction h with
 |done _=>exact hn
 |step _ _ ih=>exact ih (lq _ hn)
theorem Thr.has {g:Gr}{row r:List Int}{k:Nat}(h:Thr g row k r)(hn: ∀x∈row,g.has x=true): ∀x∈r,g.has x=true:=by
 induction h with
 |done _=>exact hn
 |step _ _ ih=>exact ih fun x hx=>(rS hx).elim (hn x) (·.1)
theorem Thr.det {g:Gr}{row r r':List Int}{k:Nat}(h:Thr g row k r)(h':Thr g row k r'):r=r':=by
 induction h with
 |done hk=>
  cases h' with
  |done _=>rfl
  |step ha _=>rw [List.getElem?_eq_none hk] at ha;cases ha
 |step ha _ ih=>
  cases h' with
  |done hk=>rw [List.getElem?_eq_none hk] at ha;cases ha
  |step ha' h2=>rw [ha] at ha';cases ha';exact ih h2
theorem Ord.det {g:Gr}{row r r':List Int}(h:Ord g row r)(h':Ord g row r'):r=r':=by
 induction h with
 |done hk=>
  cases h' with
  |done _=>rfl
  |step ha _ _=>exact absurd hk ha
 |step ha h1 _ ih=>
  cases h' with
  |done hk=>exact absurd hk ha
  |step _ h1' h2=>exact ih (h1.det h1'▸h2)
theorem IsOrder.det {g:Gr}{roots b l b' l':List Int}(h:IsOrder g roots b l)(h':IsOrder g roots b' l'):b=b'∧l=l':=by
 obtain ⟨h1,h2⟩:=h;obtain ⟨h3,h4⟩:=h';have e:=h1.det h3;subst e;exact ⟨rfl,h2.det h4⟩
theorem Ord.app {g:Gr}{row r:List Int}(h:Ord g row r): ∃t,r=row++t:=by
 induction h with
 |done _=>exact ⟨[],by simp⟩
 |step _ h1 _ ih=>
  rename_i row r1 _ _ _
  obtain ⟨t,rfl⟩:=ih;obtain ⟨t1,rfl⟩:=h1.app;obtain ⟨t2,h2⟩:=pA g row row;exact ⟨t2++t1++t,by rw [h2];simp [List.append_assoc]⟩
theorem Ord.nodup {g:Gr}{row r:List Int}(h:Ord g row r)(hn:row.Nodup):r.Nodup:=by
 induction h with
 |done _=>exact hn
 |step _ h1 _ ih=>exact ih (h1.nodup (wW _ hn))
theorem Ord.has {g:Gr}{row r:List Int}(h:Ord g row r)(hn: ∀x∈row,g.has x=true): ∀x∈r,g.has x=true:=by
 induction h with
 |done _=>exact hn
 |step _ h1 _ ih=>exact ih (h1.has (Am _ hn))
theorem IsOrder.nodup {g:Gr}{roots b l:List Int}(h:IsOrder g roots b l):b.Nodup∧l.Nodup:=
 have hb:=h.strong.nodup (lq _ List.nodup_nil)
 ⟨hb,h.all.nodup hb⟩
theorem IsOrder.has {g:Gr}{roots b l:List Int}(h:IsOrder g roots b l):(∀x∈b,g.has x=true)∧ ∀x∈l,g.has x=true:=
 have hb:=h.strong.has fun x hx=>(rS hx).elim (fun h=>by cases h) (·.1)
 ⟨hb,h.all.has hb⟩
theorem IsOrder.sub {g:Gr}{roots b l:List Int}(h:IsOrder g roots b l){x:Int}(hx:x∈b):x∈l:=by
 obtain ⟨t,e⟩:=h.all.app;rw [e];exact List.mem_append_left _ hx
theorem IsOrder.roots {g:Gr}{roots b l:List Int}(h:IsOrder g roots b l){x:Int}(hx:x∈roots)(hh:g.has x=true):x∈b:=by
 obtain ⟨t,e⟩:=h.strong.app;rw [e];exact List.mem_append_left _ (pI _ _ hx hh)
def CloG (g:Gr)(row:List Int)(k:Nat):Prop:= ∀(i:Nat) (a x:Int),i<k→row[i]? =some a→x∈g.leads a→g.has x=true→x∈row
theorem CloG.app {g:Gr}{row t:List Int}{k:Nat}(hk:k≤row.length)(h:CloG g row k):CloG g (row++t) k:=fun i a x hi ha hx hh=>by
 rw [List.getElem?_append_left (by omega)] at ha;exact List.mem_append_left _ (h i a x hi ha hx hh)
theorem Thr.clo {g:Gr}{row r:List Int}{k:Nat}(h:Thr g row k r)(hk:k≤row.length)(hc:CloG g row k):CloG g r r.length:=by
 induction h with
 |done hk2=>intro i a x hi ha hx hh;exact hc i a x (by omega) ha hx hh
 | step ha _ ih=>
  rename_i row k a _ _
  have hlt:=(List.getElem?_eq_some_iff.1 ha).1;obtain ⟨t,h1, -⟩:=fB g.has row (g.leads a)
  refine ih (by rw [h1,List.length_append];omega) fun i b x hi hb hx hh=> ?_
  by_cases e:i=k
  ·subst e;rw [h1,List.getElem?_append_left hlt,ha] at hb;cases hb;exact pI _ _ hx hh
  rw [h1] at hb⊢;exact (CloG.app hk hc (t:=t)) i b x (by omega) hb hx hh
theorem An {g:Gr}: ∀{row avs:List Int},jW g row avs=row→ ∀a∈avs, ∀x∈g.opens row a,g.has x=true→x∈row
 | row,b::avs,h,a,ha,x,hx,hh=>by
  have h1:db g.has row (g.opens row b)=row:=by
   obtain ⟨t,e1, -⟩:=fB g.has row (g.opens row b);obtain ⟨t2,e2⟩:=pA g (db g.has row (g.opens row b)) avs
   have h3:row++t++t2=row:=by rw [←e1, ←e2];exact h
   have h4:=congrArg List.length h3;simp only [List.length_append] at h4;have h5:t=[]:=List.eq_nil_of_length_eq_zero (by omega);rw [e1,h5,List.append_nil]
  rcases List.mem_cons.1 ha with e|ha
  ·subst e;have:=pI row _ hx hh;rwa [h1] at this
  refine An (avs:=avs) ?_ a ha x hx hh;unfold jW at h;rw [h1] at h;exact h
theorem Ord.closed {g:Gr}{row r:List Int}(h:Ord g row r)(hc:CloG g row row.length):CloG g r r.length∧ ∀a∈r, ∀x∈g.opens r a,g.has x=true→x∈r:=by
 induction h with
 |done hp=>exact ⟨hc,An hp⟩
 |step _ h1 _ ih=>
  rename_i row _ _ _ _
  obtain ⟨t,e⟩:=pA g row row;refine ih (h1.clo (by rw [e,List.length_append];omega) ?_);rw [e];exact hc.app (Nat.le_refl _)
theorem IsOrder.closed {g:Gr}{roots b l:List Int}(h:IsOrder g roots b l):(∀a∈l, ∀x∈g.leads a,g.has x=true→x∈l)∧ ∀a∈l, ∀x∈g.opens l a,g.has x=true→x∈l:=by
 obtain ⟨h1,h2⟩:=h.all.closed (h.strong.clo (Nat.zero_le _) fun i _ _ hi=>absurd hi (by omega));refine ⟨fun a ha x hx hh=> ?_,h2⟩;obtain ⟨i,hi,e⟩:=List.getElem_of_mem ha;exact h1 i a x hi (by rw [List.getElem?_eq_getElem hi,e]) hx hh
structure ClosedS (g:Gr) (S:Int→Prop):Prop where
 leads: ∀a,S a→ ∀x∈g.leads a,g.has x=true→S x
 opens: ∀row:List Int,(∀x∈row,S x)→ ∀a,S a→ ∀x∈g.opens row a,g.has x=true→S x
theorem BL {has:Int→Bool}{S:Int→Prop}{row l:List Int}(h1: ∀x∈row,S x)(h2: ∀x∈l,has x=true→S x): ∀x∈db has row l,S x:=fun x hx=>(rS hx).elim (h1 x) fun ⟨h3,h4⟩=>h2 x h4 h3
theorem Thr.in_ {g:Gr}{S:Int→Prop}(hS:ClosedS g S){row r:List Int}{k:Nat}(h:Thr g row k r)(hr: ∀x∈row,S x): ∀x∈r,S x:=by
 induction h with
 |done _=>exact hr
 |step ha _ ih=>exact ih (BL hr (hS.leads _ (hr _ (List.mem_of_getElem? ha))))
theorem CN {g:Gr}{S:Int→Prop}(hS:ClosedS g S): ∀{row avs:List Int},(∀x∈row,S x)→(∀x∈avs,S x)→ ∀x∈jW g row avs,S x
 |_,[],h,_=>h
 |row,a::avs,h,h2=>CN hS (row:=db g.has row (g.opens row a)) (BL h (hS.opens _ h a (h2 a (by simp)))) fun x hx=>h2 x (by simp [hx])
theorem Ord.in_ {g:Gr}{S:Int→Prop}(hS:ClosedS g S){row r:List Int}(h:Ord g row r)(hr: ∀x∈row,S x): ∀x∈r,S x:=by
 induction h with
 |done _=>exact hr
 |step _ h1 _ ih=>exact ih (h1.in_ hS (CN hS hr hr))
theorem IsOrder.in_ {g:Gr}{S:Int→Prop}(hS:ClosedS g S){roots b l:List Int}(h:IsOrder g roots b l)(hr: ∀x∈roots,g.has x=true→S x): ∀x∈l,S x:=
 h.all.in_ hS (h.strong.in_ hS (BL (fun _ h=>by cases h) hr))
def zt (N:Nat)(m:DMemory):Gr:=⟨bK m,fun a=>bN (ce m a),fun row a=>cM N (ce m a) row⟩
def cj (l:List DValue):List Int:=(l.filter bH).map (·.N)
theorem sO (l l':List DValue):cj (l++l')=cj l++cj l':=by unfold cj;simp
theorem lC {l:List DValue}{x:Int}:x∈cj l↔ ∃v∈l,bH v=true∧v.N=x:=by
 unfold cj;simp only [List.mem_map,List.mem_filter];constructor
 ·rintro ⟨v,⟨h1,h2⟩,h3⟩;exact ⟨v,h1,h2,h3⟩
 rintro ⟨v,h1,h2,h3⟩;exact ⟨v,⟨h1,h2⟩,h3⟩
theorem BK (N:Nat){m:DMemory}{roots:List DValue}(hN:5000<N)(hs:Small m roots)(d:Int)(l:List Int)(hl:l.length≤2000)(h64: ∀x∈l,in64 x){all:List Int}{met:List (Int×Unit)}(ht:Tr m all met):
  Sat (dE N ⟨m,all,met,d⟩ l) fun r=>r.m_=m∧r.done_=d∧Tr m r.all_ r.met_∧r.all_=db (bK m) all l:=by
 unfold dE;refine cy (fun k i (s:List Int×List (Int×Unit))=>reach_row_lay_l7 N l ⟨m,all,met,d⟩ k (i:Int) s.1 s.2) l.length (fun i s=>Tr m s.1 s.2∧s.1=db (bK m) all (l.take i)) _ ?_ ?_ N 0 (all,met) (by omega) (by omega) ⟨ht,rfl⟩
 ·rintro k i ⟨al,mt⟩ hi ⟨h1,h2⟩ go;show Sat (reach_row_lay_l7 N l ⟨m,all,met,d⟩ (k+1) i al mt) _;simp only at h1 h2;have hx64:=h64 l[i] (List.getElem_mem _)
  have hnext:db (bK m) all (l.take (i+1))=(bif bK m l[i]&& !decide (l[i]∈al) then al++ [l[i]] else al):=by
   rw [bf hi,nL, ←h2];rfl
  rw [reach_row_lay_l7.eq_2,cI (by omega),ct,bn hi,bs,KF];unfold fS;rw [r64 (a:=(i:Int)+1) (by omega) (by omega),r64 (a:=(i:Int)+1) (by omega) (by omega)];by_cases hm:l[i]∈al
  ·rw [decide_eq_true ((h1.mem _).2 hm)];simp only [nt,cf,bs];exact go (al,mt) ⟨h1,by rw [hnext,decide_eq_true hm];simp⟩
  rw [decide_eq_false (fun h=>hm ((h1.mem _).1 h))];simp only [nf,ct,bs,pO N m _ hx64];cases hh:bK m l[i]
  ·simp only [cf];exact go (al,mt) ⟨h1,by rw [hnext,hh];rfl⟩
  simp only [ct];have hlen:=h1.len hs;rw [rF (by simp;omega)];exact go (al++ [l[i]],pS mt l[i] ()) ⟨h1.add hm hh,by rw [hnext,hh,decide_eq_false hm];rfl⟩
 rintro k ⟨al,mt⟩ ⟨h1,h2⟩;show Sat (reach_row_lay_l7 N l ⟨m,all,met,d⟩ (k+1) _ al mt) _;rw [reach_row_lay_l7.eq_2,cG (by omega),cf];exact aS ⟨rfl,rfl,h1,by simpa using h2⟩
theorem wO (N:Nat)(hN:5000<N){m:DMemory}{roots:List DValue}(hs:Small m roots)(hw:W64 m){all:List Int}{met:List (Int×Unit)}(ht:Tr m all met)(k:Nat)(hk:k≤all.length):
  Sat (eT N ⟨m,all,met,(k:Int)⟩) fun r=>r.m_=m∧r.done_=(r.all_.length:Int)∧Tr m r.all_ r.met_∧Thr (zt N m) all k r.all_:=by
 unfold eT;refine lZ (fun f (s:List Int×List (Int×Unit)×Nat)=>reach_row_through_l6 N f m.Young m.Old s.1 s.2.1 (s.2.2:Int)) (fun s=>1300 - s.2.2) (fun s=>Tr m s.1 s.2.1∧s.2.2≤s.1.length∧ ∀r,Thr (zt N m) s.1 s.2.2 r→Thr (zt N m) all k r) _ ?_ N (all,met,k) (by show 1300 - k<N;omega) ⟨ht,hk,fun _ h=>h⟩;rintro f ⟨al,mt,j⟩ ⟨h1,h3,h4⟩ go;show Sat (reach_row_through_l6 N (f+1) m.Young m.Old al mt (j:Int)) _;simp only at h1 h3 h4;have hlen:=h1.len hs;rw [reach_row_through_l6.eq_2];by_cases hj:j<al.length
 ·have hx:=List.getElem_mem hj;have hat:=Ci N hs al[j] (h1.in64 hs hx);have hsm:=hs.at_ al[j];obtain ⟨hl1,hl2⟩:=C1 hs hw al[j];rw [cI (by omega),ct,bn hj,bs];have hat':eo N ⟨m.Young,m.Old⟩ al[j]=some (ce m al[j]):=hat;rw [hat',bs,lp N (by omega) _ (by omega) (by omega),bs];refine Sat.bind (BK N hN hs (j:Int) _ hl1 hl2 h1) ?_;rintro ⟨m',al',mt',d'⟩ ⟨e1,e2,h5,h6⟩;simp only at e1 e2 h5 h6;subst e1 e2;have hlen':=h5.len hs
  dsimp only
  rw [r64 (by omega) (by omega)]
  have hge:al.length≤al'.length:=by
   obtain ⟨t,e, -⟩:=fB (bK m') al (bN (ce m' al[j]));rw [h6,e,List.length_append];omega
  have hgo:=go (al',mt',j+1) (by show 1300 - (j+1)<1300 - j;omega) ⟨h5,by show j+1≤al'.length;omega,fun r hr=>h4 r (.step (List.getElem?_eq_getElem hj) (by rw [h6] at hr;exact hr))⟩;simpa using hgo
 have:j=al.length:=by omega
 subst this;rw [cG (by omega),cf];exact aS ⟨rfl,rfl,h1,h4 _ (.done (Nat.le_refl _))⟩
theorem GQ (N:Nat)(hN:5000<N){m:DMemory}{roots:List DValue}(hs:Small m roots)(hw:W64 m)(hr: ∀v∈roots,in64 v.N):
  Sat (iG N m roots) fun r=>r.m_=m∧r.done_=(r.all_.length:Int)∧Tr m r.all_ r.met_∧Thr (zt N m) (db (bK m) [] (cj roots)) 0 r.all_:=by
 have hrl:=hs.roots;unfold iG;refine cy (fun k i (s:List Int×List (Int×Unit))=>reach_begin_l14 N roots k (i:Int) m.Young m.Old s.1 s.2 0) roots.length (fun i s=>Tr m s.1 s.2∧s.1=db (bK m) [] (cj (roots.take i))) _ ?_ ?_ N 0 ([],[]) (by omega) (by omega) ⟨⟨by simp,by simp,by simp⟩,rfl⟩
 ·rintro k i ⟨al,mt⟩ hi ⟨h1,h2⟩ go;show Sat (reach_begin_l14 N roots (k+1) (i:Int) m.Young m.Old al mt 0) _;simp only at h1 h2;have hx64:=hr roots[i] (List.getElem_mem _)
  have ha:eO N roots[i]=some (roots[i].N,bH roots[i]):=by
   unfold eO;rw [nM,bs]
  have hnext:db (bK m) [] (cj (roots.take (i+1)))=db (bK m) al (cj [roots[i]]):=by
   rw [bf hi,sO,nL, ←h2]
  rw [reach_begin_l14.eq_2,cI (by omega),ct,bn hi,bs];unfold lh;rw [ha,bs];cases hb:bH roots[i]
  ·simp only [cf,bs];rw [r64 (by omega) (by omega)];refine go (al,mt) ⟨h1,?_⟩;rw [hnext];simp [cj,hb,db]
  simp only [ct];obtain ⟨⟨m',al',mt',d'⟩,e0,e1,e2,h5,h6⟩:=BK N hN hs 0 [roots[i].N] (by simp) (by intro x hx;rw [List.mem_singleton] at hx;subst hx;exact hx64) h1;simp only at e1 e2 h5 h6;subst e1 e2;have e0':dE N ⟨⟨m'.Young,m'.Old⟩,al,mt,0⟩ [roots[i].N]=some ⟨m',al',mt',0⟩:=e0;rw [e0',bs,bs]
  dsimp only
  rw [r64 (by omega) (by omega)];refine go (al',mt') ⟨h5,?_⟩;show al'=_;rw [hnext,h6];simp [cj,hb]
 rintro k ⟨al,mt⟩ ⟨h1,h2⟩;show Sat (reach_begin_l14 N roots (k+1) _ m.Young m.Old al mt 0) _;rw [reach_begin_l14.eq_2,cG (by omega),cf];unfold nv;refine Sat.bind (wO N hN hs hw h1 0 (Nat.zero_le _)) ?_;rintro r ⟨e1,e2,h5,h6⟩;simp only [List.take_length] at h2;exact aS ⟨e1,e2,h5,by rw [←h2];exact h6⟩
theorem CO (N:Nat){m:DMemory}{roots:List DValue}(hs:Small m roots)(hw:W64 m)(a:Int)(l:List Int):(cM N (ce m a) l).length≤2000∧ ∀x∈cM N (ce m a) l,in64 x:=by
 have h1:=hs.at_ a;have h2:=yT N (ce m a) l;refine ⟨by omega,fun x hx=> ?_⟩;obtain ⟨v,h3,rfl⟩:=DY hx;exact hw.at_ a v h3
theorem Hg (N:Nat)(hN:5000<N){m:DMemory}{roots:List DValue}(hs:Small m roots)(hw:W64 m){all:List Int}{met:List (Int×Unit)}(ht:Tr m all met)(d:Int):
  Sat (gG N ⟨m,all,met,d⟩) fun r=>r.2.m_=m∧r.2.done_=d∧Tr m r.2.all_ r.2.met_∧r.1=decide ((all.length:Int)<(r.2.all_.length:Int))∧r.2.all_=jW (zt N m) all all:=by
 have hlen:=ht.len hs;unfold gG;refine cy (fun k i (s:List Int×List (Int×Unit))=>reach_row_pass_l13 N ⟨m,all,met,d⟩ k (i:Int) m.Young m.Old s.1 s.2 d) all.length (fun i s=>Tr m s.1 s.2∧(∃t,s.1=all++t)∧s.1=jW (zt N m) all (all.take i)) _ ?_ ?_ N 0 (all,met) (by omega) (by omega) ⟨ht,⟨[],by simp⟩,rfl⟩
 ·rintro k i ⟨al,mt⟩ hi ⟨h1,⟨t,h2⟩,h3⟩ go;show Sat (reach_row_pass_l13 N ⟨m,all,met,d⟩ (k+1) (i:Int) m.Young m.Old al mt d) _;simp only at h1 h2 h3;have hlen1:=h1.len hs
  have htk:List.take all.length al=all:=by rw [h2,List.take_left'];rfl
  have hx:=List.getElem_mem hi;have hsm:=hs.at_ all[i];have hat:eo N ⟨m.Young,m.Old⟩ all[i]=some (ce m all[i]):=Ci N hs all[i] (ht.in64 hs hx)
  have hnext:jW (zt N m) all (all.take (i+1))=db (bK m) al (cM N (ce m all[i]) al):=by
   rw [bf hi,wj, ←h3];rfl
  rw [reach_row_pass_l13.eq_2];simp only [List.take_length];rw [cI (by omega),ct,htk,bn hi,bs,hat,bs];unfold ii;by_cases h8:(ce m all[i]).Kind=8
  ·rw [mw h8,ct,yQ N hN al (by omega) _ (by omega) (by omega),bs];obtain ⟨hl1,hl2⟩:=CO N hs hw all[i] al;obtain ⟨⟨m',al',mt',d'⟩,e0,e1,e2,h5,h6⟩:=BK N hN hs d _ hl1 hl2 h1;simp only at e1 e2 h5 h6;subst e1 e2;have e0':dE N ⟨⟨m'.Young,m'.Old⟩,al,mt,d'⟩ (cM N (ce m' all[i]) al)=some ⟨m',al',mt',d'⟩:=e0;rw [e0',bs]
   dsimp only
   rw [r64 (by omega) (by omega)];obtain ⟨t',e', -⟩:=fB (bK m') al (cM N (ce m' all[i]) al);exact go (al',mt') ⟨h5,⟨t++t',by show al'=_;rw [h6,e',h2,List.append_assoc]⟩,by show al'=_;rw [hnext,h6]⟩
  rw [fa h8,cf,r64 (by omega) (by omega)];refine go (al,mt) ⟨h1,⟨t,h2⟩,?_⟩
  have h0:cM N (ce m all[i]) al=[]:=by
   unfold cM ma;rw [fa h8];rfl
  show al=_;rw [hnext,h0];rfl
 rintro k ⟨al,mt⟩ ⟨h1,⟨t,h2⟩,h3⟩;show Sat (reach_row_pass_l13 N ⟨m,all,met,d⟩ (k+1) _ m.Young m.Old al mt d) _;rw [reach_row_pass_l13.eq_2];simp only [List.take_length] at h3⊢;rw [cG (by omega),cf];exact aS ⟨rfl,rfl,h1,rfl,h3⟩
theorem Ge (N:Nat)(hN:5000<N){m:DMemory}{roots:List DValue}(hs:Small m roots)(hw:W64 m)(hr: ∀v∈roots,in64 v.N):
  ∃b all,IsOrder (zt N m) (cj roots) b.all_ all∧all.length≤1200∧b.all_.length≤1200∧iG N m roots=some b∧dT N m roots=some all:=by
 obtain ⟨⟨m',al0,mt0,d0⟩,e0,e1,e2,h1,h2⟩:=GQ N hN hs hw hr;simp only at e1 e2 h1 h2;subst e1 e2;have hlen0:=h1.len hs
 have key:Sat (dT N m' roots) fun all=>Ord (zt N m') al0 all∧all.length≤1200:=by
  unfold dT;rw [e0,bs];refine lZ (fun f (s:List Int×List (Int×Unit))=>reach_Order_l17 N f m'.Young m'.Old s.1 s.2 (s.1.length:Int)) (fun s=>1300 - s.1.length) (fun s=>Tr m' s.1 s.2∧ ∀r,Ord (zt N m') s.1 r→Ord (zt N m') al0 r) _ ?_ N (al0,mt0) (by show 1300 - al0.length<N;omega) ⟨h1,fun _ h=>h⟩;rintro f ⟨al,mt⟩ ⟨h4,h5⟩ go;show Sat (reach_Order_l17 N (f+1) m'.Young m'.Old al mt (al.length:Int)) _;simp only at h4 h5;have hlen:=h4.len hs;rw [reach_Order_l17.eq_2];obtain ⟨⟨b,m2,al2,mt2,d2⟩,g0,g1,g2,g3,g5,g6⟩:=Hg N hN hs hw h4 (al.length:Int);simp only at g1 g2 g3 g5 g6;subst g1 g2;have hlen2:=g3.len hs;have g0':gG N ⟨⟨m2.Young,m2.Old⟩,al,mt,(al.length:Int)⟩=some (b,⟨m2,al2,mt2,(al.length:Int)⟩):=g0;obtain ⟨t2,ht2⟩:=pA (zt N m2) al al;rw [g0',bs]
  dsimp only
  rw [g5]
  refine dP (fun hlt=> ?_) fun hge=> ?_
  ·refine Sat.bind (wO N hN hs hw g3 al.length (by omega)) ?_;rintro ⟨m3,al3,mt3,d3⟩ ⟨k1,k2,k3,k4⟩;simp only at k1 k2 k3 k4;subst k1 k2;have hlen3:=k3.len hs;refine go (al3,mt3) ?_ ⟨k3,fun r h=>h5 r (.step ?_ (by rw [←g6];exact k4) h)⟩
   ·show 1300 - al3.length<1300 - al.length;obtain ⟨t3,e3⟩:=k4.app
    have:al2.length≤al3.length:=by rw [e3,List.length_append];omega
    omega
   rw [←g6];intro e;rw [e] at hlt;omega
  have e:al2=al:=by
   rw [ht2] at g6;have h0:t2=[]:=List.eq_nil_of_length_eq_zero (by rw [g6,List.length_append] at hge;omega);rw [g6,h0,List.append_nil]
  subst e;unfold mn;exact aS ⟨h5 _ (.done g6.symm),by omega⟩
 obtain ⟨all,k1,k2,k3⟩:=key;exact ⟨⟨m',al0,mt0,(al0.length:Int)⟩,all,⟨h2,k2⟩,k3,hlen0,e0,k1⟩
theorem mR (l:List Int)(x:Int):x∈gS l↔x∈l:=by unfold gS;exact List.mem_mergeSort
theorem Ae {l:List Int}(h:l.Nodup):(gS l).Pairwise (· < ·):=by
 have h1:(gS l).Pairwise fun a b=>decide (a≤b)=true:=List.pairwise_mergeSort (by intro a b c h1 h2;simp at*;omega) (by intro a b;simp;omega) l
 have h2:(gS l).Nodup:=(List.mergeSort_perm l _).nodup_iff.2 h;rw [List.nodup_iff_pairwise_ne] at h2;exact h1.imp₂ (fun a b h3 h4=>by simp at h3;omega) h2
theorem Cz {l s:List Int}(h:l.Nodup)(hs:s.Pairwise (· < ·))(he: ∀x,x∈l↔x∈s):gS l=s:=FK (Ae h) hs fun x=>(mR l x).trans (he x)
theorem F1 (N:Nat)(l:List Int)(h:l.length≤5000):jU N l=some (gS l):=by
 unfold jU;rw [rF (by omega)]
def MO (n:Int):DValue:=⟨7,n,⟨#[]⟩⟩
def MB (l:List DValue):DCell:=⟨11,0,0,0,[],l⟩
def MT:DMemory:=⟨[⟨11,0,0,0,[],[⟨7,3,⟨#[]⟩⟩,⟨7,2,⟨#[]⟩⟩]⟩,⟨11,0,0,0,[],[]⟩],[⟨11,0,0,0,[],[]⟩]⟩
def MQ:DMemory:=⟨[⟨8,0,0,0,[⟨1,0,⟨#[]⟩⟩],[⟨7,3,⟨#[]⟩⟩,⟨7,5,⟨#[]⟩⟩]⟩,⟨11,0,0,0,[],[]⟩,⟨11,0,0,0,[],[]⟩],[]⟩
theorem I7 {N:Nat}{m:DMemory}{roots:List DValue}{l s:List Int}(h:dT N m roots=some l)(hl:l.length≤5000)(hs:gS l=s):dF N m roots=some s:=by
 unfold dF;rw [h,bs,F1 N l hl,bs,hs]
structure Tq (m:DMemory) (all:List Int):Prop where
 nd:all.Nodup
 has: ∀x∈all,bK m x=true
theorem Tq.len {m:DMemory}{roots:List DValue}(hs:Small m roots){all:List Int}(h:Tq m all):all.length≤1200:=va 1200 h.nd fun x hx=>⟨by have:=nQ (h.has x hx);omega,by have:=sE hs (h.has x hx);omega⟩
theorem Tq.in64 {m:DMemory}{roots:List DValue}(hs:Small m roots){all:List Int}(h:Tq m all){x:Int}(hx:x∈all):in64 x:=by
 have h1:=nQ (h.has x hx);have h2:=sE hs (h.has x hx);unfold Go.Proofs.YtmimkglhbmcokaaGreat.in64;omega
theorem Tq.lay {m:DMemory}{all:List Int}(h:Tq m all)(l:List Int):Tq m (db (bK m) all l):=⟨lq l h.nd,fun x hx=>(rS hx).elim (h.has x) (·.1)⟩
theorem yr (N:Nat){m:DMemory}{roots:List DValue}(hN:5000<N)(hs:Small m roots)(l:List Int)(hl:l.length≤2000)(h64: ∀x∈l,in64 x){all:List Int}(ht:Tq m all):lj N m all l=some (db (bK m) all l):=by
 apply Sat.eq;unfold lj;refine cy (fun k i (s:List Int)=>r19_lay_l8 N l m k s (i:Int)) l.length (fun i s=>Tq m s∧s=db (bK m) all (l.take i)) _ ?_ ?_ N 0 all (by omega) (by omega) ⟨ht,rfl⟩
 ·rintro k i s hi ⟨h0,h1⟩ go;show Sat (r19_lay_l8 N l m (k+1) s (i:Int)) _;have hx64:=h64 l[i] (List.getElem_mem _);have hsl:=h0.len hs
  have hnext:db (bK m) all (l.take (i+1))=(bif bK m l[i]&& !decide (l[i]∈s) then s++ [l[i]] else s):=by
   rw [bf hi,nL, ←h1];rfl
  have hT:Tq m (db (bK m) all (l.take (i+1))):=ht.lay _;rw [r19_lay_l8.eq_2,cI (by omega),ct];simp only [bn hi,bs,E2 N m _ hx64,Mb N hN s (by omega) l[i]];unfold rA;cases hh:bK m l[i]
  ·simp only [cf,bs];rw [r64 (by omega) (by omega)];exact go s ⟨h0,by rw [hnext,hh];rfl⟩
  simp only [ct,bs];by_cases hm:l[i]∈s
  ·rw [decide_eq_true hm];simp only [nt,cf];rw [r64 (by omega) (by omega)];exact go s ⟨h0,by rw [hnext,hh,decide_eq_true hm];rfl⟩
  have e:db (bK m) all (l.take (i+1))=s++ [l[i]]:=by rw [hnext,hh,decide_eq_false hm];rfl
  rw [decide_eq_false hm];simp only [nf,ct];rw [rF (by simp;omega),r64 (by omega) (by omega)];exact go (s++ [l[i]]) ⟨e▸hT,e.symm⟩
 rintro k s ⟨h0,h1⟩;show Sat (r19_lay_l8 N l m (k+1) s _) _;rw [r19_lay_l8.eq_2,cG (by omega),cf];exact aS (by simpa using h1)
theorem F7 (N:Nat)(hN:5000<N)(l:List DValue)(hl:l.length≤2000):fK N l=some (cj l):=by
 apply Sat.eq;unfold fK;refine cy (fun k i (s:List Int)=>r19_addresses_l5 N l k s (i:Int)) l.length (fun i s=>s=cj (l.take i)) _ ?_ ?_ N 0 [] (by omega) (by omega) rfl
 ·rintro k i s hi h1 go;show Sat (r19_addresses_l5 N l (k+1) s (i:Int)) _
  have hsl:s.length≤2000:=by
   rw [h1];unfold cj;rw [List.length_map];exact Nat.le_trans (List.length_filter_le _ _) (by rw [List.length_take];omega)
  have hnext:cj (l.take (i+1))=s++cj [l[i]]:=by rw [bf hi,sO,h1]
  rw [r19_addresses_l5.eq_2,cI (by omega),ct];simp only [bn hi,bs,nM];unfold ll;cases hb:bH l[i]
  ·simp only [cf];rw [r64 (by omega) (by omega)];exact go s (by rw [hnext];simp [cj,hb])
  simp only [ct];rw [rF (by simp;omega),r64 (by omega) (by omega)];exact go (s++ [l[i].N]) (by rw [hnext];simp [cj,hb])
 rintro k s h1;show Sat (r19_addresses_l5 N l (k+1) s _) _;rw [r19_addresses_l5.eq_2,cG (by omega),cf];exact aS (by simpa using h1)
theorem uA (N:Nat)(hN:5000<N){m:DMemory}{roots:List DValue}(hs:Small m roots)(hw:W64 m){all:List Int}(ht:Tq m all)(k:Nat)(hk:k≤all.length):
  Sat (gh N m all (k:Int)) fun r=>Tq m r∧Thr (zt N m) all k r:=by
 unfold gh;refine lZ (fun f (s:List Int×Nat)=>r19_through_l7 N m f s.1 (s.2:Int)) (fun s=>1300 - s.2) (fun s=>Tq m s.1∧s.2≤s.1.length∧ ∀r,Thr (zt N m) s.1 s.2 r→Thr (zt N m) all k r) _ ?_ N (all,k) (by show 1300 - k<N;omega) ⟨ht,hk,fun _ h=>h⟩;rintro f ⟨al,j⟩ ⟨h1,h3,h4⟩ go;show Sat (r19_through_l7 N m (f+1) al (j:Int)) _;simp only at h1 h3 h4;have hlen:=h1.len hs;rw [r19_through_l7.eq_2];by_cases hj:j<al.length
 ·have hx:=List.getElem_mem hj;have hsm:=hs.at_ al[j];obtain ⟨hl1,hl2⟩:=C1 hs hw al[j];rw [cI (by omega),ct,bn hj,bs,Iu N m _ (h1.in64 hs hx),bs,Gt N (by omega) _ (by omega) (by omega),bs,yr N hN hs _ hl1 hl2 h1,bs,r64 (by omega) (by omega)]
  have hge:al.length≤(db (bK m) al (bN (ce m al[j]))).length:=by
   obtain ⟨t,e, -⟩:=fB (bK m) al (bN (ce m al[j]));rw [e,List.length_append];omega
  exact go (db (bK m) al (bN (ce m al[j])),j+1) (by show 1300 - (j+1)<1300 - j;omega) ⟨h1.lay _,by show j+1≤(db (bK m) al (bN (ce m al[j]))).length;omega,fun r hr=>h4 r (.step (List.getElem?_eq_getElem hj) hr)⟩
 have:j=al.length:=by omega
 subst this;rw [cG (by omega),cf];exact aS ⟨h1,h4 _ (.done (Nat.le_refl _))⟩
theorem DK (N:Nat)(hN:5000<N){m:DMemory}{roots:List DValue}(hs:Small m roots)(hw:W64 m)(hr: ∀v∈roots,in64 v.N):
  ∃b all,IsOrder (zt N m) (cj roots) b all∧lV N m roots=some all∧((fK N roots).bind fun y5=>(lj N m ([]:List Int) y5).bind fun y8=>gh N m y8 0)=some b:=by
 have hrl:=hs.roots;have ha:=F7 N hN roots (by omega)
 have h64: ∀x∈cj roots,in64 x:=fun x hx=>by
  obtain ⟨v,h1, -,rfl⟩:=lC.1 hx;exact hr v h1
 have hal:(cj roots).length≤2000:=by
  unfold cj;rw [List.length_map];exact Nat.le_trans (List.length_filter_le _ _) (by omega)
 have hT0:Tq m []:=⟨List.nodup_nil,by simp⟩;have hlay:=yr N hN hs (cj roots) hal h64 hT0;obtain ⟨b,b0,b1,b2⟩:=uA N hN hs hw (hT0.lay (cj roots)) 0 (Nat.zero_le _);have b0':gh N m (db (bK m) [] (cj roots)) 0=some b:=b0
 have key:Sat (lV N m roots) fun all=>Ord (zt N m) b all:=by
  unfold lV;rw [ha,bs,hlay,bs,b0',bs];refine lZ (fun f (s:List Int)=>r19_Order_l12 N m f s) (fun s=>1300 - s.length) (fun s=>Tq m s∧ ∀r,Ord (zt N m) s r→Ord (zt N m) b r) _ ?_ N b (by show 1300 - b.length<N;omega) ⟨b1,fun _ h=>h⟩;rintro f al ⟨h4,h5⟩ go;show Sat (r19_Order_l12 N m (f+1) al) _;have hlen:=h4.len hs;rw [r19_Order_l12.eq_2];refine cy (fun k i (s:List Int)=>r19_Order_l16 N (r19_Order_l12 N m f) al m k s (i:Int)) al.length (fun i s=>Tq m s∧(∃t,s=al++t)∧s=jW (zt N m) al (al.take i)) _ ?_ ?_ N 0 al (by omega) (by omega) ⟨h4,⟨[],by simp⟩,rfl⟩
  ·rintro k i s hi ⟨h0,⟨t,h1⟩,h2⟩ go2;show Sat (r19_Order_l16 N (r19_Order_l12 N m f) al m (k+1) s (i:Int)) _;have hsl:=h0.len hs
   have hg:aM s (i:Int)=some al[i]:=by
    rw [jY,h1,List.getElem?_append_left hi,List.getElem?_eq_getElem hi]
   have hx:=List.getElem_mem hi;have hsm:=hs.at_ al[i];obtain ⟨hl1,hl2⟩:=CO N hs hw al[i] s
   have hnext:jW (zt N m) al (al.take (i+1))=db (bK m) s (cM N (ce m al[i]) s):=by
    rw [bf hi,wj, ←h2];rfl
   rw [r19_Order_l16.eq_2,cI (by omega),ct,hg,bs,Iu N m _ (h4.in64 hs hx),bs,Gf N hN s (by omega) _ (by omega) (by omega),bs,yr N hN hs _ hl1 hl2 h0,bs,r64 (by omega) (by omega)];obtain ⟨t',e', -⟩:=fB (bK m) s (cM N (ce m al[i]) s);exact go2 _ ⟨h0.lay _,⟨t++t',by rw [e',h1,List.append_assoc]⟩,hnext.symm⟩
  rintro k s ⟨h0,⟨t,h1⟩,h2⟩;show Sat (r19_Order_l16 N (r19_Order_l12 N m f) al m (k+1) s _) _;have hsl:=h0.len hs;simp only [List.take_length] at h2;rw [r19_Order_l16.eq_2,cG (by omega),cf];unfold tp
  refine dP (fun he=> ?_) fun hne=> ?_
  ·have h6:t=[]:=List.eq_nil_of_length_eq_zero (by rw [h1,List.length_append] at he;omega)
   have h7:s=al:=by rw [h1,h6,List.append_nil]
   exact aS (by rw [h7] at h2⊢;exact h5 _ (.done h2.symm))
  have hle:al.length≤s.length:=by rw [h1,List.length_append];omega
  refine Sat.bind (uA N hN hs hw h0 al.length hle) fun r ⟨r1,r2⟩=> ?_
  obtain ⟨t3,e3⟩:=r2.app;have hl3:=r1.len hs;refine go r ?_ ⟨r1,fun r' hr'=>h5 r' (.step ?_ (by rw [←h2];exact r2) hr')⟩
  ·show 1300 - r.length<1300 - al.length
   have:s.length≤r.length:=by rw [e3,List.length_append];omega
   omega
  rw [←h2];intro e;rw [e] at hne;omega
 obtain ⟨all,k1,k2⟩:=key;exact ⟨b,all,⟨b2,k2⟩,k1,by rw [ha,bs,hlay,bs];exact b0'⟩
theorem Ac: ∀{s:List Int} {k:Nat} (h:k+1<s.length),((s.set (k+1) (s[k]'(by omega))).set k s[k+1]).Perm s
 |a::b::r,0,_=>List.Perm.swap a b r
 |a::r,k+1,h=>by
  have ih:=Ac (s:=r) (k:=k) (by simpa using h);simp only [List.set_cons_succ,List.getElem_cons_succ];exact ih.cons a
def Ml (s:List Int)(i k:Nat):Prop:= ∀a b:Nat,a<b→b≤i→b≠k→s.getD a 0≤s.getD b 0
theorem vt (s:List Int)(i j:Nat)(x:Int)(hi:i<s.length):(s.set i x).getD j 0=if j=i then x else s.getD j 0:=by
 by_cases e:j=i
 ·subst e;simp [List.getD,hi]
 rw [if_neg e];simp only [List.getD];rw [List.getElem?_set_ne (fun h=>e h.symm)]
theorem sF (s:List Int)(i:Nat)(hi:i<s.length):s.getD i 0=s[i]:=by simp [List.getD,hi]
theorem DL (N:Nat)(hN:5000<N)(l:List Int)(hl:l.length≤2000)(hn:l.Nodup):mK N l=some (gS l):=by
 apply Sat.eq;unfold mK;rw [rF (by simp;omega),List.nil_append]
 have fin: ∀s:List Int,s.Perm l→Ml s (l.length - 1) l.length→s=gS l:=fun s hp hi=>by
  have hlen:=hp.length_eq;have hnd:s.Nodup:=hp.nodup_iff.2 hn;refine (Cz hn (List.pairwise_iff_getElem.2 fun a b ha hb hab=> ?_) fun x=>(hp.mem_iff).symm).symm;have h1:=hi a b hab (by omega) (by omega);rw [sF s a ha,sF s b hb] at h1;have h2:=List.pairwise_iff_getElem.1 (List.nodup_iff_pairwise_ne.1 hnd) a b ha hb hab;omega
 by_cases h0:l.length=0
 ·have e:l=[]:=List.eq_nil_of_length_eq_zero h0;subst e;obtain ⟨n,rfl⟩: ∃n,N=n+1:=⟨N - 1,by omega⟩;rw [r19_rising_l7.eq_2,cG (by simp),cf];exact aS (by unfold gS;simp)
 refine cy (fun k i (s:List Int)=>r19_rising_l7 N k s (i:Int)) l.length (fun i s=>s.Perm l∧Ml s (i - 1) l.length) _ ?_ ?_ N 1 l (by omega) (by omega) ⟨List.Perm.refl _,fun a b h1 h2=>absurd h2 (by omega)⟩
 ·rintro f i s hi ⟨h1,h2⟩ go;show Sat (r19_rising_l7 N (f+1) s (i:Int)) _;have hlen:=h1.length_eq;rw [r19_rising_l7.eq_2,hlen,cI (by omega),ct]
  have hi0:i≤l.length:=by omega
  refine lZ (fun k (st:List Int×Nat)=>r19_rising_l13 N (r19_rising_l7 N f) (i:Int) k st.1 (st.2:Int)) (fun st=>st.2) (fun st=>st.1.Perm l∧st.2≤i∧Ml st.1 i st.2) _ ?_ N (s,i) (by show i<N;omega) ⟨h1,Nat.le_refl _,fun a b q1 q2 q3=>h2 a b q1 (by show b≤i - 1;simp only at q3;omega) (by omega)⟩;rintro k ⟨t,j⟩ ⟨g1,g2,g3⟩ go2;simp only at g1 g2 g3;show Sat (r19_rising_l13 N (r19_rising_l7 N f) (i:Int) (k+1) t (j:Int)) _;have hlt:=g1.length_eq
  have stop:(j=0∨t.getD (j - 1) 0≤t.getD j 0)→Sat (nw N (r19_rising_l7 N f) (i:Int) t) (· =gS l):=fun hst=>by
   unfold nw;rw [r64 (by omega) (by omega)];refine go t ⟨g1,fun a b q1 q2 q3=> ?_⟩
   have q2':b≤i:=by omega
   by_cases e:b=j
   ·subst e;rcases hst with h|h
    ·omega
    by_cases e2:a=b - 1
    ·subst e2;exact h
    have:=g3 a (b - 1) (by omega) (by omega) (by omega);omega
   exact g3 a b q1 q2' e
  rw [r19_rising_l13.eq_2];by_cases hj:0<j
  ·have hp:aM t ((j:Int) - 1)=some (t[j - 1]'(by omega)):=by
    have:=bn (xs:=t) (i:=j - 1) (by omega);rw [show (((j - 1:Nat)):Int)=(j:Int) - 1 by omega] at this;exact this
   have hq:aM t (j:Int)=some (t[j]'(by omega)):=bn (by omega);rw [cI (by omega),ct,r64 (by omega) (by omega),hp,bs,hq,bs,bs];by_cases hc:t[j]'(by omega)<t[j - 1]'(by omega)
   ·rw [cI hc,ct,bs,r64 (a:=(j:Int) - 1) (by omega) (by omega),bs,bs,r64 (a:=(j:Int) - 1) (by omega) (by omega)]
    have hs2:aM (List.set t (j:Int).toNat (t[j - 1]'(by omega))) ((j:Int) - 1)=some ((List.set t (j:Int).toNat (t[j - 1]'(by omega)))[j - 1]'(by simp;omega)):=by
     have:=bn (xs:=List.set t (j:Int).toNat (t[j - 1]'(by omega))) (i:=j - 1) (by simp;omega);rw [show (((j - 1:Nat)):Int)=(j:Int) - 1 by omega] at this;exact this
    rw [hs2,bs,r64 (a:=(j:Int) - 1) (by omega) (by omega),Int.toNat_natCast,show ((j:Int) - 1).toNat=j - 1 by omega,show (j:Int) - 1=((j - 1:Nat):Int) by omega];obtain ⟨q,rfl⟩: ∃q,j=q+1:=⟨j - 1,by omega⟩;simp only [Nat.add_sub_cancel] at*;refine go2 ((t.set (q+1) (t[q]'(by omega))).set q (t[q+1]'(by omega)),q) (by show q<q+1;omega) ⟨(Ac (by omega)).trans g1,by show q≤i;omega,fun a b q1 q2 q3=> ?_⟩;have q3':b≠q:=q3;have hqa:=sF t q (by omega);have hqb:=sF t (q+1) (by omega);show ((t.set (q+1) (t[q]'(by omega))).set q (t[q+1]'(by omega))).getD a 0≤((t.set (q+1) (t[q]'(by omega))).set q (t[q+1]'(by omega))).getD b 0;rw [vt _ q _ _ (by simp;omega),vt _ q _ _ (by simp;omega),vt t (q+1) _ _ (by omega),vt t (q+1) _ _ (by omega),if_neg q3'];by_cases b1:b=q+1
    ·rw [if_pos b1];by_cases a1:a=q
     ·rw [if_pos a1];omega
     rw [if_neg a1,if_neg (by omega), ←hqa];exact g3 a q (by omega) (by omega) (by omega)
    rw [if_neg b1];by_cases a1:a=q
    ·rw [if_pos a1, ←hqb];exact g3 (q+1) b (by omega) q2 b1
    rw [if_neg a1];by_cases a2:a=q+1
    ·rw [if_pos a2, ←hqa];exact g3 q b (by omega) q2 b1
    rw [if_neg a2];exact g3 a b q1 q2 b1
   rw [cG (by omega),cf];refine stop (.inr ?_);rw [sF t (j - 1) (by omega),sF t j (by omega)];omega
  rw [cG (by omega),cf,bs,cf];exact stop (.inl (by omega))
 rintro f s ⟨h1,h2⟩;show Sat (r19_rising_l7 N (f+1) s _) _;rw [r19_rising_l7.eq_2,h1.length_eq,cG (by omega),cf];unfold ti;exact aS (fin s h1 h2)
def iO (c:DCell):List Int:=pick (fun i v=>fc c.Kind i&&bH v) 0 c.More
theorem qZ (N:Nat)(hN:2000<N)(c:DCell)(hS:c.Slots.length≤1000)(hc:c.More.length≤1000):fh N c=some (iO c):=by
 unfold fh iO;rw [sg N hN false c hS hc,bs]
 have e1:(fun (_:Nat) (v:DValue)=>(true==false)&&bH v)=fun _ _=>false:=by funext i v;rfl
 have e2:(fun (i:Nat) (v:DValue)=>(iR c.Kind i==false)&&bH v)=fun i v=>fc c.Kind i&&bH v:=by funext i v;rw [wQ];cases fc c.Kind i<;>rfl
 rw [e1,e2,wi,List.nil_append]
theorem lP (c:DCell):(iO c).length≤c.More.length:=uU _ 0 c.More
theorem Cp {c:DCell}{x:Int}(h:x∈iO c): ∃v∈c.Slots++c.More,v.N=x:=by
 obtain ⟨v,h1,h2⟩:=uT h;exact ⟨v,List.mem_append_right _ h1,h2⟩
theorem Kj (N:Nat)(a b:List DValue)(ha:a.length<N)(ha2:a.length≤5000):ep N a b=some (decide (a=b)):=by
 unfold ep;refine E8 _ a b (fun hl m i h h'=> ?_) (fun m=> ?_) N ha
 ·rw [r15_SameValues_l5.eq_2,cI (by omega),ct,bn h,bs,bn h',bs,r64 (by omega) (by omega)];cases decide (a[i]=b[i])<;>rfl
 rw [r15_SameValues_l5.eq_2,cG (by omega),cf];rfl
theorem Jw (a b:DCell):decide (a=b)=(decide (a.Kind=b.Kind)&&decide (a.Shape=b.Shape)&&decide (a.Flags=b.Flags)&&decide (a.Age=b.Age)&&decide (a.Slots=b.Slots)&&decide (a.More=b.More)):=by
 obtain ⟨a1,a2,a3,a4,a5,a6⟩:=a;obtain ⟨b1,b2,b3,b4,b5,b6⟩:=b;rw [Bool.eq_iff_iff];simp only [Bool.and_eq_true,decide_eq_true_eq,DCell.mk.injEq,and_assoc]
theorem Lj (N:Nat)(a b:DCell)(h1:a.Slots.length<N)(h2:a.Slots.length≤5000)(h3:a.More.length<N)(h4:a.More.length≤5000):nz N a b=some (decide (a=b)):=by
 unfold nz;rw [Kj N a.Slots b.Slots h1 h2,Kj N a.More b.More h3 h4,Jw];simp only [bs];cases decide (a.Kind=b.Kind)<;>cases decide (a.Shape=b.Shape)<;>cases decide (a.Flags=b.Flags)<;>cases decide (a.Age=b.Age)<;>cases decide (a.Slots=b.Slots)<;>cases decide (a.More=b.More)<;>rfl
theorem Jv (N:Nat)(a b:List DCell)(ha:a.length<N)(ha2:a.length≤5000)(hN:5000<N)(hc: ∀c∈a,c.Slots.length≤5000∧c.More.length≤5000):jf N a b=some (decide (a=b)):=by
 unfold jf;refine E8 _ a b (fun hl m i h h'=> ?_) (fun m=> ?_) N ha
 ·have h1:=hc a[i] (List.getElem_mem _);rw [r19_Cells_l5.eq_2,cI (by omega),ct,bn h,bs,bn h',bs,Lj N _ _ (by omega) (by omega) (by omega) (by omega),bs,r64 (by omega) (by omega)];cases decide (a[i]=b[i])<;>rfl
 rw [r19_Cells_l5.eq_2,cG (by omega),cf];rfl
def fF (m:DMemory)(l:List Int):Bool:=l.all (bK m)
def xe (N:Nat)(m:DMemory)(c:DCell):Bool:=(da N c).getD false&&(fF m (bN c)&&fF m (iO c))
def LS (N:Nat)(m:DMemory)(roots:List DValue):Bool:=m.Young.all (xe N m)&&(m.Old.all (xe N m)&&fF m (cj roots))
theorem vQ {m:DMemory}{roots:List DValue}(hs:Small m roots)(hw:W64 m){c:DCell}(hc:c∈m.Young++m.Old):((bN c).length≤1200∧ ∀x∈bN c,in64 x)∧(iO c).length≤1200∧ ∀x∈iO c,in64 x:=by
 have h1:=hs.cells c hc;have h2:=jl c;have h3:=lP c;refine ⟨⟨by omega,fun x hx=> ?_⟩,by omega,fun x hx=> ?_⟩
 ·obtain ⟨v,h4,rfl⟩:=zm hx;exact hw c hc v h4
 obtain ⟨v,h4,rfl⟩:=Cp hx;exact hw c hc v h4
structure Bnd (B:Nat) (m:DMemory) (roots:List DValue):Prop where
 young:m.Young.length≤B
 old:m.Old.length≤B
 roots:roots.length≤B
 cells: ∀c∈m.Young++m.Old,c.Slots.length≤B∧c.More.length≤B
def wt:List DCell→Nat
 | []=>0
 |c::l=>1+c.Slots.length+c.More.length+wt l
theorem ya: ∀a b:List DCell,wt (a++b)=wt a+wt b
 | [],b=>by simp [wt]
 |c::a,b=>by rw [List.cons_append,wt,wt,ya a b];omega
theorem IH {l:List DCell}{i:Nat}(h:i<l.length):wt (l.take (i+1))=wt (l.take i)+(1+l[i].Slots.length+l[i].More.length):=by
 rw [bf h,ya];simp [wt]
def W6 (m:DMemory)(roots:List DValue):Prop:=roots.length+wt m.Young+wt m.Old≤600
structure Wtd (m:DMemory) (roots:List DValue):Prop where
 le:roots.length+wt m.Young+wt m.Old≤2400
 cnt:m.Young.length+m.Old.length≤600
def dR (p:Int→Bool):List DValue→List DValue
 |k::v::r=>(bif p k.N then [k,v] else [])++dR p r
 |_=> []
theorem zE (p:Int→Bool): ∀l:List DValue,(dR p l).length≤l.length
 | []=>by simp [dR]
 | [_]=>by simp [dR]
 |k::v::r=>by
  have:=zE p r;unfold dR;cases p k.N<;>simp<;>omega
theorem ua {p:Int→Bool}{x:DValue}: ∀{l:List DValue},x∈dR p l→x∈l
 | [],h=>by simp [dR] at h
 | [_],h=>by simp [dR] at h
 | k::v::r,h=>by
  unfold dR at h;rcases List.mem_append.1 h with h|h
  ·cases hp:p k.N with
   |false=>rw [hp] at h;cases h
   |true=>rw [hp] at h;simp at h;rcases h with h|h<;>simp [h]
  have:=ua h;simp [this]
def ks (N:Nat)(l:List Int)(c:DCell):DCell:=bif ma N c then ⟨c.Kind,c.Shape,c.Flags,c.Age,c.Slots,dR (fun x=>decide (x∈l)) c.More⟩ else c
theorem Gv (N:Nat)(hN:5000<N)(l:List Int)(hl:l.length≤5000)(y:DCell)(k v:DValue)(s:List DValue)(hs:s.length≤5000):cJ (fun x st=>gc N (fun x=>fJ N x l) y x st) (k,v) (none,s)=some (true,(none,s++(bif decide (k.N∈l) then [k,v] else []))):=by
 unfold cJ gc fJ;simp only [bs,lK N hN l hl];cases decide (k.N∈l)
 ·simp only [cf,List.append_nil];rfl
 simp only [ct];rw [rF (by simp;omega)];rfl
theorem AB (N:Nat)(hN:5000<N)(l:List Int)(hl:l.length≤5000)(y c:DCell)(hc:c.More.length≤1000)(he:c.More.length%2=0): ∀(m i:Nat) (s:List DValue),c.More.length<m+i→i≤c.More.length→i%2=0→s.length≤i→weak_entries_c1_l4 N (cJ (fun x st=>gc N (fun x=>fJ N x l) y x st)) c m (i:Int) (none,s)=some (none,s++dR (fun x=>decide (x∈l)) (c.More.drop i))
 |0,i,s,h,h2,_,_=>by omega
 | m+1,i,s,h,h2,h3,h4=>by
  rw [weak_entries_c1_l4.eq_2,r64 (a:=(i:Int)+1) (by omega) (by omega)];by_cases hi:i<c.More.length
  ·have hi1:i+1<c.More.length:=by omega
   have hl1:aM c.More ((i:Int)+1)=some c.More[i+1]:=by
    have:=bn hi1;simpa using this
   rw [cI (by omega),ct,bn hi,bs,r64 (a:=(i:Int)+1) (by omega) (by omega),hl1,bs,Gv N hN l hl y _ _ s (by omega),bs];simp only [nt,cf];rw [r64 (by omega) (by omega)]
   have hlen:(s++(bif decide (c.More[i].N∈l) then [c.More[i],c.More[i+1]] else [])).length≤i+2:=by
    cases decide (c.More[i].N∈l)<;>simp<;>omega
   have:=AB N hN l hl y c hc he m (i+2) _ (by omega) (by omega) (by omega) hlen;simp only [Int.natCast_add,Int.cast_ofNat_Int] at this;rw [this,List.drop_eq_getElem_cons hi,List.drop_eq_getElem_cons hi1,List.append_assoc];rfl
  rw [cG (by omega),cf,List.drop_eq_nil_of_le (by omega)];simp [dR]
theorem zD (N:Nat)(hN:5000<N)(l:List Int)(hl:l.length≤5000)(c:DCell)(hS:c.Slots.length≤600)(hc:c.More.length≤600):gY N c l=some (bif ma N c then ks N l c else z7):=by
 obtain ⟨-,h1,h2⟩:=D7 N (by omega) c (by omega) (by omega);unfold gY ra fQ ks;rw [h1,bs];cases hw:ma N c
 ·rfl
 have e:i7 N c=some ():=rfl;have:=AB N hN l hl c c (by omega) (h2 hw) N 0 [] (by omega) (by omega) rfl (by simp);simp only [nt,cf,ct,e,bs,kz N c ⟨hS,hc⟩];have h3:weak_entries_c1_l4 N (cJ (fun x st=>gc N (fun x=>fJ N x l) c x st)) c N 0 (none,[])=some (none,[]++dR (fun x=>decide (x∈l)) (c.More.drop 0)):=this;rw [h3,bs];rfl
theorem Em (N:Nat)(l:List Int)(c:DCell):(ks N l c).Slots.length=c.Slots.length∧(ks N l c).More.length≤c.More.length:=by
 unfold ks;cases ma N c
 ·exact ⟨rfl,Nat.le_refl _⟩
 exact ⟨rfl,zE _ _⟩
theorem El {N:Nat}{l:List Int}{c:DCell}{v:DValue}(h:v∈(ks N l c).Slots++(ks N l c).More):v∈c.Slots++c.More:=by
 unfold ks at h;cases hw:ma N c
 ·rw [hw] at h;exact h
 rw [hw] at h;rcases List.mem_append.1 h with h|h
 ·exact List.mem_append_left _ h
 exact List.mem_append_right _ (ua h)
def zp (N:Nat)(c:DCell):Bool:=decide (c.Kind=10)&&(da N c).getD false
def Kp (N:Nat)(c:DCell):DCell:=bif zp N c then ⟨c.Kind,c.Shape,c.Flags,c.Age,c.Slots,c.More.take 1⟩ else c
def MC (N:Nat)(m:DMemory):DMemory:=⟨m.Young.map (Kp N),m.Old.map (Kp N)⟩
theorem xL {m:DMemory}{roots:List DValue}(hs:Small m roots){x:Int}(h:bK m x=true):in64 x:=by
 have h2:=nQ h;have h3:=sE hs h;unfold in64;omega
theorem yR {p q:Int→Bool}(hpq: ∀x,p x=true→q x=true){x:Int}: ∀{l:List DValue},x∈opens p l→x∈opens q l
 | [],h=>by simp [opens] at h
 | [_],h=>by simp [opens] at h
 | k::v::r,h=>by
  rw [gj] at h⊢;rcases List.mem_append.1 h with h|h
  ·refine List.mem_append_left _ ?_
   cases hk:p k.N with
   |false=>rw [hk,Bool.and_false] at h;cases h
   |true=>rw [hk] at h;rw [hpq _ hk];exact h
  exact List.mem_append_right _ (yR hpq h)
def iN:DValue:=⟨0,0,⟨#[]⟩⟩
def dt (l:List Int):List DValue→List DValue
 |t::h::k::s::r=>(bif decide (t.N∈l) then [t,h,(bif decide (k.Kind=7)&& !decide (k.N∈l) then iN else k),s] else [])++dt l r
 |_=> []
def fx (l:List Int)(cb:DValue):List DValue→List DValue
 |t::h::_::s::r=>(bif decide (t.N∈l) then [] else [cb,h,s])++fx l cb r
 |_=> []
theorem ko (l:List Int)(t h k s:DValue)(r:List DValue):dt l (t::h::k::s::r)=(bif decide (t.N∈l) then [t,h,(bif decide (k.Kind=7)&& !decide (k.N∈l) then iN else k),s] else [])++dt l r:=Eq.trans rfl rfl
theorem lf (l:List Int)(cb t h k s:DValue)(r:List DValue):fx l cb (t::h::k::s::r)=(bif decide (t.N∈l) then [] else [cb,h,s])++fx l cb r:=Eq.trans rfl rfl
theorem kA (p:Int→Bool)(k v:DValue)(r:List DValue):dR p (k::v::r)=(bif p k.N then [k,v] else [])++dR p r:=Eq.trans rfl rfl
theorem HG (l:List Int)(cb:DValue): ∀xs:List DValue,(dt l xs).length+(fx l cb xs).length≤xs.length
 | []=>by simp [dt,fx]
 | [_]=>by simp [dt,fx]
 | [_,_]=>by simp [dt,fx]
 | [_,_,_]=>by simp [dt,fx]
 |t::h::k::s::r=>by
  have:=HG l cb r;unfold dt fx;cases decide (t.N∈l)<;>simp<;>omega
def nV (l:List Int)(c:DCell):DCell×List DValue:=(⟨c.Kind,c.Shape,c.Flags,c.Age,c.Slots,c.More.take 1++dt l (c.More.drop 1)⟩,fx l (c.More.headD iN) (c.More.drop 1))
theorem Md {l:List DValue}(h:4≤l.length): ∃t a k s r,l=t::a::k::s::r:=by
 match l,h with
 |t::a::k::s::r,_=>exact ⟨t,a,k,s,r,rfl⟩
theorem C6 (N:Nat)(hN:5000<N)(l:List Int)(p:List (Int×Bool))(hp: ∀x,(lk p x).getD false=decide (x∈l))(c y:DCell)(cb:DValue)(hcb:c.More[0]? =some cb)(hc:c.More.length≤1000): ∀(m i:Nat) (o t:List DValue),c.More.length<m+i→i≤c.More.length→(c.More.length - i)%4=0→o.length≤i→t.length≤i→finreg_entries_c1_l4 N (cJ (fun x st=>er N c p y x st)) c m (i:Int) (none,(o,t))=some (none,(o++dt l (c.More.drop i),t++fx l cb (c.More.drop i)))
 |0,i,o,t,h,h2,_,_,_=>by omega
 | m +1,i,o,t,h,h2,h3,h4,h5=>by
  rw [finreg_entries_c1_l4.eq_2,r64 (a:=(i:Int)+4) (by omega) (by omega)];by_cases hi:i+4≤c.More.length
  ·obtain ⟨v1,v2,v3,v4,r,hd⟩:=Md (l:=c.More.drop i) (by rw [List.length_drop];omega)
   have hd4:c.More.drop (i+4)=r:=by rw [←List.drop_drop,hd];rfl
   have hx:(c.More.drop (i:Int).toNat).take (((i:Int)+4).toNat - (i:Int).toNat)=[v1,v2,v3,v4]:=by
    rw [Int.toNat_natCast,show ((i:Int)+4).toNat - i=4 by omega,hd];rfl
   have h0:aM c.More 0=some cb:=by
    have:=jY c.More 0;rw [hcb] at this;exact this
   have e0:aM [v1,v2,v3,v4] 0=some v1:=rfl;have e1:aM [v1,v2,v3,v4] 1=some v2:=rfl;have e2:aM [v1,v2,v3,v4] 2=some v3:=rfl;have e3:aM [v1,v2,v3,v4] 3=some v4:=rfl;rw [HE (by omega),ct,r64 (by omega) (by omega),r64 (by omega) (by omega),iS ⟨by omega,by omega,by omega,by omega⟩,hx]
   have hb:cJ (fun x st=>er N c p y x st) ((i:Int),[v1,v2,v3,v4]) (none,(o,t))=some (true,(none,(o++(bif decide (v1.N∈l) then [v1,v2,(bif decide (v3.Kind=7)&& !decide (v3.N∈l) then iN else v3),v4] else []),t++(bif decide (v1.N∈l) then [] else [cb,v2,v4])))):=by
    unfold cJ er;simp only [e0,e1,e2,e3,bs,hp,h0];unfold jA;simp only [e0,e1,e2,e3,bs];cases decide (v1.N∈l)
    ·simp only [nf,ct,cf,List.append_nil];rw [rF (by simp;omega)];rfl
    simp only [nt,ct,cf,List.append_nil];rw [rF (by simp;omega),rF (by simp;omega)];cases decide (v3.Kind=7)<;>cases decide (v3.N∈l)<;>rfl
   rw [hb,bs];simp only [nt,cf];rw [r64 (by omega) (by omega)];have:=C6 N hN l p hp c y cb hcb hc m (i+4) (o++(bif decide (v1.N∈l) then [v1,v2,(bif decide (v3.Kind=7)&& !decide (v3.N∈l) then iN else v3),v4] else [])) (t++(bif decide (v1.N∈l) then [] else [cb,v2,v4])) (by omega) hi (by omega) (by cases decide (v1.N∈l)<;>simp<;>omega) (by cases decide (v1.N∈l)<;>simp<;>omega);rw [show (((i+4:Nat)):Int)=(i:Int)+4 by omega] at this;rw [this,hd4,hd,List.append_assoc,List.append_assoc];rfl
  rw [HF (by omega),cf,List.drop_eq_nil_of_le (by omega)];simp [dt,fx]
theorem Ja (N:Nat)(hN:2000<N)(c:DCell)(hS:c.Slots.length≤1000)(hc:c.More.length≤1000):oP N c=some (zp N c)∧(zp N c=true→1≤c.More.length∧(c.More.length - 1)%4=0):=by
 obtain ⟨b,hb,hb2⟩:=wa N hN c hS hc;unfold oP zp;rw [rj N hN c hS hc,hb];refine ⟨by cases decide (c.Kind=10)<;>cases b<;>rfl,fun h=> ?_⟩;rw [Bool.and_eq_true,decide_eq_true_eq] at h;exact (hb2 h.2).2 h.1
theorem tx (N:Nat)(hN:5000<N)(l:List Int)(hl:l.length≤5000)(c:DCell)(hS:c.Slots.length≤600)(hc:c.More.length≤600):gI N c l=some (bif zp N c then nV l c else (z7,[])):=by
 obtain ⟨h1,h2⟩:=Ja N (by omega) c (by omega) (by omega);unfold gI;rw [h1,bs];cases hw:zp N c
 ·rfl
 obtain ⟨g1,g2⟩:=h2 hw;simp only [nt,cf,ct]
 have hcb:c.More[0]? =some (c.More.headD iN):=by
  cases hm:c.More with
  |nil=>rw [hm] at g1;simp at g1
  |cons a r=>rfl
 apply Sat.eq;refine cy (fun k i (s:List (Int×Bool))=>finreg_Clean_l15 N l c k (i:Int) s) l.length (fun i s=> ∀x,(lk s x).getD false=decide (x∈l.take i)) _ ?_ ?_ N 0 [] (by omega) (by omega) (fun x=>by simp;rfl)
 ·intro k i s hi h3 go;show Sat (finreg_Clean_l15 N l c (k+1) (i:Int) s) _;rw [finreg_Clean_l15.eq_2,cI (by omega),ct,bn hi,bs,r64 (by omega) (by omega)]
  refine go _ fun x=> ?_
  rw [C0,bf hi];by_cases e:l[i]=x
  ·rw [if_pos e,decide_eq_true (by simp [e])];rfl
  rw [if_neg e,h3 x];by_cases hm:x∈l.take i
  ·rw [decide_eq_true hm,decide_eq_true (List.mem_append_left _ hm)]
  rw [decide_eq_false hm,decide_eq_false (by simp only [List.mem_append,List.mem_singleton];exact fun h=>h.elim hm fun h=>e h.symm)]
 intro k s h3;show Sat (finreg_Clean_l15 N l c (k+1) _ s) _;rw [List.take_length] at h3;rw [finreg_Clean_l15.eq_2,cG (by omega),cf];unfold lx pg cE lw jR
 have h0:aM c.More 0=some (c.More.headD iN):=by
  have:=jY c.More 0;rw [hcb] at this;exact this
 rw [rF (by simp;omega),bs,h0,bs,bs,bs];have:=C6 N hN l s h3 c ⟨c.Kind,c.Shape,c.Flags,c.Age,[]++c.Slots,[c.More.headD iN]⟩ _ hcb (by omega) N 1 [c.More.headD iN] [] (by omega) g1 g2 (by simp) (by simp);have this':finreg_entries_c1_l4 N (cJ (fun x st=>er N c s ⟨c.Kind,c.Shape,c.Flags,c.Age,[]++c.Slots,[c.More.headD iN]⟩ x st)) c N 1 (none,([c.More.headD iN],[]))=_:=this;rw [this',bs];refine aS ?_
 have ht:c.More.take 1=[c.More.headD iN]:=by
  cases hm:c.More with
  |nil=>rw [hm] at g1;simp at g1
  |cons a r=>rfl
 unfold nV;rw [ht];rfl
def oT (a:Int):Bool:=decide (a.tmod 2=0)
def xB (a:Int):Bool:=decide (a.tmod 2=1)
def jK (live:List Int):List Int:=live.filter oT++live.filter xB
theorem sG {p:Int→Bool}: ∀{l:List Int} {i:Nat} (hi:i<l.length),p l[i]=true→(l.filter p)[((l.take i).filter p).length]? =some l[i]
 |x::l,0,hi,h=>by
  simp only [List.getElem_cons_zero] at h;simp [h]
 |x::l,i+1,hi,h=>by
  simp only [List.getElem_cons_succ] at h;have ih:=sG (l:=l) (i:=i) (by simpa using hi) h;rw [List.take_succ_cons]
  cases hx:p x with
  |true=>simp only [List.filter_cons,hx,if_true,List.length_cons,List.getElem?_cons_succ,List.getElem_cons_succ];exact ih
  |false=>simp only [List.filter_cons,hx,Bool.false_eq_true,if_false,List.getElem_cons_succ];exact ih
theorem C7 {p:Int→Bool}{l:List Int}{i:Nat}(hi:i<l.length):((l.take (i+1)).filter p).length=((l.take i).filter p).length+(bif p l[i] then 1 else 0):=by
 rw [bf hi,List.filter_append,List.length_append];cases h:p l[i]<;>simp [h]
theorem yO (N:Nat){σ:Type}(φ:Int×Int→σ→Option (Option Exit×σ))(live:List Int)(hl:live.length≤2000)(hN:5000<N)(kb:Int→Int→Option Exit×σ→Option (Option Exit×σ))(b:Int)(p:Int→Bool)(hp: ∀a,p a=decide (a.tmod 2=b))(p6:Int)(h6:0≤p6∧p6≤2)(n0:Nat)(hn0:n0≤2000)
  (Inv:Nat→σ→Prop) (R:Option Exit×σ→Prop)
  (hstep: ∀i (hi:i<live.length) s,p live[i]=true→Inv (n0+((live.take i).filter p).length) s→Sat (φ (((n0+((live.take i).filter p).length:Nat):Int),live[i]) s) fun r=>r.1=none∧Inv (n0+((live.take i).filter p).length+1) r.2)
  (hk: ∀s,Inv (n0+(live.filter p).length) s→Sat (kb ((n0+(live.filter p).length:Nat):Int) (p6+1) (none,s)) R) (s:σ) (hs:Inv n0 s):Sat (major_order_c1_l13 N kb (cJ φ) b p6 live N (n0:Int) 0 (none,s)) R:=by
 have hfl: ∀i,((live.take i).filter p).length≤2000:=fun i=>Nat.le_trans (List.length_filter_le _ _) (by rw [List.length_take];omega)
 refine cy (fun k i (st:Nat×σ)=>major_order_c1_l13 N kb (cJ φ) b p6 live k (st.1:Int) (i:Int) (none,st.2)) live.length (fun i st=>st.1=n0+((live.take i).filter p).length∧Inv st.1 st.2) _ ?_ ?_ N 0 (n0,s) (by omega) (by omega) ⟨by simp,hs⟩
 ·rintro k i ⟨n,st⟩ hi ⟨h1,h2⟩ go;simp only at h1 h2;have hb:=hfl i;show Sat (major_order_c1_l13 N kb (cJ φ) b p6 live (k+1) (n:Int) (i:Int) (none,st)) _;have hnx:=C7 (p:=p) hi;rw [major_order_c1_l13.eq_2,cI (by omega),ct,bn hi,bs, ←hp];unfold il;rw [r64 (a:=(i:Int)+1) (by omega) (by omega)];cases hq:p live[i]
  ·simp only [nf,ct];rw [hq] at hnx;have hg:=go (n,st) ⟨by show n=_;rw [hnx];exact h1,h2⟩
   first|rw [r64 (a:=(i:Int)+1) (by omega) (by omega)]|skip
   exact hg
  simp only [nt,cf];rw [hq] at hnx;obtain ⟨⟨e,s'⟩,g1,g2,g3⟩:=hstep i hi st hq (by rw [←h1];exact h2);simp only at g2 g3;subst g2
  have hf:cJ φ ((n:Int),live[i]) (none,st)=some (true,(none,s')):=by
   unfold cJ;simp only;rw [h1,g1];rfl
  rw [hf,bs];simp only [nt,cf];rw [r64 (a:=(n:Int)+1) (by omega) (by omega)];have hg:=go (n+1,s') ⟨by show n+1=_;rw [hnx];show n+1=_+(_+1);omega,by show Inv (n+1) s';rw [h1];exact g3⟩
  first|rw [r64 (a:=(i:Int)+1) (by omega) (by omega)]|skip
  exact hg
 rintro k ⟨n,st⟩ ⟨h1,h2⟩;simp only [List.take_length] at h1 h2;show Sat (major_order_c1_l13 N kb (cJ φ) b p6 live (k+1) (n:Int) _ (none,st)) _;rw [major_order_c1_l13.eq_2,cG (by omega),cf];unfold kN;rw [r64 (by omega) (by omega),h1];exact hk st (by rw [←h1];exact h2)
theorem yP (N:Nat){σ:Type}(φ:Int×Int→σ→Option (Option Exit×σ))(live:List Int)(hl:live.length≤2000)(hN:5000<N)
  (Inv:Nat→σ→Prop) (hstep: ∀n a s,(jK live)[n]? =some a→Inv n s→Sat (φ ((n:Int),a) s) fun r=>r.1=none∧Inv (n+1) r.2) (s:σ) (hs:Inv 0 s):Sat (dM N live (cJ φ) (none,s)) fun r=>r.1=none∧Inv (jK live).length r.2:=by
 obtain ⟨k,rfl⟩: ∃k,N=k+3:=⟨N - 3,by omega⟩;have hev:(live.filter oT).length≤2000:=Nat.le_trans (List.length_filter_le _ _) hl;unfold dM;rw [major_order_c1_l4.eq_2,show ((([0,1]:List Int).length:Int))=2 from rfl,cI (by omega),ct,show aM ([0,1]:List Int) 0=some 0 from rfl,bs];refine yO (k+3) φ live hl (by omega) _ 0 oT (fun _=>rfl) 0 (by omega) 0 (by omega) Inv _ (fun i hi st hp hi2=> ?_) (fun st hst=> ?_) s hs
 ·refine hstep _ _ _ ?_ hi2;unfold jK;rw [List.getElem?_append_left]
  ·rw [Nat.zero_add];exact sG hi hp
  have:=(List.getElem?_eq_some_iff.1 (sG hi hp)).1;omega
 rw [major_order_c1_l4.eq_2,show ((([0,1]:List Int).length:Int))=2 from rfl,cI (by omega),ct,show aM ([0,1]:List Int) (0+1)=some 1 from rfl,bs];refine yO (k+3) φ live hl (by omega) _ 1 xB (fun _=>rfl) (0+1) (by omega) (0+(live.filter oT).length) (by omega) Inv _ (fun i hi st hp hi2=> ?_) (fun st hst=> ?_) st hst
 ·refine hstep _ _ _ ?_ hi2;unfold jK;rw [List.getElem?_append_right (by omega),show 0+(live.filter oT).length+((live.take i).filter xB).length - (live.filter oT).length=((live.take i).filter xB).length by omega];exact sG hi hp
 rw [major_order_c1_l4.eq_2,show ((([0,1]:List Int).length:Int))=2 from rfl,cG (by omega),cf];refine aS ⟨rfl,?_⟩;unfold jK;rw [List.length_append]
 have e:0+(live.filter oT).length+(live.filter xB).length=(live.filter oT).length+(live.filter xB).length:=by omega
 rw [←e];exact hst
def Mg (ha hb:Int→Bool)(A B:List Int)(v w:DValue):Bool:=
 bif !bH v|| !bH w then decide (v=w)
 else decide (v.Kind=w.Kind)&&(v.S.toList==w.S.toList)&&(bif !decide (v.N∈A)|| !decide (w.N∈B) then !decide (v.N∈A)&& !decide (w.N∈B)&&(ha v.N==hb w.N) else decide (A.idxOf v.N=B.idxOf w.N))
def H2 (ha hb:Int→Bool)(A B:List Int)(x y:List DValue):Bool:=decide (x.length=y.length)&&(x.zip y).all fun p=>Mg ha hb A B p.1 p.2
def LE (ha hb:Int→Bool)(A B:List Int)(c d:DCell):Bool:=decide (c.Kind=d.Kind)&&decide (c.Shape=d.Shape)&&decide (c.Flags=d.Flags)&&H2 ha hb A B c.Slots d.Slots&&H2 ha hb A B c.More d.More
def Mh (N:Nat)(a:DMemory)(x:List DValue)(A:List Int)(b:DMemory)(y:List DValue)(B:List Int):Bool:=
 decide (A.length=B.length)&&H2 (bK a) (bK b) A B x y&&(A.zip B).all fun p=>LE (bK a) (bK b) A B (ks N A (ce a p.1)) (ks N B (ce b p.2))
def MH (kv:List (Int×Int))(l:List Int):Prop:= ∀x,lk kv x=if x∈l then some (l.idxOf x:Int) else none
structure SideOk (m:DMemory) (x:List DValue) (A:List Int):Prop where
 small:Small m x
 w64:W64 m
 x64: ∀v∈x,in64 v.N
 len:A.length≤1200
 nd:A.Nodup
 has: ∀a∈A,bK m a=true
theorem Gz {v w:DValue}(h:v.Kind=w.Kind):bH v=bH w:=by unfold bH;rw [h]
def Ls (p:Int→Bool):List DValue→List Bool
 |k::_::r=>p k.N::Ls p r
 |_=> []
def dc (c:DCell):List Int:=bN c++iO c
def mm (N:Nat)(c:DCell):Bool:=(da N c).getD false
theorem GT (c:DCell):(dc c).length≤c.Slots.length+2*c.More.length:=by
 have h1:=jl c;have h2:=lP c;unfold dc;rw [List.length_append];omega
theorem vu: ∀l:List DCell,(l.flatMap dc).length≤2*wt l
 | []=>by simp [wt]
 |c::l=>by
  have h1:=vu l;have h2:=GT c;rw [List.flatMap_cons,List.length_append,wt];omega
theorem D2 (N:Nat)(m:DMemory)(l:List Int)(hl:l.length<N)(hl2:l.length≤5000)(h64: ∀x∈l,in64 x):bE N l (fun x=>fm N x m)=some (!fF m l):=by
 have key: ∀k i:Nat,l.length<k+i→i≤l.length→Sat (slices_IndexFunc_l3 N (fun x=>fm N x m) l k (i:Int)) fun r=>decide (0≤r)=!(l.drop i).all (bK m):=by
  intro k
  induction k with
  |zero=>intro i h1 h2;omega
  | succ k ih=>
   intro i h1 h2;rw [slices_IndexFunc_l3.eq_2];by_cases hi:i<l.length
   ·have h3:=ih (i+1) (by omega) hi;rw [show (((i+1:Nat)):Int)=(i:Int)+1 by omega] at h3;rw [cI (by omega),ct,bn hi,bs,List.drop_eq_getElem_cons hi,List.all_cons];unfold fm;rw [pO N m _ (h64 _ (List.getElem_mem _)),bs,bs,r64 (by omega) (by omega)];cases bK m l[i]
    ·exact aS (by rw [decide_eq_true (by omega)];rfl)
    exact h3
   rw [cG (by omega),cf,List.drop_eq_nil_of_le (by omega)];exact aS rfl
 obtain ⟨r,h1,h2⟩:=key N 0 (by omega) (by omega);have h1':slices_IndexFunc_l3 N (fun x=>fm N x m) l N 0=some r:=h1;unfold bE gZ;rw [h1',bs,h2];unfold fF;simp
def jS (N:Nat)(m:DMemory)(roots:List DValue):Int:=
 bif (m.Young++m.Old).all (mm N) then bif fF m ((m.Young++m.Old).flatMap dc++cj roots) then 0 else 50 else 51
theorem En (N:Nat)(hN:5000<N){m:DMemory}{roots:List DValue}(hs:Small m roots)(ht:Wtd m roots)(hw:W64 m)(hr: ∀v∈roots,in64 v.N):jX N m roots=some (jS N m roots):=by
 have hle:=ht.le;have h1:=hs.young;have h2:=hs.old;have h3:=hs.roots
 have a64: ∀(l:List DCell),(∀c∈l,c∈m.Young++m.Old)→ ∀x∈l.flatMap dc,in64 x:=fun l hl x hx=>by
  obtain ⟨c,hc,hx⟩:=List.mem_flatMap.1 hx;obtain ⟨⟨-,g1⟩, -,g2⟩:=vQ hs hw (hl c hc);exact (List.mem_append.1 hx).elim (g1 x) (g2 x)
 have r64': ∀x∈cj roots,in64 x:=fun x hx=>by
  obtain ⟨v,h1, -,rfl⟩:=lC.1 hx;exact hr v h1
 have hal: ∀k,(cj (roots.take k)).length≤roots.length:=fun k=>by
  unfold cj;rw [List.length_map];exact Nat.le_trans (List.length_filter_le _ _) (by rw [List.length_take];omega)
 -- the roots
 have hroots: ∀q:List Int,q.length+roots.length≤4800→(∀x∈q,in64 x)→kP N roots m q=some (bif fF m (q++cj roots) then 0 else 50):=by
  intro q hq q64;apply Sat.eq;unfold kP;refine cy (fun k i (s:List Int)=>major_check_l40 N roots m k s (i:Int)) roots.length (fun i s=>s=q++cj (roots.take i)) _ ?_ ?_ N 0 q (by omega) (by omega) (by simp [cj])
  ·rintro k i s hi h1 go;show Sat (major_check_l40 N roots m (k+1) s (i:Int)) _
   have hnext:q++cj (roots.take (i+1))=s++cj [roots[i]]:=by rw [bf hi,sO,h1,List.append_assoc]
   have hsl:s.length≤4800:=by have:=hal i;rw [h1,List.length_append];omega
   rw [major_check_l40.eq_2,cI (by omega),ct,bn hi,bs,nM,bs];unfold ke;cases hb:bH roots[i]
   ·rw [cf,r64 (by omega) (by omega)];exact go s (by rw [hnext];simp [cj,hb])
   rw [ct,rF (by simp;omega),r64 (by omega) (by omega)];exact go _ (by rw [hnext];simp [cj,hb])
  rintro k s h1;show Sat (major_check_l40 N roots m (k+1) s _) _;rw [List.take_length] at h1
  have hsl:s.length≤4800:=by have:=hal roots.length;rw [List.take_length] at this;rw [h1,List.length_append];omega
  rw [major_check_l40.eq_2,cG (by omega),cf];unfold mo;rw [D2 N m s (by omega) (by omega) (fun x hx=>by rw [h1] at hx;exact (List.mem_append.1 hx).elim (q64 x) (r64' x)),bs, ←h1];cases fF m s<;>exact aS rfl
 -- one row
 have row: ∀(kb:List Int→Int→Option Int) (p:Int) (l:List DCell) (q:List Int),in64 (p+1)→l.length≤600→wt l≤2400→(∀c∈l,c∈m.Young++m.Old)→q.length≤5000→major_check_l17 N kb m p l roots N q 0=bif l.all (mm N) then kb (q++l.flatMap dc) (p+1) else some 51:=by
  intro kb p l q hp hll hl hl2 hq
  have key: ∀(k i:Nat),l.length<k+i→i≤l.length→major_check_l17 N kb m p l roots k (q++(l.take i).flatMap dc) (i:Int)=bif (l.drop i).all (mm N) then kb (q++l.flatMap dc) (p+1) else some 51:=by
   intro k
   induction k with
   |zero=>intro i h1 h2;omega
   | succ k ih=>
    intro i h4 h5;have hfl:=vu (l.take i)
    have hwt:wt (l.take i)≤wt l:=by
     have:=ya (l.take i) (l.drop i);rw [List.take_append_drop] at this;omega
    by_cases hi:i<l.length
    ·have hm:=hl2 l[i] (List.getElem_mem _);have hc:=hs.cells _ hm;have hwi:=IH hi
     have hwt2:wt (l.take (i+1))≤wt l:=by
      have:=ya (l.take (i+1)) (l.drop (i+1));rw [List.take_append_drop] at this;omega
     obtain ⟨b,hb, -⟩:=wa N (by omega) l[i] (by omega) (by omega)
     have hrc:mm N l[i]=b:=by unfold mm;rw [hb];rfl
     have e1:=jl l[i];have e2:=lP l[i];have h6:=ih (i+1) (by omega) hi;rw [show (((i+1:Nat)):Int)=(i:Int)+1 by omega] at h6;rw [major_check_l17.eq_2,cI (by omega),ct,bn hi,bs,rj N (by omega) _ (by omega) (by omega),hb,bs,lp N (by omega) _ (by omega) (by omega),bs,List.length_append,rF (by omega),qZ N (by omega) _ (by omega) (by omega),bs,List.length_append,List.length_append,rF (by omega),r64 (by omega) (by omega)]
     have hap:q++(l.take i).flatMap dc++bN l[i]++iO l[i]=q++(l.take (i+1)).flatMap dc:=by
      rw [bf hi,List.flatMap_append];simp [dc,List.append_assoc]
     rw [hap,h6,List.drop_eq_getElem_cons hi,List.all_cons,hrc];cases b<;>rfl
    have e:i=l.length:=by omega
    subst e;rw [major_check_l17.eq_2,cG (by omega),cf,List.drop_length,List.take_length];unfold mq;rw [iS hp];rfl
  have:=key N 0 (by omega) (by omega);simpa using this
 have hwy:wt m.Young≤2400:=by omega
 have hwo:wt m.Old≤2400:=by omega
 have hfy:=vu m.Young;have hfo:=vu m.Old;obtain ⟨k,rfl⟩: ∃k,N=k+3:=⟨N - 3,by omega⟩;unfold jX jS;rw [major_check_l8.eq_2,show ((([m.Young,m.Old]:List (List DCell)).length:Int))=2 from rfl,cI (by omega),ct,show aM ([m.Young,m.Old]:List (List DCell)) 0=some m.Young from rfl,bs,row _ 0 m.Young [] (by unfold in64;omega) h1 hwy (fun c hc=>List.mem_append_left _ hc) (by simp)];rw [major_check_l8.eq_2,show ((([m.Young,m.Old]:List (List DCell)).length:Int))=2 from rfl,cI (by omega),ct,show aM ([m.Young,m.Old]:List (List DCell)) (0+1)=some m.Old from rfl,bs,List.nil_append,row _ (0+1) m.Old (m.Young.flatMap dc) (by unfold in64;omega) h2 hwo (fun c hc=>List.mem_append_right _ hc) (by omega)]
 rw [major_check_l8.eq_2,show ((([m.Young,m.Old]:List (List DCell)).length:Int))=2 from rfl,cG (by omega),cf,hroots _ (by rw [List.length_append];omega) (fun x hx=>by
  rw [←List.flatMap_append] at hx
  exact a64 _ (fun c hc=>hc) x hx),List.all_append,List.flatMap_append]
 cases m.Young.all (mm (k+3))<;>cases m.Old.all (mm (k+3))<;>rfl
def fj (f:List Int)(a:Int):Int:=2*((f.idxOf a:Nat):Int)+2
def bM (ρ:Int→Int)(f:List Int)(v:DValue):DValue:=bif bH v&&decide (v.N∈f) then ⟨v.Kind,ρ v.N,v.S⟩ else v
def fk (ρ:Int→Int)(f:List Int)(c:DCell):DCell:=⟨c.Kind,c.Shape,c.Flags,c.Age,c.Slots.map (bM ρ f),c.More.map (bM ρ f)⟩
def RhoM (kv:List (Int×Int))(f:List Int):Prop:= ∀x,lk kv x=if x∈f then some (fj f x) else none
theorem qf (N:Nat)(hN:5000<N)(l:List DValue)(hl:l.length≤5000)(kv:List (Int×Int))(f:List Int)(hk:RhoM kv f):dA N l kv=some (l.map (bM (fj f) f)):=by
 apply Sat.eq;unfold dA;refine cy (fun k i (s:List DValue)=>major_moved_l5 N l kv k s (i:Int)) l.length (fun i s=>s=(l.take i).map (bM (fj f) f)) _ ?_ ?_ N 0 [] (by omega) (by omega) rfl
 ·rintro k i s hi h1 go;show Sat (major_moved_l5 N l kv (k+1) s (i:Int)) _
  have hsl:s.length≤i:=by rw [h1,List.length_map,List.length_take];omega
  have hnext:(l.take (i+1)).map (bM (fj f) f)=s++ [bM (fj f) f l[i]]:=by rw [bf hi,List.map_append,h1];rfl
  rw [major_moved_l5.eq_2,cI (by omega),ct,bn hi,bs,hk l[i].N,nM];unfold kd;by_cases hm:l[i].N∈f
  ·rw [if_pos hm];simp only [bs,Option.isSome_some,ct];cases hb:bH l[i]
   ·rw [cf,rF (by simp;omega),r64 (by omega) (by omega)];refine go _ ?_;rw [hnext];unfold bM;rw [hb];rfl
   rw [ct,rF (by simp;omega),r64 (by omega) (by omega)];refine go _ ?_;rw [hnext];unfold bM;rw [hb,decide_eq_true hm];rfl
  rw [if_neg hm];simp only [bs,Option.isSome_none,cf];rw [rF (by simp;omega),r64 (by omega) (by omega)];refine go _ ?_;rw [hnext];unfold bM;rw [decide_eq_false hm,Bool.and_false];rfl
 rintro k s h1;show Sat (major_moved_l5 N l kv (k+1) s _) _;rw [major_moved_l5.eq_2,cG (by omega),cf];exact aS (by rw [h1,List.take_length])
def ga (N:Nat)(l:List Int)(c:DCell):DCell:=bif decide (c.Kind=8) then ks N l c else bif decide (c.Kind=10) then (nV l c).1 else c
def ed (l:List Int)(c:DCell):List DValue:=bif decide (c.Kind=10) then (nV l c).2 else []
theorem lL (N:Nat)(l:List Int)(c:DCell):(ga N l c).Slots.length=c.Slots.length∧(ga N l c).More.length+(ed l c).length≤c.More.length:=by
 unfold ga ed;by_cases h8:c.Kind=8
 ·rw [decide_eq_true h8,decide_eq_false (p:=c.Kind=10) (by omega)];have:=Em N l c;simp only [cond_true,cond_false,List.length_nil];omega
 rw [decide_eq_false h8];by_cases h10:c.Kind=10
 ·rw [decide_eq_true h10];have:=HG l (c.More.headD iN) (c.More.drop 1);rw [List.length_drop] at this;unfold nV;refine ⟨rfl,?_⟩;show (c.More.take 1++dt l (c.More.drop 1)).length+(fx l (c.More.headD iN) (c.More.drop 1)).length≤c.More.length;rw [List.length_append,List.length_take]
  cases hm:c.More with
  |nil=>rw [hm] at this;simp [dt,fx]
  |cons a r=>rw [hm] at this;simp only [List.length_cons] at this⊢;omega
 rw [decide_eq_false h10];simp
theorem RhoM.nil:RhoM [] []:=fun x=>rfl
theorem RhoM.add {kv:List (Int×Int)}{i:Nat}{f:List Int}(hi:i<f.length)(h:RhoM kv (f.take i))(hn:f.Nodup):RhoM (pS kv f[i] (2*(i:Int)+2)) (f.take (i+1)):=by
 intro x
 have hlen:(f.take i).length=i:=by rw [List.length_take];omega
 have hni:f[i]∉f.take i:=by
  intro hm;obtain ⟨j,hj,e⟩:=List.getElem_of_mem hm;rw [List.length_take] at hj;rw [List.getElem_take] at e;exact List.pairwise_iff_getElem.1 (List.nodup_iff_pairwise_ne.1 hn) j i (by omega) hi (by omega) e
 rw [C0,bf hi];unfold fj;rw [List.idxOf_append];by_cases e:f[i]=x
 ·rw [if_pos e, ←e,if_pos (List.mem_append_right _ (by simp)),if_neg hni];simp [hlen]
 rw [if_neg e,h x];by_cases hm:x∈f.take i
 ·rw [if_pos hm,if_pos (List.mem_append_left _ hm),if_pos hm];rfl
 rw [if_neg hm,if_neg (by simp only [List.mem_append,List.mem_singleton];exact fun hh=>hh.elim hm fun hh=>e hh.symm)]
structure Coll where
 next:DMemory
 now:List DValue
 gone:List DValue
def xh (N:Nat)(m:DMemory)(roots:List DValue)(live f:List Int):Coll:=
 ⟨⟨[],f.map fun a=>fk (fj f) f (ga N live (ce m a))⟩,roots.map (bM (fj f) f),(f.flatMap fun a=>ed live (ce m a)).map (bM (fj f) f)⟩
end Go.Proofs.YtmimkglhbmcokaaGreat