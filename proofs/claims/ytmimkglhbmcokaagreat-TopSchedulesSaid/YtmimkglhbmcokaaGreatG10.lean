/- Merged texts: part 10. No conditions of their own. -/
import Derived.Test.YtmimkglhbmcokaaGreatG9
import Derived.Test.YtmimkglhbmcokaaGreatG1
import Derived.ProofKit
namespace Go.Proofs.YtmimkglhbmcokaaGreat
open Go.RowKit
structure SC where
 a_:SB
 b_:SB
 x_:(List Int)
 y_:(List Int)
 from_:(List (Int×Int))
 to_:(List (Int×Int))
 deriving DecidableEq,Inhabited
structure SJ where
 e0:(List SG)
 e1:(List SG)
 deriving DecidableEq,Inhabited
def Hj (N:Nat)(p25:Int):Option Bool:=
 some (decide (p25≤600))
def By (N:Nat)(a0:SB):Nat→Int→Int→Option Bool
 |0,_,_=>none
 |m26+1,p27,p28=>(bif decide (p28<(a0.Old.length:Int)) then (some (decide (p27≤600))) else (some false)).bind fun b29=>bif b29 then (bG (in64 (p27+1)) ((aM a0.Old p28).bind fun x32=>bG (in64 ((p27+1)+(x32.Slots.length:Int))) ((aM a0.Old p28).bind fun x37=>bG (in64 (((p27+1)+(x32.Slots.length:Int))+(x37.More.length:Int))) (bG (in64 (p28+1)) ((By N a0 m26) (((p27+1)+(x32.Slots.length:Int))+(x37.More.length:Int)) (p28+1)))))) else (Hj N p27)
def It (N:Nat)(a0:SB)(p6:Int):Option Bool:=
 By N a0 N p6 0
def Di (N:Nat)(a0:SB):Nat→Int→Int→Option Bool
 |0,_,_=>none
 |m7+1,p8,p9=>(bif decide (p9<(a0.Young.length:Int)) then (some (decide (p8≤600))) else (some false)).bind fun b10=>bif b10 then (bG (in64 (p8+1)) ((aM a0.Young p9).bind fun x13=>bG (in64 ((p8+1)+(x13.Slots.length:Int))) ((aM a0.Young p9).bind fun x18=>bG (in64 (((p8+1)+(x13.Slots.length:Int))+(x18.More.length:Int))) (bG (in64 (p9+1)) ((Di N a0 m7) (((p8+1)+(x13.Slots.length:Int))+(x18.More.length:Int)) (p9+1)))))) else (It N a0 p8)
def EZ (N:Nat)(a0:SB)(a1:(List SG)):Option Bool:=
 Di N a0 N (a1.length:Int) 0
def fc (N:Nat)(a0:Int):Option SG:=
 some (⟨7,a0,⟨#[]⟩⟩:SG)
def Hh (N:Nat):Option Bool:=
 some true
def Bx (N:Nat)(a0:(List Int))(a1:(List Int)):Nat→Int→Option Bool
 |0,_=>none
 |m5+1,p6=>bif decide (p6<(a0.length:Int)) then ((aM a0 p6).bind fun x8=>(aM a1 p6).bind fun x9=>bif !decide (x8=x9) then (some false) else (bG (in64 (p6+1)) ((Bx N a0 a1 m5) (p6+1)))) else (Hh N)
def qW (N:Nat)(a0:(List Int))(a1:(List Int)):Option Bool:=
 bif !decide ((a0.length:Int)=(a1.length:Int)) then (some false) else (Bx N a0 a1 N 0)
def tc (N:Nat){σ:Type}(fy:Int→σ→Option (Bool×σ))(a1:(List Int)):Nat→Int→σ→Option σ
 |0,_,_=>none
 |m3+1,p4,p5=>bif decide (p4<(a1.length:Int)) then ((aM a1 p4).bind fun x7=>(fy x7 p5).bind fun y8=>bif !y8.1 then (some y8.2) else (bG (in64 (p4+1)) ((tc N fy a1 m3) (p4+1) y8.2))) else (some p5)
def BU (N:Nat){σ:Type}(a1:(List Int))(fy:Int→σ→Option (Bool×σ))(s0:σ):Option σ:=
 tc N fy a1 N 0 s0
def xb (N:Nat)(a0:(List Int)):Option Unit:=
 some ()
def uT (N:Nat)(x5:Int):((List Int))→Option (Option Exit×(List Int))
 |p6=>bG (bZ (p6.length+([x5]:List Int).length)) (some (none,p6++([x5]:List Int)))
def vb (N:Nat)(a0:(List Int))(a1_0:(List Int)):Option (List Int):=
 (BU N a1_0 (dk (fun x st=>uT N x st)) (none,a0)).bind fun y7=>oL y7.1 (some y7.2) none (fun _=>none)
def xU (N:Nat)(a0_0:(List Int)):Option (List Int):=
 (vb N ([]:List Int) a0_0).bind fun y4=>some y4
def yE (N:Nat)(a0_0:(List Int)):Option (List Int):=
 (xU N a0_0).bind fun y3=>(mO N y3).bind fun y5=>some y5
def Da (N:Nat)(a0:SB)(a1:(List SG)):Option (List Int):=
 (kM N a0 a1).bind fun y5=>(xb N y5.all_).bind fun y11=>(yE N y5.all_).bind fun y13=>some y13
def CR (N:Nat):Option Bool:=
 (fc N 3).bind fun y1=>(fc N 2).bind fun y2=>(fc N 3).bind fun y8=>(fc N 5).bind fun y9=>(fc N 1).bind fun y13=>(cw N (⟨([(⟨11,0,0,0,[],([y1,y2]:List SG)⟩:SD),(⟨11,0,0,0,[],[]⟩:SD)]:List SD),([(⟨11,0,0,0,[],[]⟩:SD)]:List SD)⟩:SB) ([y13]:List SG)).bind fun y16=>(qW N y16 ([1,3,2]:List Int)).bind fun y21=>(bif y21 then ((fc N 1).bind fun y23=>(fe N (⟨([(⟨11,0,0,0,[],([y1,y2]:List SG)⟩:SD),(⟨11,0,0,0,[],[]⟩:SD)]:List SD),([(⟨11,0,0,0,[],[]⟩:SD)]:List SD)⟩:SB) ([y23]:List SG)).bind fun y26=>(qW N y26 ([1,2,3]:List Int)).bind fun y31=>some y31) else (some false)).bind fun b22=>((bif b22 then ((fc N 1).bind fun y33=>(fe N (⟨([(⟨8,0,0,0,([(⟨1,0,⟨#[]⟩⟩:SG)]:List SG),([y8,y9]:List SG)⟩:SD),(⟨11,0,0,0,[],[]⟩:SD),(⟨11,0,0,0,[],[]⟩:SD)]:List SD),[]⟩:SB) ([y33]:List SG)).bind fun y36=>(qW N y36 ([1]:List Int)).bind fun y41=>some y41) else (some false)).bind fun b32=>((bif b32 then ((fc N 1).bind fun y43=>(fc N 3).bind fun y44=>(fe N (⟨([(⟨8,0,0,0,([(⟨1,0,⟨#[]⟩⟩:SG)]:List SG),([y8,y9]:List SG)⟩:SD),(⟨11,0,0,0,[],[]⟩:SD),(⟨11,0,0,0,[],[]⟩:SD)]:List SD),[]⟩:SB) ([y43,y44]:List SG)).bind fun y47=>(qW N y47 ([1,3,5]:List Int)).bind fun y52=>some y52) else (some false)).bind fun b42=>((bif b42 then ((fc N 1).bind fun y54=>(fc N 3).bind fun y55=>(Da N (⟨([(⟨8,0,0,0,([(⟨1,0,⟨#[]⟩⟩:SG)]:List SG),([y8,y9]:List SG)⟩:SD),(⟨11,0,0,0,[],[]⟩:SD),(⟨11,0,0,0,[],[]⟩:SD)]:List SD),[]⟩:SB) ([y54,y55]:List SG)).bind fun y58=>(qW N y58 ([1,3]:List Int)).bind fun y63=>some y63) else (some false)).bind fun b53=>(some b53))))
def Ez (N:Nat)(p4:(List SD)):Option (List SD):=
 some p4
def xz (N:Nat)(a0:(List SD)):Nat→(List SD)→Int→Option (List SD)
 |0,_,_=>none
 |m5+1,p6,p7=>bif decide (p7<(a0.length:Int)) then ((aM a0 p7).bind fun x9=>bG (bZ (([]:List SG).length+x9.Slots.length)) (bG (bZ (([]:List SG).length+x9.More.length)) (bG (bZ (p6.length+([(⟨x9.Kind,x9.Shape,x9.Flags,x9.Age,([]:List SG)++x9.Slots,([]:List SG)++x9.More⟩:SD)]:List SD).length)) (bG (in64 (p7+1)) ((xz N a0 m5) (p6++([(⟨x9.Kind,x9.Shape,x9.Flags,x9.Age,([]:List SG)++x9.Slots,([]:List SG)++x9.More⟩:SD)]:List SD)) (p7+1)))))) else (Ez N p6)
def za (N:Nat)(a0:(List SD)):Option (List SD):=
 xz N a0 N ([]:List SD) 0
def N8 (N:Nat)(a0:SB):Option SB:=
 (za N a0.Young).bind fun y5=>(za N a0.Old).bind fun y7=>some (⟨y5,y7⟩:SB)
def tq (N:Nat)(a0:Int)(a1:SB):Option Bool:=
 (eK N a1 a0).bind fun y4=>some (!y4)
def Cb (N:Nat):Option Bool:=
 some true
def Ca (N:Nat)(kb20:Int→Option Bool)(a0:SB)(p21:Int):Option Bool:=
 bG (in64 (p21+1)) (kb20 (p21+1))
def uH (N:Nat)(kb20:Int→Option Bool)(a0:SB)(p21:Int)(x24:(List SD)):Nat→Int→Option Bool
 |0,_=>none
 |m26+1,p27=>bif decide (p27<(x24.length:Int)) then ((aM x24 p27).bind fun x29=>(dL N x29).bind fun y34=>(bif !y34 then (some true) else ((fw N x29).bind fun y36=>(bO N y36 (fun x=>tq N x a0)).bind fun y38=>some y38)).bind fun b35=>(bif b35 then (some true) else ((gY N x29).bind fun y40=>(bO N y40 (fun x=>tq N x a0)).bind fun y42=>some y42)).bind fun b39=>bif b39 then (some false) else (bG (in64 (p27+1)) ((uH N kb20 a0 p21 x24 m26) (p27+1)))) else (Ca N kb20 a0 p21)
def uI (N:Nat)(a0:SB):Nat→Int→Option Bool
 |0,_=>none
 |m20+1,p21=>bif decide (p21<(([a0.Young,a0.Old]:List (List SD)).length:Int)) then ((aM ([a0.Young,a0.Old]:List (List SD)) p21).bind fun x24=>uH N (uI N a0 m20) a0 p21 x24 N 0) else (Cb N)
def Db (N:Nat)(a0:SB):Option Bool:=
 uI N a0 N 0
def vl (N:Nat)(a1:(List SG))(a0:SB):Nat→Int→Option Bool
 |0,_=>none
 |m8+1,p9=>bif decide (p9<(a1.length:Int)) then ((aM a1 p9).bind fun x11=>(gt N x11).bind fun y13=>(bif y13.2 then ((eK N a0 y13.1).bind fun y15=>some (!y15)) else (some false)).bind fun b14=>bif b14 then (some false) else (bG (in64 (p9+1)) ((vl N a1 a0 m8) (p9+1)))) else (Db N a0)
def NR (N:Nat)(a0:SB)(a1:(List SG)):Option Bool:=
 bG (in64 ((a0.Young.length:Int)+(a0.Old.length:Int))) (bif decide (1048576<(a0.Young.length:Int)+(a0.Old.length:Int)) then (some false) else (vl N a1 a0 N 0))
def F5 (N:Nat):Option Bool:=
 some true
def yV (N:Nat)(a1:(List Int))(a0:SB):Nat→Int→Option Bool
 |0,_=>none
 |m6+1,p7=>bif decide (p7<(a1.length:Int)) then ((aM a1 p7).bind fun x9=>(mh N a0 x9).bind fun y10=>bif !y10 then (some false) else (bG (in64 (p7+1)) ((yV N a1 a0 m6) (p7+1)))) else (F5 N)
def vv (N:Nat)(a0:SB)(a1:(List Int)):Option Bool:=
 yV N a1 a0 N 0
def ED (N:Nat)(p5:(List Int)):Option (List Int):=
 some p5
def vI (N:Nat)(kb6:(List Int)→Int→Option (List Int))(p8:Int)(a0:SD)(p12:(List Int)):Option (List Int):=
 bG (in64 (p8+1)) (kb6 p12 (p8+1))
def sQ (N:Nat)(a0:SD):Nat→(List Int)→Int→Option (List Int)
 |0,_,_=>none
 |m6+1,p7,p8=>bif decide (p8<(a0.More.length:Int)) then ((aM a0.More p8).bind fun x13=>(qD N x13).bind fun y14=>(bif y14 then ((qY N a0.Kind p8).bind fun y16=>some y16) else (some false)).bind fun b15=>bif b15 then ((aM a0.More p8).bind fun x18=>bG (bZ (p7.length+([x18.N]:List Int).length)) (vI N (sQ N a0 m6) p8 a0 (p7++([x18.N]:List Int)))) else (vI N (sQ N a0 m6) p8 a0 p7)) else (ED N p7)
def ua (N:Nat)(a0:SD):Option (List Int):=
 sQ N a0 N [] 0
def Hg (N:Nat):Option Bool:=
 some true
def Bw (N:Nat)(a1:(List SD))(a0:SB):Nat→Int→Option Bool
 |0,_=>none
 |m6+1,p7=>bif decide (p7<(a1.length:Int)) then ((aM a1 p7).bind fun x9=>(cY N x9).bind fun y13=>(bif !y13 then (some true) else ((aM a1 p7).bind fun x15=>(jX N x15).bind fun y18=>(vv N a0 y18).bind fun y20=>some (!y20))).bind fun b14=>(bif b14 then (some true) else ((aM a1 p7).bind fun x22=>(ua N x22).bind fun y25=>(vv N a0 y25).bind fun y27=>some (!y27))).bind fun b21=>bif b21 then (some false) else (bG (in64 (p7+1)) ((Bw N a1 a0 m6) (p7+1)))) else (Hg N)
def Df (N:Nat)(a0:SB)(a1:(List SD)):Option Bool:=
 Bw N a1 a0 N 0
def PA (N:Nat)(a0:SB)(a1:(List SG)):Option Bool:=
 bG (in64 ((a0.Young.length:Int)+(a0.Old.length:Int))) ((bif decide ((a0.Young.length:Int)+(a0.Old.length:Int)≤1048576) then ((Df N a0 a0.Young).bind fun y7=>some y7) else (some false)).bind fun b6=>(bif b6 then ((Df N a0 a0.Old).bind fun y9=>some y9) else (some false)).bind fun b8=>(bif b8 then ((gu N a1).bind fun y11=>(vv N a0 y11).bind fun y13=>some y13) else (some false)).bind fun b10=>some b10)
def xy (N:Nat)(p6:(List Int)):Option (List Int):=
 some p6
def qV (N:Nat)(kb7:(List Int)→Int→Option (List Int))(p9:Int)(p12:(List Int)):Option (List Int):=
 bG (in64 (p9+1)) (kb7 p12 (p9+1))
def nV (N:Nat)(kb7:(List Int)→Int→Option (List Int))(p9:Int):Nat→(List Int)→Int→Option (List Int)
 |0,_,_=>none
 |m13+1,p14,p15=>(bif decide (0<p15) then (bG (in64 (p15 - 1)) ((aM p14 (p15 - 1)).bind fun x18=>(aM p14 p15).bind fun x19=>some (decide (x19<x18)))) else (some false)).bind fun b16=>bif b16 then ((aM p14 p15).bind fun x21=>bG (in64 (p15 - 1)) ((aM p14 (p15 - 1)).bind fun x23=>(aM p14 p15).bind fun x24=>bG (in64 (p15 - 1)) ((aM (List.set p14 p15.toNat x23) (p15 - 1)).bind fun x26=>bG (in64 (p15 - 1)) ((nV N kb7 p9 m13) (List.set (List.set p14 p15.toNat x23) ((p15 - 1).toNat) x21) (p15 - 1))))) else (qV N kb7 p9 p14)
def gS (N:Nat):Nat→(List Int)→Int→Option (List Int)
 |0,_,_=>none
 |m7+1,p8,p9=>bif decide (p9<(p8.length:Int)) then (nV N (gS N m7) p9 N p8 p9) else (xy N p8)
def qu (N:Nat)(a0:(List Int)):Option (List Int):=
 bG (bZ (([]:List Int).length+a0.length)) (gS N N (([]:List Int)++a0) 1)
def N7 (N:Nat)(a0:SB)(a1:(List SG)):Option (List Int):=
 (gu N a1).bind fun y5=>(nz N a0 ([]:List Int) y5).bind fun y8=>(gQ N a0 y8 0).bind fun y10=>(qu N y10).bind fun y12=>some y12
def Dh (N:Nat)(a0:SB)(a1:(List SG)):Option (List Int):=
 (iT N a0 a1).bind fun y5=>(qu N y5).bind fun y7=>some y7
def xe (N:Nat)(a0:(List SD)):Option (List SD):=
 bG (bZ (([]:List SD).length+a0.length)) (some (([]:List SD)++a0))
def AE (N:Nat)(p5:(List SD)):Option (List SD):=
 some p5
def r9 (N:Nat)(kb6:(List SD)→Int→Option (List SD))(y2:((List SD)))(p8:Int)(p11:(List SD)):Option (List SD):=
 bG (in64 (p8+1)) (kb6 p11 (p8+1))
def oQ (N:Nat)(y2:((List SD))):Nat→(List SD)→Int→Option (List SD)
 |0,_,_=>none
 |m6+1,p7,p8=>bif decide (p8<(y2.length:Int)) then ((aM p7 p8).bind fun x12=>(bif decide (x12.Kind=10) then ((dL N x12).bind fun y17=>some y17) else (some false)).bind fun b16=>bif b16 then (bG ((0:Int)≤1∧0≤(1:Int).toNat∧(1:Int).toNat≤x12.More.length) ((aM p7 p8).bind fun x21=>r9 N (oQ N y2 m6) y2 p8 (List.set p7 p8.toNat (⟨x21.Kind,x21.Shape,x21.Flags,x21.Age,x21.Slots,(x12.More.drop 0).take ((1:Int).toNat - 0)⟩:SD)))) else (r9 N (oQ N y2 m6) y2 p8 p7)) else (AE N p7)
def uG (N:Nat)(a0:(List SD)):Option (List SD):=
 (xe N a0).bind fun y2=>oQ N y2 N y2 0
def yP (N:Nat)(a0:SB):Option SB:=
 (uG N a0.Young).bind fun y5=>(uG N a0.Old).bind fun y7=>some (⟨y5,y7⟩:SB)
def xh (N:Nat)(a0:SC)(a1:SG)(a2:SG):Option Bool:=
 (gt N a1).bind fun y12=>(gt N a2).bind fun y13=>(bif !y12.2 then (some true) else (some (!y13.2))).bind fun b14=>bif b14 then (some (decide (a1=a2))) else ((bif !decide (a1.Kind=a2.Kind) then (some true) else (some (!(a1.S.toList==a2.S.toList)))).bind fun b16=>bif b16 then (some false) else ((bif !((lk a0.from_ y12.1).isSome) then (some true) else (some (!((lk a0.to_ y13.1).isSome)))).bind fun b18=>bif b18 then ((bif !((lk a0.from_ y12.1).isSome) then (some (!((lk a0.to_ y13.1).isSome))) else (some false)).bind fun b20=>(bif b20 then ((eK N a0.a_ y12.1).bind fun y22=>(eK N a0.b_ y13.1).bind fun y23=>some (y22==y23)) else (some false)).bind fun b21=>some b21) else (some (decide ((lk a0.from_ y12.1).getD 0=(lk a0.to_ y13.1).getD 0)))))
def xd (N:Nat)(ff:(SG×SG)→Option Bool):Option Bool:=
 some true
def qk (N:Nat)(ff:(SG×SG)→Option Bool)(a0:(List SG))(a1:(List SG)):Nat→Int→Option Bool
 |0,_=>none
 |m5+1,p6=>bif decide (p6<(a0.length:Int)) then ((aM a0 p6).bind fun x8=>(aM a1 p6).bind fun x10=>(ff (x8,x10)).bind fun y12=>bif !y12 then (some false) else (bG (in64 (p6+1)) ((qk N ff a0 a1 m5) (p6+1)))) else (xd N ff)
def xT (N:Nat)(a0:(List SG))(a1:(List SG))(ff:(SG×SG)→Option Bool):Option Bool:=
 bif !decide ((a0.length:Int)=(a1.length:Int)) then (some false) else (qk N ff a0 a1 N 0)
def lF (N:Nat)(a0:SC)(a1:(List SG))(a2:(List SG)):Option Bool:=
 (xT N a1 a2 (fun x=>xh N a0 x.1 x.2)).bind fun y12=>some y12
def uF (N:Nat)(a0:SD)(a1:(List Int)):Option SD:=
 (bif decide (a0.Kind=8) then ((dL N a0).bind fun y7=>some y7) else (some false)).bind fun b6=>bif b6 then ((jZ N a0 a1).bind fun y9=>some y9) else (some a0)
def Cd (N:Nat):Option Bool:=
 some true
def uJ (N:Nat)(y24:((List Int)))(y9:(SB))(y14:(SB))(p31:(List (Int×Int)))(p32:(List (Int×Int))):Nat→Int→(List Int)→(List Int)→Option Bool
 |0,_,_,_=>none
 |m46+1,p47,p48,p49=>bif decide (p47<(y24.length:Int)) then ((aM p48 p47).bind fun x51=>(iq N y9 x51).bind fun y52=>(uF N y52 p48).bind fun y57=>(aM p49 p47).bind fun x62=>(iq N y14 x62).bind fun y63=>(uF N y63 p49).bind fun y68=>(bif !decide (y57.Kind=y68.Kind) then (some true) else (some (!decide (y57.Shape=y68.Shape)))).bind fun b77=>(bif b77 then (some true) else (some (!decide (y57.Flags=y68.Flags)))).bind fun b78=>(bif b78 then (some true) else ((lF N (⟨y9,y14,p48,p49,p31,p32⟩:SC) y57.Slots y68.Slots).bind fun y80=>some (!y80))).bind fun b79=>(bif b79 then (some true) else ((lF N (⟨y9,y14,p48,p49,p31,p32⟩:SC) y57.More y68.More).bind fun y82=>some (!y82))).bind fun b81=>bif b81 then (some false) else (bG (in64 (p47+1)) ((uJ N y24 y9 y14 p31 p32 m46) (p47+1) p48 p49))) else (Cd N)
def Ce (N:Nat)(a1:(List SG))(a3:(List SG))(y9:(SB))(y14:(SB))(y24:((List Int)))(y27:((List Int)))(p31:(List (Int×Int)))(p32:(List (Int×Int))):Option Bool:=
 (lF N (⟨y9,y14,y24,y27,p31,p32⟩:SC) a1 a3).bind fun y43=>bif !y43 then (some false) else (uJ N y24 y9 y14 p31 p32 N 0 y24 y27)
def uK (N:Nat)(y24:((List Int)))(a1:(List SG))(a3:(List SG))(y9:(SB))(y14:(SB))(y27:((List Int))):Nat→Int→(List (Int×Int))→(List (Int×Int))→Option Bool
 |0,_,_,_=>none
 |m33+1,p34,p35,p36=>bif decide (p34<(y24.length:Int)) then ((aM y24 p34).bind fun x38=>(aM y27 p34).bind fun x39=>bG (in64 (p34+1)) ((uK N y24 a1 a3 y9 y14 y27 m33) (p34+1) (uV (QO p35 x38 0) x38 p34) (uV (QO p36 x39 0) x39 p34))) else (Ce N a1 a3 y9 y14 y24 y27 p35 p36)
def sM (N:Nat)(a0:SB)(a1:(List SG))(a2:SB)(a3:(List SG)):Option Bool:=
 (yP N a0).bind fun y9=>(yP N a2).bind fun y14=>(cw N y9 a1).bind fun y24=>(cw N y14 a3).bind fun y27=>bif !decide ((y24.length:Int)=(y27.length:Int)) then (some false) else (uK N y24 a1 a3 y9 y14 y27 N 0 ([]:(List (Int×Int))) ([]:(List (Int×Int))))
def Km (N:Nat)(a0:SB)(a1:SB)(a2:SJ):Option Bool:=
 (EZ N a0 a2.e0).bind fun y10=>(bif !y10 then (some true) else ((EZ N a1 a2.e1).bind fun y12=>some (!y12))).bind fun b11=>bif b11 then ((CR N).bind fun y14=>some y14) else ((sM N a0 a2.e0 a1 a2.e1).bind fun y15=>(dE N a0 a2.e0 a1 a2.e1).bind fun y16=>(bif y15==y16 then ((sM N a1 a2.e1 a0 a2.e0).bind fun y18=>some (y15==y18)) else (some false)).bind fun b17=>(bif b17 then ((sM N a0 a2.e0 a0 a2.e0).bind fun y20=>some y20) else (some false)).bind fun b19=>(bif b19 then ((CR N).bind fun y22=>some y22) else (some false)).bind fun b21=>some b21)
def NQ (N:Nat)(a0:(List SG)):Option SD:=
 some (⟨11,0,0,0,[],a0⟩:SD)
def NW (N:Nat)(a0:Int):Option SG:=
 some (⟨7,a0,⟨#[]⟩⟩:SG)
def AU (N:Nat)(x11:Int×Int):((List Int)×(List Int))→Option (Option Exit×((List Int)×(List Int)))
 |(p12,p13)=>bG (bZ (p12.length+([x11.2]:List Int).length)) (bG (in64 (2*x11.1)) (bG (in64 ((2*x11.1)+2)) (bG (bZ (p13.length+([(2*x11.1)+2]:List Int).length)) (some (none,(p12++([x11.2]:List Int),p13++([(2*x11.1)+2]:List Int)))))))
def Mw (N:Nat)(a0:SB)(a1:(List SG)):Option ((List Int)×(List Int)):=
 (fe N a0 a1).bind fun y7=>(jn N y7).bind fun y9=>(eO N y7 (dk (fun x st=>AU N x st)) (none,([],[]))).bind fun y14=>oL y14.1 (some (y14.2.1,y14.2.2)) none (fun _=>none)
def qq (N:Nat)(a0:Int):Option SG:=
 some (⟨7,a0,⟨#[]⟩⟩:SG)
def G3 (N:Nat):Option Bool:=
 (qq N 3).bind fun y1=>(qq N 1).bind fun y10=>(gw N (⟨([(⟨1,0,0,0,([(⟨1,0,⟨#[]⟩⟩:SG),y1]:List SG),[]⟩:SD),(⟨1,0,0,1,([(⟨1,0,⟨#[]⟩⟩:SG)]:List SG),[]⟩:SD),(⟨1,0,0,1,([(⟨1,0,⟨#[]⟩⟩:SG)]:List SG),[]⟩:SD)]:List SD),[]⟩:SB) ([y10]:List SG) []).bind fun y13=>(bif decide (y13.2.2.2=0) then (some (decide ((y13.1.Young.length:Int)=1))) else (some false)).bind fun b42=>((bif b42 then ((aM y13.1.Young 0).bind fun x44=>some (decide (x44.Age=1))) else (some false)).bind fun b43=>((bif b43 then ((aM y13.1.Young 0).bind fun x46=>(aM x46.Slots 1).bind fun x51=>(qq N 2).bind fun y54=>some (decide (x51=y54))) else (some false)).bind fun b45=>((bif b45 then (some (decide ((y13.1.Old.length:Int)=1))) else (some false)).bind fun b55=>((bif b55 then (some (decide ((y13.2.1.length:Int)=1))) else (some false)).bind fun b56=>((bif b56 then ((aM y13.2.1 0).bind fun x58=>(qq N 1).bind fun y59=>some (decide (x58=y59))) else (some false)).bind fun b57=>((bif b57 then (some (decide ((y13.2.2.1.length:Int)=0))) else (some false)).bind fun b60=>(some b60)))))))
def If (N:Nat)(p3:(List SD)):Option (List SD):=
 some p3
def CQ (N:Nat)(a0:(List SD)):Nat→(List SD)→Int→Option (List SD)
 |0,_,_=>none
 |m4+1,p5,p6=>(bif decide (p6<(a0.length:Int)) then (some (decide (p6<40))) else (some false)).bind fun b8=>bif b8 then ((aM a0 p6).bind fun x10=>bG ((0:Int)≤min (x10.Slots.length:Int) 20∧0≤(min (x10.Slots.length:Int) 20).toNat∧(min (x10.Slots.length:Int) 20).toNat≤x10.Slots.length) (bG ((0:Int)≤min (x10.More.length:Int) 40∧0≤(min (x10.More.length:Int) 40).toNat∧(min (x10.More.length:Int) 40).toNat≤x10.More.length) (bG (bZ (p5.length+([(⟨x10.Kind,x10.Shape,x10.Flags,x10.Age,(x10.Slots.drop 0).take ((min (x10.Slots.length:Int) 20).toNat - 0),(x10.More.drop 0).take ((min (x10.More.length:Int) 40).toNat - 0)⟩:SD)]:List SD).length)) (bG (in64 (p6+1)) ((CQ N a0 m4) (p5++([(⟨x10.Kind,x10.Shape,x10.Flags,x10.Age,(x10.Slots.drop 0).take ((min (x10.Slots.length:Int) 20).toNat - 0),(x10.More.drop 0).take ((min (x10.More.length:Int) 40).toNat - 0)⟩:SD)]:List SD)) (p6+1)))))) else (If N p5)
def EO (N:Nat)(a0:(List SD)):Option (List SD):=
 CQ N a0 N [] 0
def Kl (N:Nat)(a0:SB):Option SB:=
 (EO N a0.Young).bind fun y5=>(EO N a0.Old).bind fun y7=>some (⟨y5,y7⟩:SB)
def F4 (N:Nat)(p3:(List Int)):Option (List Int):=
 some p3
def yT (N:Nat)(kb4:(List Int)→Int→Option (List Int))(p6:Int)(a0:(List SG))(p10:(List Int)):Option (List Int):=
 bG (in64 (p6+1)) (kb4 p10 (p6+1))
def tZ (N:Nat)(a0:(List SG)):Nat→(List Int)→Int→Option (List Int)
 |0,_,_=>none
 |m4+1,p5,p6=>bif decide (p6<(a0.length:Int)) then ((aM a0 p6).bind fun x11=>(bif decide (x11.Kind=7) then (some true) else ((aM a0 p6).bind fun x13=>some (decide (x13.Kind=9)))).bind fun b12=>bif b12 then ((aM a0 p6).bind fun x15=>bG (bZ (p5.length+([x15.N]:List Int).length)) (yT N (tZ N a0 m4) p6 a0 (p5++([x15.N]:List Int)))) else (yT N (tZ N a0 m4) p6 a0 p5)) else (F4 N p5)
def He (N:Nat)(a0:(List SG)):Option (List Int):=
 tZ N a0 N [] 0
def vu (N:Nat)(a0:Int):Option Bool:=
 (bif decide (0<a0) then (some (decide (a0.tmod 2=1))) else (some false)).bind fun b1=>some b1
def KF (N:Nat)(a0:SB)(a1:Int):Option Bool:=
 bif decide (a1<1) then (some false) else ((vu N a1).bind fun y5=>bif y5 then (bG (in64 (a1.tdiv 2)) (some (decide (a1.tdiv 2<(a0.Young.length:Int))))) else (bG (in64 (a1.tdiv 2)) (bG (in64 ((a1.tdiv 2) - 1)) (some (decide ((a1.tdiv 2) - 1<(a0.Old.length:Int)))))))
def F3 (N:Nat):Option Bool:=
 some true
def yR (N:Nat)(a1:(List Int))(a0:SB):Nat→Int→Option Bool
 |0,_=>none
 |m6+1,p7=>bif decide (p7<(a1.length:Int)) then ((aM a1 p7).bind fun x9=>(KF N a0 x9).bind fun y10=>bif !y10 then (some false) else (bG (in64 (p7+1)) ((yR N a1 a0 m6) (p7+1)))) else (F3 N)
def vt (N:Nat)(a0:SB)(a1:(List Int)):Option Bool:=
 yR N a1 a0 N 0
def Hf (N:Nat):Option Bool:=
 some true
def yU (N:Nat)(kb10:Int→Option Bool)(p11:Int)(a0:SB)(p16:Int)(p17:Int)(p18:Int)(p19:Int)(p20:(List SG))(p21:(List SG)):Option Bool:=
 (cY N (⟨p16,p17,p18,p19,p20,p21⟩:SD)).bind fun y32=>(bif !y32 then (some true) else ((jX N (⟨p16,p17,p18,p19,p20,p21⟩:SD)).bind fun y34=>(vt N a0 y34).bind fun y36=>some (!y36))).bind fun b33=>(bif b33 then (some true) else ((ua N (⟨p16,p17,p18,p19,p20,p21⟩:SD)).bind fun y38=>(vt N a0 y38).bind fun y40=>some (!y40))).bind fun b37=>bif b37 then (some false) else (bG (in64 (p11+1)) (kb10 (p11+1)))
def t7 (N:Nat)(a0:SB):Nat→Int→Option Bool
 |0,_=>none
 |m10+1,p11=>bG (in64 ((a0.Young.length:Int)+(a0.Old.length:Int))) (bif decide (p11<(a0.Young.length:Int)+(a0.Old.length:Int)) then (bif decide (p11<(a0.Young.length:Int)) then ((aM a0.Young p11).bind fun x23=>yU N (t7 N a0 m10) p11 a0 x23.Kind x23.Shape x23.Flags x23.Age x23.Slots x23.More) else (bG (in64 (p11 - (a0.Young.length:Int))) ((aM a0.Old (p11 - (a0.Young.length:Int))).bind fun x28=>yU N (t7 N a0 m10) p11 a0 x28.Kind x28.Shape x28.Flags x28.Age x28.Slots x28.More))) else (Hf N))
def Is (N:Nat)(a0:SB)(a1:(List SG)):Option Bool:=
 (He N a1).bind fun y5=>(vt N a0 y5).bind fun y7=>bif !y7 then (some false) else (t7 N a0 N 0)
def G2 (N:Nat)(p5:(List Int)):Option (List Int):=
 some p5
def yy (N:Nat)(kb6:(List Int)→Int→Option (List Int))(p8:Int)(a0:SB)(p12:(List Int)):Option (List Int):=
 bG (in64 (p8+1)) (kb6 p12 (p8+1))
def FU (N:Nat)(kb6:(List Int)→Int→Option (List Int))(p8:Int)(p7:(List Int))(a0:SB)(p28:Bool):Option (List Int):=
 bif p28 then (bG (in64 (2*p8)) (bG (in64 ((2*p8)+2)) (bG (bZ (p7.length+([(2*p8)+2]:List Int).length)) (yy N kb6 p8 a0 (p7++([(2*p8)+2]:List Int)))))) else (yy N kb6 p8 a0 p7)
def yx (N:Nat)(kb6:(List Int)→Int→Option (List Int))(p8:Int)(p7:(List Int))(y21:((List Int)))(y23:((List Int)))(a0:SB):Nat→Bool→Int→Option (List Int)
 |0,_,_=>none
 |m29+1,p30,p31=>bif decide (p31<((y21++y23).length:Int)) then ((bif p30 then (some true) else ((aM (y21++y23) p31).bind fun x34=>(vu N x34).bind fun y35=>some y35)).bind fun b33=>bG (in64 (p31+1)) ((yx N kb6 p8 p7 y21 y23 a0 m29) b33 (p31+1))) else (FU N kb6 p8 p7 a0 p30)
def Bm (N:Nat)(a0:SB):Nat→(List Int)→Int→Option (List Int)
 |0,_,_=>none
 |m6+1,p7,p8=>bif decide (p8<(a0.Old.length:Int)) then ((aM a0.Old p8).bind fun x13=>(aM a0.Old p8).bind fun x17=>(jX N x13).bind fun y21=>(ua N x17).bind fun y23=>bG (bZ (y21.length+y23.length)) (yx N (Bm N a0 m6) p8 p7 y21 y23 a0 N false 0)) else (G2 N p7)
def CP (N:Nat)(a0:SB):Option (List Int):=
 Bm N a0 N [] 0
def zq (N:Nat)(a0:SB)(a1:(List SG))(a2:(List Int)):Option (List Int):=
 (nG N a0 a1 a2).bind fun y6=>bif !y6 then (some []) else ((lQ N a0 a1 a2).bind fun y9=>some y9.met_)
def xM (N:Nat)(y41:((List Int)))(p44:Int):Option Bool:=
 some (decide (p44=(y41.length:Int)))
def qL (N:Nat)(kb45:Int→Int→Option Bool)(p47:Int)(y37:((List Int)))(y41:((List Int)))(p50:Int):Option Bool:=
 bG (in64 (p47+1)) (kb45 p50 (p47+1))
def ni (N:Nat)(y37:((List Int)))(y41:((List Int))):Nat→Int→Int→Option Bool
 |0,_,_=>none
 |m45+1,p46,p47=>bif decide (p47<(y37.length:Int)) then ((aM y37 p47).bind fun x51=>(vu N x51).bind fun y52=>bif y52 then (bG (in64 (p46+1)) ((aM y37 p47).bind fun x55=>(tu N x55 y41).bind fun y56=>bif !y56 then (some false) else (qL N (ni N y37 y41 m45) p47 y37 y41 (p46+1)))) else (qL N (ni N y37 y41 m45) p47 y37 y41 p46)) else (xM N y41 p46)
def xO (N:Nat)(a1:(List SG))(y7:(SB))(p26:(List SG)):Option Bool:=
 (fe N y7 p26).bind fun y37=>(CP N y7).bind fun y39=>(zq N y7 ((a1.drop 0).take ((min (a1.length:Int) 40).toNat - 0)) y39).bind fun y41=>ni N y37 y41 N 0 0
def qK (N:Nat)(a1:(List SG))(y7:(SB)):Nat→(List SG)→Int→Option Bool
 |0,_,_=>none
 |m27+1,p28,p29=>bif decide (p29<(y7.Old.length:Int)) then (bG (in64 (2*p29)) (bG (in64 ((2*p29)+2)) (bG (bZ (p28.length+([(⟨9,(2*p29)+2,⟨#[]⟩⟩:SG)]:List SG).length)) (bG (in64 (p29+1)) ((qK N a1 y7 m27) (p28++([(⟨9,(2*p29)+2,⟨#[]⟩⟩:SG)]:List SG)) (p29+1)))))) else (xO N a1 y7 p28)
def Kk (N:Nat)(a0:SB)(a1:(List SG)):Option Bool:=
 (G3 N).bind fun y5=>bif !y5 then (some false) else ((Kl N a0).bind fun y7=>bG ((0:Int)≤min (a1.length:Int) 40∧0≤(min (a1.length:Int) 40).toNat∧(min (a1.length:Int) 40).toNat≤a1.length) ((Is N y7 ((a1.drop 0).take ((min (a1.length:Int) 40).toNat - 0))).bind fun y15=>bif !y15 then ((CP N y7).bind fun y17=>(zq N y7 ((a1.drop 0).take ((min (a1.length:Int) 40).toNat - 0)) y17).bind fun y20=>some (decide ((y20.length:Int)=0))) else (bG (bZ (([]:List SG).length+((a1.drop 0).take ((min (a1.length:Int) 40).toNat - 0)).length)) (qK N a1 y7 N (([]:List SG)++((a1.drop 0).take ((min (a1.length:Int) 40).toNat - 0))) 0))))
def Sat {ρ:Type}(m:Option ρ)(R:ρ→Prop):Prop:= ∃r,m=some r∧R r
theorem aQ {ρ:Type}{x:ρ}{R:ρ→Prop}(h:R x):Sat (some x) R:=⟨x,rfl,h⟩
theorem Sat.eq {ρ:Type}{m:Option ρ}{x:ρ}(h:Sat m (· =x)):m=some x:=by obtain ⟨r,h1,rfl⟩:=h;exact h1
theorem Sat.mono {ρ:Type}{m:Option ρ}{R Q:ρ→Prop}(h:Sat m R)(k: ∀x,R x→Q x):Sat m Q:=by obtain ⟨r,h1,h2⟩:=h;exact ⟨r,h1,k _ h2⟩
theorem Sat.bind {ρ σ:Type}{m:Option σ}{f:σ→Option ρ}{P:σ→Prop}{R:ρ→Prop}(h:Sat m P)(k: ∀x,P x→Sat (f x) R):Sat (m.bind f) R:=by obtain ⟨x,rfl,h2⟩:=h;exact k x h2
theorem qS {ρ:Type}{b:Bool}{x y:Option ρ}{R:ρ→Prop}(h1:b=true→Sat x R)(h2:b=false→Sat y R):Sat (bif b then x else y) R:=by cases b with|true=>exact h1 rfl|false=>exact h2 rfl
theorem dW {ρ:Type}{p:Prop}[Decidable p]{x y:Option ρ}{R:ρ→Prop}(h1:p→Sat x R)(h2: ¬p→Sat y R):Sat (bif decide p then x else y) R:=by
 by_cases h:p
 ·rw [SN h];exact h1 h
 rw [SO h];exact h2 h
theorem bs {ρ σ:Type}{x:σ}{f:σ→Option ρ}:(some x).bind f=f x:=Eq.trans rfl rfl
theorem ct {ρ:Type}{x y:ρ}:(bif true then x else y)=x:=Eq.trans rfl rfl
theorem cf {ρ:Type}{x y:ρ}:(bif false then x else y)=y:=Eq.trans rfl rfl
theorem nt:(!true)=false:=Eq.trans rfl rfl
theorem nf:(!false)=true:=Eq.trans rfl rfl
theorem cV {a b:Int}(h:a<b):decide (a<b)=true:=SN h
theorem cQ {a b:Int}(h:b≤a):decide (a<b)=false:=SO W
theorem MA {a b:Int}(h:a≤b):decide (a≤b)=true:=SN h
theorem MB {a b:Int}(h:b<a):decide (a≤b)=false:=SO W
theorem oJ {a b:Int}(h:a=b):decide (a=b)=true:=SN h
theorem gG {a b:Int}(h:a≠b):decide (a=b)=false:=SO h
theorem kD {ρ:Type}{b:Prop}[Decidable b]{m:Option ρ}(h:b):bG b m=m:=if_pos h
theorem r64 {ρ:Type}{a:Int}{m:Option ρ}(h1: -9000000000000000000≤a)(h2:a≤9000000000000000000):bG (in64 a) m=m:=if_pos ⟨by omega,by omega⟩
theorem rF {ρ:Type}{n:Nat}{m:Option ρ}(h:n≤1000000):bG (bZ n) m=m:=if_pos (by unfold bZ;omega)
theorem Gy {α:Type}{xs:List α}{i:Int}(h0:0≤i)(h1:i.toNat<xs.length):aM xs i=some xs[i.toNat]:=by
 unfold aM;rw [if_neg W,List.getElem?_eq_getElem h1]
theorem bf {α:Type}{xs:List α}{i:Nat}(h1:i<xs.length):aM xs (i:Int)=some xs[i]:=by
 unfold aM;rw [if_neg W,Int.toNat_natCast,List.getElem?_eq_getElem h1]
theorem cR {σ ρ:Type}(L:Nat→Nat→σ→Option ρ)(n:Nat)(Inv:Nat→σ→Prop)(R:ρ→Prop)
  (round: ∀m i s,i<n→Inv i s→(∀s',Inv (i+1) s'→Sat (L m (i+1) s') R)→Sat (L (m+1) i s) R)
  (fin: ∀m s,Inv n s→Sat (L (m+1) n s) R): ∀m i s,n<m+i→i≤n→Inv i s→Sat (L m i s) R
 |0,i,s,h,h2,_=>by omega
 |m+1,i,s,h,h2,hi=>by
  by_cases e:i=n
  ·subst e;exact fin m s hi
  exact round m i s W hi fun s' h'=>cR L n Inv R round fin m (i+1) s' W W h'
theorem ou {σ ρ:Type}(L:Nat→σ→Option ρ)(v:σ→Nat)(Inv:σ→Prop)(R:ρ→Prop)
  (round: ∀m s,Inv s→(∀s',v s'<v s→Inv s'→Sat (L m s') R)→Sat (L (m+1) s) R): ∀m s,v s<m→Inv s→Sat (L m s) R
 |0,_,h,_=>by omega
 |m+1,s,h,hi=>round m s hi fun s' h1 h2=>ou L v Inv R round m s' W h2
theorem bi {α:Type}{l:List α}{i:Nat}(h:i<l.length):l.take (i+1)=l.take i++ [l[i]]:=by
 rw [List.take_add_one,List.getElem?_eq_getElem h];rfl
theorem Kc: ∀{a b:List Int},a.Pairwise (· < ·)→b.Pairwise (· < ·)→(∀x,x∈a↔x∈b)→a=b
 | [],[],_,_,_=>rfl
 | [],y::b,_,_,h=>by have:=(h y).2 (by simp);cases this
 |x::a,[],_,_,h=>by have:=(h x).1 (by simp);cases this
 | x::a,y::b,ha,hb,h=>by
  obtain ⟨ha1,ha2⟩:=List.pairwise_cons.1 ha;obtain ⟨hb1,hb2⟩:=List.pairwise_cons.1 hb
  have e:x=y:=by
   rcases List.mem_cons.1 ((h x).1 (by simp)) with e|h1
   ·exact e
   rcases List.mem_cons.1 ((h y).2 (by simp)) with e|h2
   ·exact e.symm
   have:=hb1 x h1;have:=ha1 y h2;omega
  subst e;rw [Kc ha2 hb2 fun z=> ?_];constructor
  ·intro hz;rcases List.mem_cons.1 ((h z).1 (by simp [hz])) with e|h1
   ·subst e;exact absurd (ha1 z hz) W
   exact h1
  intro hz;rcases List.mem_cons.1 ((h z).2 (by simp [hz])) with e|h1
  ·subst e;exact absurd (hb1 z hz) W
  exact h1
theorem IP {α β:Type}[DecidableEq α](a:α)(L:List (α×β)):(∃i b,fp a L 0=some (i,b)∧L[i]? =some (a,b))∨(fp a L 0=none∧a∉L.map (·.1)):=by
 cases h:fp a L 0 with
 | none=>exact .inr ⟨rfl,fun h1=>by
   obtain ⟨p,h2,h3⟩:=List.mem_map.1 h1
   exact (Oq a L).1 h p h2 h3⟩
 |some q=>obtain ⟨i,b⟩:=q;exact .inl ⟨i,b,U,(Jx a L 0 i b h).2⟩
theorem yA {α β:Type}[DecidableEq α](L:List (α×β))(a:α)(b:β):(uV L a b).map (·.1)=if a∈L.map (·.1) then L.map (·.1) else L.map (·.1)++ [a]:=by
 unfold uV;rcases IP a L with ⟨i,c,h1,h2⟩|⟨h1,h2⟩
 ·have hm:a∈L.map (·.1):=List.mem_map.2 ⟨_,List.mem_of_getElem? h2,rfl⟩;rw [h1,if_pos hm];show (L.set i (a,b)).map (·.1)=_;rw [List.map_set];apply List.ext_getElem?;intro j;by_cases e:i=j
  ·subst e;have hlt:=(List.getElem?_eq_some_iff.1 h2).1;rw [List.getElem?_set_self (by simpa using hlt),List.getElem?_map,h2];rfl
  rw [List.getElem?_set_ne e]
 rw [h1,if_neg h2];show (L++ [(a,b)]).map (·.1)=_;rw [List.map_append];rfl
theorem N0 {α β:Type}[DecidableEq α](L:List (α×β))(a:α)(b:β)(x:α):x∈(uV L a b).map (·.1)↔x=a∨x∈L.map (·.1):=by
 rw [yA];split
 ·constructor
  ·exact .inr
  rintro (rfl|h)<;>assumption
 rw [List.mem_append,List.mem_singleton];exact Or.comm
theorem uL {α:Type}: ∀{l:List α} {i:Nat} {a:α},l.Nodup→l[i]? =some a→ ∀x,x∈l.eraseIdx i↔x∈l∧x≠a
 | [],_,_,_,h,_=>by simp at h
 |y::l,0,a,hn,h,x=>by
  simp only [List.getElem?_cons_zero,Option.some.injEq] at h;subst h;rw [List.eraseIdx_cons_zero];obtain ⟨h1, -⟩:=List.nodup_cons.1 hn;constructor
  ·intro hx;exact ⟨by simp [hx],fun e=>h1 (e▸hx)⟩
  rintro ⟨hx,hne⟩;rcases List.mem_cons.1 hx with e|hx
  ·exact absurd e hne
  exact hx
 | y::l,i+1,a,hn,h,x=>by
  simp only [List.getElem?_cons_succ] at h;obtain ⟨h1,h2⟩:=List.nodup_cons.1 hn;rw [List.eraseIdx_cons_succ,List.mem_cons,List.mem_cons,uL h2 h x];have ha:a∈l:=List.mem_of_getElem? h;constructor
  ·rintro (rfl|⟨h3,h4⟩)
   ·exact ⟨.inl U,fun e=>h1 (e▸ha)⟩
   exact ⟨.inr h3,h4⟩
  rintro ⟨rfl|h3,h4⟩
  ·exact .inl U
  exact .inr ⟨h3,h4⟩
theorem FD {α β:Type}[DecidableEq α]{L:List (α×β)}(h:(L.map (·.1)).Nodup)(a:α):(∀x,x∈(Bg L a).map (·.1)↔x∈L.map (·.1)∧x≠a)∧((Bg L a).map (·.1)).Nodup∧(Bg L a).length≤L.length:=by
 unfold Bg;rcases IP a L with ⟨i,c,h1,h2⟩|⟨h1,h2⟩
 ·rw [h1]
  have h3:(L.map (·.1))[i]? =some a:=by rw [List.getElem?_map,h2];rfl
  show (∀x,x∈(L.eraseIdx i).map (·.1)↔_)∧((L.eraseIdx i).map (·.1)).Nodup∧(L.eraseIdx i).length≤_;rw [←Bf];exact ⟨uL h h3,h.sublist (List.eraseIdx_sublist _ _),(List.eraseIdx_sublist _ _).length_le⟩
 rw [h1];exact ⟨fun x=>⟨fun hx=>⟨hx,fun e=>h2 (e▸hx)⟩,fun hx=>hx.1⟩,h,Nat.le_refl _⟩
theorem mX {α:Type}(xs:List α)(i:Nat):aM xs (i:Int)=xs[i]? :=by
 unfold aM;rw [if_neg W];simp
theorem yJ {ρ:Type}{b:Prop}[Decidable b]{m:Option ρ}(h:b):bG b m=m:=if_pos h
def br (v:SG):Bool:=decide (v.Kind=7)||decide (v.Kind=9)
def lh (k:Int)(i:Nat):Bool:=!decide (k=8)&&(!decide (k=10)||decide ((i:Int).tmod 2=0))
def pick (f:Nat→SG→Bool):Nat→List SG→List Int
 |_,[]=> []
 |i,v::l=>(bif f i v then [v.N] else [])++pick f (i+1) l
theorem gm (f:Nat→SG→Bool)(i:Nat)(v:SG)(l:List SG):pick f i (v::l)=(bif f i v then [v.N] else [])++pick f (i+1) l:=rfl
theorem zj (f:Nat→SG→Bool): ∀(i:Nat) (l:List SG),(pick f i l).length≤l.length
 |_,[]=>Nat.le_refl _
 |i,v::l=>by
  have:=zj f (i+1) l;unfold pick;cases f i v<;>simp<;>omega
theorem AK: ∀(i:Nat) (l:List SG),pick (fun _ _=>false) i l=[]
 |_,[]=>rfl
 |i,v::l=>by unfold pick;simp [AK (i+1) l]
theorem qd (N:Nat)(v:SG):my N v=some (br v):=by
 unfold my br;cases decide (v.Kind=7)<;>rfl
theorem yL (N:Nat)(v:SG):qD N v=some (br v):=by
 unfold qD br;cases decide (v.Kind=7)<;>rfl
theorem FI (N:Nat)(a b:Bool)(x:SG)(p:List Int)(h:p.length≤5000):dk (fun x st=>fu N a x st) (b,x) (none,p)=some (true,(none,p++(bif (b==a)&&br x then [x.N] else []))):=by
 unfold dk fu;simp only [qd,Option.bind_some];cases b==a
 ·simp
 cases br x
 ·simp
 have:bZ (p.length+ [x.N].length):=by unfold bZ;simp only [List.length_cons,List.length_nil];omega
 simp only [cond_true,Option.bind_some,Bool.and_self];rw [yJ this];rfl
theorem Ke (N:Nat)(a:Bool)(c:SD)(hc:c.More.length≤1000)(K:Nat)(hK:K≤1000): ∀(m i:Nat) (p:List Int),c.More.length<m+i→i≤c.More.length→p.length≤K+i→kK N (dk (fun x st=>fu N a x st)) c m (i:Int) (none,p)=some (none,p++pick (fun i v=>(lh c.Kind i==a)&&br v) i (c.More.drop i))
 |0,i,p,h,h2,_=>by omega
 | m+1,i,p,h,h2,h3=>by
  rw [kK.eq_2];by_cases hi:i<c.More.length
  ·rw [show (decide ((i:Int)<(c.More.length:Int)))=true from SN W,mX,List.getElem?_eq_getElem hi,List.drop_eq_getElem_cons hi];simp only [cond_true,Option.bind_some]
   have hs:(bif !decide (c.Kind=8) then ((bif !decide (c.Kind=10) then (some true) else (some (decide ((i:Int).tmod 2=0)))).bind fun b22=>some b22) else (some false))=some (lh c.Kind i):=by
    unfold lh;cases decide (c.Kind=8)<;>cases decide (c.Kind=10)<;>rfl
   rw [hs];simp only [Option.bind_some];rw [FI N a _ _ _ W];rw [Option.bind_some]
   dsimp only
   rw [Bool.not_true,cond_false];rw [yJ (by unfold in64;omega)]
   have hlen:(p++(bif (lh c.Kind i==a)&&br c.More[i] then [c.More[i].N] else [])).length≤K+(i+1):=by
    cases (lh c.Kind i==a)&&br c.More[i]<;>simp<;>omega
   have:=Ke N a c hc K hK m (i+1) _ W hi hlen;simp only [Int.natCast_add,Int.cast_ofNat_Int] at this;rw [this];rw [gm,SQ]
  rw [show (decide ((i:Int)<(c.More.length:Int)))=false from SO W,List.drop_eq_nil_of_le W];simp [pick]
theorem NI (N:Nat)(hN:2000<N)(a:Bool)(c:SD)(hS:c.Slots.length≤1000)(hc:c.More.length≤1000): ∀(m i:Nat) (p:List Int),c.Slots.length<m+i→i≤c.Slots.length→p.length≤i→jR N (dk (fun x st=>fu N a x st)) c m (i:Int) (none,p)=some (none,(p++pick (fun _ v=>(true==a)&&br v) i (c.Slots.drop i))++pick (fun i v=>(lh c.Kind i==a)&&br v) 0 c.More)
 |0,i,p,h,h2,_=>by omega
 | m+1,i,p,h,h2,h3=>by
  rw [jR.eq_2];by_cases hi:i<c.Slots.length
  ·rw [show (decide ((i:Int)<(c.Slots.length:Int)))=true from SN W,mX,List.getElem?_eq_getElem hi,List.drop_eq_getElem_cons hi];simp only [cond_true,Option.bind_some];rw [FI N a _ _ _ W];rw [Option.bind_some]
   dsimp only
   rw [Bool.not_true,cond_false];rw [yJ (by unfold in64;omega)]
   have hlen:(p++(bif (true==a)&&br c.Slots[i] then [c.Slots[i].N] else [])).length≤(i+1):=by
    cases (true==a)&&br c.Slots[i]<;>simp<;>omega
   have:=NI N hN a c hS hc m (i+1) _ W hi hlen;simp only [Int.natCast_add,Int.cast_ofNat_Int] at this;rw [this];rw [gm,SQ p]
  rw [show (decide ((i:Int)<(c.Slots.length:Int)))=false from SO W,List.drop_eq_nil_of_le W];simp only [cond_false,rD];have:=Ke N a c hc p.length W N 0 p W W W;simp only [Int.natCast_zero,Int.cast_ofNat_Int] at this;rw [this];simp [pick]
theorem wr (N:Nat)(hN:2000<N)(a:Bool)(c:SD)(hS:c.Slots.length≤1000)(hc:c.More.length≤1000):jS N c a=some (pick (fun _ v=>(true==a)&&br v) 0 c.Slots++pick (fun i v=>(lh c.Kind i==a)&&br v) 0 c.More):=by
 unfold jS rE mY;have:=NI N hN a c hS hc N 0 [] W W (by simp);simp only [Int.natCast_zero,Int.cast_ofNat_Int] at this;rw [Option.bind_some,this,Option.bind_some];show some _=some _;simp
def jV (k:Int)(i:Nat):Bool:=decide (k=8)||(decide (k=10)&&(decide (0<(i:Int))&&decide ((((i:Int) - 1).tmod 4).tmod 2=0)))
theorem Kj (N:Nat)(k:Int)(i:Nat)(hi:i≤5000):qY N k (i:Int)=some (jV k i):=by
 unfold qY jV;by_cases h1:k=8
 ·simp [h1]
 by_cases h2:k=10
 ·by_cases h3:(0:Int)<i
  ·subst h2;simp only [h3,decide_true,ct,bs,r64 (a:=(i:Int) - 1) W W,show decide ((10:Int)=8)=false from rfl,cf,Bool.false_or,Bool.true_and]
  subst h2;simp only [h3,decide_true,decide_false,ct,bs,show decide ((10:Int)=8)=false from rfl,cf,Bool.false_or,Bool.true_and,Bool.false_and]
 simp [h1,h2]
theorem C8 (N:Nat)(hN:2000<N)(c:SD)(hS:c.Slots.length≤1000)(hc:c.More.length≤1000):jX N c=some (pick (fun _ v=>br v) 0 c.Slots++pick (fun i v=> !jV c.Kind i&&br v) 0 c.More):=by
 apply Sat.eq;unfold jX;refine cR (fun m i s=>iX N c m s (i:Int)) c.Slots.length (fun i s=>s++pick (fun _ v=>br v) i (c.Slots.drop i)=pick (fun _ v=>br v) 0 c.Slots∧s.length≤i) _ ?_ ?_ N 0 [] W W ⟨by simp,by simp⟩
 ·rintro m i s hi ⟨h1,h2⟩ k;show Sat (iX N c (m+1) s i) _;rw [List.drop_eq_getElem_cons hi,gm] at h1;rw [iX.eq_2,cV W,cond_true,bf hi,bs,yL,bs];simp only [bs];cases hh:br c.Slots[i]
  all_goals
   simp only [hh,ct,cf,bs,List.nil_append] at h1⊢
   first
   |(unfold mU
     rw [r64 W W]
     exact k s ⟨h1,by omega⟩)
   |(rw [rF (by simp;omega)]
     unfold mU;rw [r64 W W]
     exact k _ ⟨by rw [SQ];exact h1,by simp;omega⟩)
 rintro m s ⟨h1,h2⟩;show Sat (iX N c (m+1) s _) _;rw [List.drop_length] at h1
 have h1:s=pick (fun _ v=>br v) 0 c.Slots:=by rw [←h1];simp [pick]
 rw [iX.eq_2,cQ W,cond_false, ←h1];unfold uc;clear h1;refine cR (fun m i s=>gU N c m s (i:Int)) c.More.length (fun i t=>t++pick (fun i v=> !jV c.Kind i&&br v) i (c.More.drop i)=s++pick (fun i v=> !jV c.Kind i&&br v) 0 c.More∧t.length≤1000+i) _ ?_ ?_ N 0 s W W ⟨by simp,by omega⟩
 ·rintro m i s hi ⟨h1,h2⟩ k;show Sat (gU N c (m+1) s i) _;rw [List.drop_eq_getElem_cons hi,gm] at h1;rw [gU.eq_2,cV W,cond_true,bf hi,bs,yL,bs,Kj _ _ _ W];simp only [bs];cases hh:br c.More[i]<;>cases hw:jV c.Kind i
  all_goals
   simp only [hh,hw,Bool.and_true,Bool.and_false,nt,nf,ct,cf,bs,List.nil_append] at h1⊢
   first
   |(unfold mT
     rw [r64 W W]
     exact k s ⟨h1,by omega⟩)
   |(rw [rF (by simp;omega)]
     unfold mT;rw [r64 W W]
     exact k _ ⟨by rw [SQ];exact h1,by simp;omega⟩)
 rintro m s ⟨h1,h2⟩;show Sat (gU N c (m+1) s _) _;rw [List.drop_length] at h1;rw [gU.eq_2,cQ W,cond_false];exact aQ (by rw [←h1];simp [pick])
theorem Bp (k:Int)(i:Nat):lh k i=!jV k i:=by
 unfold lh jV;by_cases h8:k=8
 ·subst h8;rfl
 by_cases h10:k=10
 ·subst h10;have e0:(i:Int).tmod 2=(i:Int)%2:=Int.tmod_eq_emod_of_nonneg W;by_cases hi:(0:Int)<i
  ·have e1:((i:Int) - 1).tmod 4=((i:Int) - 1)%4:=Int.tmod_eq_emod_of_nonneg W;have e2:(((i:Int) - 1)%4).tmod 2=(((i:Int) - 1)%4)%2:=Int.tmod_eq_emod_of_nonneg W;rw [e0,e1,e2];by_cases h:(i:Int)%2=0
   ·have h2: ¬(((i:Int) - 1)%4)%2=0:=by omega
    rw [SN h,SO h2,SN hi];rfl
   have h2:(((i:Int) - 1)%4)%2=0:=by omega
   rw [SO h,SN h2,SN hi];rfl
  have:i=0:=by omega
  subst this;rfl
 simp [h8,h10]
def bD (c:SD):List Int:=pick (fun _ v=>br v) 0 c.Slots++pick (fun i v=> !jV c.Kind i&&br v) 0 c.More
theorem nr (N:Nat)(hN:2000<N)(c:SD)(hS:c.Slots.length≤1000)(hc:c.More.length≤1000):fw N c=some (bD c):=by
 unfold fw bD;rw [wr N hN true c hS hc,bs]
 have e1:(fun (_:Nat) (v:SG)=>(true==true)&&br v)=fun _ v=>br v:=by funext i v;rfl
 have e2:(fun (i:Nat) (v:SG)=>(lh c.Kind i==true)&&br v)=fun i v=> !jV c.Kind i&&br v:=by funext i v;rw [Bp];cases jV c.Kind i<;>rfl
 rw [e1,e2]
theorem K2 (N:Nat)(hN:2000<N)(c:SD)(hS:c.Slots.length≤1000)(hc:c.More.length≤1000):jX N c=some (bD c):=C8 N hN c hS hc
theorem km (c:SD):(bD c).length≤c.Slots.length+c.More.length:=by
 unfold bD;have h1:=zj (fun _ v=>br v) 0 c.Slots;have h2:=zj (fun i v=> !jV c.Kind i&&br v) 0 c.More;rw [List.length_append];omega
theorem zh {f:Nat→SG→Bool}{x:Int}: ∀{i:Nat} {l:List SG},x∈pick f i l→ ∃v∈l,v.N=x
 |_,[],h=>by cases h
 | i,v::l,h=>by
  rw [gm,List.mem_append] at h;rcases h with h|h
  ·cases hf:f i v
   ·rw [hf] at h;cases h
   rw [hf] at h;exact ⟨v,by simp,(List.mem_singleton.1 h).symm⟩
  obtain ⟨w,h1,h2⟩:=zh h;exact ⟨w,by simp [h1],h2⟩
theorem DP {c:SD}{x:Int}(h:x∈bD c): ∃v∈c.Slots++c.More,v.N=x:=by
 unfold bD at h;rcases List.mem_append.1 h with h|h
 ·obtain ⟨v,h1,h2⟩:=zh h;exact ⟨v,by simp [h1],h2⟩
 obtain ⟨v,h1,h2⟩:=zh h;exact ⟨v,by simp [h1],h2⟩
def CI:SD:=⟨0,0,0,0,[],[]⟩
def fK (m:SB)(a:Int):Option SD:=if a<1 then none else if a%2=1 then m.Young[((a - 1) / 2).toNat]? else m.Old[((a - 2) / 2).toNat]?
def aZ (m:SB)(a:Int):Bool:=(fK m a).isSome
def be (m:SB)(a:Int):SD:=(fK m a).getD CI
structure Small (m:SB) (roots:List SG):Prop where
 young:m.Young.length≤600
 old:m.Old.length≤600
 roots:roots.length≤600
 cells: ∀c∈m.Young++m.Old,c.Slots.length≤600∧c.More.length≤600
theorem rJ {m:SB}{a:Int}{c:SD}(h:fK m a=some c):c∈m.Young++m.Old:=by
 unfold fK at h;split at h
 ·cases h
 split at h
 ·exact SR _ (List.mem_of_getElem? h)
 exact SS _ (List.mem_of_getElem? h)
theorem Small.at_ {m:SB}{roots:List SG}(h:Small m roots)(a:Int):(be m a).Slots.length≤600∧(be m a).More.length≤600:=by
 unfold be
 cases hc:fK m a with
 |none=>exact ⟨by simp [CI],by simp [CI]⟩
 |some c=>exact h.cells c (rJ hc)
theorem rq {m:SB}{a:Int}(h:aZ m a=true):0<a:=by
 unfold aZ fK at h;split at h
 ·cases h
 omega
theorem wP {m:SB}{roots:List SG}(hs:Small m roots){a:Int}(h:aZ m a=true):a≤1200:=by
 have h1:=hs.young;have h2:=hs.old;unfold aZ fK at h;split at h
 ·cases h
 split at h
 ·have:=(List.getElem?_eq_some_iff.1 (Option.isSome_iff_exists.1 h).choose_spec).1;omega
 have:=(List.getElem?_eq_some_iff.1 (Option.isSome_iff_exists.1 h).choose_spec).1;omega
theorem xu {a:Int}(h:0≤a):a.tdiv 2=a / 2:=Int.tdiv_eq_ediv_of_nonneg h
theorem qi {a:Int}(h:0≤a):a.tmod 2=a%2:=Int.tmod_eq_emod_of_nonneg h
theorem wM {α:Type}(l:List α)(i:Nat):(l[i]?).isSome=decide ((i:Int)<(l.length:Int)):=by
 by_cases h:i<l.length
 ·rw [List.getElem?_eq_getElem h,SN W];rfl
 rw [List.getElem?_eq_none W,SO W];rfl
theorem uv (m:SB)(a:Int):(a<1∧fK m a=none)∨(∃k:Nat,a=2*(k:Int)+1∧fK m a=m.Young[k]?)∨(∃k:Nat,a=2*(k:Int)+2∧fK m a=m.Old[k]?):=by
 by_cases h:a<1
 ·exact .inl ⟨h,by unfold fK;rw [if_pos h]⟩
 by_cases h2:a%2=1
 ·refine .inr (.inl ⟨((a - 1) / 2).toNat,by omega,?_⟩);unfold fK;rw [if_neg h,if_pos h2]
 refine .inr (.inr ⟨((a - 2) / 2).toNat,by omega,?_⟩);unfold fK;rw [if_neg h,if_neg h2]
theorem Ko {a:Int}(h:in64 a): -4611686018427387904≤a.tdiv 2∧a.tdiv 2≤4611686018427387904:=by
 unfold in64 at h;by_cases h0:0≤a
 ·rw [xu h0];omega
 have h1:(-a).tdiv 2= -(a.tdiv 2):=Int.neg_tdiv a 2;rw [xu W] at h1;omega
theorem Du (N:Nat)(m:SB)(a:Int)(h:in64 a):Sat (mP N m a) fun r=>r.2.2=aZ m a∧(aZ m a=true→aM r.1 r.2.1=fK m a):=by
 have hd:=Ko h;unfold mP;rw [r64 W W];unfold nT aZ;rcases uv m a with ⟨h1,h2⟩|⟨k,h1,h2⟩|⟨k,h1,h2⟩
 ·rw [h2]
  refine dW (fun _=> ?_) fun _=> ?_
  ·rw [r64 W W,r64 W W,cQ (a:=0) (b:=a) W,cf,bs];exact aQ ⟨U,fun h=>by cases h⟩
  rw [cQ (a:=0) (b:=a) W,cf,bs];exact aQ ⟨U,fun h=>by cases h⟩
 ·subst h1;rw [h2,qi W,xu W,gG W,cf,cV W,ct,bs,show (2*(k:Int)+1) / 2=k by omega];exact aQ ⟨(wM _ _).symm,fun _=>mX _ _⟩
 subst h1;rw [h2,qi W,xu W,oJ W,ct,cV W,ct,bs,show (2*(k:Int)+2) / 2 - 1=k by omega];rw [r64 W W,r64 W W];exact aQ ⟨(wM _ _).symm,fun _=>mX _ _⟩
theorem tK (N:Nat)(m:SB)(a:Int)(h:in64 a):eK N m a=some (aZ m a):=by
 obtain ⟨r,h1,h2, -⟩:=Du N m a h;unfold eK;rw [h1,bs,h2]
theorem nK (N:Nat)(c:SD)(h:c.Slots.length≤600∧c.More.length≤600):ed N c=some c:=by
 unfold ed df;rw [rF (by simp;omega),bs,rF (by simp;omega),bs];rfl
theorem GU (N:Nat){m:SB}{roots:List SG}(hs:Small m roots)(a:Int)(h:in64 a):iq N m a=some (be m a):=by
 obtain ⟨r,h1,h2,h3⟩:=Du N m a h;unfold iq be;rw [h1,bs,h2];unfold aZ at*
 cases hc:fK m a with
 |none=>rfl
 |some c=>
  have h4:=h3 (by rw [hc];rfl);rw [hc] at h4;have h5:=nK N c (hs.cells c (rJ hc));simp only [Option.isSome_some,nt,cf,h4,bs,h5];rfl
theorem Cw (N:Nat)(m:SB)(a:Int)(h:in64 a):mh N m a=some (aZ m a):=by
 unfold in64 at h;unfold mh aZ;rcases uv m a with ⟨h1,h2⟩|⟨k,h1,h2⟩|⟨k,h1,h2⟩
 ·rw [h2,cV h1];rfl
 ·subst h1;rw [h2,cQ W,cf,qi W,oJ W,ct,xu W,show (2*(k:Int)+1 - 1) / 2=k by omega,wM];rw [kD (by unfold in64;omega),kD (by unfold in64;omega)]
 subst h1;rw [h2,cQ W,cf,qi W,gG W,cf,xu W,show (2*(k:Int)+2 - 2) / 2=k by omega,wM];rw [kD (by unfold in64;omega),kD (by unfold in64;omega)]
theorem GT (N:Nat)(m:SB)(a:Int)(h:in64 a):nX N m a=some (be m a):=by
 have hh:=Cw N m a h;unfold in64 at h;unfold nX be;rw [hh,bs];unfold aZ;rcases uv m a with ⟨h1,h2⟩|⟨k,h1,h2⟩|⟨k,h1,h2⟩
 ·rw [h2];rfl
 ·cases hc:m.Young[k]? with
  |none=>rw [h2,hc];rfl
  |some c=>
   rw [h2,hc];subst h1;simp only [Option.isSome_some,nt,cf];rw [qi W,oJ W,ct,xu W,show (2*(k:Int)+1 - 1) / 2=k by omega,mX,hc,bs];rw [kD (by unfold in64;omega),kD (by unfold in64;omega)];rfl
 cases hc:m.Old[k]? with
 |none=>rw [h2,hc];rfl
 |some c=>
  rw [h2,hc];subst h1;simp only [Option.isSome_some,nt,cf];rw [qi W,gG W,cf,xu W,show (2*(k:Int)+2 - 2) / 2=k by omega,mX,hc,bs];rw [kD (by unfold in64;omega),kD (by unfold in64;omega)];rfl
theorem K7 (N:Nat)(k:Int):ut N k=iW N k:=by
 unfold ut iW jg;by_cases h1:k=1
 ·subst h1;rfl
 by_cases h2:k=2
 ·subst h2;rfl
 by_cases h3:k=3
 ·subst h3;rfl
 by_cases h6:k=6
 ·subst h6;rfl
 by_cases h8:k=8
 ·subst h8;rfl
 by_cases h9:k=9
 ·subst h9;rfl
 by_cases h10:k=10
 ·subst h10;rfl
 rw [gG h1,gG h2,gG h3,gG h6,gG h8,gG h9,gG h10];rfl
theorem LP (N:Nat)(c:SD):jf N c=gT N c:=by
 unfold jf gT;rw [K7];rfl
theorem PV (N:Nat)(v:SG):ur N v=ib N v:=by
 unfold ur ib pK;by_cases h5:v.Kind=5
 ·rw [h5];rfl
 rw [gG h5];simp only [cf];by_cases hr:v.Kind<0∨9<v.Kind
 ·have h2:v.Kind≠2:=by omega
  have h3:v.Kind≠3:=by omega
  have h6:v.Kind≠6:=by omega
  have h7:v.Kind≠7:=by omega
  have h9:v.Kind≠9:=by omega
  have e1:((bif decide (v.Kind<0) then (some true) else (some (decide (9<v.Kind)))):Option Bool)=some true:=by
   rcases hr with h|h
   ·rw [cV h];rfl
   rw [cV (a:=9) h];cases decide (v.Kind<0)<;>rfl
  rw [e1,bs,ct,gG h2,gG h3,gG h6,gG h7,gG h9];simp only [cf]
  have e2:(((bif decide (v.N=0) then (some (decide (0≤v.Kind))) else (some false)).bind fun b14=>(bif b14 then (some (decide (v.Kind≤9))) else (some false)).bind fun b15=>some b15):Option Bool)=some false:=by
   cases decide (v.N=0)
   ·rfl
   rcases hr with h|h
   ·rw [MB (a:=0) (b:=v.Kind) W];rfl
   rw [MB (a:=v.Kind) (b:=9) W];cases decide (0≤v.Kind)<;>rfl
  rw [e2];cases s:(v.S.toList==(⟨#[]⟩:ByteArray).toList)<;>rfl
 have e1:((bif decide (v.Kind<0) then (some true) else (some (decide (9<v.Kind)))):Option Bool)=some false:=by
  rw [cQ (a:=v.Kind) (b:=0) W,cQ (a:=9) (b:=v.Kind) W];rfl
 rw [e1,bs,cf];cases hs:(v.S.toList==(⟨#[]⟩:ByteArray).toList)
 ·rfl
 simp only [nt,cf];by_cases h2:v.Kind=2
 ·rw [h2];rfl
 rw [gG h2];simp only [cf];by_cases h3:v.Kind=3
 ·rw [h3];rfl
 rw [gG h3];simp only [cf];by_cases h6:v.Kind=6
 ·rw [h6];rfl
 rw [gG h6];simp only [cf];by_cases h7:v.Kind=7
 ·rw [h7];rfl
 rw [gG h7];simp only [cf];by_cases h9:v.Kind=9
 ·rw [h9];rfl
 rw [gG h9,MA (a:=0) W,MA (a:=v.Kind) W];cases decide (v.N=0)<;>rfl
theorem Hw (N:Nat)(v:SG): ∃b,ib N v=some b:=by
 unfold ib;cases decide (v.Kind<0)<;>cases decide (9<v.Kind)<;>cases decide (v.Kind=5)<;>cases decide (v.N=0)<;>cases (v.S.toList==(⟨#[]⟩:ByteArray).toList)<;>cases decide (v.Kind=2)<;>cases decide (v.Kind=3)<;>cases decide ((-9007199254740992)≤v.N)<;>cases decide (v.Kind=6)<;>cases decide (v.Kind=7)<;>cases decide (v.Kind=9)<;>exact ⟨_,rfl⟩
theorem z7 (N:Nat)(k:Nat)(hk:k=2∨k=4)(l:List SG)(hl:l.length≤1000): ∀(m i:Nat),l.length<m+i→i≤l.length→(l.length - i)%k=0→ ∃b,fg N (k:Int) l m (i:Int)=some b∧
  iH N (dk (fun x st=>cx N (k:Int) x st)) l (k:Int) m (i:Int) (none,())=some (bif b then (none,()) else (some .ret,()))
 |0,i,h,h2,_=>by omega
 | m + 1,i,h,h2,h3=>by
  by_cases hi:i<l.length
  ·have hik:i+k≤l.length:=by
    rcases hk with rfl|rfl<;>omega
   have hmin:(min (k:Int) (((l.drop (i:Int).toNat).take (l.length - (i:Int).toNat)).length:Int))=k:=by
    rw [List.length_take,List.length_drop,Int.toNat_natCast];omega
   have hto:((i:Int)+(k:Int)).toNat=i+k:=by omega
   have hx: ∀j,j<k→aM ((l.drop i).take k) (j:Int)=l[i+j]? :=fun j hj=>by
    rw [mX,List.getElem?_take,if_pos hj,List.getElem?_drop]
   have hk0:=hx 0 W;have hk1:=hx 1 W;rw [List.getElem?_eq_getElem W] at hk0 hk1;have hl0:aM l (i:Int)=some l[i]:=bf hi
   have hl1:aM l ((i:Int)+1)=some (l[i+1]'W):=by
    have:=bf (xs:=l) (i:=i+1) W;simpa using this
   obtain ⟨b,hb1,hb2⟩:=z7 N k hk l hl m (i+k) W hik (by rcases hk with rfl|rfl<;>omega);simp only [Int.natCast_add] at hb1 hb2
   have fin: ∀b',(bif b' then some false else bG (in64 ((i:Int)+(k:Int))) (fg N (k:Int) l m ((i:Int)+(k:Int))))=some (bif b' then false else b):=fun b'=>by
    cases b'
    ·rw [cf,r64 W W,hb1];rfl
    rfl
   have fin2: ∀b':Bool,((bif b' then (some (some Exit.ret,())) else (some (none,())):Option (Option Exit×Unit)).map fun r=>(r.1.isNone,r))=some (!b',(bif b' then some Exit.ret else none,())):=fun b'=>by cases b'<;>rfl
   have goal: ∀b',((some (!b',((bif b' then some Exit.ret else none:Option Exit),())):Option (Bool×(Option Exit×Unit))).bind fun y14=>bif !y14.1 then (some y14.2) else (bG (in64 ((i:Int)+(k:Int))) ((iH N (dk (fun x st=>cx N (k:Int) x st)) l (k:Int) m) ((i:Int)+(k:Int)) y14.2)))=some (bif (bif b' then false else b) then (none,()) else (some .ret,())):=fun b'=>by
    cases b'
    ·rw [bs];simp only [nf,nt,cf];rw [r64 W W];exact hb2
    rfl
   have lift: ∀(x:List SG) (b':Bool),cx N (k:Int) x ()=(bif b' then (some (some Exit.ret,())) else (some (none,())))→dk (fun x st=>cx N (k:Int) x st) x (none,())=some (!b',(bif b' then some Exit.ret else none,())):=fun x b' hb=>by
    unfold dk;simp only [hb];exact fin2 b'
   have key: ∃b',((aM l (i:Int)).bind fun x8=>(bif !decide (x8.Kind=7) then (some true) else (bG (in64 ((i:Int)+1)) ((aM l ((i:Int)+1)).bind fun x11=>some (decide (x11.Kind=8))))).bind fun b9=>bif b9 then (some false) else ((bif decide ((k:Int)=4) then (bG (in64 ((i:Int)+2)) ((aM l ((i:Int)+2)).bind fun x15=>(dF N x15 7).bind fun y16=>(bif !y16 then (some true) else (bG (in64 ((i:Int)+3)) ((aM l ((i:Int)+3)).bind fun x19=>(fH N x19 0 9007199254740992).bind fun y20=>some (!y20)))).bind fun b17=>some b17)) else (some false)).bind fun b13=>bif b13 then (some false) else (bG (in64 ((i:Int)+(k:Int))) ((fg N (k:Int) l m) ((i:Int)+(k:Int))))))=some (bif b' then false else b)∧cx N (k:Int) ((l.drop i).take k) ()=(bif b' then (some (some Exit.ret,())) else (some (none,()))):=by
    unfold cx;simp only [Int.cast_ofNat_Int,Int.natCast_zero,Int.natCast_one] at hk0 hk1;rw [hl0,bs,r64 (a:=(i:Int)+1) W W,hl1,bs];have hk0':aM ((l.drop i).take k) 0=some l[i]:=hk0;have hk1':aM ((l.drop i).take k) 1=some (l[i+1]'W):=hk1;simp only [hk0',bs,hk1'];cases h7:(!decide (l[i].Kind=7))
    ·simp only [cf,bs];cases h8:decide ((l[i+1]'W).Kind=8)
     ·simp only [cf];rcases hk with rfl|rfl
      ·simp only [show decide (((2:Nat):Int)=4)=false from rfl,cf,bs];have f:=fin false;rw [cf] at f;refine ⟨false,?_,U⟩;exact f
      have hk2:=hx 2 W;have hk3:=hx 3 W;rw [List.getElem?_eq_getElem W] at hk2 hk3;have hk2':aM ((l.drop i).take 4) 2=some (l[i+2]'W):=hk2;have hk3':aM ((l.drop i).take 4) 3=some (l[i+3]'W):=hk3
      have hl2:aM l ((i:Int)+2)=some (l[i+2]'W):=by
       have:=bf (xs:=l) (i:=i+2) W;simpa using this
      have hl3:aM l ((i:Int)+3)=some (l[i+3]'W):=by
       have:=bf (xs:=l) (i:=i+3) W;simpa using this
      simp only [show decide (((4:Nat):Int)=4)=true from rfl,ct];rw [r64 (a:=(i:Int)+2) W W,hl2,bs,hk2',bs,r64 (a:=(i:Int)+3) W W,hl3,bs,hk3']
      have en: ∀v,gW N v 7=dF N v 7:=fun v=>rfl
      have em: ∀v,gX N v 0 9007199254740992=fH N v 0 9007199254740992:=fun v=>rfl
      have hn: ∃b1,dF N (l[i+2]'W) 7=some b1:=by unfold dF;cases decide ((l[i+2]'W).Kind=0)<;>exact ⟨_,rfl⟩
      have hm: ∃b1,fH N (l[i+3]'W) 0 9007199254740992=some b1:=by unfold fH;cases decide ((l[i+3]'W).Kind=3)<;>cases decide (0≤(l[i+3]'W).N)<;>exact ⟨_,rfl⟩
      obtain ⟨b1,hn⟩:=hn;obtain ⟨b2,hm⟩:=hm;simp only [bs,en,em,hn,hm];cases b1
      ·simp only [nf,ct,bs];exact ⟨true,U,U⟩
      simp only [nt,cf,bs];exact ⟨!b2,fin (!b2),by cases b2<;>rfl⟩
     exact ⟨true,U,U⟩
    exact ⟨true,U,U⟩
   obtain ⟨b',e1,e2⟩:=key;refine ⟨bif b' then false else b,?_,?_⟩
   ·rw [fg.eq_2,cV W,ct];exact e1
   rw [iH.eq_2,cV W,ct,hmin,kD (show (0:Int)≤(i:Int)∧(i:Int).toNat≤l.length∧l.length≤l.length from ⟨by omega,by omega,Nat.le_refl _⟩),r64 (a:=(i:Int)+(k:Int)) W W,r64 (a:=(i:Int)+(k:Int)) W W];rw [kD (show (0:Int)≤(i:Int)∧(0:Int)≤(i:Int)+(k:Int)∧(i:Int).toNat≤((i:Int)+(k:Int)).toNat∧((i:Int)+(k:Int)).toNat≤l.length from ⟨by omega,by omega,by omega,by omega⟩),hto,Int.toNat_natCast,show i+k - i=k by omega,lift _ b' e2];exact goal b'
  rw [fg.eq_2,iH.eq_2,cQ W,cf,cf];exact ⟨true,U,U⟩
theorem rz (N:Nat)(hN:2000<N)(k:Nat)(hk:k=2∨k=4)(l:List SG)(hl:l.length≤1000): ∃b,dT N l (k:Int)=some b∧di N l (k:Int)=some b∧(b=true→l.length%k=0):=by
 unfold dT di
 have hk0:(k:Int)≠0:=by rcases hk with rfl|rfl<;>decide
 rw [kD hk0,kD hk0]
 have ht:(l.length:Int).tmod (k:Int)=((l.length%k:Nat):Int):=by
  rw [Int.tmod_eq_emod_of_nonneg W];rfl
 rw [ht];by_cases h:l.length%k=0
 ·rw [oJ W];obtain ⟨b,h1,h2⟩:=z7 N k hk l hl N 0 W W (by simpa using h)
  have e:kg N l (k:Int)=some ():=by
   unfold kg;rw [cQ (by rcases hk with rfl|rfl<;>omega),cf]
  unfold qQ;simp only [nt,cf,e,bs];have h1':fg N (k:Int) l N 0=some b:=h1;have h2':iH N (dk (fun x st=>cx N (k:Int) x st)) l (k:Int) N 0 (none,())=some (bif b then (none,()) else (some .ret,())):=h2;rw [h1',h2',bs];exact ⟨b,by cases b<;>rfl,rfl,fun _=>h⟩
 rw [gG W];exact ⟨false,U,U,fun h=>by cases h⟩
theorem Og (N:Nat)(hN:2000<N)(c:SD)(hc:c.More.length≤1000):jQ N c.Kind c.More=jk N c:=by
 obtain ⟨b2,h2,h2', -⟩:=rz N hN 2 (.inl rfl) c.More hc;obtain ⟨b4,h4,h4', -⟩:=rz N hN 4 (.inr rfl) ((c.More.drop ((1:Int).toNat)).take (c.More.length - (1:Int).toNat)) (by rw [List.length_take,List.length_drop];omega);have e2:dT N c.More 2=di N c.More 2:=h2.trans h2'.symm;have e4:dT N ((c.More.drop ((1:Int).toNat)).take (c.More.length - (1:Int).toNat)) 4=di N ((c.More.drop ((1:Int).toNat)).take (c.More.length - (1:Int).toNat)) 4:=h4.trans h4'.symm;unfold jQ jk lw iU;rw [e2,e4];rfl
theorem Hx (N:Nat)(c:SD)(b:Bool)(v:SG): ∃y,ib N v=some y∧dk (fun x st=>gi N c x st) (b,v) (none,())=some (y,(bif y then none else some Exit.ret,())):=by
 obtain ⟨y,hy⟩:=Hw N v;refine ⟨y,hy,?_⟩;unfold dk gi;simp only [PV,hy,bs];cases y<;>rfl
theorem C5 (N:Nat)(c:SD)(hc:c.More.length≤1000): ∀(m i:Nat),c.More.length<m+i→i≤c.More.length→ ∃b,kQ N c m (i:Int)=(bif b then dj N c else some false)∧
  kK N (dk (fun x st=>gi N c x st)) c m (i:Int) (none,())=some (bif b then none else some Exit.ret,())
 |0,i,h,h2=>by omega
 | m+1,i,h,h2=>by
  rw [kQ.eq_2,kK.eq_2];by_cases hi:i<c.More.length
  ·rw [cV W,ct,ct,bf hi,bs,bs]
   have hs:(bif !decide (c.Kind=8) then ((bif !decide (c.Kind=10) then (some true) else (some (decide ((i:Int).tmod 2=0)))).bind fun b22=>some b22) else (some false))=some (lh c.Kind i):=by
    unfold lh;cases decide (c.Kind=8)<;>cases decide (c.Kind=10)<;>rfl
   obtain ⟨y,h3,h4⟩:=Hx N c (lh c.Kind i) c.More[i];rw [hs,bs,h3,h4,bs,bs];cases y
   ·simp only [nf,nt,ct,cf];exact ⟨false,cf.symm,by rw [cf]⟩
   obtain ⟨b,h5,h6⟩:=C5 N c hc m (i+1) W hi;simp only [Int.natCast_add,Int.cast_ofNat_Int] at h5 h6;simp only [nt,cf,ct];rw [r64 W W,r64 W W];exact ⟨b,h5,h6⟩
  rw [cQ W,cf,cf];exact ⟨true,ct.symm,by rw [ct]⟩
theorem rX (N:Nat)(hN:2000<N)(c:SD)(hS:c.Slots.length≤1000)(hc:c.More.length≤1000): ∀(m i:Nat),c.Slots.length<m+i→i≤c.Slots.length→ ∃b,fN N c m (i:Int)=(bif b then dj N c else some false)∧
  jR N (dk (fun x st=>gi N c x st)) c m (i:Int) (none,())=some (bif b then none else some Exit.ret,())
 |0,i,h,h2=>by omega
 | m+1,i,h,h2=>by
  rw [fN.eq_2,jR.eq_2];by_cases hi:i<c.Slots.length
  ·rw [cV W,ct,ct,bf hi,bs,bs];obtain ⟨y,h3,h4⟩:=Hx N c true c.Slots[i];rw [h3,h4,bs,bs];cases y
   ·simp only [nf,nt,ct,cf];exact ⟨false,cf.symm,by rw [cf]⟩
   obtain ⟨b,h5,h6⟩:=rX N hN c hS hc m (i+1) W hi;simp only [Int.natCast_add,Int.cast_ofNat_Int] at h5 h6;simp only [nt,cf,ct];rw [r64 W W,r64 W W];exact ⟨b,h5,h6⟩
  rw [cQ W,cf,cf];exact C5 N c hc N 0 W W
theorem vh (N:Nat)(hN:2000<N)(c:SD)(hS:c.Slots.length≤1000)(hc:c.More.length≤1000):dL N c=cY N c:=by
 unfold dL cY mY
 have hAge:((bif !decide (c.Age=0) then (some (!decide (c.Age=1))) else (some false)).bind fun b10=>some b10)=(some (decide (c.Age<0)||decide (1<c.Age)):Option Bool):=by
  by_cases h0:c.Age=0
  ·rw [h0];rfl
  by_cases h1:c.Age=1
  ·rw [h1];rfl
  rw [gG h0,gG h1];by_cases h2:c.Age<0
  ·rw [cV h2];rfl
  rw [cV (a:=1) (b:=c.Age) W,cQ (a:=c.Age) W];rfl
 obtain ⟨b,h1,h2⟩:=rX N hN c hS hc N 0 W W;have h1':fN N c N 0=(bif b then dj N c else some false):=h1;have h2':jR N (dk (fun x st=>gi N c x st)) c N 0 (none,())=some (bif b then none else some Exit.ret,()):=h2;have e:rE N c=some ():=rfl;rw [hAge,h1',h2',e]
 have tail:((some ()).bind fun (y12:Unit)=>(some ((bif b then none else some Exit.ret:Option Exit),())).bind fun y15=>oL y15.1 ((jf N c).bind fun y19=>(bif y19 then ((jQ N c.Kind c.More).bind fun y21=>some y21) else (some false)).bind fun b20=>some b20) (some false) (fun _=>none))=(bif b then dj N c else some false):=by
  cases b
  ·rfl
  rw [LP,Og N hN c hc];rfl
 rw [tail];cases decide (c.Kind<1)<;>cases decide (11<c.Kind)<;>cases decide (c.Shape<0)<;>cases decide (c.Flags<0)<;>cases decide (63<c.Flags)<;>cases decide (c.Age<0)<;>cases decide (1<c.Age)<;>rfl
theorem Me {m:Option Bool}{x:Bool}:m=some x→(m.bind fun b=>some b)=some x:=fun h=>by rw [h];rfl
theorem Io (N:Nat)(hN:2000<N)(c:SD)(hS:c.Slots.length≤1000)(hc:c.More.length≤1000)(h8:c.Kind=8): ∃b,cY N c=some b∧(b=true→c.More.length%2=0):=by
 obtain ⟨b1,g1, -⟩:=rX N hN c hS hc N 0 W W;have g1':fN N c N 0=(bif b1 then dj N c else some false):=g1;obtain ⟨b2, -,h2,h3⟩:=rz N hN 2 (.inl rfl) c.More hc
 have hm:jk N c=some b2:=by
  unfold jk iU;rw [h8,cQ W];show ((di N c.More 2).bind fun y37=>some y37)=_;exact Me h2
 have hs: ∃b3,gT N c=some b3:=by
  unfold gT;rw [h8];have:iW N 8=some true:=rfl;rw [this,bs,ct,bs,ct];by_cases hl:1≤(c.Slots.length:Int)
  ·rw [MA hl,ct,bs,Gy (xs:=c.Slots) (i:=0) W W,bs];cases decide ((c.Slots.length:Int)≤1025)
   ·exact ⟨_,U⟩
   cases decide (c.Slots[(0:Int).toNat].Kind=1)<;>exact ⟨_,rfl⟩
  rw [MB W];exact ⟨_,U⟩
 obtain ⟨b3,hs⟩:=hs
 have hj:dj N c=some (b3&&b2):=by
  unfold dj;rw [hs,hm];cases b3<;>rfl
 unfold cY;rw [g1',hj]
 have fin: ∃b,((bif b1 then some (b3&&b2) else some false):Option Bool)=some b∧(b=true→c.More.length%2=0):=by
  cases b1
  ·exact ⟨false,U,fun h=>by cases h⟩
  exact ⟨b3&&b2,U,fun h=>h3 (by cases b3<;>cases b2<;>first|rfl|cases h)⟩
 obtain ⟨b,e1,e2⟩:=fin;rw [e1];have ff: ∃b',(some false:Option Bool)=some b'∧(b'=true→c.More.length%2=0):=⟨false,rfl,fun h=>by cases h⟩
 cases decide (c.Kind<1)<;>cases decide (11<c.Kind)<;>cases decide (c.Shape<0)<;>cases decide (c.Flags<0)<;>cases decide (63<c.Flags)<;>cases decide (c.Age<0)<;>cases decide (1<c.Age)<;>first|exact ff|exact ⟨b,rfl,e2⟩
def ko (N:Nat)(c:SD):Bool:=decide (c.Kind=8)&&(cY N c).getD false
theorem Gs (N:Nat)(hN:2000<N)(c:SD)(hS:c.Slots.length≤1000)(hc:c.More.length≤1000):vF N c=some (ko N c)∧tb N c=some (ko N c)∧(ko N c=true→c.More.length%2=0):=by
 unfold vF tb ko;rw [vh N hN c hS hc];by_cases h8:c.Kind=8
 ·obtain ⟨b,h1,h2⟩:=Io N hN c hS hc h8;rw [h1,h8];exact ⟨U,U,h2⟩
 rw [gG h8];exact ⟨U,U,fun h=>by cases h⟩
abbrev GW {ρ:Type}(m:Option ρ):Prop:=Sat m fun _=>True
theorem bQ {ρ:Type}(x:ρ):GW (some x):=aQ trivial
theorem lg {ρ:Type}{b:Bool}{x y:Option ρ}(hx:b=true→GW x)(hy:b=false→GW y):GW (bif b then x else y):=qS hx hy
theorem zm (N:Nat)(v:SG)(a b:Int):GW (fH N v a b):=by
 unfold fH
 refine Sat.bind (P:=fun _=>True) (lg (fun _=>bQ _) fun _=>bQ _) fun x _=>Sat.bind (P:=fun _=>True) (lg (fun _=>bQ _) fun _=>bQ _) fun y _=>bQ _
theorem vL (N:Nat)(v:SG)(a:Int):GW (dF N v a):=by
 unfold dF
 exact Sat.bind (P:=fun _=>True) (lg (fun _=>bQ _) fun _=>bQ _) fun x _=>bQ _
theorem wy {c:Bool}{m:Option Bool}(h:c=true→GW m):GW (bif c then m else some false):=lg h fun _=>bQ _
theorem uY {l:List SG}{i:Nat}{f:SG→Option Bool}(hi:i<l.length)(h: ∀v,GW (f v)):GW ((aM l (i:Int)).bind f):=by
 rw [bf hi,bs];exact h _
theorem fd {m:Option Bool}{f:Bool→Option Bool}(h:GW m)(k: ∀b,GW (f b)):GW (m.bind f):=Sat.bind h fun b _=>k b
theorem qA {m:Option Bool}{p:Prop}{f:Bool→Option Bool}(h:Sat m fun b=>b=true→p)(k: ∀b,(b=true→p)→GW (f b)):GW (m.bind f):=Sat.bind h k
theorem Ku (N:Nat)(c:SD):GW (gT N c):=by
 unfold gT
 have hp:GW (iW N c.Kind):=by
  unfold iW
  iterate 6 refine fd (lg (fun _=>bQ _) fun _=>bQ _) fun _=> ?_
  exact bQ _
 refine fd hp fun y=>fd (lg (fun _=>bQ _) fun _=>fd (lg (fun _=>bQ _) fun _=>bQ _) fun _=>bQ _) fun b=> ?_
 refine lg (fun _=> ?_) fun _=> ?_
 ·refine qA (p:=0<c.Slots.length) (dW (fun h=>aQ fun _=>by omega) fun _=>aQ fun h=>by cases h) fun b hb=>fd (wy fun h=> ?_) fun _=>bQ _
  have h0:=hb h
  refine uY (i:=0) h0 fun v=>fd (lg (fun _=>bQ _) fun _=>uY (i:=0) h0 fun _=>bQ _) fun _=>bQ _
 refine lg (fun _=>bQ _) fun _=>fd (lg (fun _=>bQ _) fun _=>bQ _) fun _=>lg (fun _=>bQ _) fun _=>qS (fun _=> ?_) fun _=>bQ _
 refine qA (p:=1<c.Slots.length) (dW (fun h=> ?_) fun _=>aQ fun h=>by cases h) fun b hb=>fd (wy fun h=> ?_) fun _=>bQ _
 ·rw [show ((0:Int))=((0:Nat):Int) from rfl,bf W,bs];obtain ⟨x,hx, -⟩:=vL N c.Slots[0] 7
  rw [hx,bs];exact aQ fun _=>by omega
 refine uY (i:=1) (hb h) fun v=>fd (vL N v 7) fun _=>bQ _
theorem I3 {l:List SG}{i:Nat}{m:SG→Option Bool}(hi:i<l.length)(h: ∀v,GW (m v)){p:Prop}(hp:p):Sat ((aM l (i:Int)).bind fun x=>(m x).bind fun y=>some y) fun b=>b=true→p:=by
 rw [bf hi,bs];obtain ⟨x,hx, -⟩:=h l[i]
 rw [hx,bs];exact aQ fun _=>hp
def yu (c:SD):Prop:=(c.Kind=8→c.More.length%2=0)∧(c.Kind=10→1≤c.More.length∧(c.More.length - 1)%4=0)
theorem Mn (N:Nat)(hN:2000<N)(c:SD)(hc:c.More.length≤1000):Sat (jk N c) fun b=>b=true→yu c:=by
 have j6: ∀p,(p=true→c.Kind=1∨c.Kind=5)→Sat (iU N c p) fun b=>b=true→yu c:=by
  intro p hp
  have other: ∀{m:Option Bool},c.Kind≠8→c.Kind≠10→GW m→Sat m fun b=>b=true→yu c:=fun h8 h10 h=>h.mono fun _ _ _=>⟨fun e=>absurd e h8,fun e=>absurd e h10⟩
  unfold iU
  refine qS (fun h=>other (by rcases hp h with e|e<;>omega) (by rcases hp h with e|e<;>omega) (bQ _)) fun _=> ?_
  refine dW (fun hk=>other W W ?_) fun _=> ?_
  ·refine qA (p:=1<c.More.length) (dW (fun h=>I3 (i:=0) W (fun v=>zm N v _ _) W) fun _=>aQ fun h=>by cases h) fun b hb=>fd (wy fun h=>uY (i:=1) (hb h) fun v=>fd (vL N v 9) fun _=>bQ _) fun _=>bQ _
  refine dW (fun hk=>other W W ?_) fun _=> ?_
  ·refine qA (p:=0<c.More.length) (dW (fun h=>aQ fun _=>by omega) fun _=>aQ fun h=>by cases h) fun b hb=>fd (wy fun h=>uY (i:=0) (hb h) fun v=>fd (vL N v 9) fun _=>bQ _) fun _=>bQ _
  refine dW (fun hk=>other W W ?_) fun _=> ?_
  ·refine qA (p:=1<c.More.length) (dW (fun h=>I3 (i:=0) W (fun v=>zm N v _ _) W) fun _=>aQ fun h=>by cases h) fun b hb=>fd (wy fun h=>uY (i:=1) (hb h) fun v=>fd (vL N v 9) fun _=>bQ _) fun _=>bQ _
  refine dW (fun hk=>other W W ?_) fun _=> ?_
  ·refine qA (p:=3<c.More.length) (dW (fun h=>I3 (i:=2) W (fun v=>zm N v _ _) W) fun _=>aQ fun h=>by cases h) fun b hb=>fd (wy fun h=>uY (i:=3) (hb h) fun v=>fd (zm N v _ _) fun _=>bQ _) fun _=>bQ _
  refine dW (fun hk=> ?_) fun hk8=> ?_
  ·obtain ⟨b, -,h2,h3⟩:=rz N hN 2 (.inl rfl) c.More hc;have h2':di N c.More 2=some b:=h2;rw [h2',bs]
   exact aQ fun hb=>⟨fun _=>h3 hb,fun e=>absurd e W⟩
  refine dW (fun hk=> ?_) fun hk10=> ?_
  ·refine Sat.bind (P:=fun b=>b=true→1≤c.More.length) (dW (fun h=> ?_) fun _=>aQ fun h=>by cases h) fun b hb=> ?_
   ·rw [show ((0:Int))=((0:Nat):Int) from rfl,bf W,bs];exact aQ fun _=>by omega
   refine Sat.bind (P:=fun b=>b=true→yu c) (qS (fun h=> ?_) fun _=>aQ fun h=>by cases h) fun b' hb'=>aQ hb'
   have h1:=hb h;rw [yJ ⟨by omega,by show (1:Int).toNat≤_;exact h1,Nat.le_refl _⟩]
   have hl:((c.More.drop ((1:Int).toNat)).take (c.More.length - (1:Int).toNat)).length=c.More.length - 1:=by
    rw [List.length_take,List.length_drop];show min (c.More.length - 1) (c.More.length - 1)=_;omega
   obtain ⟨b2, -,h2,h3⟩:=rz N hN 4 (.inr rfl) ((c.More.drop ((1:Int).toNat)).take (c.More.length - (1:Int).toNat)) (by rw [hl];omega);have h2':di N ((c.More.drop ((1:Int).toNat)).take (c.More.length - (1:Int).toNat)) 4=some b2:=h2;rw [h2',bs]
   exact aQ fun hb2=>⟨fun e=>absurd e W,fun _=>⟨h1,by have:=h3 hb2;rw [hl] at this;exact this⟩⟩
  refine dW (fun hk=>other W W ?_) fun _=>other hk8 hk10 (bQ _)
  refine fd ?_ fun _=>bQ _
  exact lg (fun h=>uY (i:=0) (by have:=of_decide_eq_true h;omega) fun v=>fd (zm N v _ _) fun _=>bQ _) fun _=>bQ _
 unfold jk
 refine dW (fun _=>aQ fun h=>by cases h) fun _=>dW (fun hk=>aQ fun _=>⟨fun e=>absurd e W,fun e=>absurd e W⟩) fun _=>dW (fun hk=>j6 _ fun _=> .inl hk) fun _=>j6 _ fun h=> .inr (of_decide_eq_true h)
theorem ti (N:Nat)(hN:2000<N)(c:SD)(hS:c.Slots.length≤1000)(hc:c.More.length≤1000):Sat (cY N c) fun b=>b=true→yu c:=by
 obtain ⟨b1,g1, -⟩:=rX N hN c hS hc N 0 W W;have g1':fN N c N 0=(bif b1 then dj N c else some false):=g1
 have hj:Sat (dj N c) fun b=>b=true→yu c:=by
  unfold dj
  refine Sat.bind (Ku N c) fun y _=> ?_
  refine Sat.bind (P:=fun b=>b=true→yu c) (qS (fun _=>Sat.bind (Mn N hN c hc) fun _ h=>aQ h) fun _=>aQ fun h=>by cases h) fun _ h=>aQ h
 unfold cY;rw [g1']
 iterate 6 refine Sat.bind (P:=fun _=>True) (lg (fun _=>bQ _) fun _=>bQ _) fun _ _=> ?_
 refine qS (fun _=>aQ fun h=>by cases h) fun _=>qS (fun _=>hj) fun _=>aQ fun h=>by cases h
theorem wK {α ρ:Type}(L:Nat→Int→Option ρ)(l:List α)(p:α→Bool)(bad k:Option ρ)
  (step: ∀m (i:Nat) (h:i<l.length),L (m+1) (i:Int)=bif p l[i] then L m ((i:Int)+1) else bad)
  (fin: ∀m,L (m+1) (l.length:Int)=k) (N:Nat) (hN:l.length<N):L N 0=bif l.all p then k else bad:=by
 have key: ∀m i:Nat,l.length<m+i→i≤l.length→L m (i:Int)=bif (l.drop i).all p then k else bad:=by
  intro m
  induction m with
  |zero=>intro i h1 h2;omega
  | succ m ih=>
   intro i h1 h2;by_cases hi:i<l.length
   ·rw [step m i hi,List.drop_eq_getElem_cons hi,List.all_cons];have h3:=ih (i+1) W hi;rw [show (((i+1:Nat)):Int)=(i:Int)+1 by omega] at h3;rw [h3];cases p l[i]<;>rfl
   have e:i=l.length:=by omega
   subst e;rw [fin,List.drop_length];rfl
 have:=key N 0 W W;simpa using this
theorem zv {α:Type}(L:Nat→Int→Option Bool)(l:List α)(p:α→Bool)
  (step: ∀m (i:Nat) (h:i<l.length),L (m+1) (i:Int)=bif p l[i] then L m ((i:Int)+1) else some false)
  (fin: ∀m,L (m+1) (l.length:Int)=some true) (N:Nat) (hN:l.length<N):L N 0=some (l.all p):=by
 rw [wK L l p _ _ step fin N hN];cases l.all p<;>rfl
theorem all_map {α β:Type}(f:α→β)(p:β→Bool)(l:List α):(l.map f).all p=l.all fun x=>p (f x):=by rw [List.all_map];rfl
theorem Em {α:Type}(q p:α→Bool): ∀l:List α,(l.filter q).all p=l.all fun x=> !q x||p x
 | []=>rfl
 |x::l=>by
  rw [List.filter_cons,List.all_cons, ←Em q p l];cases h:q x<;>simp
theorem LG {α β:Type}(L:Nat→Int→Option Bool)(a:List α)(b:List β)(p:α×β→Bool)
  (step: ∀m (i:Nat) (h:i<a.length) (h':i<b.length),L (m+1) (i:Int)=bif p (a[i],b[i]) then L m ((i:Int)+1) else some false)
  (fin: ∀m,L (m+1) (a.length:Int)=some true) (N:Nat) (hN:a.length<N):(bif !decide ((a.length:Int)=(b.length:Int)) then some false else L N 0)=some (decide (a.length=b.length)&&(a.zip b).all p):=by
 by_cases hl:a.length=b.length
 ·have hz:(a.zip b).length=a.length:=by rw [List.length_zip];omega
  rw [SN (p:=((a.length:Int)=(b.length:Int))) W,nt,cf,SN hl,Bool.true_and];refine zv L (a.zip b) p (fun m i h=> ?_) (fun m=>by rw [hz];exact fin m) N W;rw [List.getElem_zip];exact step m i W W
 rw [SO (p:=((a.length:Int)=(b.length:Int))) W,nf,ct,SO hl];rfl
theorem tU {α β:Type}(p:α×β→Bool)(q:β×α→Bool)(h: ∀x y,p (x,y)=q (y,x)): ∀(a:List α) (b:List β),(a.zip b).all p=(b.zip a).all q
 | [],b=>by simp
 |_::_,[]=>by simp
 |x::a,y::b=>by rw [List.zip_cons_cons,List.zip_cons_cons,List.all_cons,List.all_cons,h,tU p q h a b]
def NY {α β:Type}[DecidableEq α](a:α)(b:β):List (α×β)→List (α×β)
 | []=> [(a,b)]
 |p::l=>if p.1=a then (a,b)::l else p::NY a b l
theorem NZ {α β:Type}[DecidableEq α](L:List (α×β))(a:α)(b:β):uV L a b=NY a b L:=by
 have key: ∀(L:List (α×β)) (j:Nat),(∃i c,fp a L j=some (i,c)∧j≤i∧L.set (i - j) (a,b)=NY a b L)∨(fp a L j=none∧L++ [(a,b)]=NY a b L):=by
  intro L
  induction L with
  |nil=>intro j;exact .inr ⟨U,U⟩
  | cons p l ih=>
   intro j;obtain ⟨x,y⟩:=p;by_cases e:a=x
   ·refine .inl ⟨j,y,by simp [fp,e],Nat.le_refl _,?_⟩;rw [Nat.sub_self];simp [NY,e]
   have e': ¬x=a:=fun h=>e h.symm
   rcases ih (j+1) with ⟨i,c,h1,h2,h3⟩|⟨h1,h2⟩
   ·refine .inl ⟨i,c,by simp [fp,e,h1],by omega,?_⟩;rw [show i - j=(i - (j+1))+1 by omega,List.set_cons_succ,h3];simp [NY,e']
   exact .inr ⟨by simp [fp,e,h1],by simp [NY,e',h2]⟩
 unfold uV;rcases key L 0 with ⟨i,c,h1, -,h3⟩|⟨h1,h2⟩
 ·rw [h1];exact h3
 rw [h1];exact h2
theorem zx {α β:Type}[DecidableEq α](p:α×β)(l:List (α×β))(x:α):lk (p::l) x=if p.1=x then some p.2 else lk l x:=by
 unfold lk;rw [List.find?_cons];by_cases e:p.1=x<;>simp [e]
theorem Hy {α β:Type}[DecidableEq α](L:List (α×β))(a:α)(b:β)(x:α):lk (uV L a b) x=if a=x then some b else lk L x:=by
 rw [NZ]
 induction L with
 |nil=>rw [NY,zx]
 | cons p l ih=>
  unfold NY;by_cases e:p.1=a
  ·rw [if_pos e,zx,zx,e];by_cases e2:a=x<;>simp [e2]
  rw [if_neg e,zx,zx,ih];by_cases e2:p.1=x
  ·rw [if_pos e2,if_pos e2,if_neg (fun h=>e (by rw [e2,h]))]
  rw [if_neg e2,if_neg e2]
abbrev vZ:SG:=⟨0,0,⟨#[]⟩⟩
def qh (l:List SG)(i:Nat):SG:=l.getD i vZ
theorem kJ {l:List SG}{i:Nat}(h:i<l.length):aM l (i:Int)=some (qh l i):=by
 rw [bf h];unfold qh;simp [List.getD,h]
def mW (v:SG):Bool:=(ib 0 v).getD false
theorem Hv (N:Nat)(v:SG):ib N v=some (mW v):=by
 obtain ⟨b,hb⟩:=Hw 0 v;have e:ib N v=ib 0 v:=Eq.trans rfl rfl;unfold mW;rw [e,hb];rfl
def numB (v:SG)(a b:Int):Bool:=decide (v.Kind=3)&&(decide (a≤v.N)&&decide (v.N≤b))
def noneB (v:SG)(k:Int):Bool:=decide (v.Kind=0)||decide (v.Kind=k)
theorem vK (N:Nat)(v:SG)(a b:Int):fH N v a b=some (numB v a b):=by
 unfold fH numB;cases decide (v.Kind=3)<;>cases decide (a≤v.N)<;>cases decide (v.N≤b)<;>rfl
theorem tx (N:Nat)(v:SG)(k:Int):dF N v k=some (noneB v k):=by
 unfold dF noneB;cases decide (v.Kind=0)<;>cases decide (v.Kind=k)<;>rfl
def Gd (k:Int):Bool:=decide (k=1)||decide (k=2)||decide (k=3)||decide (k=6)||decide (k=8)||decide (k=9)||decide (k=10)
theorem Iv (N:Nat)(k:Int):iW N k=some (Gd k):=by
 unfold iW Gd;cases decide (k=1)<;>cases decide (k=2)<;>cases decide (k=3)<;>cases decide (k=6)<;>cases decide (k=8)<;>cases decide (k=9)<;>cases decide (k=10)<;>rfl
def pO (k sh fl:Int)(l:List SG):Bool:=
 bif Gd k||(decide (k=7)&&decide (0<l.length)) then decide (1≤l.length)&&decide (l.length≤1025)&&(decide ((qh l 0).Kind=1)||decide ((qh l 0).Kind=7))
 else bif decide (k=7) then decide (sh=0) else bif !decide (sh=0)|| !decide (fl=0) then false else bif decide (k=5) then decide (l.length=2)&&noneB (qh l 0) 7&&noneB (qh l 1) 7 else decide (l.length=0)
theorem eR {p q:Prop}[Decidable p][Decidable q](h:p↔q):decide p=decide q:=by
 by_cases hp:p
 ·rw [SN hp,SN (h.1 hp)]
 rw [SO hp,SO fun hq=>hp (h.2 hq)]
theorem Ij (N:Nat)(c:SD):gT N c=some (pO c.Kind c.Shape c.Flags c.Slots):=by
 unfold gT pO;rw [Iv,bs,eR (p:=(0:Int)<(c.Slots.length:Int)) (q:=0<c.Slots.length) W,eR (p:=(1:Int)≤(c.Slots.length:Int)) (q:=1≤c.Slots.length) W,eR (p:=(c.Slots.length:Int)≤1025) (q:=c.Slots.length≤1025) W,eR (p:=(c.Slots.length:Int)=2) (q:=c.Slots.length=2) W,eR (p:=(c.Slots.length:Int)=0) (q:=c.Slots.length=0) W]
 have hA: ∀b:Bool,((bif decide (1≤c.Slots.length) then some (decide (c.Slots.length≤1025)) else some false).bind fun b8=>(bif b8 then ((aM c.Slots 0).bind fun x10=>(bif decide (x10.Kind=1) then (some true) else ((aM c.Slots 0).bind fun x12=>some (decide (x12.Kind=7)))).bind fun b11=>some b11) else (some false)).bind fun b9=>some b9)=some (decide (1≤c.Slots.length)&&decide (c.Slots.length≤1025)&&(decide ((qh c.Slots 0).Kind=1)||decide ((qh c.Slots 0).Kind=7))):=fun _=>by
  by_cases h:1≤c.Slots.length
  ·have g:aM c.Slots 0=some (qh c.Slots 0):=kJ (i:=0) W;rw [SN h,g];simp only [bs];cases decide (c.Slots.length≤1025)<;>cases decide ((qh c.Slots 0).Kind=1)<;>cases decide ((qh c.Slots 0).Kind=7)<;>rfl
  rw [SO h];rfl
 have hB:((bif decide (c.Slots.length=2) then ((aM c.Slots 0).bind fun x18=>(dF N x18 7).bind fun y19=>some y19) else (some false)).bind fun b17=>(bif b17 then ((aM c.Slots 1).bind fun x21=>(dF N x21 7).bind fun y22=>some y22) else (some false)).bind fun b20=>some b20)=some (decide (c.Slots.length=2)&&noneB (qh c.Slots 0) 7&&noneB (qh c.Slots 1) 7):=by
  by_cases h:c.Slots.length=2
  ·have g:aM c.Slots 0=some (qh c.Slots 0):=kJ (i:=0) W;have g1:aM c.Slots 1=some (qh c.Slots 1):=kJ (i:=1) W;rw [SN h,g,g1];simp only [bs,tx];cases noneB (qh c.Slots 0) 7<;>cases noneB (qh c.Slots 1) 7<;>rfl
  rw [SO h];rfl
 rw [hA true,hB];cases Gd c.Kind<;>cases decide (c.Kind=7)<;>cases decide (0<c.Slots.length)<;>cases decide (c.Shape=0)<;>cases decide (c.Flags=0)<;>cases decide (c.Kind=5)<;>rfl
def jt:List SG→Bool
 |k::v::r=>decide (k.Kind=7)&& !decide (v.Kind=8)&&jt r
 | [_]=>false
 | []=>true
def mF:List SG→Bool
 |t::h::k::s::r=>decide (t.Kind=7)&& !decide (h.Kind=8)&&(noneB k 7&&numB s 0 9007199254740992)&&mF r
 | []=>true
 |_=>false
theorem ft (k v:SG)(r:List SG):jt (k::v::r)=(decide (k.Kind=7)&& !decide (v.Kind=8)&&jt r):=Eq.trans rfl rfl
theorem nv (t h k s:SG)(r:List SG):mF (t::h::k::s::r)=(decide (t.Kind=7)&& !decide (h.Kind=8)&&(noneB k 7&&numB s 0 9007199254740992)&&mF r):=Eq.trans rfl rfl
theorem Fv: ∀{l:List SG},jt l=true→l.length%2=0
 | [],_=>rfl
 | [_],h=>by cases h
 |k::v::r,h=>by
  rw [ft] at h;rw [Bool.and_eq_true] at h;have:=Fv h.2;simp only [List.length_cons];omega
theorem Fu: ∀{l:List SG},mF l=true→l.length%4=0
 | [],_=>rfl
 | [_],h=>by cases h
 | [_,_],h=>by cases h
 | [_,_,_],h=>by cases h
 |t::a::k::s::r,h=>by
  rw [nv] at h;rw [Bool.and_eq_true] at h;have:=Fu h.2;simp only [List.length_cons];omega
theorem wZ {l r:List SG}{i:Nat}{v:SG}(h:l.drop i=v::r):aM l (i:Int)=some v∧l.drop (i+1)=r:=by
 have hl:i<l.length:=by
  rcases Nat.lt_or_ge i l.length with h1|h1
  ·exact h1
  rw [List.drop_eq_nil_of_le h1] at h;cases h
 rw [List.drop_eq_getElem_cons hl] at h;obtain ⟨e1,e2⟩:=List.cons.inj h;exact ⟨by rw [bf hl,e1],e2⟩
theorem Fz (N:Nat)(l:List SG)(hl:l.length≤1000): ∀(m i:Nat),l.length<m+i→i≤l.length→(l.length - i)%2=0→fg N 2 l m (i:Int)=some (jt (l.drop i))
 |0,i,h,h2,_=>by omega
 | m+1,i,h,h2,h3=>by
  rw [fg.eq_2]
  match hd:l.drop i with
  | []=>
   have hi:l.length≤i:=by have:=congrArg List.length hd;rw [List.length_drop] at this;simp at this;omega
   rw [cQ W,cf];rfl
  | [x]=>have:=congrArg List.length hd;rw [List.length_drop] at this;simp at this;omega
  |k::v::r=>
   have hlen:=congrArg List.length hd;rw [List.length_drop] at hlen;simp only [List.length_cons] at hlen;obtain ⟨g1,d1⟩:=wZ hd;obtain ⟨g2,d2⟩:=wZ d1;rw [show (((i+1:Nat)):Int)=(i:Int)+1 by omega] at g2;have ih:=Fz N l hl m (i+2) W W W;rw [show (((i+2:Nat)):Int)=(i:Int)+2 by omega,d2] at ih;rw [cV W,ct,g1,bs,r64 W W,g2,bs,SO (p:=(2:Int)=4) (by decide),cf,bs,cf,r64 W W,ih];simp only [ft];cases decide (k.Kind=7)<;>cases decide (v.Kind=8)<;>rfl
theorem Fw (N:Nat)(l:List SG)(hl:l.length≤1000): ∀(m i:Nat),l.length<m+i→i≤l.length→(l.length - i)%4=0→fg N 4 l m (i:Int)=some (mF (l.drop i))
 |0,i,h,h2,_=>by omega
 | m+1,i,h,h2,h3=>by
  rw [fg.eq_2]
  match hd:l.drop i with
  | []=>
   have hi:l.length≤i:=by have:=congrArg List.length hd;rw [List.length_drop] at this;simp at this;omega
   rw [cQ W,cf];rfl
  | [x]=>have:=congrArg List.length hd;rw [List.length_drop] at this;simp at this;omega
  | [x,y]=>have:=congrArg List.length hd;rw [List.length_drop] at this;simp at this;omega
  | [x,y,z]=>have:=congrArg List.length hd;rw [List.length_drop] at this;simp at this;omega
  |t::v::k::s::r=>
   have hlen:=congrArg List.length hd;rw [List.length_drop] at hlen;simp only [List.length_cons] at hlen;obtain ⟨g1,d1⟩:=wZ hd;obtain ⟨g2,d2⟩:=wZ d1;obtain ⟨g3,d3⟩:=wZ d2;obtain ⟨g4,d4⟩:=wZ d3;rw [show (((i+1:Nat)):Int)=(i:Int)+1 by omega] at g2;rw [show (((i+1+1:Nat)):Int)=(i:Int)+2 by omega] at g3;rw [show (((i+1+1+1:Nat)):Int)=(i:Int)+3 by omega] at g4;have ih:=Fw N l hl m (i+4) W W W;rw [show (((i+4:Nat)):Int)=(i:Int)+4 by omega,d4] at ih;rw [cV W,ct,g1,bs,r64 W W,g2,bs,SN (p:=(4:Int)=4) rfl,ct,r64 W W,g3,bs,tx,bs,r64 W W,g4,bs,vK,bs,r64 W W,ih];simp only [nv];cases decide (t.Kind=7)<;>cases decide (v.Kind=8)<;>cases noneB k 7<;>cases numB s 0 9007199254740992<;>rfl
theorem MQ (N:Nat)(hN:2000<N)(l:List SG)(hl:l.length≤1000):di N l 2=some (jt l):=by
 unfold di;rw [kD (by decide)]
 have e:(l.length:Int).tmod 2=((l.length%2:Nat):Int):=by rw [Int.tmod_eq_emod_of_nonneg W];omega
 rw [e];by_cases h:l.length%2=0
 ·rw [h,SN (p:=((0:Nat):Int)=0) rfl,nt,cf];exact Fz N l hl N 0 W W W
 rw [SO W,nf,ct]
 cases hb:jt l with
 |false=>rfl
 |true=>exact absurd (Fv hb) h
theorem MP (N:Nat)(hN:2000<N)(l:List SG)(hl:l.length≤1000):di N l 4=some (mF l):=by
 unfold di;rw [kD (by decide)]
 have e:(l.length:Int).tmod 4=((l.length%4:Nat):Int):=by rw [Int.tmod_eq_emod_of_nonneg W];omega
 rw [e];by_cases h:l.length%4=0
 ·rw [h,SN (p:=((0:Nat):Int)=0) rfl,nt,cf];exact Fw N l hl N 0 W W W
 rw [SO W,nf,ct]
 cases hb:mF l with
 |false=>rfl
 |true=>exact absurd (Fu hb) h
def qm (k:Int)(l:List SG):Bool:=
 bif decide (k=2) then decide (l.length≤4096)
 else bif decide (k=1)||decide (k=5) then decide (l.length=0)
 else bif decide (k=3) then decide (l.length=3)&&numB (qh l 0) 0 9007199254740992&&noneB (qh l 1) 9
 else bif decide (k=4) then decide (1≤l.length)&&decide (l.length≤4097)&&noneB (qh l 0) 9
 else bif decide (k=6) then decide (l.length=2)&&numB (qh l 0) 0 3&&noneB (qh l 1) 9
 else bif decide (k=7) then decide (4≤l.length)&&numB (qh l 2) 0 1&&numB (qh l 3) 0 9007199254740992
 else bif decide (k=8) then jt l
 else bif decide (k=10) then decide (1≤l.length)&&decide ((qh l 0).Kind=7)&&mF (l.drop 1)
 else bif decide (k=9) then decide (2≤l.length)&&numB (qh l 0) 0 2
 else true
theorem KW (N:Nat)(hN:2000<N)(c:SD)(hc:c.More.length≤1000):jk N c=some (qm c.Kind c.More):=by
 have h6: ∀p:Bool,p=(decide (c.Kind=1)||decide (c.Kind=5))→c.Kind≠2→iU N c p=some (qm c.Kind c.More):=by
  intro p hp h2;subst hp;unfold iU qm;rw [gG h2,cf];rcases Bool.eq_false_or_eq_true (decide (c.Kind=1)||decide (c.Kind=5)) with h15|h15
  ·rw [h15,ct,ct,eR (p:=(c.More.length:Int)=0) (q:=c.More.length=0) W]
  rw [h15,cf,cf];by_cases k3:c.Kind=3
  ·rw [oJ k3,ct,ct,eR (p:=(c.More.length:Int)=3) (q:=c.More.length=3) W];by_cases h:c.More.length=3
   ·have g0:aM c.More 0=some (qh c.More 0):=kJ (i:=0) W;have g1:aM c.More 1=some (qh c.More 1):=kJ (i:=1) W;rw [SN h,g0,g1];simp only [bs,vK,tx];cases numB (qh c.More 0) 0 9007199254740992<;>cases noneB (qh c.More 1) 9<;>rfl
   rw [SO h];rfl
  rw [gG k3,cf,cf];by_cases k4:c.Kind=4
  ·rw [oJ k4,ct,ct,eR (p:=(1:Int)≤(c.More.length:Int)) (q:=1≤c.More.length) W,eR (p:=(c.More.length:Int)≤4097) (q:=c.More.length≤4097) W];by_cases h:1≤c.More.length
   ·have g0:aM c.More 0=some (qh c.More 0):=kJ (i:=0) W;rw [SN h,g0];simp only [bs,tx];cases decide (c.More.length≤4097)<;>cases noneB (qh c.More 0) 9<;>rfl
   rw [SO h];rfl
  rw [gG k4,cf,cf];by_cases k6:c.Kind=6
  ·rw [oJ k6,ct,ct,eR (p:=(c.More.length:Int)=2) (q:=c.More.length=2) W];by_cases h:c.More.length=2
   ·have g0:aM c.More 0=some (qh c.More 0):=kJ (i:=0) W;have g1:aM c.More 1=some (qh c.More 1):=kJ (i:=1) W;rw [SN h,g0,g1];simp only [bs,vK,tx];cases numB (qh c.More 0) 0 3<;>cases noneB (qh c.More 1) 9<;>rfl
   rw [SO h];rfl
  rw [gG k6,cf,cf];by_cases k7:c.Kind=7
  ·rw [oJ k7,ct,ct,eR (p:=(4:Int)≤(c.More.length:Int)) (q:=4≤c.More.length) W];by_cases h:4≤c.More.length
   ·have g2:aM c.More 2=some (qh c.More 2):=kJ (i:=2) W;have g3:aM c.More 3=some (qh c.More 3):=kJ (i:=3) W;rw [SN h,g2,g3];simp only [bs,vK];cases numB (qh c.More 2) 0 1<;>cases numB (qh c.More 3) 0 9007199254740992<;>rfl
   rw [SO h];rfl
  rw [gG k7,cf,cf];by_cases k8:c.Kind=8
  ·rw [oJ k8,ct,ct,MQ N hN _ hc,bs]
  rw [gG k8,cf,cf];by_cases k10:c.Kind=10
  ·rw [oJ k10,ct,ct,eR (p:=(1:Int)≤(c.More.length:Int)) (q:=1≤c.More.length) W];by_cases h:1≤c.More.length
   ·have g0:aM c.More 0=some (qh c.More 0):=kJ (i:=0) W;have hd:((c.More.drop ((1:Int).toNat)).take (c.More.length - (1:Int).toNat))=c.More.drop 1:=List.take_of_length_le (by rw [List.length_drop];exact Nat.le_refl _);rw [SN h,g0,hd,kD ⟨by omega,by show 1≤_;omega,Nat.le_refl _⟩,MP N hN _ (by rw [List.length_drop];omega)];simp only [bs];cases decide ((qh c.More 0).Kind=7)<;>cases mF (c.More.drop 1)<;>rfl
   rw [SO h];rfl
  rw [gG k10,cf,cf];by_cases k9:c.Kind=9
  ·rw [oJ k9,ct,ct,eR (p:=(2:Int)≤(c.More.length:Int)) (q:=2≤c.More.length) W];by_cases h:2≤c.More.length
   ·have g0:aM c.More 0=some (qh c.More 0):=kJ (i:=0) W;rw [SN h,g0];simp only [bs,vK];cases numB (qh c.More 0) 0 2<;>rfl
   rw [SO h];rfl
  rw [gG k9,cf,cf]
 unfold jk;rw [cQ W,cf];by_cases k2:c.Kind=2
 ·rw [oJ k2,ct];unfold qm;rw [oJ k2,ct,eR (p:=(c.More.length:Int)≤4096) (q:=c.More.length≤4096) W]
 rw [gG k2,cf];by_cases k1:c.Kind=1
 ·rw [oJ k1,ct];exact h6 _ (by rw [oJ k1];rfl) k2
 rw [gG k1,cf];exact h6 _ (by rw [gG k1];rfl) k2
def cA (c:SD):Bool:=
 (!decide (c.Kind<1)&& !decide (11<c.Kind)&& !decide (c.Shape<0)&& !decide (c.Flags<0)&& !decide (63<c.Flags)&& !decide (c.Age<0)&& !decide (1<c.Age))&&(c.Slots.all mW&&(c.More.all mW&&(pO c.Kind c.Shape c.Flags c.Slots&&qm c.Kind c.More)))
theorem oO (N:Nat)(hN:2000<N)(c:SD)(hS:c.Slots.length≤1000)(hc:c.More.length≤1000):cY N c=some (cA c):=by
 have h19:dj N c=some (pO c.Kind c.Shape c.Flags c.Slots&&qm c.Kind c.More):=by
  unfold dj;rw [Ij,KW N hN c hc,bs];cases pO c.Kind c.Shape c.Flags c.Slots<;>rfl
 have h20:kQ N c N 0=some (c.More.all mW&&(pO c.Kind c.Shape c.Flags c.Slots&&qm c.Kind c.More)):=by
  rw [wK (fun k i=>kQ N c k i) c.More mW (some false) (some (pO c.Kind c.Shape c.Flags c.Slots&&qm c.Kind c.More)) (fun k i h=> ?_) (fun k=> ?_) N W]
  ·cases c.More.all mW<;>rfl
  ·rw [kQ.eq_2,cV W,ct,bf h,bs,Hv,bs,r64 W W];cases mW c.More[i]<;>rfl
  rw [kQ.eq_2,cQ W,cf,h19]
 have h12:fN N c N 0=some (c.Slots.all mW&&(c.More.all mW&&(pO c.Kind c.Shape c.Flags c.Slots&&qm c.Kind c.More))):=by
  rw [wK (fun k i=>fN N c k i) c.Slots mW (some false) (some (c.More.all mW&&(pO c.Kind c.Shape c.Flags c.Slots&&qm c.Kind c.More))) (fun k i h=> ?_) (fun k=> ?_) N W]
  ·cases c.Slots.all mW<;>rfl
  ·rw [fN.eq_2,cV W,ct,bf h,bs,Hv,bs,r64 W W];cases mW c.Slots[i]<;>rfl
  rw [fN.eq_2,cQ W,cf];unfold sR;exact h20
 unfold cY cA;rw [h12];cases decide (c.Kind<1)<;>cases decide (11<c.Kind)<;>cases decide (c.Shape<0)<;>cases decide (c.Flags<0)<;>cases decide (63<c.Flags)<;>cases decide (c.Age<0)<;>cases decide (1<c.Age)<;>rfl
theorem DS (N:Nat)(x:Int)(l:List Int)(hl:l.length≤5000): ∀(m i:Nat),l.length<m+i→i≤l.length→Sat (kz N x l m (i:Int)) fun r=>decide (0≤r)=decide (x∈l.drop i)
 |0,i,h,h2=>by omega
 | m+1,i,h,h2=>by
  rw [kz.eq_2];by_cases hi:i<l.length
  ·rw [cV W,ct,bf hi,bs,List.drop_eq_getElem_cons hi]
   refine dW (fun e=> ?_) fun e=> ?_
   ·exact aQ (by rw [SN W,SN];rw [e];exact List.mem_cons_self ..)
   rw [r64 W W];have:=DS N x l hl m (i+1) W hi;simp only [Int.natCast_add,Int.cast_ofNat_Int] at this
   refine this.mono fun r hr=> ?_
   rw [hr];have:(x∈l[i]::l.drop (i+1))↔x∈l.drop (i+1):=⟨fun h=>(List.mem_cons.1 h).resolve_left (fun e2=>e e2),List.mem_cons_of_mem _⟩;rw [decide_eq_decide];exact this.symm
  rw [cQ W,cf,List.drop_eq_nil_of_le W];exact aQ (by simp)
theorem pi (N:Nat)(hN:5000<N)(l:List Int)(hl:l.length≤5000)(x:Int):dU N l x=some (decide (x∈l)):=by
 obtain ⟨r,h1,h2⟩:=DS N x l hl N 0 W W;unfold dU qO;rw [show kz N x l N 0=some r from h1,bs,h2];rfl
theorem QI (N:Nat)(hN:5000<N)(l:List Int)(hl:l.length≤5000)(x:Int):tu N x l=some (decide (x∈l)):=by
 apply Sat.eq;unfold tu
 have key: ∀(m i:Nat),l.length<m+i→i≤l.length→Sat (wG N x l m (i:Int)) (· =decide (x∈l.drop i)):=by
  intro m
  induction m with
  |zero=>intro i h h2;omega
  | succ m ih=>
   intro i h h2;rw [wG.eq_2];by_cases hi:i<l.length
   ·rw [cV W,ct,bf hi,bs,List.drop_eq_getElem_cons hi]
    refine dW (fun e=> ?_) fun e=> ?_
    ·exact aQ (by rw [SN];rw [e];exact List.mem_cons_self ..)
    rw [r64 W W];have:=ih (i+1) W hi;simp only [Int.natCast_add,Int.cast_ofNat_Int] at this
    refine this.mono fun r hr=> ?_
    rw [hr];have:(x∈l[i]::l.drop (i+1))↔x∈l.drop (i+1):=⟨fun h=>(List.mem_cons.1 h).resolve_left (fun e2=>e e2.symm),List.mem_cons_of_mem _⟩;rw [decide_eq_decide];exact this.symm
   rw [cQ W,cf,List.drop_eq_nil_of_le W];exact aQ (by simp)
 exact key N 0 W W
theorem Q8 (N:Nat)(hN:5000<N)(l:List Int)(hl:l.length≤5000)(x:Int):zb N l x=some (decide (x∈l)):=by
 apply Sat.eq;unfold zb
 have key: ∀(m i:Nat),l.length<m+i→i≤l.length→Sat (wE N x l m (i:Int)) (· =decide (x∈l.drop i)):=by
  intro m
  induction m with
  |zero=>intro i h h2;omega
  | succ m ih=>
   intro i h h2;rw [wE.eq_2];by_cases hi:i<l.length
   ·rw [cV W,ct,bf hi,bs,List.drop_eq_getElem_cons hi]
    refine dW (fun e=> ?_) fun e=> ?_
    ·exact aQ (by rw [SN];rw [e];exact List.mem_cons_self ..)
    rw [r64 W W];have:=ih (i+1) W hi;simp only [Int.natCast_add,Int.cast_ofNat_Int] at this
    refine this.mono fun r hr=> ?_
    rw [hr];have:(x∈l[i]::l.drop (i+1))↔x∈l.drop (i+1):=⟨fun h=>(List.mem_cons.1 h).resolve_left (fun e2=>e e2.symm),List.mem_cons_of_mem _⟩;rw [decide_eq_decide];exact this.symm
   rw [cQ W,cf,List.drop_eq_nil_of_le W];exact aQ (by simp)
 exact key N 0 W W
def opens (p:Int→Bool):List SG→List Int
 |k::v::l=>(bif br v&&p k.N then [v.N] else [])++opens p l
 |_=> []
theorem fI (p:Int→Bool)(k v:SG)(l:List SG):opens p (k::v::l)=(bif br v&&p k.N then [v.N] else [])++opens p l:=rfl
theorem Fb (p:Int→Bool): ∀l:List SG,(opens p l).length≤l.length
 | []=>Nat.le_refl _
 | [_]=>Nat.zero_le _
 |k::v::l=>by
  have:=Fb p l;rw [fI,List.length_append];cases br v&&p k.N<;>simp<;>omega
theorem Fa {p:Int→Bool}{x:Int}: ∀{l:List SG},x∈opens p l→ ∃v∈l,v.N=x
 | [],h=>by cases h
 | [_],h=>by cases h
 | k::v::l,h=>by
  rw [fI,List.mem_append] at h;rcases h with h|h
  ·cases hb:br v&&p k.N
   ·rw [hb] at h;cases h
   rw [hb] at h;exact ⟨v,by simp,(List.mem_singleton.1 h).symm⟩
  obtain ⟨w,h1,h2⟩:=Fa h;exact ⟨w,by simp [h1],h2⟩
theorem Ho {p q:Int→Bool}(h: ∀x,p x=q x)(l:List SG):opens p l=opens q l:=by rw [show p=q from funext h]
theorem pF (v:SG):((bif decide (v.Kind=7) then (some true) else (some (decide (v.Kind=9)))):Option Bool)=some (br v):=by unfold br;cases decide (v.Kind=7)<;>rfl
def bS (N:Nat)(c:SD)(l:List Int):List Int:=bif ko N c then opens (fun x=>decide (x∈l)) c.More else []
theorem Dz (N:Nat)(c:SD)(l:List Int):(bS N c l).length≤c.More.length:=by
 unfold bS;cases ko N c
 ·exact Nat.zero_le _
 exact Fb _ _
theorem IB {N:Nat}{c:SD}{l:List Int}{x:Int}(h:x∈bS N c l): ∃v∈c.Slots++c.More,v.N=x:=by
 unfold bS at h;cases hw:ko N c
 ·rw [hw] at h;cases h
 rw [hw] at h;obtain ⟨v,h1,h2⟩:=Fa h;exact ⟨v,by simp [h1],h2⟩
theorem Iy (N:Nat)(hN:5000<N)(l:List Int)(hl:l.length≤5000)(k v:SG)(s:List Int)(hs:s.length≤5000):dk (fun x st=>io N l x st) (k,v) (none,s)=some (true,(none,s++(bif br v&&decide (k.N∈l) then [v.N] else []))):=by
 unfold dk io;simp only [pF,bs,pi N hN l hl];cases br v
 ·simp only [cf,bs,Bool.false_and,List.append_nil];rfl
 simp only [ct,bs,Bool.true_and];cases decide (k.N∈l)
 ·simp only [cf,List.append_nil];rfl
 simp only [ct];rw [rF (by simp;omega)];rfl
theorem z6 (N:Nat)(hN:5000<N)(l:List Int)(hl:l.length≤5000)(c:SD)(hc:c.More.length≤1000)(he:c.More.length%2=0): ∀(m i:Nat) (s:List Int),c.More.length<m+i→i≤c.More.length→i%2=0→s.length≤i→eE N (dk (fun x st=>io N l x st)) c m (i:Int) (none,s)=some (none,s++opens (fun x=>decide (x∈l)) (c.More.drop i))
 |0,i,s,h,h2,_,_=>by omega
 | m+1,i,s,h,h2,h3,h4=>by
  rw [eE.eq_2,r64 (a:=(i:Int)+1) W W];by_cases hi:i<c.More.length
  ·have hi1:i+1<c.More.length:=by omega
   have hl1:aM c.More ((i:Int)+1)=some c.More[i+1]:=by
    have:=bf hi1;simpa using this
   rw [cV W,ct,bf hi,bs,r64 (a:=(i:Int)+1) W W,hl1,bs,Iy N hN l hl _ _ s W,bs];simp only [nt,cf];rw [r64 W W]
   have hlen:(s++(bif br c.More[i+1]&&decide (c.More[i].N∈l) then [c.More[i+1].N] else [])).length≤i+2:=by
    cases br c.More[i+1]&&decide (c.More[i].N∈l)<;>simp<;>omega
   have:=z6 N hN l hl c hc he m (i+2) _ W W W hlen;simp only [Int.natCast_add,Int.cast_ofNat_Int] at this;rw [this,List.drop_eq_getElem_cons hi,List.drop_eq_getElem_cons hi1,fI,SQ]
  rw [cQ W,cf,List.drop_eq_nil_of_le W];simp [opens]
theorem Dx (N:Nat)(hN:5000<N)(l:List Int)(hl:l.length≤5000)(c:SD)(hS:c.Slots.length≤1000)(hc:c.More.length≤1000):nM N c l=some (bS N c l):=by
 obtain ⟨-,h1,h2⟩:=Gs N W c hS hc;unfold nM bS iM;rw [h1,bs];cases hw:ko N c
 ·rfl
 have e:lz N c=some ():=rfl;have:=z6 N hN l hl c hc (h2 hw) N 0 [] W W rfl (by simp);simp only [nt,cf,ct,e,bs];have h3:eE N (dk (fun x st=>io N l x st)) c N 0 (none,[])=some (none,[]++opens (fun x=>decide (x∈l)) (c.More.drop 0)):=this;rw [h3,bs];rfl
theorem KN (N:Nat)(hN:5000<N)(l:List Int)(hl:l.length≤5000)(c:SD)(hS:c.Slots.length≤1000)(hc:c.More.length≤1000):sc N c l=some (bS N c l):=by
 obtain ⟨h1, -,h2⟩:=Gs N W c hS hc;unfold sc bS;cases hw:ko N c
 ·obtain ⟨n,rfl⟩: ∃n,N=n+1:=⟨N - 1,by omega⟩;rw [mi.eq_2,h1,bs,hw];simp only [cf,bs];rfl
 have he:=h2 hw
 have key: ∀(m i:Nat) (s:List Int),c.More.length<m+i→i≤c.More.length→i%2=0→s.length≤i→mi N l c m s (i:Int)=some (s++opens (fun x=>decide (x∈l)) (c.More.drop i)):=by
  intro m
  induction m with
  |zero=>intro i s h h2;omega
  | succ m ih=>
   intro i s h h2 h3 h4;rw [mi.eq_2,h1,bs,hw,ct,bs];by_cases hi:i<c.More.length
   ·have hi1:i+1<c.More.length:=by omega
    have hl1:aM c.More ((i:Int)+1)=some c.More[i+1]:=by
     have:=bf hi1;simpa using this
    rw [cV W,ct,r64 (a:=(i:Int)+1) W W,hl1,bs,bf hi,bs,QI N hN l hl,bs];simp only [pF,bs]
    have hlen:(s++(bif br c.More[i+1]&&decide (c.More[i].N∈l) then [c.More[i+1].N] else [])).length≤i+2:=by
     cases br c.More[i+1]&&decide (c.More[i].N∈l)<;>simp<;>omega
    have:=ih (i+2) _ W W W hlen;simp only [Int.natCast_add,Int.cast_ofNat_Int] at this;rw [List.drop_eq_getElem_cons hi,List.drop_eq_getElem_cons hi1,fI, ←SQ, ←this];unfold o9;rw [r64 (a:=(i:Int)+2) W W,r64 (a:=(i:Int)+2) W W];cases decide (c.More[i].N∈l)
    ·simp only [cf,bs,Bool.and_false,List.append_nil]
    cases br c.More[i+1]
    ·simp only [ct,cf,bs,Bool.and_true,List.append_nil]
    simp only [ct,bs,Bool.and_true];rw [rF (by simp;omega)]
   rw [cQ W,cf,List.drop_eq_nil_of_le W];simp [opens,t8]
 have:=key N 0 [] W W rfl (by simp);simpa using this
theorem zo: ∀(b:Nat) {l:List Int},l.Nodup→(∀x∈l,1≤x∧x≤(b:Int))→l.length≤b
 |0,l,_,h=>by
  cases l with
  |nil=>exact Nat.le_refl _
  |cons x l=>have:=h x (by simp);omega
 | b+1,l,hn,h=>by
  have h1:=zo b (hn.erase ((b:Int)+1)) fun x hx=>by
   obtain ⟨h2,h3⟩:=hn.mem_erase_iff.1 hx;have:=h x h3;omega
  have h2:=List.length_erase (a:=(b:Int)+1) (l:=l);split at h2<;>omega
theorem PZ (kv:List (Int×Unit))(a:Int):(lk kv a).isSome=decide (a∈kv.map (·.1)):=by
 unfold lk;rw [Bool.eq_iff_iff];simp [List.find?_isSome,List.mem_map]
def W64 (m:SB):Prop:= ∀c∈m.Young++m.Old, ∀v∈c.Slots++c.More,in64 v.N
theorem W64.at_ {m:SB}(h:W64 m)(a:Int): ∀v∈(be m a).Slots++(be m a).More,in64 v.N:=by
 unfold be
 cases hc:fK m a with
 |none=>intro v hv;simp [CI] at hv
 |some c=>exact h c (rJ hc)
structure Tr (m:SB) (all:List Int) (met:List (Int×Unit)):Prop where
 nd:all.Nodup
 mem: ∀x,x∈met.map (·.1)↔x∈all
 has: ∀x∈all,aZ m x=true
theorem Tr.len {m:SB}{roots:List SG}(hs:Small m roots){all:List Int}{met:List (Int×Unit)}(h:Tr m all met):all.length≤1200:=zo 1200 h.nd fun x hx=>⟨by have:=rq (h.has x hx);omega,by have:=wP hs (h.has x hx);omega⟩
theorem Tr.in64 {m:SB}{roots:List SG}(hs:Small m roots){all:List Int}{met:List (Int×Unit)}(h:Tr m all met){x:Int}(hx:x∈all):in64 x:=by
 have h1:=rq (h.has x hx);have h2:=wP hs (h.has x hx);unfold Go.Proofs.YtmimkglhbmcokaaGreat.in64;omega
theorem Tr.add {m:SB}{all:List Int}{met:List (Int×Unit)}(h:Tr m all met){x:Int}(hx:x∉all)(hh:aZ m x=true):Tr m (all++ [x]) (uV met x ()):=⟨List.nodup_append.2 ⟨h.nd,by simp,fun a ha b hb e=>by rw [List.mem_singleton] at hb;subst hb;subst e;exact hx ha⟩,fun y=>by
 rw [N0,List.mem_append,List.mem_singleton,h.mem y];exact Or.comm,fun y hy=>by
 rcases List.mem_append.1 hy with hy|hy
 ·exact h.has y hy
 ·rw [List.mem_singleton] at hy;subst hy;exact hh⟩
def R3 (m:SB)(all:List Int)(k:Nat):Prop:= ∀(i:Nat) (a x:Int),i<k→all[i]? =some a→x∈bD (be m a)→aZ m x=true→x∈all
theorem Hz {m:SB}{roots:List SG}(hs:Small m roots)(hw:W64 m)(a:Int):(bD (be m a)).length≤2000∧ ∀x∈bD (be m a),in64 x:=by
 have h1:=hs.at_ a;have h2:=km (be m a);refine ⟨by omega,fun x hx=> ?_⟩;obtain ⟨v,h3,rfl⟩:=DP hx;exact hw.at_ a v h3
structure Gr where
 has:Int→Bool
 leads:Int→List Int
 opens:List Int→Int→List Int
def dv (has:Int→Bool):List Int→List Int→List Int
 |row,[]=>row
 |row,x::l=>dv has (bif has x&& !decide (x∈row) then row++ [x] else row) l
inductive Thr (g:Gr):List Int→Nat→List Int→Prop
 |done {row:List Int} {k:Nat}:row.length≤k→Thr g row k row
 |step {row:List Int} {k:Nat} {a:Int} {r:List Int}:row[k]? =some a→Thr g (dv g.has row (g.leads a)) (k+1) r→Thr g row k r
def lj (g:Gr):List Int→List Int→List Int
 |row,[]=>row
 |row,a::avs=>lj g (dv g.has row (g.opens row a)) avs
inductive Ord (g:Gr):List Int→List Int→Prop
 |done {row:List Int}:lj g row row=row→Ord g row row
 |step {row r1 r:List Int}:lj g row row≠row→Thr g (lj g row row) row.length r1→Ord g r1 r→Ord g row r
structure IsOrder (g:Gr) (roots:List Int) (b l:List Int):Prop where
 strong:Thr g (dv g.has [] roots) 0 b
 all:Ord g b l
theorem ir (has:Int→Bool): ∀(row l:List Int), ∃t,dv has row l=row++t∧(∀x∈t,has x=true∧x∈l)
 |row,[]=>⟨[],by simp [dv],by simp⟩
 | row,x::l=>by
  unfold dv
  cases h:has x&& !decide (x∈row) with
  |false=>
   obtain ⟨t,h1,h2⟩:=ir has row l;exact ⟨t,h1,fun y hy=>⟨(h2 y hy).1,by simp [(h2 y hy).2]⟩⟩
  |true=>
   obtain ⟨t,h1,h2⟩:=ir has (row++ [x]) l;refine ⟨x::t,by rw [cond_true,h1];simp,fun y hy=> ?_⟩;rw [Bool.and_eq_true] at h;rcases List.mem_cons.1 hy with e|hy
   ·subst e;exact ⟨h.1,by simp⟩
   exact ⟨(h2 y hy).1,by simp [(h2 y hy).2]⟩
theorem rm (has:Int→Bool): ∀(row l l':List Int),dv has row (l++l')=dv has (dv has row l) l'
 |_,[],_=>rfl
 |row,x::l,l'=>by
  show dv has _ (l++l')=_;rw [rm has _ l l'];rfl
theorem oV {has:Int→Bool}: ∀{row:List Int} (l:List Int),row.Nodup→(dv has row l).Nodup
 |_,[],h=>h
 | row,x::l,h=>by
  unfold dv
  cases h2:has x&& !decide (x∈row) with
  |false=>exact oV l h
  |true=>
   rw [Bool.and_eq_true] at h2
   have hx:x∉row:=by simpa using h2.2
   exact oV l (List.nodup_append.2 ⟨h,by simp,fun a ha b hb e=>by rw [List.mem_singleton] at hb;subst hb;subst e;exact hx ha⟩)
theorem tH {has:Int→Bool}: ∀(row l:List Int) {x:Int},x∈l→has x=true→x∈dv has row l
 | row,y::l,x,h,hx=>by
  unfold dv;rcases List.mem_cons.1 h with e|h
  ·subst e;obtain ⟨t,h1, -⟩:=ir has (bif has x&& !decide (x∈row) then row++ [x] else row) l;rw [h1];refine SR _ ?_;rw [hx,Bool.true_and];by_cases hm:x∈row<;>simp [hm]
  exact tH _ l h hx
theorem zB {has:Int→Bool}{row l:List Int}{x:Int}(h:x∈dv has row l):x∈row∨(has x=true∧x∈l):=by
 obtain ⟨t,h1,h2⟩:=ir has row l;rw [h1] at h;rcases List.mem_append.1 h with h|h
 ·exact .inl h
 exact .inr (h2 x h)
theorem qE (g:Gr): ∀(row avs:List Int), ∃t,lj g row avs=row++t
 |row,[]=>⟨[],by simp [lj]⟩
 |row,a::avs=>by
  obtain ⟨t,h1, -⟩:=ir g.has row (g.opens row a);obtain ⟨t2,h2⟩:=qE g (dv g.has row (g.opens row a)) avs;exact ⟨t++t2,by unfold lj;rw [h2,h1,SQ]⟩
theorem AM (g:Gr): ∀(row avs bs:List Int),lj g row (avs++bs)=lj g (lj g row avs) bs
 |_,[],_=>rfl
 |row,a::avs,bs=>by
  show lj g _ (avs++bs)=_;rw [AM g _ avs bs];rfl
theorem BB {g:Gr}: ∀{row:List Int} (avs:List Int),row.Nodup→(lj g row avs).Nodup
 |_,[],h=>h
 |_,_::avs,h=>BB avs (oV _ h)
theorem E5 {g:Gr}: ∀{row:List Int} (avs:List Int),(∀x∈row,g.has x=true)→ ∀x∈lj g row avs,g.has x=true
 |_,[],h=>h
 |_,_::avs,h=>E5 avs fun x hx=>(zB hx).elim (h x) (·.1)
theorem Thr.app {g:Gr}{row r:List Int}{k:Nat}(h:Thr g row k r): ∃t,r=row++t:=by
 induction h with
 |done _=>exact ⟨[],by simp⟩
 |step _ _ ih=>
  rename_i row _ a _ _ _
  obtain ⟨t,rfl⟩:=ih;obtain ⟨t2,h1, -⟩:=ir g.has row (g.leads a);exact ⟨t2++t,by rw [h1,SQ]⟩
theorem Thr.nodup {g:Gr}{row r:List Int}{k:Nat}(h:Thr g row k r)(hn:row.Nodup):r.Nodup:=by
 induction h with
 |done _=>exact hn
 |step _ _ ih=>exact ih (oV _ hn)
theorem Thr.has {g:Gr}{row r:List Int}{k:Nat}(h:Thr g row k r)(hn: ∀x∈row,g.has x=true): ∀x∈r,g.has x=true:=by
 induction h with
 |done _=>exact hn
 |step _ _ ih=>exact ih fun x hx=>(zB hx).elim (hn x) (·.1)
theorem Thr.det {g:Gr}{row r r':List Int}{k:Nat}(h:Thr g row k r)(h':Thr g row k r'):r=r':=by
 induction h with
 |done hk=>
  cases h' with
  |done _=>rfl
  |step ha _=>rw [List.getElem?_eq_none hk] at ha;cases ha
 |step ha _ ih=>
  cases h' with
  |done hk=>rw [List.getElem?_eq_none hk] at ha;cases ha
  |step ha' h2=>rw [ha] at ha';cases ha';exact ih h2
theorem Ord.det {g:Gr}{row r r':List Int}(h:Ord g row r)(h':Ord g row r'):r=r':=by
 induction h with
 |done hk=>
  cases h' with
  |done _=>rfl
  |step ha _ _=>exact absurd hk ha
 |step ha h1 _ ih=>
  cases h' with
  |done hk=>exact absurd hk ha
  |step _ h1' h2=>exact ih (h1.det h1'▸h2)
theorem IsOrder.det {g:Gr}{roots b l b' l':List Int}(h:IsOrder g roots b l)(h':IsOrder g roots b' l'):b=b'∧l=l':=by
 obtain ⟨h1,h2⟩:=h;obtain ⟨h3,h4⟩:=h';have e:=h1.det h3;subst e;exact ⟨U,h2.det h4⟩
theorem Ord.app {g:Gr}{row r:List Int}(h:Ord g row r): ∃t,r=row++t:=by
 induction h with
 |done _=>exact ⟨[],by simp⟩
 |step _ h1 _ ih=>
  rename_i row r1 _ _ _
  obtain ⟨t,rfl⟩:=ih;obtain ⟨t1,rfl⟩:=h1.app;obtain ⟨t2,h2⟩:=qE g row row;exact ⟨t2++t1++t,by rw [h2];simp [SQ]⟩
theorem Ord.nodup {g:Gr}{row r:List Int}(h:Ord g row r)(hn:row.Nodup):r.Nodup:=by
 induction h with
 |done _=>exact hn
 |step _ h1 _ ih=>exact ih (h1.nodup (BB _ hn))
theorem Ord.has {g:Gr}{row r:List Int}(h:Ord g row r)(hn: ∀x∈row,g.has x=true): ∀x∈r,g.has x=true:=by
 induction h with
 |done _=>exact hn
 |step _ h1 _ ih=>exact ih (h1.has (E5 _ hn))
theorem IsOrder.nodup {g:Gr}{roots b l:List Int}(h:IsOrder g roots b l):b.Nodup∧l.Nodup:=
 have hb:=h.strong.nodup (oV _ List.nodup_nil)
 ⟨hb,h.all.nodup hb⟩
theorem IsOrder.has {g:Gr}{roots b l:List Int}(h:IsOrder g roots b l):(∀x∈b,g.has x=true)∧ ∀x∈l,g.has x=true:=
 have hb:=h.strong.has fun x hx=>(zB hx).elim (fun h=>by cases h) (·.1)
 ⟨hb,h.all.has hb⟩
theorem IsOrder.sub {g:Gr}{roots b l:List Int}(h:IsOrder g roots b l){x:Int}(hx:x∈b):x∈l:=by
 obtain ⟨t,e⟩:=h.all.app;rw [e];exact SR _ hx
theorem IsOrder.roots {g:Gr}{roots b l:List Int}(h:IsOrder g roots b l){x:Int}(hx:x∈roots)(hh:g.has x=true):x∈b:=by
 obtain ⟨t,e⟩:=h.strong.app;rw [e];exact SR _ (tH _ _ hx hh)
def CloG (g:Gr)(row:List Int)(k:Nat):Prop:= ∀(i:Nat) (a x:Int),i<k→row[i]? =some a→x∈g.leads a→g.has x=true→x∈row
theorem CloG.app {g:Gr}{row t:List Int}{k:Nat}(hk:k≤row.length)(h:CloG g row k):CloG g (row++t) k:=fun i a x hi ha hx hh=>by
 rw [List.getElem?_append_left W] at ha;exact SR _ (h i a x hi ha hx hh)
theorem Thr.clo {g:Gr}{row r:List Int}{k:Nat}(h:Thr g row k r)(hk:k≤row.length)(hc:CloG g row k):CloG g r r.length:=by
 induction h with
 |done hk2=>intro i a x hi ha hx hh;exact hc i a x W ha hx hh
 | step ha _ ih=>
  rename_i row k a _ _
  have hlt:=(List.getElem?_eq_some_iff.1 ha).1;obtain ⟨t,h1, -⟩:=ir g.has row (g.leads a)
  refine ih (by rw [h1,List.length_append];omega) fun i b x hi hb hx hh=> ?_
  by_cases e:i=k
  ·subst e;rw [h1,List.getElem?_append_left hlt,ha] at hb;cases hb;exact tH _ _ hx hh
  rw [h1] at hb⊢;exact (CloG.app hk hc (t:=t)) i b x W hb hx hh
theorem E6 {g:Gr}: ∀{row avs:List Int},lj g row avs=row→ ∀a∈avs, ∀x∈g.opens row a,g.has x=true→x∈row
 | row,b::avs,h,a,ha,x,hx,hh=>by
  have h1:dv g.has row (g.opens row b)=row:=by
   obtain ⟨t,e1, -⟩:=ir g.has row (g.opens row b);obtain ⟨t2,e2⟩:=qE g (dv g.has row (g.opens row b)) avs
   have h3:row++t++t2=row:=by rw [←e1, ←e2];exact h
   have h4:=congrArg List.length h3;simp only [List.length_append] at h4;have h5:t=[]:=List.eq_nil_of_length_eq_zero W;rw [e1,h5,List.append_nil]
  rcases List.mem_cons.1 ha with e|ha
  ·subst e;have:=tH row _ hx hh;rwa [h1] at this
  refine E6 (avs:=avs) ?_ a ha x hx hh;unfold lj at h;rw [h1] at h;exact h
theorem Ord.closed {g:Gr}{row r:List Int}(h:Ord g row r)(hc:CloG g row row.length):CloG g r r.length∧ ∀a∈r, ∀x∈g.opens r a,g.has x=true→x∈r:=by
 induction h with
 |done hp=>exact ⟨hc,E6 hp⟩
 |step _ h1 _ ih=>
  rename_i row _ _ _ _
  obtain ⟨t,e⟩:=qE g row row;refine ih (h1.clo (by rw [e,List.length_append];omega) ?_);rw [e];exact hc.app (Nat.le_refl _)
theorem IsOrder.closed {g:Gr}{roots b l:List Int}(h:IsOrder g roots b l):(∀a∈l, ∀x∈g.leads a,g.has x=true→x∈l)∧ ∀a∈l, ∀x∈g.opens l a,g.has x=true→x∈l:=by
 obtain ⟨h1,h2⟩:=h.all.closed (h.strong.clo (Nat.zero_le _) fun i _ _ hi=>absurd hi W);refine ⟨fun a ha x hx hh=> ?_,h2⟩;obtain ⟨i,hi,e⟩:=List.getElem_of_mem ha;exact h1 i a x hi (by rw [List.getElem?_eq_getElem hi,e]) hx hh
structure ClosedS (g:Gr) (S:Int→Prop):Prop where
 leads: ∀a,S a→ ∀x∈g.leads a,g.has x=true→S x
 opens: ∀row:List Int,(∀x∈row,S x)→ ∀a,S a→ ∀x∈g.opens row a,g.has x=true→S x
def Am (N:Nat)(m:SB):Gr:=⟨aZ m,fun a=>bD (be m a),fun row a=>bS N (be m a) row⟩
def bW (l:List SG):List Int:=(l.filter br).map (·.N)
theorem xa (l l':List SG):bW (l++l')=bW l++bW l':=by unfold bW;simp
theorem eo {l:List SG}{x:Int}:x∈bW l↔ ∃v∈l,br v=true∧v.N=x:=by
 unfold bW;simp only [List.mem_map,List.mem_filter];constructor
 ·rintro ⟨v,⟨h1,h2⟩,h3⟩;exact ⟨v,h1,h2,h3⟩
 rintro ⟨v,h1,h2,h3⟩;exact ⟨v,⟨h1,h2⟩,h3⟩
theorem Gn (N:Nat){m:SB}{roots:List SG}(hN:5000<N)(hs:Small m roots)(d:Int)(l:List Int)(hl:l.length≤2000)(h64: ∀x∈l,in64 x){all:List Int}{met:List (Int×Unit)}(ht:Tr m all met):
  Sat (ey N ⟨m,all,met,d⟩ l) fun r=>r.m_=m∧r.done_=d∧Tr m r.all_ r.met_∧r.all_=dv (aZ m) all l:=by
 unfold ey;refine cR (fun k i (s:List Int×List (Int×Unit))=>dt N l ⟨m,all,met,d⟩ k (i:Int) s.1 s.2) l.length (fun i s=>Tr m s.1 s.2∧s.1=dv (aZ m) all (l.take i)) _ ?_ ?_ N 0 (all,met) W W ⟨ht,U⟩
 ·rintro k i ⟨al,mt⟩ hi ⟨h1,h2⟩ go;show Sat (dt N l ⟨m,all,met,d⟩ (k+1) i al mt) _;simp only at h1 h2;have hx64:=h64 l[i] (List.getElem_mem _)
  have hnext:dv (aZ m) all (l.take (i+1))=(bif aZ m l[i]&& !decide (l[i]∈al) then al++ [l[i]] else al):=by
   rw [bi hi,rm, ←h2];rfl
  rw [dt.eq_2,cV W,ct,bf hi,bs,PZ];unfold iQ;rw [r64 (a:=(i:Int)+1) W W,r64 (a:=(i:Int)+1) W W];by_cases hm:l[i]∈al
  ·rw [SN ((h1.mem _).2 hm)];simp only [nt,cf,bs];exact go (al,mt) ⟨h1,by rw [hnext,SN hm];simp⟩
  rw [SO (fun h=>hm ((h1.mem _).1 h))];simp only [nf,ct,bs,tK N m _ hx64];cases hh:aZ m l[i]
  ·simp only [cf];exact go (al,mt) ⟨h1,by rw [hnext,hh];rfl⟩
  simp only [ct];have hlen:=h1.len hs;rw [rF (by simp;omega)];exact go (al++ [l[i]],uV mt l[i] ()) ⟨h1.add hm hh,by rw [hnext,hh,SO hm];rfl⟩
 rintro k ⟨al,mt⟩ ⟨h1,h2⟩;show Sat (dt N l ⟨m,all,met,d⟩ (k+1) _ al mt) _;rw [dt.eq_2,cQ W,cf];exact aQ ⟨U,U,h1,by simpa using h2⟩
theorem Bn (N:Nat)(hN:5000<N){m:SB}{roots:List SG}(hs:Small m roots)(hw:W64 m){all:List Int}{met:List (Int×Unit)}(ht:Tr m all met)(k:Nat)(hk:k≤all.length):
  Sat (gA N ⟨m,all,met,(k:Int)⟩) fun r=>r.m_=m∧r.done_=(r.all_.length:Int)∧Tr m r.all_ r.met_∧Thr (Am N m) all k r.all_:=by
 unfold gA;refine ou (fun f (s:List Int×List (Int×Unit)×Nat)=>fV N f m.Young m.Old s.1 s.2.1 (s.2.2:Int)) (fun s=>1300 - s.2.2) (fun s=>Tr m s.1 s.2.1∧s.2.2≤s.1.length∧ ∀r,Thr (Am N m) s.1 s.2.2 r→Thr (Am N m) all k r) _ ?_ N (all,met,k) (by show 1300 - k<N;omega) ⟨ht,hk,fun _ h=>h⟩;rintro f ⟨al,mt,j⟩ ⟨h1,h3,h4⟩ go;show Sat (fV N (f+1) m.Young m.Old al mt (j:Int)) _;simp only at h1 h3 h4;have hlen:=h1.len hs;rw [fV.eq_2];by_cases hj:j<al.length
 ·have hx:=List.getElem_mem hj;have hat:=GU N hs al[j] (h1.in64 hs hx);have hsm:=hs.at_ al[j];obtain ⟨hl1,hl2⟩:=Hz hs hw al[j];rw [cV W,ct,bf hj,bs];have hat':iq N ⟨m.Young,m.Old⟩ al[j]=some (be m al[j]):=hat;rw [hat',bs,nr N W _ W W,bs];refine Sat.bind (Gn N hN hs (j:Int) _ hl1 hl2 h1) ?_;rintro ⟨m',al',mt',d'⟩ ⟨e1,e2,h5,h6⟩;simp only at e1 e2 h5 h6;subst e1 e2;have hlen':=h5.len hs
  dsimp only
  rw [r64 W W]
  have hge:al.length≤al'.length:=by
   obtain ⟨t,e, -⟩:=ir (aZ m') al (bD (be m' al[j]));rw [h6,e,List.length_append];omega
  have hgo:=go (al',mt',j+1) (by show 1300 - (j+1)<1300 - j;omega) ⟨h5,by show j+1≤al'.length;omega,fun r hr=>h4 r (.step (List.getElem?_eq_getElem hj) (by rw [h6] at hr;exact hr))⟩;simpa using hgo
 have:j=al.length:=by omega
 subst this;rw [cQ W,cf];exact aQ ⟨U,U,h1,h4 _ (.done (Nat.le_refl _))⟩
theorem Lt (N:Nat)(hN:5000<N){m:SB}{roots:List SG}(hs:Small m roots)(hw:W64 m)(hr: ∀v∈roots,in64 v.N):
  Sat (kM N m roots) fun r=>r.m_=m∧r.done_=(r.all_.length:Int)∧Tr m r.all_ r.met_∧Thr (Am N m) (dv (aZ m) [] (bW roots)) 0 r.all_:=by
 have hrl:=hs.roots;unfold kM;refine cR (fun k i (s:List Int×List (Int×Unit))=>iI N roots k (i:Int) m.Young m.Old s.1 s.2 0) roots.length (fun i s=>Tr m s.1 s.2∧s.1=dv (aZ m) [] (bW (roots.take i))) _ ?_ ?_ N 0 ([],[]) W W ⟨⟨by simp,by simp,by simp⟩,U⟩
 ·rintro k i ⟨al,mt⟩ hi ⟨h1,h2⟩ go;show Sat (iI N roots (k+1) (i:Int) m.Young m.Old al mt 0) _;simp only at h1 h2;have hx64:=hr roots[i] (List.getElem_mem _)
  have ha:gt N roots[i]=some (roots[i].N,br roots[i]):=by
   unfold gt;rw [pF,bs]
  have hnext:dv (aZ m) [] (bW (roots.take (i+1)))=dv (aZ m) al (bW [roots[i]]):=by
   rw [bi hi,xa,rm, ←h2]
  rw [iI.eq_2,cV W,ct,bf hi,bs];unfold oP;rw [ha,bs];cases hb:br roots[i]
  ·simp only [cf,bs];rw [r64 W W];refine go (al,mt) ⟨h1,?_⟩;rw [hnext];simp [bW,hb,dv]
  simp only [ct];obtain ⟨⟨m',al',mt',d'⟩,e0,e1,e2,h5,h6⟩:=Gn N hN hs 0 [roots[i].N] (by simp) (by intro x hx;rw [List.mem_singleton] at hx;subst hx;exact hx64) h1;simp only at e1 e2 h5 h6;subst e1 e2;have e0':ey N ⟨⟨m'.Young,m'.Old⟩,al,mt,0⟩ [roots[i].N]=some ⟨m',al',mt',0⟩:=e0;rw [e0',bs,bs]
  dsimp only
  rw [r64 W W];refine go (al',mt') ⟨h5,?_⟩;show al'=_;rw [hnext,h6];simp [bW,hb]
 rintro k ⟨al,mt⟩ ⟨h1,h2⟩;show Sat (iI N roots (k+1) _ m.Young m.Old al mt 0) _;rw [iI.eq_2,cQ W,cf];unfold qU;refine Sat.bind (Bn N hN hs hw h1 0 (Nat.zero_le _)) ?_;rintro r ⟨e1,e2,h5,h6⟩;simp only [List.take_length] at h2;exact aQ ⟨e1,e2,h5,by rw [←h2];exact h6⟩
theorem Hm (N:Nat){m:SB}{roots:List SG}(hs:Small m roots)(hw:W64 m)(a:Int)(l:List Int):(bS N (be m a) l).length≤2000∧ ∀x∈bS N (be m a) l,in64 x:=by
 have h1:=hs.at_ a;have h2:=Dz N (be m a) l;refine ⟨by omega,fun x hx=> ?_⟩;obtain ⟨v,h3,rfl⟩:=IB hx;exact hw.at_ a v h3
theorem Mb (N:Nat)(hN:5000<N){m:SB}{roots:List SG}(hs:Small m roots)(hw:W64 m){all:List Int}{met:List (Int×Unit)}(ht:Tr m all met)(d:Int):
  Sat (jH N ⟨m,all,met,d⟩) fun r=>r.2.m_=m∧r.2.done_=d∧Tr m r.2.all_ r.2.met_∧r.1=decide ((all.length:Int)<(r.2.all_.length:Int))∧r.2.all_=lj (Am N m) all all:=by
 have hlen:=ht.len hs;unfold jH;refine cR (fun k i (s:List Int×List (Int×Unit))=>dD N ⟨m,all,met,d⟩ k (i:Int) m.Young m.Old s.1 s.2 d) all.length (fun i s=>Tr m s.1 s.2∧(∃t,s.1=all++t)∧s.1=lj (Am N m) all (all.take i)) _ ?_ ?_ N 0 (all,met) W W ⟨ht,⟨[],by simp⟩,U⟩
 ·rintro k i ⟨al,mt⟩ hi ⟨h1,⟨t,h2⟩,h3⟩ go;show Sat (dD N ⟨m,all,met,d⟩ (k+1) (i:Int) m.Young m.Old al mt d) _;simp only at h1 h2 h3;have hlen1:=h1.len hs
  have htk:List.take all.length al=all:=by rw [h2,List.take_left'];rfl
  have hx:=List.getElem_mem hi;have hsm:=hs.at_ all[i];have hat:iq N ⟨m.Young,m.Old⟩ all[i]=some (be m all[i]):=GU N hs all[i] (ht.in64 hs hx)
  have hnext:lj (Am N m) all (all.take (i+1))=dv (aZ m) al (bS N (be m all[i]) al):=by
   rw [bi hi,AM, ←h3];rfl
  rw [dD.eq_2];simp only [List.take_length];rw [cV W,ct,htk,bf hi,bs,hat,bs];unfold ki;by_cases h8:(be m all[i]).Kind=8
  ·rw [oJ h8,ct,Dx N hN al W _ W W,bs];obtain ⟨hl1,hl2⟩:=Hm N hs hw all[i] al;obtain ⟨⟨m',al',mt',d'⟩,e0,e1,e2,h5,h6⟩:=Gn N hN hs d _ hl1 hl2 h1;simp only at e1 e2 h5 h6;subst e1 e2;have e0':ey N ⟨⟨m'.Young,m'.Old⟩,al,mt,d'⟩ (bS N (be m' all[i]) al)=some ⟨m',al',mt',d'⟩:=e0;rw [e0',bs]
   dsimp only
   rw [r64 W W];obtain ⟨t',e', -⟩:=ir (aZ m') al (bS N (be m' all[i]) al);exact go (al',mt') ⟨h5,⟨t++t',by show al'=_;rw [h6,e',h2,SQ]⟩,by show al'=_;rw [hnext,h6]⟩
  rw [gG h8,cf,r64 W W];refine go (al,mt) ⟨h1,⟨t,h2⟩,?_⟩
  have h0:bS N (be m all[i]) al=[]:=by
   unfold bS ko;rw [gG h8];rfl
  show al=_;rw [hnext,h0];rfl
 rintro k ⟨al,mt⟩ ⟨h1,⟨t,h2⟩,h3⟩;show Sat (dD N ⟨m,all,met,d⟩ (k+1) _ m.Young m.Old al mt d) _;rw [dD.eq_2];simp only [List.take_length] at h3⊢;rw [cQ W,cf];exact aQ ⟨U,U,h1,U,h3⟩
theorem iJ (N:Nat)(hN:5000<N){m:SB}{roots:List SG}(hs:Small m roots)(hw:W64 m)(hr: ∀v∈roots,in64 v.N):
  ∃b all,IsOrder (Am N m) (bW roots) b.all_ all∧all.length≤1200∧b.all_.length≤1200∧kM N m roots=some b∧cw N m roots=some all:=by
 obtain ⟨⟨m',al0,mt0,d0⟩,e0,e1,e2,h1,h2⟩:=Lt N hN hs hw hr;simp only at e1 e2 h1 h2;subst e1 e2;have hlen0:=h1.len hs
 have key:Sat (cw N m' roots) fun all=>Ord (Am N m') al0 all∧all.length≤1200:=by
  unfold cw;rw [e0,bs];refine ou (fun f (s:List Int×List (Int×Unit))=>kF N f m'.Young m'.Old s.1 s.2 (s.1.length:Int)) (fun s=>1300 - s.1.length) (fun s=>Tr m' s.1 s.2∧ ∀r,Ord (Am N m') s.1 r→Ord (Am N m') al0 r) _ ?_ N (al0,mt0) (by show 1300 - al0.length<N;omega) ⟨h1,fun _ h=>h⟩;rintro f ⟨al,mt⟩ ⟨h4,h5⟩ go;show Sat (kF N (f+1) m'.Young m'.Old al mt (al.length:Int)) _;simp only at h4 h5;have hlen:=h4.len hs;rw [kF.eq_2];obtain ⟨⟨b,m2,al2,mt2,d2⟩,g0,g1,g2,g3,g5,g6⟩:=Mb N hN hs hw h4 (al.length:Int);simp only at g1 g2 g3 g5 g6;subst g1 g2;have hlen2:=g3.len hs;have g0':jH N ⟨⟨m2.Young,m2.Old⟩,al,mt,(al.length:Int)⟩=some (b,⟨m2,al2,mt2,(al.length:Int)⟩):=g0;obtain ⟨t2,ht2⟩:=qE (Am N m2) al al;rw [g0',bs]
  dsimp only
  rw [g5]
  refine dW (fun hlt=> ?_) fun hge=> ?_
  ·refine Sat.bind (Bn N hN hs hw g3 al.length W) ?_;rintro ⟨m3,al3,mt3,d3⟩ ⟨k1,k2,k3,k4⟩;simp only at k1 k2 k3 k4;subst k1 k2;have hlen3:=k3.len hs;refine go (al3,mt3) ?_ ⟨k3,fun r h=>h5 r (.step ?_ (by rw [←g6];exact k4) h)⟩
   ·show 1300 - al3.length<1300 - al.length;obtain ⟨t3,e3⟩:=k4.app
    have:al2.length≤al3.length:=by rw [e3,List.length_append];omega
    omega
   rw [←g6];intro e;rw [e] at hlt;omega
  have e:al2=al:=by
   rw [ht2] at g6;have h0:t2=[]:=List.eq_nil_of_length_eq_zero (by rw [g6,List.length_append] at hge;omega);rw [g6,h0,List.append_nil]
  subst e;unfold pS;exact aQ ⟨h5 _ (.done g6.symm),by omega⟩
 obtain ⟨all,k1,k2,k3⟩:=key;exact ⟨⟨m',al0,mt0,(al0.length:Int)⟩,all,⟨h2,k2⟩,k3,hlen0,e0,k1⟩
theorem oM (l:List Int)(x:Int):x∈jr l↔x∈l:=by unfold jr;exact List.mem_mergeSort
theorem Ay {l:List Int}(h:l.Nodup):(jr l).Pairwise (· < ·):=by
 have h1:(jr l).Pairwise fun a b=>decide (a≤b)=true:=List.pairwise_mergeSort (by intro a b c h1 h2;simp at*;omega) (by intro a b;simp;omega) l
 have h2:(jr l).Nodup:=(List.mergeSort_perm l _).nodup_iff.2 h;rw [List.nodup_iff_pairwise_ne] at h2;exact h1.imp₂ (fun a b h3 h4=>by simp at h3;omega) h2
theorem CY {l s:List Int}(h:l.Nodup)(hs:s.Pairwise (· < ·))(he: ∀x,x∈l↔x∈s):jr l=s:=Kc (Ay h) hs fun x=>(oM l x).trans (he x)
theorem Kt (N:Nat)(l:List Int)(h:l.length≤5000):mO N l=some (jr l):=by
 unfold mO;rw [rF W]
def RR (n:Int):SG:=⟨7,n,⟨#[]⟩⟩
def Rx (l:List SG):SD:=⟨11,0,0,0,[],l⟩
def RV:SB:=⟨[⟨11,0,0,0,[],[⟨7,3,⟨#[]⟩⟩,⟨7,2,⟨#[]⟩⟩]⟩,⟨11,0,0,0,[],[]⟩],[⟨11,0,0,0,[],[]⟩]⟩
def RT:SB:=⟨[⟨8,0,0,0,[⟨1,0,⟨#[]⟩⟩],[⟨7,3,⟨#[]⟩⟩,⟨7,5,⟨#[]⟩⟩]⟩,⟨11,0,0,0,[],[]⟩,⟨11,0,0,0,[],[]⟩],[]⟩
theorem Om {N:Nat}{m:SB}{roots:List SG}{l s:List Int}(h:cw N m roots=some l)(hl:l.length≤5000)(hs:jr l=s):fe N m roots=some s:=by
 unfold fe;rw [h,bs,Kt N l hl,bs,hs]
structure Tq (m:SB) (all:List Int):Prop where
 nd:all.Nodup
 has: ∀x∈all,aZ m x=true
theorem Tq.len {m:SB}{roots:List SG}(hs:Small m roots){all:List Int}(h:Tq m all):all.length≤1200:=zo 1200 h.nd fun x hx=>⟨by have:=rq (h.has x hx);omega,by have:=wP hs (h.has x hx);omega⟩
theorem Tq.in64 {m:SB}{roots:List SG}(hs:Small m roots){all:List Int}(h:Tq m all){x:Int}(hx:x∈all):in64 x:=by
 have h1:=rq (h.has x hx);have h2:=wP hs (h.has x hx);unfold Go.Proofs.YtmimkglhbmcokaaGreat.in64;omega
theorem Tq.lay {m:SB}{all:List Int}(h:Tq m all)(l:List Int):Tq m (dv (aZ m) all l):=⟨oV l h.nd,fun x hx=>(zB hx).elim (h.has x) (·.1)⟩
theorem C3 (N:Nat){m:SB}{roots:List SG}(hN:5000<N)(hs:Small m roots)(l:List Int)(hl:l.length≤2000)(h64: ∀x∈l,in64 x){all:List Int}(ht:Tq m all):nz N m all l=some (dv (aZ m) all l):=by
 apply Sat.eq;unfold nz;refine cR (fun k i (s:List Int)=>lI N l m k s (i:Int)) l.length (fun i s=>Tq m s∧s=dv (aZ m) all (l.take i)) _ ?_ ?_ N 0 all W W ⟨ht,U⟩
 ·rintro k i s hi ⟨h0,h1⟩ go;show Sat (lI N l m (k+1) s (i:Int)) _;have hx64:=h64 l[i] (List.getElem_mem _);have hsl:=h0.len hs
  have hnext:dv (aZ m) all (l.take (i+1))=(bif aZ m l[i]&& !decide (l[i]∈s) then s++ [l[i]] else s):=by
   rw [bi hi,rm, ←h1];rfl
  have hT:Tq m (dv (aZ m) all (l.take (i+1))):=ht.lay _;rw [lI.eq_2,cV W,ct];simp only [bf hi,bs,Cw N m _ hx64,Q8 N hN s W l[i]];unfold sb;cases hh:aZ m l[i]
  ·simp only [cf,bs];rw [r64 W W];exact go s ⟨h0,by rw [hnext,hh];rfl⟩
  simp only [ct,bs];by_cases hm:l[i]∈s
  ·rw [SN hm];simp only [nt,cf];rw [r64 W W];exact go s ⟨h0,by rw [hnext,hh,SN hm];rfl⟩
  have e:dv (aZ m) all (l.take (i+1))=s++ [l[i]]:=by rw [hnext,hh,SO hm];rfl
  rw [SO hm];simp only [nf,ct];rw [rF (by simp;omega),r64 W W];exact go (s++ [l[i]]) ⟨e▸hT,e.symm⟩
 rintro k s ⟨h0,h1⟩;show Sat (lI N l m (k+1) s _) _;rw [lI.eq_2,cQ W,cf];exact aQ (by simpa using h1)
theorem KE (N:Nat)(hN:5000<N)(l:List SG)(hl:l.length≤2000):gu N l=some (bW l):=by
 apply Sat.eq;unfold gu;refine cR (fun k i (s:List Int)=>eM N l k s (i:Int)) l.length (fun i s=>s=bW (l.take i)) _ ?_ ?_ N 0 [] W W U
 ·rintro k i s hi h1 go;show Sat (eM N l (k+1) s (i:Int)) _
  have hsl:s.length≤2000:=by
   rw [h1];unfold bW;rw [List.length_map];exact Nat.le_trans (List.length_filter_le _ _) (by rw [List.length_take];omega)
  have hnext:bW (l.take (i+1))=s++bW [l[i]]:=by rw [bi hi,xa,h1]
  rw [eM.eq_2,cV W,ct];simp only [bf hi,bs,pF];unfold mg;cases hb:br l[i]
  ·simp only [cf];rw [r64 W W];exact go s (by rw [hnext];simp [bW,hb])
  simp only [ct];rw [rF (by simp;omega),r64 W W];exact go (s++ [l[i].N]) (by rw [hnext];simp [bW,hb])
 rintro k s h1;show Sat (eM N l (k+1) s _) _;rw [eM.eq_2,cQ W,cf];exact aQ (by simpa using h1)
theorem yH (N:Nat)(hN:5000<N){m:SB}{roots:List SG}(hs:Small m roots)(hw:W64 m){all:List Int}(ht:Tq m all)(k:Nat)(hk:k≤all.length):
  Sat (gQ N m all (k:Int)) fun r=>Tq m r∧Thr (Am N m) all k r:=by
 unfold gQ;refine ou (fun f (s:List Int×Nat)=>lH N m f s.1 (s.2:Int)) (fun s=>1300 - s.2) (fun s=>Tq m s.1∧s.2≤s.1.length∧ ∀r,Thr (Am N m) s.1 s.2 r→Thr (Am N m) all k r) _ ?_ N (all,k) (by show 1300 - k<N;omega) ⟨ht,hk,fun _ h=>h⟩;rintro f ⟨al,j⟩ ⟨h1,h3,h4⟩ go;show Sat (lH N m (f+1) al (j:Int)) _;simp only at h1 h3 h4;have hlen:=h1.len hs;rw [lH.eq_2];by_cases hj:j<al.length
 ·have hx:=List.getElem_mem hj;have hsm:=hs.at_ al[j];obtain ⟨hl1,hl2⟩:=Hz hs hw al[j];rw [cV W,ct,bf hj,bs,GT N m _ (h1.in64 hs hx),bs,K2 N W _ W W,bs,C3 N hN hs _ hl1 hl2 h1,bs,r64 W W]
  have hge:al.length≤(dv (aZ m) al (bD (be m al[j]))).length:=by
   obtain ⟨t,e, -⟩:=ir (aZ m) al (bD (be m al[j]));rw [e,List.length_append];omega
  exact go (dv (aZ m) al (bD (be m al[j])),j+1) (by show 1300 - (j+1)<1300 - j;omega) ⟨h1.lay _,by show j+1≤(dv (aZ m) al (bD (be m al[j]))).length;omega,fun r hr=>h4 r (.step (List.getElem?_eq_getElem hj) hr)⟩
 have:j=al.length:=by omega
 subst this;rw [cQ W,cf];exact aQ ⟨h1,h4 _ (.done (Nat.le_refl _))⟩
theorem C2 (N:Nat)(hN:5000<N){m:SB}{roots:List SG}(hs:Small m roots)(hw:W64 m)(hr: ∀v∈roots,in64 v.N):
  ∃b all,IsOrder (Am N m) (bW roots) b all∧iT N m roots=some all∧((gu N roots).bind fun y5=>(nz N m ([]:List Int) y5).bind fun y8=>gQ N m y8 0)=some b:=by
 have hrl:=hs.roots;have ha:=KE N hN roots W
 have h64: ∀x∈bW roots,in64 x:=fun x hx=>by
  obtain ⟨v,h1, -,rfl⟩:=eo.1 hx;exact hr v h1
 have hal:(bW roots).length≤2000:=by
  unfold bW;rw [List.length_map];exact Nat.le_trans (List.length_filter_le _ _) W
 have hT0:Tq m []:=⟨List.nodup_nil,by simp⟩;have hlay:=C3 N hN hs (bW roots) hal h64 hT0;obtain ⟨b,b0,b1,b2⟩:=yH N hN hs hw (hT0.lay (bW roots)) 0 (Nat.zero_le _);have b0':gQ N m (dv (aZ m) [] (bW roots)) 0=some b:=b0
 have key:Sat (iT N m roots) fun all=>Ord (Am N m) b all:=by
  unfold iT;rw [ha,bs,hlay,bs,b0',bs];refine ou (fun f (s:List Int)=>eY N m f s) (fun s=>1300 - s.length) (fun s=>Tq m s∧ ∀r,Ord (Am N m) s r→Ord (Am N m) b r) _ ?_ N b (by show 1300 - b.length<N;omega) ⟨b1,fun _ h=>h⟩;rintro f al ⟨h4,h5⟩ go;show Sat (eY N m (f+1) al) _;have hlen:=h4.len hs;rw [eY.eq_2];refine cR (fun k i (s:List Int)=>kN N (eY N m f) al m k s (i:Int)) al.length (fun i s=>Tq m s∧(∃t,s=al++t)∧s=lj (Am N m) al (al.take i)) _ ?_ ?_ N 0 al W W ⟨h4,⟨[],by simp⟩,U⟩
  ·rintro k i s hi ⟨h0,⟨t,h1⟩,h2⟩ go2;show Sat (kN N (eY N m f) al m (k+1) s (i:Int)) _;have hsl:=h0.len hs
   have hg:aM s (i:Int)=some al[i]:=by
    rw [mX,h1,List.getElem?_append_left hi,List.getElem?_eq_getElem hi]
   have hx:=List.getElem_mem hi;have hsm:=hs.at_ al[i];obtain ⟨hl1,hl2⟩:=Hm N hs hw al[i] s
   have hnext:lj (Am N m) al (al.take (i+1))=dv (aZ m) s (bS N (be m al[i]) s):=by
    rw [bi hi,AM, ←h2];rfl
   rw [kN.eq_2,cV W,ct,hg,bs,GT N m _ (h4.in64 hs hx),bs,KN N hN s W _ W W,bs,C3 N hN hs _ hl1 hl2 h0,bs,r64 W W];obtain ⟨t',e', -⟩:=ir (aZ m) s (bS N (be m al[i]) s);exact go2 _ ⟨h0.lay _,⟨t++t',by rw [e',h1,SQ]⟩,hnext.symm⟩
  rintro k s ⟨h0,⟨t,h1⟩,h2⟩;show Sat (kN N (eY N m f) al m (k+1) s _) _;have hsl:=h0.len hs;simp only [List.take_length] at h2;rw [kN.eq_2,cQ W,cf];unfold sO
  refine dW (fun he=> ?_) fun hne=> ?_
  ·have h6:t=[]:=List.eq_nil_of_length_eq_zero (by rw [h1,List.length_append] at he;omega)
   have h7:s=al:=by rw [h1,h6,List.append_nil]
   exact aQ (by rw [h7] at h2⊢;exact h5 _ (.done h2.symm))
  have hle:al.length≤s.length:=by rw [h1,List.length_append];omega
  refine Sat.bind (yH N hN hs hw h0 al.length hle) fun r ⟨r1,r2⟩=> ?_
  obtain ⟨t3,e3⟩:=r2.app;have hl3:=r1.len hs;refine go r ?_ ⟨r1,fun r' hr'=>h5 r' (.step ?_ (by rw [←h2];exact r2) hr')⟩
  ·show 1300 - r.length<1300 - al.length
   have:s.length≤r.length:=by rw [e3,List.length_append];omega
   omega
  rw [←h2];intro e;rw [e] at hne;omega
 obtain ⟨all,k1,k2⟩:=key;exact ⟨b,all,⟨b2,k2⟩,k1,by rw [ha,bs,hlay,bs];exact b0'⟩
theorem EQ: ∀{s:List Int} {k:Nat} (h:k+1<s.length),((s.set (k+1) (s[k]'W)).set k s[k+1]).Perm s
 |a::b::r,0,_=>List.Perm.swap a b r
 |a::r,k+1,h=>by
  have ih:=EQ (s:=r) (k:=k) (by simpa using h);simp only [List.set_cons_succ,List.getElem_cons_succ];exact ih.cons a
def Rg (s:List Int)(i k:Nat):Prop:= ∀a b:Nat,a<b→b≤i→b≠k→s.getD a 0≤s.getD b 0
theorem zJ (s:List Int)(i j:Nat)(x:Int)(hi:i<s.length):(s.set i x).getD j 0=if j=i then x else s.getD j 0:=by
 by_cases e:j=i
 ·subst e;simp [List.getD,hi]
 rw [if_neg e];simp only [List.getD];rw [List.getElem?_set_ne (fun h=>e h.symm)]
theorem wQ (s:List Int)(i:Nat)(hi:i<s.length):s.getD i 0=s[i]:=by simp [List.getD,hi]
theorem Im (N:Nat)(hN:5000<N)(l:List Int)(hl:l.length≤2000)(hn:l.Nodup):qu N l=some (jr l):=by
 apply Sat.eq;unfold qu;rw [rF (by simp;omega),List.nil_append]
 have fin: ∀s:List Int,s.Perm l→Rg s (l.length - 1) l.length→s=jr l:=fun s hp hi=>by
  have hlen:=hp.length_eq;have hnd:s.Nodup:=hp.nodup_iff.2 hn;refine (CY hn (List.pairwise_iff_getElem.2 fun a b ha hb hab=> ?_) fun x=>(hp.mem_iff).symm).symm;have h1:=hi a b hab W W;rw [wQ s a ha,wQ s b hb] at h1;have h2:=List.pairwise_iff_getElem.1 (List.nodup_iff_pairwise_ne.1 hnd) a b ha hb hab;omega
 by_cases h0:l.length=0
 ·have e:l=[]:=List.eq_nil_of_length_eq_zero h0;subst e;obtain ⟨n,rfl⟩: ∃n,N=n+1:=⟨N - 1,by omega⟩;rw [gS.eq_2,cQ (by simp),cf];exact aQ (by unfold jr;simp)
 refine cR (fun k i (s:List Int)=>gS N k s (i:Int)) l.length (fun i s=>s.Perm l∧Rg s (i - 1) l.length) _ ?_ ?_ N 1 l W W ⟨List.Perm.refl _,fun a b h1 h2=>absurd h2 W⟩
 ·rintro f i s hi ⟨h1,h2⟩ go;show Sat (gS N (f+1) s (i:Int)) _;have hlen:=h1.length_eq;rw [gS.eq_2,hlen,cV W,ct]
  have hi0:i≤l.length:=by omega
  refine ou (fun k (st:List Int×Nat)=>nV N (gS N f) (i:Int) k st.1 (st.2:Int)) (fun st=>st.2) (fun st=>st.1.Perm l∧st.2≤i∧Rg st.1 i st.2) _ ?_ N (s,i) (by show i<N;omega) ⟨h1,Nat.le_refl _,fun a b q1 q2 q3=>h2 a b q1 (by show b≤i - 1;simp only at q3;omega) W⟩;rintro k ⟨t,j⟩ ⟨g1,g2,g3⟩ go2;simp only at g1 g2 g3;show Sat (nV N (gS N f) (i:Int) (k+1) t (j:Int)) _;have hlt:=g1.length_eq
  have stop:(j=0∨t.getD (j - 1) 0≤t.getD j 0)→Sat (qV N (gS N f) (i:Int) t) (· =jr l):=fun hst=>by
   unfold qV;rw [r64 W W];refine go t ⟨g1,fun a b q1 q2 q3=> ?_⟩
   have q2':b≤i:=by omega
   by_cases e:b=j
   ·subst e;rcases hst with h|h
    ·omega
    by_cases e2:a=b - 1
    ·subst e2;exact h
    have:=g3 a (b - 1) W W W;omega
   exact g3 a b q1 q2' e
  rw [nV.eq_2];by_cases hj:0<j
  ·have hp:aM t ((j:Int) - 1)=some (t[j - 1]'W):=by
    have:=bf (xs:=t) (i:=j - 1) W;rw [show (((j - 1:Nat)):Int)=(j:Int) - 1 by omega] at this;exact this
   have hq:aM t (j:Int)=some (t[j]'W):=bf W;rw [cV W,ct,r64 W W,hp,bs,hq,bs,bs];by_cases hc:t[j]'W<t[j - 1]'W
   ·rw [cV hc,ct,bs,r64 (a:=(j:Int) - 1) W W,bs,bs,r64 (a:=(j:Int) - 1) W W]
    have hs2:aM (List.set t (j:Int).toNat (t[j - 1]'W)) ((j:Int) - 1)=some ((List.set t (j:Int).toNat (t[j - 1]'W))[j - 1]'(by simp;omega)):=by
     have:=bf (xs:=List.set t (j:Int).toNat (t[j - 1]'W)) (i:=j - 1) (by simp;omega);rw [show (((j - 1:Nat)):Int)=(j:Int) - 1 by omega] at this;exact this
    rw [hs2,bs,r64 (a:=(j:Int) - 1) W W,Int.toNat_natCast,show ((j:Int) - 1).toNat=j - 1 by omega,show (j:Int) - 1=((j - 1:Nat):Int) by omega];obtain ⟨q,rfl⟩: ∃q,j=q+1:=⟨j - 1,by omega⟩;simp only [Nat.add_sub_cancel] at*;refine go2 ((t.set (q+1) (t[q]'W)).set q (t[q+1]'W),q) (by show q<q+1;omega) ⟨(EQ W).trans g1,by show q≤i;omega,fun a b q1 q2 q3=> ?_⟩;have q3':b≠q:=q3;have hqa:=wQ t q W;have hqb:=wQ t (q+1) W;show ((t.set (q+1) (t[q]'W)).set q (t[q+1]'W)).getD a 0≤((t.set (q+1) (t[q]'W)).set q (t[q+1]'W)).getD b 0;rw [zJ _ q _ _ (by simp;omega),zJ _ q _ _ (by simp;omega),zJ t (q+1) _ _ W,zJ t (q+1) _ _ W,if_neg q3'];by_cases b1:b=q+1
    ·rw [if_pos b1];by_cases a1:a=q
     ·rw [if_pos a1];omega
     rw [if_neg a1,if_neg W, ←hqa];exact g3 a q W W W
    rw [if_neg b1];by_cases a1:a=q
    ·rw [if_pos a1, ←hqb];exact g3 (q+1) b W q2 b1
    rw [if_neg a1];by_cases a2:a=q+1
    ·rw [if_pos a2, ←hqa];exact g3 q b W q2 b1
    rw [if_neg a2];exact g3 a b q1 q2 b1
   rw [cQ W,cf];refine stop (.inr ?_);rw [wQ t (j - 1) W,wQ t j W];omega
  rw [cQ W,cf,bs,cf];exact stop (.inl W)
 rintro f s ⟨h1,h2⟩;show Sat (gS N (f+1) s _) _;rw [gS.eq_2,h1.length_eq,cQ W,cf];unfold xy;exact aQ (fin s h1 h2)
def lf (c:SD):List Int:=pick (fun i v=>jV c.Kind i&&br v) 0 c.More
theorem rT (N:Nat)(hN:2000<N)(c:SD)(hS:c.Slots.length≤1000)(hc:c.More.length≤1000):gY N c=some (lf c):=by
 unfold gY lf;rw [wr N hN false c hS hc,bs]
 have e1:(fun (_:Nat) (v:SG)=>(true==false)&&br v)=fun _ _=>false:=by funext i v;rfl
 have e2:(fun (i:Nat) (v:SG)=>(lh c.Kind i==false)&&br v)=fun i v=>jV c.Kind i&&br v:=by funext i v;rw [Bp];cases jV c.Kind i<;>rfl
 rw [e1,e2,AK,List.nil_append]
theorem nw (c:SD):(lf c).length≤c.More.length:=zj _ 0 c.More
theorem G1 {c:SD}{x:Int}(h:x∈lf c): ∃v∈c.Slots++c.More,v.N=x:=by
 obtain ⟨v,h1,h2⟩:=zh h;exact ⟨v,SS _ h1,h2⟩
def dz (m:SB)(l:List Int):Bool:=l.all (aZ m)
def zN (N:Nat)(m:SB)(c:SD):Bool:=(cY N c).getD false&&(dz m (bD c)&&dz m (lf c))
def Q3 (N:Nat)(m:SB)(roots:List SG):Bool:=m.Young.all (zN N m)&&(m.Old.all (zN N m)&&dz m (bW roots))
theorem Ar {m:SB}{roots:List SG}(hs:Small m roots)(hw:W64 m){c:SD}(hc:c∈m.Young++m.Old):((bD c).length≤1200∧ ∀x∈bD c,in64 x)∧(lf c).length≤1200∧ ∀x∈lf c,in64 x:=by
 have h1:=hs.cells c hc;have h2:=km c;have h3:=nw c;refine ⟨⟨by omega,fun x hx=> ?_⟩,by omega,fun x hx=> ?_⟩
 ·obtain ⟨v,h4,rfl⟩:=DP hx;exact hw c hc v h4
 obtain ⟨v,h4,rfl⟩:=G1 hx;exact hw c hc v h4
structure Bnd (B:Nat) (m:SB) (roots:List SG):Prop where
 young:m.Young.length≤B
 old:m.Old.length≤B
 roots:roots.length≤B
 cells: ∀c∈m.Young++m.Old,c.Slots.length≤B∧c.More.length≤B
def wt:List SD→Nat
 | []=>0
 |c::l=>1+c.Slots.length+c.More.length+wt l
theorem CJ: ∀a b:List SD,wt (a++b)=wt a+wt b
 | [],b=>by simp [wt]
 |c::a,b=>by rw [List.cons_append,wt,wt,CJ a b];omega
theorem NV {l:List SD}{i:Nat}(h:i<l.length):wt (l.take (i+1))=wt (l.take i)+(1+l[i].Slots.length+l[i].More.length):=by
 rw [bi h,CJ];simp [wt]
def W6 (m:SB)(roots:List SG):Prop:=roots.length+wt m.Young+wt m.Old≤600
structure Wtd (m:SB) (roots:List SG):Prop where
 le:roots.length+wt m.Young+wt m.Old≤2400
 cnt:m.Young.length+m.Old.length≤600
def cleanL (p:Int→Bool):List SG→List SG
 |k::v::r=>(bif p k.N then [k,v] else [])++cleanL p r
 |_=> []
theorem Ea (p:Int→Bool): ∀l:List SG,(cleanL p l).length≤l.length
 | []=>by simp [cleanL]
 | [_]=>by simp [cleanL]
 |k::v::r=>by
  have:=Ea p r;unfold cleanL;cases p k.N<;>simp<;>omega
theorem yj {p:Int→Bool}{x:SG}: ∀{l:List SG},x∈cleanL p l→x∈l
 | [],h=>by simp [cleanL] at h
 | [_],h=>by simp [cleanL] at h
 | k::v::r,h=>by
  unfold cleanL at h;rcases List.mem_append.1 h with h|h
  ·cases hp:p k.N with
   |false=>rw [hp] at h;cases h
   |true=>rw [hp] at h;simp at h;rcases h with h|h<;>simp [h]
  have:=yj h;simp [this]
def cM (N:Nat)(l:List Int)(c:SD):SD:=bif ko N c then ⟨c.Kind,c.Shape,c.Flags,c.Age,c.Slots,cleanL (fun x=>decide (x∈l)) c.More⟩ else c
theorem K4 (N:Nat)(hN:5000<N)(l:List Int)(hl:l.length≤5000)(y:SD)(k v:SG)(s:List SG)(hs:s.length≤5000):dk (fun x st=>ji N (fun x=>iG N x l) y x st) (k,v) (none,s)=some (true,(none,s++(bif decide (k.N∈l) then [k,v] else []))):=by
 unfold dk ji iG;simp only [bs,pi N hN l hl];cases decide (k.N∈l)
 ·simp only [cf,List.append_nil];rfl
 simp only [ct];rw [rF (by simp;omega)];rfl
theorem Fj (N:Nat)(hN:5000<N)(l:List Int)(hl:l.length≤5000)(y c:SD)(hc:c.More.length≤1000)(he:c.More.length%2=0): ∀(m i:Nat) (s:List SG),c.More.length<m+i→i≤c.More.length→i%2=0→s.length≤i→eE N (dk (fun x st=>ji N (fun x=>iG N x l) y x st)) c m (i:Int) (none,s)=some (none,s++cleanL (fun x=>decide (x∈l)) (c.More.drop i))
 |0,i,s,h,h2,_,_=>by omega
 | m+1,i,s,h,h2,h3,h4=>by
  rw [eE.eq_2,r64 (a:=(i:Int)+1) W W];by_cases hi:i<c.More.length
  ·have hi1:i+1<c.More.length:=by omega
   have hl1:aM c.More ((i:Int)+1)=some c.More[i+1]:=by
    have:=bf hi1;simpa using this
   rw [cV W,ct,bf hi,bs,r64 (a:=(i:Int)+1) W W,hl1,bs,K4 N hN l hl y _ _ s W,bs];simp only [nt,cf];rw [r64 W W]
   have hlen:(s++(bif decide (c.More[i].N∈l) then [c.More[i],c.More[i+1]] else [])).length≤i+2:=by
    cases decide (c.More[i].N∈l)<;>simp<;>omega
   have:=Fj N hN l hl y c hc he m (i+2) _ W W W hlen;simp only [Int.natCast_add,Int.cast_ofNat_Int] at this;rw [this,List.drop_eq_getElem_cons hi,List.drop_eq_getElem_cons hi1,SQ];rfl
  rw [cQ W,cf,List.drop_eq_nil_of_le W];simp [cleanL]
theorem D7 (N:Nat)(hN:5000<N)(l:List Int)(hl:l.length≤5000)(c:SD)(hS:c.Slots.length≤600)(hc:c.More.length≤600):jZ N c l=some (bif ko N c then cM N l c else CI):=by
 obtain ⟨-,h1,h2⟩:=Gs N W c W W;unfold jZ uX iM cM;rw [h1,bs];cases hw:ko N c
 ·rfl
 have e:lz N c=some ():=rfl;have:=Fj N hN l hl c c W (h2 hw) N 0 [] W W rfl (by simp);simp only [nt,cf,ct,e,bs,nK N c ⟨hS,hc⟩];have h3:eE N (dk (fun x st=>ji N (fun x=>iG N x l) c x st)) c N 0 (none,[])=some (none,[]++cleanL (fun x=>decide (x∈l)) (c.More.drop 0)):=this;rw [h3,bs];rfl
theorem D8 (N:Nat)(l:List Int)(c:SD):(cM N l c).Slots.length=c.Slots.length∧(cM N l c).More.length≤c.More.length:=by
 unfold cM;cases ko N c
 ·exact ⟨U,Nat.le_refl _⟩
 exact ⟨U,Ea _ _⟩
theorem yi {N:Nat}{l:List Int}{c:SD}{v:SG}(h:v∈(cM N l c).Slots++(cM N l c).More):v∈c.Slots++c.More:=by
 unfold cM at h;cases hw:ko N c
 ·rw [hw] at h;exact h
 rw [hw] at h;rcases List.mem_append.1 h with h|h
 ·exact SR _ h
 exact SS _ (yj h)
def rR (N:Nat)(c:SD):Bool:=decide (c.Kind=10)&&(cY N c).getD false
def cg (N:Nat)(c:SD):SD:=bif rR N c then ⟨c.Kind,c.Shape,c.Flags,c.Age,c.Slots,c.More.take 1⟩ else c
theorem Lw (N:Nat)(c:SD):(cg N c).Slots.length=c.Slots.length∧(cg N c).More.length≤c.More.length:=by
 unfold cg;cases rR N c
 ·exact ⟨U,Nat.le_refl _⟩
 exact ⟨U,by show (c.More.take 1).length≤_;rw [List.length_take];omega⟩
theorem Lv {N:Nat}{c:SD}{v:SG}(h:v∈(cg N c).Slots++(cg N c).More):v∈c.Slots++c.More:=by
 unfold cg at h;cases hw:rR N c
 ·rw [hw] at h;exact h
 rw [hw] at h;rcases List.mem_append.1 h with h|h
 ·exact SR _ h
 exact SS _ (List.mem_of_mem_take h)
def dg (N:Nat)(m:SB):SB:=⟨m.Young.map (cg N),m.Old.map (cg N)⟩
theorem Small.cell {m:SB}{roots:List SG}(hs:Small m roots){c:SD}(h:c∈m.Young++m.Old):c.Slots.length≤600∧c.More.length≤600:=hs.cells c h
theorem BR (N:Nat)(m:SB)(a:Int):fK (dg N m) a=(fK m a).map (cg N):=by
 unfold fK dg;split
 ·rfl
 split<;>simp
theorem nH (N:Nat)(m:SB):aZ (dg N m)=aZ m:=by
 funext a;unfold aZ;rw [BR];cases fK m a<;>rfl
theorem tM (N:Nat)(m:SB)(a:Int)(h:aZ m a=true):be (dg N m) a=cg N (be m a):=by
 unfold be;rw [BR];unfold aZ at h
 cases hc:fK m a with
 |none=>rw [hc] at h;cases h
 |some c=>rfl
theorem Small.bare {m:SB}{roots:List SG}(hs:Small m roots)(N:Nat):Small (dg N m) roots:=by
 refine ⟨by unfold dg;simpa using hs.young,by unfold dg;simpa using hs.old,hs.roots,fun c hc=> ?_⟩;unfold dg at hc;rw [←List.map_append] at hc;obtain ⟨d,hd,rfl⟩:=List.mem_map.1 hc;have h1:=hs.cell hd;have h2:=Lw N d;omega
theorem W64.bare {m:SB}(hw:W64 m)(N:Nat):W64 (dg N m):=fun c hc v hv=>by
 unfold dg at hc;rw [←List.map_append] at hc;obtain ⟨d,hd,rfl⟩:=List.mem_map.1 hc;exact hw d hd v (Lv hv)
theorem wN {m:SB}{roots:List SG}(hs:Small m roots){x:Int}(h:aZ m x=true):in64 x:=by
 have h2:=rq h;have h3:=wP hs h;unfold in64;omega
theorem KI {f:Nat→SG→Bool}{x:Int}{k:Nat}: ∀{i:Nat} {l:List SG},x∈pick f i (l.take k)→x∈pick f i l:=by
 induction k with
 |zero=>intro i l h;simp [pick] at h
 | succ k ih=>
  intro i l h
  cases l with
  |nil=>exact h
  |cons v l=>
   rw [List.take_succ_cons,gm] at h;rw [gm];rcases List.mem_append.1 h with h|h
   ·exact SR _ h
   exact SS _ (ih h)
theorem IJ {N:Nat}{c:SD}{x:Int}(h:x∈bD (cg N c)):x∈bD c:=by
 unfold cg at h;cases hw:rR N c
 ·rw [hw] at h;exact h
 rw [hw] at h;unfold bD at h⊢;rcases List.mem_append.1 h with h|h
 ·exact SR _ h
 exact SS _ (KI h)
theorem Dy {p q:Int→Bool}(hpq: ∀x,p x=true→q x=true){x:Int}: ∀{l:List SG},x∈opens p l→x∈opens q l
 | [],h=>by simp [opens] at h
 | [_],h=>by simp [opens] at h
 | k::v::r,h=>by
  rw [fI] at h⊢;rcases List.mem_append.1 h with h|h
  ·refine SR _ ?_
   cases hk:p k.N with
   |false=>rw [hk,Bool.and_false] at h;cases h
   |true=>rw [hk] at h;rw [hpq _ hk];exact h
  exact SS _ (Dy hpq h)
theorem Iz {N:Nat}{c:SD}{row l:List Int}(hr: ∀x∈row,x∈l){x:Int}(h:x∈bS N (cg N c) row):x∈bS N c l:=by
 unfold cg at h;cases hw:rR N c
 ·rw [hw] at h;unfold bS at h⊢;cases hm:ko N c
  ·rw [cf,hm] at h;cases h
  rw [cf,hm] at h;exact Dy (fun x hx=>by simp at hx⊢;exact hr x hx) h
 exfalso;rw [hw] at h
 have h10:c.Kind=10:=by unfold rR at hw;simp at hw;exact hw.1
 unfold bS ko at h;rw [ct,gG (by show c.Kind≠8;omega)] at h;cases h
def ld:SG:=⟨0,0,⟨#[]⟩⟩
def eP (l:List Int):List SG→List SG
 |t::h::k::s::r=>(bif decide (t.N∈l) then [t,h,(bif decide (k.Kind=7)&& !decide (k.N∈l) then ld else k),s] else [])++eP l r
 |_=> []
def jE (l:List Int)(cb:SG):List SG→List SG
 |t::h::_::s::r=>(bif decide (t.N∈l) then [] else [cb,h,s])++jE l cb r
 |_=> []
theorem ui (l:List Int)(t h k s:SG)(r:List SG):eP l (t::h::k::s::r)=(bif decide (t.N∈l) then [t,h,(bif decide (k.Kind=7)&& !decide (k.N∈l) then ld else k),s] else [])++eP l r:=Eq.trans rfl rfl
theorem CU (l:List Int)(cb t h k s:SG)(r:List SG):jE l cb (t::h::k::s::r)=(bif decide (t.N∈l) then [] else [cb,h,s])++jE l cb r:=Eq.trans rfl rfl
theorem eT (p:Int→Bool)(k v:SG)(r:List SG):cleanL p (k::v::r)=(bif p k.N then [k,v] else [])++cleanL p r:=Eq.trans rfl rfl
theorem MC (l:List Int)(cb:SG): ∀xs:List SG,(eP l xs).length+(jE l cb xs).length≤xs.length
 | []=>by simp [eP,jE]
 | [_]=>by simp [eP,jE]
 | [_,_]=>by simp [eP,jE]
 | [_,_,_]=>by simp [eP,jE]
 |t::h::k::s::r=>by
  have:=MC l cb r;unfold eP jE;cases decide (t.N∈l)<;>simp<;>omega
def wj (l:List Int)(c:SD):SD×List SG:=(⟨c.Kind,c.Shape,c.Flags,c.Age,c.Slots,c.More.take 1++eP l (c.More.drop 1)⟩,jE l (c.More.headD ld) (c.More.drop 1))
theorem Q9 {l:List SG}(h:4≤l.length): ∃t a k s r,l=t::a::k::s::r:=by
 match l,h with
 |t::a::k::s::r,_=>exact ⟨t,a,k,s,r,rfl⟩
theorem HG (N:Nat)(hN:5000<N)(l:List Int)(p:List (Int×Bool))(hp: ∀x,(lk p x).getD false=decide (x∈l))(c y:SD)(cb:SG)(hcb:c.More[0]? =some cb)(hc:c.More.length≤1000): ∀(m i:Nat) (o t:List SG),c.More.length<m+i→i≤c.More.length→(c.More.length - i)%4=0→o.length≤i→t.length≤i→gg N (dk (fun x st=>fJ N c p y x st)) c m (i:Int) (none,(o,t))=some (none,(o++eP l (c.More.drop i),t++jE l cb (c.More.drop i)))
 |0,i,o,t,h,h2,_,_,_=>by omega
 | m +1,i,o,t,h,h2,h3,h4,h5=>by
  rw [gg.eq_2,r64 (a:=(i:Int)+4) W W];by_cases hi:i+4≤c.More.length
  ·obtain ⟨v1,v2,v3,v4,r,hd⟩:=Q9 (l:=c.More.drop i) (by rw [List.length_drop];omega)
   have hd4:c.More.drop (i+4)=r:=by rw [←List.drop_drop,hd];rfl
   have hx:(c.More.drop (i:Int).toNat).take (((i:Int)+4).toNat - (i:Int).toNat)=[v1,v2,v3,v4]:=by
    rw [Int.toNat_natCast,show ((i:Int)+4).toNat - i=4 by omega,hd];rfl
   have h0:aM c.More 0=some cb:=by
    have:=mX c.More 0;rw [hcb] at this;exact this
   have e0:aM [v1,v2,v3,v4] 0=some v1:=rfl;have e1:aM [v1,v2,v3,v4] 1=some v2:=rfl;have e2:aM [v1,v2,v3,v4] 2=some v3:=rfl;have e3:aM [v1,v2,v3,v4] 3=some v4:=rfl;rw [MA W,ct,r64 W W,r64 W W,kD ⟨by omega,by omega,by omega,by omega⟩,hx]
   have hb:dk (fun x st=>fJ N c p y x st) ((i:Int),[v1,v2,v3,v4]) (none,(o,t))=some (true,(none,(o++(bif decide (v1.N∈l) then [v1,v2,(bif decide (v3.Kind=7)&& !decide (v3.N∈l) then ld else v3),v4] else []),t++(bif decide (v1.N∈l) then [] else [cb,v2,v4])))):=by
    unfold dk fJ;simp only [e0,e1,e2,e3,bs,hp,h0];unfold ms;simp only [e0,e1,e2,e3,bs];cases decide (v1.N∈l)
    ·simp only [nf,ct,cf,List.append_nil];rw [rF (by simp;omega)];rfl
    simp only [nt,ct,cf,List.append_nil];rw [rF (by simp;omega),rF (by simp;omega)];cases decide (v3.Kind=7)<;>cases decide (v3.N∈l)<;>rfl
   rw [hb,bs];simp only [nt,cf];rw [r64 W W];have:=HG N hN l p hp c y cb hcb hc m (i+4) (o++(bif decide (v1.N∈l) then [v1,v2,(bif decide (v3.Kind=7)&& !decide (v3.N∈l) then ld else v3),v4] else [])) (t++(bif decide (v1.N∈l) then [] else [cb,v2,v4])) W hi W (by cases decide (v1.N∈l)<;>simp<;>omega) (by cases decide (v1.N∈l)<;>simp<;>omega);rw [show (((i+4:Nat)):Int)=(i:Int)+4 by omega] at this;rw [this,hd4,hd,SQ,SQ];rfl
  rw [MB W,cf,List.drop_eq_nil_of_le W];simp [eP,jE]
theorem Oo (N:Nat)(hN:2000<N)(c:SD)(hS:c.Slots.length≤1000)(hc:c.More.length≤1000):sq N c=some (rR N c)∧(rR N c=true→1≤c.More.length∧(c.More.length - 1)%4=0):=by
 obtain ⟨b,hb,hb2⟩:=ti N hN c hS hc;unfold sq rR;rw [vh N hN c hS hc,hb];refine ⟨by cases decide (c.Kind=10)<;>cases b<;>rfl,fun h=> ?_⟩;rw [Bool.and_eq_true,decide_eq_true_eq] at h;exact (hb2 h.2).2 h.1
theorem xJ (N:Nat)(hN:5000<N)(l:List Int)(hl:l.length≤5000)(c:SD)(hS:c.Slots.length≤600)(hc:c.More.length≤600):jM N c l=some (bif rR N c then wj l c else (CI,[])):=by
 obtain ⟨h1,h2⟩:=Oo N W c W W;unfold jM;rw [h1,bs];cases hw:rR N c
 ·rfl
 obtain ⟨g1,g2⟩:=h2 hw;simp only [nt,cf,ct]
 have hcb:c.More[0]? =some (c.More.headD ld):=by
  cases hm:c.More with
  |nil=>rw [hm] at g1;simp at g1
  |cons a r=>rfl
 apply Sat.eq;refine cR (fun k i (s:List (Int×Bool))=>ij N l c k (i:Int) s) l.length (fun i s=> ∀x,(lk s x).getD false=decide (x∈l.take i)) _ ?_ ?_ N 0 [] W W (fun x=>by simp;rfl)
 ·intro k i s hi h3 go;show Sat (ij N l c (k+1) (i:Int) s) _;rw [ij.eq_2,cV W,ct,bf hi,bs,r64 W W]
  refine go _ fun x=> ?_
  rw [Hy,bi hi];by_cases e:l[i]=x
  ·rw [if_pos e,SN (by simp [e])];rfl
  rw [if_neg e,h3 x];by_cases hm:x∈l.take i
  ·rw [SN hm,SN (SR _ hm)]
  rw [SO hm,SO (by simp only [List.mem_append,List.mem_singleton];exact fun h=>h.elim hm fun h=>e h.symm)]
 intro k s h3;show Sat (ij N l c (k+1) _ s) _;rw [List.take_length] at h3;rw [ij.eq_2,cQ W,cf];unfold o5 sU df o4 mL
 have h0:aM c.More 0=some (c.More.headD ld):=by
  have:=mX c.More 0;rw [hcb] at this;exact this
 rw [rF (by simp;omega),bs,h0,bs,bs,bs];have:=HG N hN l s h3 c ⟨c.Kind,c.Shape,c.Flags,c.Age,[]++c.Slots,[c.More.headD ld]⟩ _ hcb W N 1 [c.More.headD ld] [] W g1 g2 (by simp) (by simp);have this':gg N (dk (fun x st=>fJ N c s ⟨c.Kind,c.Shape,c.Flags,c.Age,[]++c.Slots,[c.More.headD ld]⟩ x st)) c N 1 (none,([c.More.headD ld],[]))=_:=this;rw [this',bs];refine aQ ?_
 have ht:c.More.take 1=[c.More.headD ld]:=by
  cases hm:c.More with
  |nil=>rw [hm] at g1;simp at g1
  |cons a r=>rfl
 unfold wj;rw [ht];rfl
def uN (a:Int):Bool:=decide (a.tmod 2=0)
def EG (a:Int):Bool:=decide (a.tmod 2=1)
def oa (live:List Int):List Int:=live.filter uN++live.filter EG
theorem wR {p:Int→Bool}: ∀{l:List Int} {i:Nat} (hi:i<l.length),p l[i]=true→(l.filter p)[((l.take i).filter p).length]? =some l[i]
 |x::l,0,hi,h=>by
  simp only [List.getElem_cons_zero] at h;simp [h]
 |x::l,i+1,hi,h=>by
  simp only [List.getElem_cons_succ] at h;have ih:=wR (l:=l) (i:=i) (by simpa using hi) h;rw [List.take_succ_cons]
  cases hx:p x with
  |true=>simp only [List.filter_cons,hx,if_true,List.length_cons,List.getElem?_cons_succ,List.getElem_cons_succ];exact ih
  |false=>simp only [List.filter_cons,hx,Bool.false_eq_true,if_false,List.getElem_cons_succ];exact ih
theorem HH {p:Int→Bool}{l:List Int}{i:Nat}(hi:i<l.length):((l.take (i+1)).filter p).length=((l.take i).filter p).length+(bif p l[i] then 1 else 0):=by
 rw [bi hi,List.filter_append,List.length_append];cases h:p l[i]<;>simp [h]
theorem Dv (N:Nat){σ:Type}(φ:Int×Int→σ→Option (Option Exit×σ))(live:List Int)(hl:live.length≤2000)(hN:5000<N)(kb:Int→Int→Option Exit×σ→Option (Option Exit×σ))(b:Int)(p:Int→Bool)(hp: ∀a,p a=decide (a.tmod 2=b))(p6:Int)(h6:0≤p6∧p6≤2)(n0:Nat)(hn0:n0≤2000)
  (Inv:Nat→σ→Prop) (R:Option Exit×σ→Prop)
  (hstep: ∀i (hi:i<live.length) s,p live[i]=true→Inv (n0+((live.take i).filter p).length) s→Sat (φ (((n0+((live.take i).filter p).length:Nat):Int),live[i]) s) fun r=>r.1=none∧Inv (n0+((live.take i).filter p).length+1) r.2)
  (hk: ∀s,Inv (n0+(live.filter p).length) s→Sat (kb ((n0+(live.filter p).length:Nat):Int) (p6+1) (none,s)) R) (s:σ) (hs:Inv n0 s):Sat (dn N kb (dk φ) b p6 live N (n0:Int) 0 (none,s)) R:=by
 have hfl: ∀i,((live.take i).filter p).length≤2000:=fun i=>Nat.le_trans (List.length_filter_le _ _) (by rw [List.length_take];omega)
 refine cR (fun k i (st:Nat×σ)=>dn N kb (dk φ) b p6 live k (st.1:Int) (i:Int) (none,st.2)) live.length (fun i st=>st.1=n0+((live.take i).filter p).length∧Inv st.1 st.2) _ ?_ ?_ N 0 (n0,s) W W ⟨by simp,hs⟩
 ·rintro k i ⟨n,st⟩ hi ⟨h1,h2⟩ go;simp only at h1 h2;have hb:=hfl i;show Sat (dn N kb (dk φ) b p6 live (k+1) (n:Int) (i:Int) (none,st)) _;have hnx:=HH (p:=p) hi;rw [dn.eq_2,cV W,ct,bf hi,bs, ←hp];unfold kl;rw [r64 (a:=(i:Int)+1) W W];cases hq:p live[i]
  ·simp only [nf,ct];rw [hq] at hnx;have hg:=go (n,st) ⟨by show n=_;rw [hnx];exact h1,h2⟩
   first|rw [r64 (a:=(i:Int)+1) W W]|skip
   exact hg
  simp only [nt,cf];rw [hq] at hnx;obtain ⟨⟨e,s'⟩,g1,g2,g3⟩:=hstep i hi st hq (by rw [←h1];exact h2);simp only at g2 g3;subst g2
  have hf:dk φ ((n:Int),live[i]) (none,st)=some (true,(none,s')):=by
   unfold dk;simp only;rw [h1,g1];rfl
  rw [hf,bs];simp only [nt,cf];rw [r64 (a:=(n:Int)+1) W W];have hg:=go (n+1,s') ⟨by show n+1=_;rw [hnx];show n+1=_+(_+1);omega,by show Inv (n+1) s';rw [h1];exact g3⟩
  first|rw [r64 (a:=(i:Int)+1) W W]|skip
  exact hg
 rintro k ⟨n,st⟩ ⟨h1,h2⟩;simp only [List.take_length] at h1 h2;show Sat (dn N kb (dk φ) b p6 live (k+1) (n:Int) _ (none,st)) _;rw [dn.eq_2,cQ W,cf];unfold om;rw [r64 W W,h1];exact hk st (by rw [←h1];exact h2)
theorem Dw (N:Nat){σ:Type}(φ:Int×Int→σ→Option (Option Exit×σ))(live:List Int)(hl:live.length≤2000)(hN:5000<N)
  (Inv:Nat→σ→Prop) (hstep: ∀n a s,(oa live)[n]? =some a→Inv n s→Sat (φ ((n:Int),a) s) fun r=>r.1=none∧Inv (n+1) r.2) (s:σ) (hs:Inv 0 s):Sat (eO N live (dk φ) (none,s)) fun r=>r.1=none∧Inv (oa live).length r.2:=by
 obtain ⟨k,rfl⟩: ∃k,N=k+3:=⟨N - 3,by omega⟩;have hev:(live.filter uN).length≤2000:=Nat.le_trans (List.length_filter_le _ _) hl;unfold eO;rw [fm.eq_2,show ((([0,1]:List Int).length:Int))=2 from rfl,cV W,ct,show aM ([0,1]:List Int) 0=some 0 from rfl,bs];refine Dv (k+3) φ live hl W _ 0 uN (fun _=>U) 0 W 0 W Inv _ (fun i hi st hp hi2=> ?_) (fun st hst=> ?_) s hs
 ·refine hstep _ _ _ ?_ hi2;unfold oa;rw [List.getElem?_append_left]
  ·rw [Nat.zero_add];exact wR hi hp
  have:=(List.getElem?_eq_some_iff.1 (wR hi hp)).1;omega
 rw [fm.eq_2,show ((([0,1]:List Int).length:Int))=2 from rfl,cV W,ct,show aM ([0,1]:List Int) (0+1)=some 1 from rfl,bs];refine Dv (k+3) φ live hl W _ 1 EG (fun _=>U) (0+1) W (0+(live.filter uN).length) W Inv _ (fun i hi st hp hi2=> ?_) (fun st hst=> ?_) st hst
 ·refine hstep _ _ _ ?_ hi2;unfold oa;rw [List.getElem?_append_right W,show 0+(live.filter uN).length+((live.take i).filter EG).length - (live.filter uN).length=((live.take i).filter EG).length by omega];exact wR hi hp
 rw [fm.eq_2,show ((([0,1]:List Int).length:Int))=2 from rfl,cQ W,cf];refine aQ ⟨U,?_⟩;unfold oa;rw [List.length_append]
 have e:0+(live.filter uN).length+(live.filter EG).length=(live.filter uN).length+(live.filter EG).length:=by omega
 rw [←e];exact hst
def xo (ha hb:Int→Bool)(A B:List Int)(v w:SG):Bool:=
 bif !br v|| !br w then decide (v=w)
 else decide (v.Kind=w.Kind)&&(v.S.toList==w.S.toList)&&(bif !decide (v.N∈A)|| !decide (w.N∈B) then !decide (v.N∈A)&& !decide (w.N∈B)&&(ha v.N==hb w.N) else decide (A.idxOf v.N=B.idxOf w.N))
def oz (ha hb:Int→Bool)(A B:List Int)(x y:List SG):Bool:=decide (x.length=y.length)&&(x.zip y).all fun p=>xo ha hb A B p.1 p.2
def rC (ha hb:Int→Bool)(A B:List Int)(c d:SD):Bool:=decide (c.Kind=d.Kind)&&decide (c.Shape=d.Shape)&&decide (c.Flags=d.Flags)&&oz ha hb A B c.Slots d.Slots&&oz ha hb A B c.More d.More
def lc (N:Nat)(a:SB)(x:List SG)(A:List Int)(b:SB)(y:List SG)(B:List Int):Bool:=
 decide (A.length=B.length)&&oz (aZ a) (aZ b) A B x y&&(A.zip B).all fun p=>rC (aZ a) (aZ b) A B (cM N A (be a p.1)) (cM N B (be b p.2))
theorem pJ {α:Type}[DecidableEq α](x y:α):decide (x=y)=decide (y=x):=by
 by_cases h:x=y
 ·rw [SN h,SN h.symm]
 rw [SO h,SO fun e=>h e.symm]
theorem FJ {α:Type}[BEq α][LawfulBEq α](x y:α):(x==y)=(y==x):=by
 by_cases h:x=y
 ·subst h;rfl
 rw [beq_eq_false_iff_ne.2 h,beq_eq_false_iff_ne.2 fun e=>h e.symm]
theorem Lm (ha hb:Int→Bool)(A B:List Int)(v w:SG):xo ha hb A B v w=xo hb ha B A w v:=by
 unfold xo;rw [pJ v w,pJ v.Kind w.Kind,FJ v.S.toList w.S.toList,pJ (A.idxOf v.N),FJ (ha v.N)];cases br v<;>cases br w<;>cases decide (v.N∈A)<;>cases decide (w.N∈B)<;>rfl
theorem yh (ha hb:Int→Bool)(A B:List Int)(x y:List SG):oz ha hb A B x y=oz hb ha B A y x:=by
 unfold oz;rw [pJ x.length,tU _ (fun p=>xo hb ha B A p.1 p.2) (fun v w=>Lm ha hb A B v w)]
theorem IW (ha hb:Int→Bool)(A B:List Int)(c d:SD):rC ha hb A B c d=rC hb ha B A d c:=by
 unfold rC;rw [pJ c.Kind,pJ c.Shape,pJ c.Flags,yh ha hb A B c.Slots,yh ha hb A B c.More]
theorem H4 (N:Nat)(a:SB)(x:List SG)(A:List Int)(b:SB)(y:List SG)(B:List Int):lc N a x A b y B=lc N b y B a x A:=by
 unfold lc;rw [pJ A.length,yh,tU _ (fun p=>rC (aZ b) (aZ a) B A (cM N B (be b p.1)) (cM N A (be a p.2))) (fun v w=>IW _ _ A B _ _)]
def RH (kv:List (Int×Int))(l:List Int):Prop:= ∀x,lk kv x=if x∈l then some (l.idxOf x:Int) else none
structure SideOk (m:SB) (x:List SG) (A:List Int):Prop where
 small:Small m x
 w64:W64 m
 x64: ∀v∈x,in64 v.N
 len:A.length≤1200
 nd:A.Nodup
 has: ∀a∈A,aZ m a=true
theorem SideOk.in64 {m:SB}{x:List SG}{A:List Int}(h:SideOk m x A){a:Int}(ha:a∈A):Go.Proofs.YtmimkglhbmcokaaGreat.in64 a:=wN h.small (h.has a ha)
theorem SideOk.cell {m:SB}{x:List SG}{A:List Int}(h:SideOk m x A)(N:Nat)(a:Int):((be m a).Slots.length≤600∧(be m a).More.length≤600)∧((cM N A (be m a)).Slots.length≤600∧(cM N A (be m a)).More.length≤600)∧(∀v∈(cM N A (be m a)).Slots,Go.Proofs.YtmimkglhbmcokaaGreat.in64 v.N)∧ ∀v∈(cM N A (be m a)).More,Go.Proofs.YtmimkglhbmcokaaGreat.in64 v.N:=by
 have h1:=h.small.at_ a;have h2:=D8 N A (be m a);exact ⟨h1,by omega,fun v hv=>h.w64.at_ _ v (yi (SR _ hv)),fun v hv=>h.w64.at_ _ v (yi (SS _ hv))⟩
theorem E4 (N:Nat)(x:Int)(l:List Int)(hl:l.length<N)(hl2:l.length≤5000):pA N l x=some (if x∈l then ((l.idxOf x:Nat):Int) else -1):=by
 have key: ∀k i:Nat,l.length<k+i→i≤l.length→qv N x l k (i:Int)=some (if x∈l.drop i then (((i+(l.drop i).idxOf x:Nat)):Int) else -1):=by
  intro k
  induction k with
  |zero=>intro i h1 h2;omega
  | succ k ih=>
   intro i h1 h2;rw [qv.eq_2];by_cases hi:i<l.length
   ·have h3:=ih (i+1) W hi;rw [show (((i+1:Nat)):Int)=(i:Int)+1 by omega] at h3;rw [cV W,ct,bf hi,bs,List.drop_eq_getElem_cons hi,r64 W W,h3,List.idxOf_cons];by_cases e:l[i]=x
    ·rw [SN e,ct,if_pos (by simp [e]),beq_iff_eq.2 e,cond_true,Nat.add_zero]
    rw [SO e,cf];by_cases hm:x∈l.drop (i+1)
    ·rw [if_pos hm,if_pos (List.mem_cons_of_mem _ hm),beq_eq_false_iff_ne.2 e,cond_false,show i+1+(l.drop (i+1)).idxOf x=i+((l.drop (i+1)).idxOf x+1) by omega]
    rw [if_neg hm,if_neg (fun h=>(List.mem_cons.1 h).elim (fun h=>e h.symm) hm)]
   rw [cQ W,cf,List.drop_eq_nil_of_le W];rfl
 have:=key N 0 W W;unfold pA;simpa using this
theorem Fn {v w:SG}(h:v.Kind=w.Kind):br v=br w:=by unfold br;rw [h]
theorem Ig (N:Nat)(a b:SF)(hA:a.Order.length<N)(hA2:a.Order.length≤5000)(hB:b.Order.length<N)(hB2:b.Order.length≤5000)(hs1: ∀x∈a.Order,aZ a.M x=true)(hs2: ∀x∈b.Order,aZ b.M x=true)(x y:List SG)(hx:x.length<N)(hx2:x.length≤5000)(h1: ∀v∈x,in64 v.N)(h2: ∀v∈y,in64 v.N):iR N a x b y=some (oz (aZ a.M) (aZ b.M) a.Order b.Order x y):=by
 unfold iR oz;refine LG (fun k i=>lG N x y a b k i) x y (fun p=>xo (aZ a.M) (aZ b.M) a.Order b.Order p.1 p.2) (fun k i h h'=> ?_) (fun k=> ?_) N hx
 ·rw [lG.eq_2,cV W,ct,bf h,bf h'];simp only [bs];have g1:=h1 x[i] (List.getElem_mem _);have g2:=h2 y[i] (List.getElem_mem _);generalize x[i]=v at*;generalize y[i]=w at*;rw [pF v];simp only [bs,Cw N _ _ g1,Cw N _ _ g2,E4 N v.N a.Order hA hA2,E4 N w.N b.Order hB hB2];rw [r64 W W];unfold xo;cases q1:br v
  ·simp only [cf,nf,ct,bs,Bool.true_or];cases decide (v=w)<;>rfl
  cases q2:br w
  ·have hk:v.Kind≠w.Kind:=fun e=>by rw [Fn e,q2] at q1;cases q1
   have hne:v≠w:=fun e=>hk (by rw [e])
   rw [SO hk,SO hne];rfl
  simp only [nt,cf,bs,ct,Bool.or_self];cases decide (v.Kind=w.Kind)
  ·rfl
  cases (v.S.toList==w.S.toList)
  ·rfl
  simp only [nt,cf,bs,Bool.true_and];by_cases m1:v.N∈a.Order<;>by_cases m2:w.N∈b.Order
  ·rw [hs1 _ m1,hs2 _ m2,if_pos m1,if_pos m2,SN m1,SN m2]
   have e:decide (((a.Order.idxOf v.N:Nat):Int)=((b.Order.idxOf w.N:Nat):Int))=decide (a.Order.idxOf v.N=b.Order.idxOf w.N):=by
    by_cases e:a.Order.idxOf v.N=b.Order.idxOf w.N
    ·rw [SN e,SN W]
    rw [SO e,SO W]
   rw [e];cases decide (a.Order.idxOf v.N=b.Order.idxOf w.N)<;>rfl
  ·rw [hs1 _ m1,if_pos m1,if_neg m2,SN m1,SO m2];rw [SO (p:=((a.Order.idxOf v.N:Nat):Int)= -1) W];cases aZ b.M w.N<;>rfl
  ·rw [hs2 _ m2,if_neg m1,if_pos m2,SO m1,SN m2];rw [SO (p:=(-1:Int)=((b.Order.idxOf w.N:Nat):Int)) W];cases aZ a.M v.N<;>rfl
  rw [if_neg m1,if_neg m2,SO m1,SO m2];rw [SN (p:=(-1:Int)= -1) rfl];cases aZ a.M v.N<;>cases aZ b.M w.N<;>rfl
 show lG N x y a b (k+1) _=_;rw [lG.eq_2,cQ W,cf];rfl
def xH (p:Int→Bool):List SG→List Bool
 |k::_::r=>p k.N::xH p r
 |_=> []
theorem Fk (p:Int→Bool): ∀l:List SG,l.length%2=0→2*(xH p l).length=l.length
 | [],_=>rfl
 | [_],h=>by simp at h
 |k::v::r,h=>by
  have:=Fk p r (by simp at h;omega);simp [xH];omega
theorem C4 (N:Nat)(hN:5000<N)(l:List Int)(hl:l.length≤5000)(c:SD)(hc:c.More.length≤1000)(he:c.More.length%2=0): ∀(m i:Nat) (s:List Bool),c.More.length<m+i→i≤c.More.length→i%2=0→s.length≤i→mR N l c m s (i:Int)=pa N c (s++xH (fun x=>decide (x∈l)) (c.More.drop i))
 |0,i,s,h,h2,_,_=>by omega
 | m+1,i,s,h,h2,h3,h4=>by
  rw [mR.eq_2];by_cases hi:i<c.More.length
  ·have hi1:i+1<c.More.length:=by omega
   rw [cV W,ct,bf hi,bs,QI N hN l hl,bs,rF (by simp;omega),r64 W W];have:=C4 N hN l hl c hc he m (i+2) (s++ [decide (c.More[i].N∈l)]) W W W (by simp;omega);rw [show (((i+2:Nat)):Int)=(i:Int)+2 by omega] at this;rw [this,List.drop_eq_getElem_cons hi,List.drop_eq_getElem_cons hi1,SQ];rfl
  rw [cQ W,cf,List.drop_eq_nil_of_le W];simp [xH]
theorem HD (p:Int→Bool): ∀(l:List SG) (j:Nat) (h:2*j+1<l.length),(xH p l)[j]? =some (p (l[2*j]'W).N)
 |k::v::r,0,_=>rfl
 |k::v::r,j+1,h=>by
  have:=HD p r j (by simp at h;omega);simp only [xH,List.getElem?_cons_succ];rw [this];simp only [show 2*(j+1)=2*j+1+1 by omega,List.getElem_cons_succ]
 | [_],j,h=>by simp at h
 | [],j,h=>by simp at h
theorem xv (N:Nat)(p:Int→Bool)(c y:SD)(hc:c.More.length≤1000)(he:c.More.length%2=0)(hN:5000<N): ∀(m j:Nat) (s:List SG),c.More.length<2*(m+j)→2*j≤c.More.length→s.length≤2*j→gv N (xH p c.More) c y m (j:Int) s=pU N y (s++cleanL p (c.More.drop (2*j)))
 |0,j,s,h,h2,_=>by omega
 | m+1,j,s,h,h2,h3=>by
  have hk:=Fk p c.More he;rw [gv.eq_2];by_cases hj:2*j<c.More.length
  ·have hj1:2*j+1<c.More.length:=by omega
   have hjk:j<(xH p c.More).length:=by omega
   have e0:=HD p c.More j hj1;rw [List.getElem?_eq_getElem hjk,Option.some.injEq] at e0;rw [cV W,ct,bf hjk,bs,e0]
   have g0:aM c.More (2*(j:Int))=some c.More[2*j]:=by
    have:=bf hj;rwa [show (((2*j:Nat)):Int)=2*(j:Int) by omega] at this
   have g1:aM c.More (2*(j:Int)+1)=some c.More[2*j+1]:=by
    have:=bf hj1;rwa [show (((2*j+1:Nat)):Int)=2*(j:Int)+1 by omega] at this
   unfold na
   have step:=fun s' (hs':s'.length≤2*(j+1))=>xv N p c y hc he hN m (j+1) s' W W hs'
   rw [show (((j+1:Nat)):Int)=(j:Int)+1 by omega] at step
   have hd:cleanL p (c.More.drop (2*j))=(bif p c.More[2*j].N then [c.More[2*j],c.More[2*j+1]] else [])++cleanL p (c.More.drop (2*(j+1))):=by
    rw [List.drop_eq_getElem_cons hj,List.drop_eq_getElem_cons hj1];rfl
   rw [hd];cases p c.More[2*j].N
   ·rw [cf,cf,r64 W W,step s W];rfl
   rw [ct,ct,r64 (a:=2*(j:Int)) W W,g0,bs,r64 (a:=2*(j:Int)) W W,r64 (a:=2*(j:Int)+1) W W,g1,bs,rF (by simp;omega),r64 W W,step _ (by simp;omega),SQ]
  rw [cQ W,cf,List.drop_eq_nil_of_le W];simp [cleanL]
theorem Ln (N:Nat)(hN:5000<N)(l:List Int)(hl:l.length≤5000)(c:SD)(hS:c.Slots.length≤600)(hc:c.More.length≤600):sd N c l=some (bif ko N c then cM N l c else CI):=by
 obtain ⟨h1, -,h2⟩:=Gs N W c W W;unfold sd cM;rw [h1,bs];cases hw:ko N c
 ·rfl
 have e1:=C4 N hN l hl c W (h2 hw) N 0 [] W W rfl (by simp);have e2:=xv N (fun x=>decide (x∈l)) c c W (h2 hw) hN N 0 [] W W (by simp);have e1':mR N l c N [] 0=_:=e1;have e2':gv N (xH (fun x=>decide (x∈l)) c.More) c c N 0 []=_:=e2
 have ec:qw N c=some c:=by
  unfold qw;rw [rF (by simp;omega),rF (by simp;omega)];rfl
 simp only [nt,cf,ct];rw [e1'];unfold pa sP;rw [ec,bs];simp only [List.drop_zero,List.nil_append];rw [e2'];rfl
theorem BO (N:Nat)(hN:5000<N)(l:List Int)(hl:l.length≤5000)(c:SD)(hS:c.Slots.length≤600)(hc:c.More.length≤600):mQ N c l=some (cM N l c):=by
 have h0:=Ln N hN l hl c hS hc;unfold mQ;rw [h0];unfold cM ko;obtain ⟨b,hb, -⟩:=ti N W c W W;rw [hb];cases decide (c.Kind=8)<;>cases b<;>rfl
theorem ES (N:Nat)(hN:5000<N)(l:List SD)(hl:l.length≤1000)(hc: ∀c∈l,c.Slots.length≤600∧c.More.length≤600):pz N l=some (l.map (cg N)):=by
 apply Sat.eq;unfold pz;refine cR (fun k i (s:List SD)=>iS N l k s (i:Int)) l.length (fun i s=>s=(l.take i).map (cg N)) _ ?_ ?_ N 0 [] W W U
 ·rintro k i s hi h1 go;show Sat (iS N l (k+1) s (i:Int)) _;have hci:=hc l[i] (List.getElem_mem _)
  have hsl:s.length≤i:=by rw [h1];simp;omega
  have hnext:s++ [cg N l[i]]=(l.take (i+1)).map (cg N):=by rw [bi hi,List.map_append, ←h1];rfl
  rw [iS.eq_2,cV W,ct,bf hi,bs];obtain ⟨b,hb,hb2⟩:=ti N W l[i] W W;rw [hb]
  have he:((bif decide (l[i].Kind=10) then ((some b).bind fun y17=>some y17) else some false):Option Bool)=some (rR N l[i]):=by
   unfold rR;rw [hb];cases decide (l[i].Kind=10)<;>cases b<;>rfl
  rw [he,bs];unfold o8;cases hw:rR N l[i]
  ·rw [cf,rF (by simp;omega),r64 W W];refine go _ ?_;rw [←hnext];unfold cg;rw [hw];rfl
  have hb1:b=true∧l[i].Kind=10:=by
   unfold rR at hw;rw [hb] at hw;cases b<;>simp at hw;exact ⟨U,hw⟩
  have h1m:=((hb2 hb1.1).2 hb1.2).1;rw [ct,yJ ⟨by omega,by omega,by show (1:Int).toNat≤_;exact h1m⟩,rF (by simp;omega),r64 W W];refine go _ ?_;rw [←hnext];unfold cg;rw [hw];rfl
 rintro k s h1;show Sat (iS N l (k+1) s _) _;rw [iS.eq_2,cQ W,cf];exact aQ (by rw [h1,List.take_length])
theorem Ha (N:Nat)(hN:5000<N){m:SB}{roots:List SG}(hs:Small m roots){L:List Int}(ho:iT N (dg N m) roots=some L):nq N m roots=some ⟨dg N m,L⟩:=by
 have h1:=hs.young;have h2:=hs.old;unfold nq;rw [ES N hN m.Young W fun c hc=>hs.cell (SR _ hc),bs,ES N hN m.Old W fun c hc=>hs.cell (SS _ hc),bs];have ho':iT N ⟨m.Young.map (cg N),m.Old.map (cg N)⟩ roots=some L:=ho;rw [ho',bs];rfl
theorem Lx (N:Nat)(hN:5000<N){a b A B:SB}{x y:List SG}{LA LB:List Int}(ba:nq N a x=some ⟨A,LA⟩)(bb:nq N b y=some ⟨B,LB⟩)(sA:SideOk A x LA)(sB:SideOk B y LB):dE N a x b y=some (lc N A x LA B y LB):=by
 have hA:=sA.len;have hB:=sB.len;have hx:=sA.small.roots;have hy:=sB.small.roots;unfold dE;rw [ba,bs,bb,bs];simp only
 have hv:=fun x y h1 h2 h3 h4 (_:True)=>Ig N ⟨A,LA⟩ ⟨B,LB⟩ (by show LA.length<N;omega) (by show LA.length≤5000;omega) (by show LB.length<N;omega) (by show LB.length≤5000;omega) sA.has sB.has x y h1 h2 h3 h4
 by_cases hl: ¬LA.length=LB.length
 ·rw [SO W];unfold lc;rw [SO hl];rfl
 replace hl:LA.length=LB.length:=by omega
 have hz:(LA.zip LB).length=LA.length:=by rw [List.length_zip];omega
 have hloop:kO N N 0 A.Young A.Old LA B.Young B.Old LB=some ((LA.zip LB).all fun p=>rC (aZ A) (aZ B) LA LB (cM N LA (be A p.1)) (cM N LB (be B p.2))):=by
  refine zv (fun k i=>kO N k i A.Young A.Old LA B.Young B.Old LB) (LA.zip LB) _ (fun k i h=> ?_) (fun k=> ?_) N W
  ·have hi:i<LA.length:=by omega
   have hi':i<LB.length:=by omega
   obtain ⟨c1,c2,c3,c4⟩:=sA.cell N LA[i];obtain ⟨d1,d2,d3,d4⟩:=sB.cell N LB[i];have e1:nX N ⟨A.Young,A.Old⟩ LA[i]=some (be A LA[i]):=GT N A _ (sA.in64 (List.getElem_mem _));have e2:nX N ⟨B.Young,B.Old⟩ LB[i]=some (be B LB[i]):=GT N B _ (sB.in64 (List.getElem_mem _));rw [kO.eq_2,cV W,ct,bf hi,bs,e1,bs,BO N hN LA W _ c1.1 c1.2,bs,bf hi',bs,e2,bs,BO N hN LB W _ d1.1 d1.2,bs,List.getElem_zip];simp only;generalize cM N LA (be A LA[i])=c at*;generalize cM N LB (be B LB[i])=d at*;have v1:iR N ⟨⟨A.Young,A.Old⟩,LA⟩ c.Slots ⟨⟨B.Young,B.Old⟩,LB⟩ d.Slots=_:=hv c.Slots d.Slots W W c3 d3 trivial;have v2:iR N ⟨⟨A.Young,A.Old⟩,LA⟩ c.More ⟨⟨B.Young,B.Old⟩,LB⟩ d.More=_:=hv c.More d.More W W c4 d4 trivial;rw [v1,v2,r64 W W];unfold rC;simp only [bs];cases decide (c.Kind=d.Kind)<;>cases decide (c.Shape=d.Shape)<;>cases decide (c.Flags=d.Flags)<;>cases oz (aZ A) (aZ B) LA LB c.Slots d.Slots<;>cases oz (aZ A) (aZ B) LA LB c.More d.More<;>rfl
  show kO N (k+1) _ A.Young A.Old LA B.Young B.Old LB=_;rw [hz,kO.eq_2,cQ W,cf];rfl
 have v0:=hv x y W W sA.x64 sB.x64 trivial;rw [SN (p:=(LA.length:Int)=(LB.length:Int)) W,v0,hloop];unfold lc;rw [SN hl];simp only [nt,cf,bs];cases oz (aZ A) (aZ B) LA LB x y<;>rfl
end Go.Proofs.YtmimkglhbmcokaaGreat