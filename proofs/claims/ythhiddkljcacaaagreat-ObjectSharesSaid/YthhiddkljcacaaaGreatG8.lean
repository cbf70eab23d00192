/- Merged texts: part 8. No conditions of their own. -/
import Derived.Test.YthhiddkljcacaaaGreatG7
import Derived.Test.YthhiddkljcacaaaGreatG2
import Derived.Test.YthhiddkljcacaaaGreatG1
import Derived.ProofKit
namespace Go.Proofs.YthhiddkljcacaaaGreat
open Go.RowKit
variable (N:Nat){b:Bool}{f:Bool->Option Bool}{a x:Int}{p:Int->Bool}{met:List (Int×Unit)}{row:List Int}{l:List Vp}{i k:Nat}{α β ρ σ:Type}{c:Vd}{m:Ve}{v:Vp}
theorem Vc:type_of% Tryz.underlying38:=Tryz.underlying38
theorem Vb:type_of% Tryz.underlying36:=Tryz.underlying36
theorem Va:type_of% Tryz.underlying29:=Tryz.underlying29
theorem U9:type_of% Tryz.underlying34:=Tryz.underlying34
set_option maxRecDepth 20000
def yR (N:Nat)(a0:Ve)(a1:Int):Option Bool:=
 bif decide (a1<1) then (some false) else (bif decide (a1.tmod 2=1) then (aD (in64 (a1 - 1)) (aD (in64 ((a1 - 1).tdiv 2)) (some (decide ((a1 - 1).tdiv 2<(a0.XA.length:Int)))))) else (aD (in64 (a1 - 2)) (aD (in64 ((a1 - 2).tdiv 2)) (some (decide ((a1 - 2).tdiv 2<(a0.Xz.length:Int)))))))
def Bc (a0:Ve)(a1:Int):Option Vd:=
 (yR N a0 a1).bind fun y5=>bif !y5 then (some (⟨0,0,0,0,[],[]⟩:Vd)) else (bif decide (a1.tmod 2=1) then (aD (in64 (a1 - 1)) (aD (in64 ((a1 - 1).tdiv 2)) ((ao a0.XA ((a1 - 1).tdiv 2)).bind fun a6=>some a6))) else (aD (in64 (a1 - 2)) (aD (in64 ((a1 - 2).tdiv 2)) ((ao a0.Xz ((a1 - 2).tdiv 2)).bind fun a8=>some a8))))
def fP (N:Nat)(a0:Vp):Option Bool:=
 (bif decide (a0.Xw<0) then (some true) else (some (decide (9<a0.Xw)))).bind fun b2=>bif b2 then (some false) else (bif decide (a0.Xw=5) then ((bif decide (a0.N=0) then (some (decide ((a0.S.size:Int)<=65536))) else (some false)).bind fun b5=>some b5) else (bif !(a0.S.toList==(⟨#[]⟩:ByteArray).toList) then (some false) else (bif decide (a0.Xw=2) then ((bif decide (a0.N=0) then (some true) else (some (decide (a0.N=1)))).bind fun b8=>some b8) else (bif decide (a0.Xw=3) then ((bif decide ((-9007199254740992)<=a0.N) then (some (decide (a0.N<=9007199254740992))) else (some false)).bind fun a6=>some a6) else ((bif decide (a0.Xw=6) then (some true) else (some (decide (a0.Xw=7)))).bind fun a8=>(bif a8 then (some true) else (some (decide (a0.Xw=9)))).bind fun b12=>bif b12 then (some (decide (1<=a0.N))) else (some (decide (a0.N=0))))))))
def lm (N:Nat)(a0:Int):Option Bool:=
 (bif decide (a0=1) then (some true) else (some (decide (a0=2)))).bind fun b1=>(bif b1 then (some true) else (some (decide (a0=3)))).bind fun b2=>(bif b2 then (some true) else (some (decide (a0=6)))).bind fun b3=>(bif b3 then (some true) else (some (decide (a0=8)))).bind fun b4=>(bif b4 then (some true) else (some (decide (a0=9)))).bind fun b5=>(bif b5 then (some true) else (some (decide (a0=10)))).bind fun b6=>some b6
def dI (N:Nat)(a0:Vp)(a1:Int):Option Bool:=
 (bif decide (a0.Xw=0) then (some true) else (some (decide (a0.Xw=a1)))).bind fun b2=>some b2
def jJ (a0:Vd):Option Bool:=
 (lm N a0.Xw).bind fun y4=>(bif y4 then (some true) else ((bif decide (a0.Xw=7) then (some (decide (0<(a0.Xy.length:Int)))) else (some false)).bind fun b6=>some b6)).bind fun b5=>bif b5 then ((bif decide (1<=(a0.Xy.length:Int)) then (some (decide ((a0.Xy.length:Int)<=1025))) else (some false)).bind fun b8=>(bif b8 then ((ao a0.Xy 0).bind fun a6=>(bif decide (a6.Xw=1) then (some true) else ((ao a0.Xy 0).bind fun a8=>some (decide (a8.Xw=7)))).bind fun b0=>some b0) else (some false)).bind fun b9=>some b9) else (bif decide (a0.Xw=7) then (some (decide (a0.XD=0))) else ((bif !decide (a0.XD=0) then (some true) else (some (!decide (a0.XB=0)))).bind fun b7=>bif b7 then (some false) else (bif decide (a0.Xw=5) then ((bif decide ((a0.Xy.length:Int)=2) then ((ao a0.Xy 0).bind fun c0=>(dI N c0 7).bind fun c7=>some c7) else (some false)).bind fun c8=>(bif c8 then ((ao a0.Xy 1).bind fun c9=>(dI N c9 7).bind fun d0=>some d0) else (some false)).bind fun d1=>some d1) else (some (decide ((a0.Xy.length:Int)=0))))))
def gL (N:Nat)(a0:Vp)(a1 a2:Int):Option Bool:=
 (bif decide (a0.Xw=3) then (some (decide (a1<=a0.N))) else (some false)).bind fun b2=>(bif b2 then (some (decide (a0.N<=a2))) else (some false)).bind fun b3=>some b3
def EN (N:Nat):Option Bool:=
 some true
def gq (N:Nat)(a1:Int)(a0:Vw):Nat->Int->Option Bool
 |0,_=>none
 |m5+1,p6=>bif decide (p6<(a0.length:Int)) then ((ao a0 p6).bind fun x8=>(bif !decide (x8.Xw=7) then (some true) else (aD (in64 (p6+1)) ((ao a0 (p6+1)).bind fun a6=>some (decide (a6.Xw=8))))).bind fun b9=>bif b9 then (some false) else ((bif decide (a1=4) then (aD (in64 (p6+2)) ((ao a0 (p6+2)).bind fun a8=>(dI N a8 7).bind fun b0=>(bif !b0 then (some true) else (aD (in64 (p6+3)) ((ao a0 (p6+3)).bind fun b5=>(gL N b5 0 9007199254740992).bind fun b6=>some (!b6)))).bind fun b7=>some b7)) else (some false)).bind fun c0=>bif c0 then (some false) else (aD (in64 (p6+a1)) ((gq N a1 a0 m5) (p6+a1))))) else (EN N)
def cU (a0:Vw)(a1:Int):Option Bool:=
 aD (a1≠0) (bif !decide ((a0.length:Int).tmod a1=0) then (some false) else (gq N a1 a0 N 0))
def ll (a0:Vd)(p7:Bool):Option Bool:=
 bif p7 then (some (decide ((a0.Xx.length:Int)=0))) else (bif decide (a0.Xw=3) then ((bif decide ((a0.Xx.length:Int)=3) then ((ao a0.Xx 0).bind fun a6=>(gL N a6 0 9007199254740992).bind fun a8=>some a8) else (some false)).bind fun b0=>(bif b0 then ((ao a0.Xx 1).bind fun b5=>(dI N b5 9).bind fun b6=>some b6) else (some false)).bind fun b7=>some b7) else (bif decide (a0.Xw=4) then ((bif decide (1<=(a0.Xx.length:Int)) then (some (decide ((a0.Xx.length:Int)<=4097))) else (some false)).bind fun b9=>(bif b9 then ((ao a0.Xx 0).bind fun c0=>(dI N c0 9).bind fun c7=>some c7) else (some false)).bind fun c8=>some c8) else (bif decide (a0.Xw=6) then ((bif decide ((a0.Xx.length:Int)=2) then ((ao a0.Xx 0).bind fun c9=>(gL N c9 0 3).bind fun d0=>some d0) else (some false)).bind fun d1=>(bif d1 then ((ao a0.Xx 1).bind fun d2=>(dI N d2 9).bind fun d3=>some d3) else (some false)).bind fun d4=>some d4) else (bif decide (a0.Xw=7) then ((bif decide (4<=(a0.Xx.length:Int)) then ((ao a0.Xx 2).bind fun d6=>(gL N d6 0 1).bind fun e0=>some e0) else (some false)).bind fun e1=>(bif e1 then ((ao a0.Xx 3).bind fun e2=>(gL N e2 0 9007199254740992).bind fun e3=>some e3) else (some false)).bind fun e4=>some e4) else (bif decide (a0.Xw=8) then ((cU N a0.Xx 2).bind fun e5=>some e5) else (bif decide (a0.Xw=10) then ((bif decide (1<=(a0.Xx.length:Int)) then ((ao a0.Xx 0).bind fun e6=>some (decide (e6.Xw=7))) else (some false)).bind fun e7=>(bif e7 then (aD ((0:Int)<=1/\(1:Int).toNat<=a0.Xx.length/\a0.Xx.length<=a0.Xx.length) ((cU N ((a0.Xx.drop ((1:Int).toNat)).take (a0.Xx.length - (1:Int).toNat)) 4).bind fun e8=>some e8)) else (some false)).bind fun e9=>some e9) else (bif decide (a0.Xw=9) then ((bif decide (2<=(a0.Xx.length:Int)) then ((ao a0.Xx 0).bind fun f1=>(gL N f1 0 2).bind fun f2=>some f2) else (some false)).bind fun f3=>some f3) else (some true))))))))
def lD (a0:Vd):Option Bool:=
 bif decide (1048576<(a0.Xx.length:Int)) then (some false) else (bif decide (a0.Xw=2) then (some (decide ((a0.Xx.length:Int)<=4096))) else (bif decide (a0.Xw=1) then (ll N a0 (decide (a0.Xw=1))) else (ll N a0 (decide (a0.Xw=5)))))
def cV (a0:Vd):Option Bool:=
 (jJ N a0).bind fun a6=>(bif a6 then ((lD N a0).bind fun a8=>some a8) else (some false)).bind fun b0=>some b0
def om (N:Nat)(a0:Vd):Nat->Int->Option Bool
 |0,_=>none
 |a6+1,p21=>bif decide (p21<(a0.Xx.length:Int)) then ((ao a0.Xx p21).bind fun a8=>(fP N a8).bind fun b0=>bif !b0 then (some false) else (aD (in64 (p21+1)) ((om N a0 a6) (p21+1)))) else (cV N a0)
def zK (a0:Vd):Option Bool:=
 om N a0 N 0
def iD (N:Nat)(a0:Vd):Nat->Int->Option Bool
 |0,_=>none
 |a6+1,p13=>bif decide (p13<(a0.Xy.length:Int)) then ((ao a0.Xy p13).bind fun a8=>(fP N a8).bind fun b0=>bif !b0 then (some false) else (aD (in64 (p13+1)) ((iD N a0 a6) (p13+1)))) else (zK N a0)
def el (a0:Vd):Option Bool:=
 (bif decide (a0.Xw<1) then (some true) else (some (decide (11<a0.Xw)))).bind fun b4=>(bif b4 then (some true) else (some (decide (a0.XD<0)))).bind fun b5=>(bif b5 then (some true) else (some (decide (a0.XB<0)))).bind fun b6=>(bif b6 then (some true) else (some (decide (63<a0.XB)))).bind fun b7=>(bif b7 then (some true) else (some (decide (a0.XC<0)))).bind fun b8=>(bif b8 then (some true) else (some (decide (1<a0.XC)))).bind fun b9=>bif b9 then (some false) else (iD N a0 N 0)
def yT (N:Nat)(a0:Vp):Option Bool:=
 (bif decide (a0.Xw=7) then (some true) else (some (decide (a0.Xw=9)))).bind fun b2=>some b2
def Ai (N:Nat)(a0 a1:Int):Option Bool:=
 (bif decide (a0=8) then (some true) else ((bif decide (a0=10) then (some (decide (0<a1))) else (some false)).bind fun b2=>(bif b2 then (aD (in64 (a1 - 1)) (some (decide (((a1 - 1).tmod 4).tmod 2=0)))) else (some false)).bind fun b3=>some b3)).bind fun b1=>some b1
def F2 (N:Nat)(a6:Vx):Option Vx:=
 some a6
def qO (N:Nat)(a6:Vx->Int->Option Vx)(a8:Int)(a0:Vd)(b0:Vx):Option Vx:=
 aD (in64 (a8+1)) (a6 b0 (a8+1))
def ma (N:Nat)(a0:Vd):Nat->Vx->Int->Option Vx
 |0,_,_=>none
 |b0+1,a8,a6=>bif decide (a6<(a0.Xx.length:Int)) then ((ao a0.Xx a6).bind fun b6=>(yT N b6).bind fun b7=>(bif b7 then ((Ai N a0.Xw a6).bind fun b9=>some (!b9)) else (some false)).bind fun c0=>bif c0 then ((ao a0.Xx a6).bind fun b5=>aD (bY (a8.length+([b5.N]:List Int).length)) (qO N (ma N a0 b0) a6 a0 (a8++([b5.N]:List Int)))) else (qO N (ma N a0 b0) a6 a0 a8)) else (F2 N a8)
def Be (a0:Vd)(p5:Vx):Option Vx:=
 ma N a0 N p5 0
def qP (N:Nat)(a6:Vx->Int->Option Vx)(p8:Int)(a0:Vd)(a8:Vx):Option Vx:=
 aD (in64 (p8+1)) (a6 a8 (p8+1))
def nD (N:Nat)(a0:Vd):Nat->Vx->Int->Option Vx
 |0,_,_=>none
 |m6+1,p7,p8=>bif decide (p8<(a0.Xy.length:Int)) then ((ao a0.Xy p8).bind fun a8=>(yT N a8).bind fun b0=>bif b0 then ((ao a0.Xy p8).bind fun a6=>aD (bY (p7.length+([a6.N]:List Int).length)) (qP N (nD N a0 m6) p8 a0 (p7++([a6.N]:List Int)))) else (qP N (nD N a0 m6) p8 a0 p7)) else (Be N a0 p7)
def uH (a0:Vd):Option Vx:=
 nD N a0 N [] 0
def CC (N:Nat)(p4:Vx):Option Vx:=
 some p4
def qw (N:Nat)(a6:Vx->Int->Option Vx)(p7:Int)(a0:Vw)(a8:Vx):Option Vx:=
 aD (in64 (p7+1)) (a6 a8 (p7+1))
def iJ (N:Nat)(a0:Vw):Nat->Vx->Int->Option Vx
 |0,_,_=>none
 |m5+1,p6,p7=>bif decide (p7<(a0.length:Int)) then ((ao a0 p7).bind fun a8=>(bif decide (a8.Xw=7) then (some true) else ((ao a0 p7).bind fun b0=>some (decide (b0.Xw=9)))).bind fun b12=>bif b12 then ((ao a0 p7).bind fun a6=>aD (bY (p6.length+([a6.N]:List Int).length)) (qw N (iJ N a0 m5) p7 a0 (p6++([a6.N]:List Int)))) else (qw N (iJ N a0 m5) p7 a0 p6)) else (CC N p6)
def oA (a0:Vw):Option Vx:=
 iJ N a0 N ([]:List Int) 0
def Mj (N:Nat):Option Bool:=
 some false
def CD (N:Nat)(a1:Int)(a0:Vx):Nat->Int->Option Bool
 |0,_=>none
 |m3+1,p4=>bif decide (p4<(a0.length:Int)) then ((ao a0 p4).bind fun x6=>bif decide (x6=a1) then (some true) else (aD (in64 (p4+1)) ((CD N a1 a0 m3) (p4+1)))) else (Mj N)
def EJ (a0:Vx)(a1:Int):Option Bool:=
 CD N a1 a0 N 0
def Kh (N:Nat)(p7:Vx):Option Vx:=
 some p7
def xL (N:Nat)(a8:Vx->Int->Option Vx)(a6:Int)(a2:Vx)(a0:Ve)(p13:Vx):Option Vx:=
 aD (in64 (a6+1)) (a8 p13 (a6+1))
def qv (N:Nat)(a2:Vx)(a0:Ve):Nat->Vx->Int->Option Vx
 |0,_,_=>none
 |m8+1,p9,a6=>bif decide (a6<(a2.length:Int)) then ((ao a2 a6).bind fun b0=>(yR N a0 b0).bind fun b5=>(bif b5 then ((ao a2 a6).bind fun b6=>(EJ N p9 b6).bind fun b7=>some (!b7)) else (some false)).bind fun b16=>bif b16 then ((ao a2 a6).bind fun a8=>aD (bY (p9.length+([a8]:List Int).length)) (xL N (qv N a2 a0 m8) a6 a2 a0 (p9++([a8]:List Int)))) else (xL N (qv N a2 a0 m8) a6 a2 a0 p9)) else (Kh N p9)
def ta (a0:Ve)(a1 a2:Vx):Option Vx:=
 qv N a2 a0 N a1 0
def EH (N:Nat)(p6:Vx):Option Vx:=
 some p6
def pC (N:Nat)(a0:Ve):Nat->Vx->Int->Option Vx
 |0,_,_=>none
 |m7+1,p8,p9=>bif decide (p9<(p8.length:Int)) then ((ao p8 p9).bind fun a6=>(Bc N a0 a6).bind fun a8=>(uH N a8).bind fun b0=>(ta N a0 p8 b0).bind fun b5=>aD (in64 (p9+1)) ((pC N a0 m7) b5 (p9+1))) else (EH N p8)
def lZ (a0:Ve)(a1:Vx)(a2:Int):Option Vx:=
 pC N a0 N a1 a2
def zI (N:Nat)(p6:Vx):Option Vx:=
 some p6
def tI (N:Nat)(a6:Vx->Int->Option Vx)(p9:Int)(a8:Vx):Option Vx:=
 aD (in64 (p9+1)) (a6 a8 (p9+1))
def pD (N:Nat)(b0:Vx->Int->Option Vx)(p9:Int):Nat->Vx->Int->Option Vx
 |0,_,_=>none
 |b6+1,a8,a6=>(bif decide (0<a6) then (aD (in64 (a6 - 1)) ((ao a8 (a6 - 1)).bind fun b7=>(ao a8 a6).bind fun b9=>some (decide (b9<b7)))) else (some false)).bind fun b16=>bif b16 then ((ao a8 a6).bind fun c0=>aD (in64 (a6 - 1)) ((ao a8 (a6 - 1)).bind fun b5=>(ao a8 a6).bind fun c7=>aD (in64 (a6 - 1)) ((ao (List.set a8 a6.toNat b5) (a6 - 1)).bind fun c8=>aD (in64 (a6 - 1)) ((pD N b0 p9 b6) (List.set (List.set a8 a6.toNat b5) ((a6 - 1).toNat) c0) (a6 - 1))))) else (tI N b0 p9 a8)
def iC (N:Nat):Nat->Vx->Int->Option Vx
 |0,_,_=>none
 |m7+1,p8,p9=>bif decide (p9<(p8.length:Int)) then (pD N (iC N m7) p9 N p8 p9) else (zI N p8)
def wi (a0:Vx):Option Vx:=
 aD (bY (([]:List Int).length+a0.length)) (iC N N (([]:List Int)++a0) 1)
def EK (a0:Vd):Option Bool:=
 (bif decide (a0.Xw=8) then ((el N a0).bind fun y5=>some y5) else (some false)).bind fun b4=>some b4
def Mk (N:Nat):Option Bool:=
 some false
def CE (N:Nat)(a0:Int)(a1:Vx):Nat->Int->Option Bool
 |0,_=>none
 |m3+1,p4=>bif decide (p4<(a1.length:Int)) then ((ao a1 p4).bind fun x6=>bif decide (x6=a0) then (some true) else (aD (in64 (p4+1)) ((CE N a0 a1 m3) (p4+1)))) else (Mk N)
def EL (a0:Int)(a1:Vx):Option Bool:=
 CE N a0 a1 N 0
def Bd (N:Nat)(p6:Vx):Option Vx:=
 some p6
def uX (N:Nat)(a6:Vx->Int->Option Vx)(p9:Int)(a1:Vx)(a0:Vd)(a8:Vx):Option Vx:=
 aD (in64 (p9+2)) (a6 a8 (p9+2))
def sJ (N:Nat)(a1:Vx)(a0:Vd):Nat->Vx->Int->Option Vx
 |0,_,_=>none
 |m7+1,p8,p9=>(EK N a0).bind fun a8=>(bif a8 then (some (decide (p9<(a0.Xx.length:Int)))) else (some false)).bind fun b12=>bif b12 then (aD (in64 (p9+1)) ((ao a0.Xx (p9+1)).bind fun a6=>(ao a0.Xx p9).bind fun b0=>(EL N b0.N a1).bind fun b5=>(bif b5 then ((bif decide (a6.Xw=7) then (some true) else (some (decide (a6.Xw=9)))).bind fun b6=>some b6) else (some false)).bind fun b7=>bif b7 then (aD (bY (p8.length+([a6.N]:List Int).length)) (uX N (sJ N a1 a0 m7) p9 a1 a0 (p8++([a6.N]:List Int)))) else (uX N (sJ N a1 a0 m7) p9 a1 a0 p8))) else (Bd N p8)
def xM (a0:Vd)(a1:Vx):Option Vx:=
 sJ N a1 a0 N [] 0
def zJ (a6:Vx->Option Vx)(p13:Vx)(a0:Ve)(a8:Vx):Option Vx:=
 bif decide ((a8.length:Int)=(p13.length:Int)) then (some a8) else ((lZ N a0 a8 (p13.length:Int)).bind fun b0=>a6 b0)
def oh (N:Nat)(a6:Vx->Option Vx)(p13:Vx)(a0:Ve):Nat->Vx->Int->Option Vx
 |0,_,_=>none
 |b5+1,a8,b0=>bif decide (b0<(p13.length:Int)) then ((ao a8 b0).bind fun b6=>(Bc N a0 b6).bind fun b7=>(xM N b7 a8).bind fun b9=>(ta N a0 a8 b9).bind fun c0=>aD (in64 (b0+1)) ((oh N a6 p13 a0 b5) c0 (b0+1))) else (zJ N a6 p13 a0 a8)
def kc (N:Nat)(a0:Ve):Nat->Vx->Option Vx
 |0,_=>none
 |a6+1,p13=>oh N (kc N a0 a6) p13 a0 N p13 0
def uG (a0:Ve)(a1:Vw):Option Vx:=
 (oA N a1).bind fun y5=>(ta N a0 ([]:List Int) y5).bind fun y8=>(lZ N a0 y8 0).bind fun a6=>kc N a0 N a6
def EI (a0:Ve)(a1:Vw):Option Vx:=
 (uG N a0 a1).bind fun y5=>(wi N y5).bind fun y7=>some y7
open Go.RowKit Go.ChangeShapes Go.WideShapes Go.Deep
def K1 (x:Vs):Prop:=(in64 x.Xw)/\(in64 x.N)/\(x.S.size<=reachBytes)
set_option maxRecDepth 100000 in
theorem Mh:JO VK 34 Bb K1:=fun {_ enc w base spare held _ cs y} h hw=>by
 obtain ⟨xs,m, -,hy,hl,hx,hf⟩:=DataW.trod_struct U9 h
 have hc:Tryz.prog.cellsOf 34=3:=by kernel_rfl
 rw [hc] at hl
 match cs,hl,hf with
 | [c0,c1,c2],_,hf=>
  have k0:DataW.trod enc VK w base spare held m 3 (List.take (Tryz.prog.cellsOf 3) (List.drop 0 [c0,c1,c2]))=xs[0]? :=hf 0 _ rfl
  have z0:Tryz.prog.cellsOf 3=1:=by kernel_rfl
  simp only [z0,V5,V6,WU,WV] at k0
  have l0:0<xs.length:=by rw [hx];decide
  obtain ⟨a0,r0,w0⟩:=(Rdr.w (qN z9)) (k0.trans (Wj l0)) (dV U9 hy hw (i:=0) rfl (Wj l0));have k1:DataW.trod enc VK w base spare held m 3 (List.take (Tryz.prog.cellsOf 3) (List.drop 1 [c0,c1,c2]))=xs[1]? :=hf 1 _ rfl
  have z1:Tryz.prog.cellsOf 3=1:=by kernel_rfl
  simp only [z1,V5,V6,WU,WV] at k1
  have l1:1<xs.length:=by rw [hx];decide
  obtain ⟨a1,r1,w1⟩:=(Rdr.w (qN z9)) (k1.trans (Wj l1)) (dV U9 hy hw (i:=1) rfl (Wj l1));have k2:DataW.trod enc VK w base spare held m 9 (List.take (Tryz.prog.cellsOf 9) (List.drop 2 [c0,c1,c2]))=xs[2]? :=hf 2 _ rfl
  have z2:Tryz.prog.cellsOf 9=1:=by kernel_rfl
  simp only [z2,V5,V6,WU,WV] at k2
  have l2:2<xs.length:=by rw [hx];decide
  obtain ⟨a2,r2,w2⟩:=(IL U0) (k2.trans (Wj l2)) (dV U9 hy hw (i:=2) rfl (Wj l2));obtain ⟨rfl, -⟩:=V0 (show [c0]=[_] from r0);obtain ⟨rfl, -⟩:=V0 (show [c1]=[_] from r1);obtain ⟨rfl, -⟩:=V0 (show [c2]=[_] from r2);exact ⟨⟨a0,a1,a2⟩,J,⟨w0,w1,w2⟩⟩
def vp (x:Vp):Prop:=(in64 x.Xw)/\(in64 x.N)/\(x.S.size<=reachBytes)
set_option maxRecDepth 100000 in
theorem uE:JO VK 29 av vp:=fun {_ enc w base spare held _ cs y} h hw=>by
 obtain ⟨xs,m, -,hy,hl,hx,hf⟩:=DataW.trod_struct Va h
 have hc:Tryz.prog.cellsOf 29=3:=by kernel_rfl
 rw [hc] at hl
 match cs,hl,hf with
 | [c0,c1,c2],_,hf=>
  have k0:DataW.trod enc VK w base spare held m 3 (List.take (Tryz.prog.cellsOf 3) (List.drop 0 [c0,c1,c2]))=xs[0]? :=hf 0 _ rfl
  have z0:Tryz.prog.cellsOf 3=1:=by kernel_rfl
  simp only [z0,V5,V6,WU,WV] at k0
  have l0:0<xs.length:=by rw [hx];decide
  obtain ⟨a0,r0,w0⟩:=(Rdr.w (qN z9)) (k0.trans (Wj l0)) (dV Va hy hw (i:=0) rfl (Wj l0));have k1:DataW.trod enc VK w base spare held m 3 (List.take (Tryz.prog.cellsOf 3) (List.drop 1 [c0,c1,c2]))=xs[1]? :=hf 1 _ rfl
  have z1:Tryz.prog.cellsOf 3=1:=by kernel_rfl
  simp only [z1,V5,V6,WU,WV] at k1
  have l1:1<xs.length:=by rw [hx];decide
  obtain ⟨a1,r1,w1⟩:=(Rdr.w (qN z9)) (k1.trans (Wj l1)) (dV Va hy hw (i:=1) rfl (Wj l1));have k2:DataW.trod enc VK w base spare held m 9 (List.take (Tryz.prog.cellsOf 9) (List.drop 2 [c0,c1,c2]))=xs[2]? :=hf 2 _ rfl
  have z2:Tryz.prog.cellsOf 9=1:=by kernel_rfl
  simp only [z2,V5,V6,WU,WV] at k2
  have l2:2<xs.length:=by rw [hx];decide
  obtain ⟨a2,r2,w2⟩:=(IL U0) (k2.trans (Wj l2)) (dV Va hy hw (i:=2) rfl (Wj l2));obtain ⟨rfl, -⟩:=V0 (show [c0]=[_] from r0);obtain ⟨rfl, -⟩:=V0 (show [c1]=[_] from r1);obtain ⟨rfl, -⟩:=V0 (show [c2]=[_] from r2);exact ⟨⟨a0,a1,a2⟩,J,⟨w0,w1,w2⟩⟩
def Iw (x:Vn):Prop:=(in64 x.Has)/\(in64 x.XE)/\(vp x.Value)/\(vp x.XL)/\(vp x.XM)
set_option maxRecDepth 100000 in
theorem Kg:JO VK 36 NI Iw:=fun {_ enc w base spare held _ cs y} h hw=>by
 obtain ⟨xs,m, -,hy,hl,hx,hf⟩:=DataW.trod_struct Vb h
 have hc:Tryz.prog.cellsOf 36=11:=by kernel_rfl
 rw [hc] at hl
 match cs,hl,hf with
 | [c0,c1,c2,c3,c4,c5,c6,c7,c8,c9,a6],_,hf=>
  have k0:DataW.trod enc VK w base spare held m 3 (List.take (Tryz.prog.cellsOf 3) (List.drop 0 [c0,c1,c2,c3,c4,c5,c6,c7,c8,c9,a6]))=xs[0]? :=hf 0 _ rfl
  have z0:Tryz.prog.cellsOf 3=1:=by kernel_rfl
  simp only [z0,V5,V6,WU,WV] at k0
  have l0:0<xs.length:=by rw [hx];decide
  obtain ⟨a0,r0,w0⟩:=(Rdr.w (qN z9)) (k0.trans (Wj l0)) (dV Vb hy hw (i:=0) rfl (Wj l0));have k1:DataW.trod enc VK w base spare held m 3 (List.take (Tryz.prog.cellsOf 3) (List.drop 1 [c0,c1,c2,c3,c4,c5,c6,c7,c8,c9,a6]))=xs[1]? :=hf 1 _ rfl
  have z1:Tryz.prog.cellsOf 3=1:=by kernel_rfl
  simp only [z1,V5,V6,WU,WV] at k1
  have l1:1<xs.length:=by rw [hx];decide
  obtain ⟨a1,r1,w1⟩:=(Rdr.w (qN z9)) (k1.trans (Wj l1)) (dV Vb hy hw (i:=1) rfl (Wj l1));have k2:DataW.trod enc VK w base spare held m 29 (List.take (Tryz.prog.cellsOf 29) (List.drop 2 [c0,c1,c2,c3,c4,c5,c6,c7,c8,c9,a6]))=xs[2]? :=hf 2 _ rfl
  have z2:Tryz.prog.cellsOf 29=3:=by kernel_rfl
  simp only [z2,V5,V6,WU,WV] at k2
  have l2:2<xs.length:=by rw [hx];decide
  obtain ⟨a2,r2,w2⟩:=uE (k2.trans (Wj l2)) (dV Vb hy hw (i:=2) rfl (Wj l2));have k3:DataW.trod enc VK w base spare held m 29 (List.take (Tryz.prog.cellsOf 29) (List.drop 5 [c0,c1,c2,c3,c4,c5,c6,c7,c8,c9,a6]))=xs[3]? :=hf 3 _ rfl
  have z3:Tryz.prog.cellsOf 29=3:=by kernel_rfl
  simp only [z3,V5,V6,WU,WV] at k3
  have l3:3<xs.length:=by rw [hx];decide
  obtain ⟨a3,r3,w3⟩:=uE (k3.trans (Wj l3)) (dV Vb hy hw (i:=3) rfl (Wj l3));have k4:DataW.trod enc VK w base spare held m 29 (List.take (Tryz.prog.cellsOf 29) (List.drop 8 [c0,c1,c2,c3,c4,c5,c6,c7,c8,c9,a6]))=xs[4]? :=hf 4 _ rfl
  have z4:Tryz.prog.cellsOf 29=3:=by kernel_rfl
  simp only [z4,V5,V6,WU,WV] at k4
  have l4:4<xs.length:=by rw [hx];decide
  obtain ⟨a4,r4,w4⟩:=uE (k4.trans (Wj l4)) (dV Vb hy hw (i:=4) rfl (Wj l4));obtain ⟨rfl, -⟩:=V0 (show [c0]=[_] from r0);obtain ⟨rfl, -⟩:=V0 (show [c1]=[_] from r1);have e2:[c2,c3,c4]=[.int .i64 a2.Xw,.int .i64 a2.N,.string a2.S]:=r2;simp only [V1,and_true] at e2;obtain ⟨rfl,rfl,rfl⟩:=e2;have e3:[c5,c6,c7]=[.int .i64 a3.Xw,.int .i64 a3.N,.string a3.S]:=r3;simp only [V1,and_true] at e3;obtain ⟨rfl,rfl,rfl⟩:=e3;have e4:[c8,c9,a6]=[.int .i64 a4.Xw,.int .i64 a4.N,.string a4.S]:=r4;simp only [V1,and_true] at e4;obtain ⟨rfl,rfl,rfl⟩:=e4;exact ⟨⟨a0,a1,a2,a3,a4⟩,J,⟨w0,w1,w2,w3,w4⟩⟩
def Hm (x:Vr):Prop:=(in64 x.Xw)/\(in64 x.O)/\(in64 x.P)/\(K1 x.K)/\(Iw x.D)/\(vp x.V)/\(in64 x.XE)
set_option maxRecDepth 100000 in
theorem NF:JO VK 38 DL Hm:=fun {_ enc w base spare held _ cs y} h hw=>by
 obtain ⟨xs,m, -,hy,hl,hx,hf⟩:=DataW.trod_struct Vc h
 have hc:Tryz.prog.cellsOf 38=21:=by kernel_rfl
 rw [hc] at hl
 match cs,hl,hf with
 | [c0,c1,c2,c3,c4,c5,c6,c7,c8,c9,a8,b0,b5,b6,b7,b9,d0,d1,d2,d3,d4],_,hf=>
  have k0:DataW.trod enc VK w base spare held m 3 (List.take (Tryz.prog.cellsOf 3) (List.drop 0 [c0,c1,c2,c3,c4,c5,c6,c7,c8,c9,a8,b0,b5,b6,b7,b9,d0,d1,d2,d3,d4]))=xs[0]? :=hf 0 _ rfl
  have z0:Tryz.prog.cellsOf 3=1:=by kernel_rfl
  simp only [z0,V5,V6,WU,WV] at k0
  have l0:0<xs.length:=by rw [hx];decide
  obtain ⟨a0,r0,w0⟩:=(Rdr.w (qN z9)) (k0.trans (Wj l0)) (dV Vc hy hw (i:=0) rfl (Wj l0));have k1:DataW.trod enc VK w base spare held m 3 (List.take (Tryz.prog.cellsOf 3) (List.drop 1 [c0,c1,c2,c3,c4,c5,c6,c7,c8,c9,a8,b0,b5,b6,b7,b9,d0,d1,d2,d3,d4]))=xs[1]? :=hf 1 _ rfl
  have z1:Tryz.prog.cellsOf 3=1:=by kernel_rfl
  simp only [z1,V5,V6,WU,WV] at k1
  have l1:1<xs.length:=by rw [hx];decide
  obtain ⟨a1,r1,w1⟩:=(Rdr.w (qN z9)) (k1.trans (Wj l1)) (dV Vc hy hw (i:=1) rfl (Wj l1));have k2:DataW.trod enc VK w base spare held m 3 (List.take (Tryz.prog.cellsOf 3) (List.drop 2 [c0,c1,c2,c3,c4,c5,c6,c7,c8,c9,a8,b0,b5,b6,b7,b9,d0,d1,d2,d3,d4]))=xs[2]? :=hf 2 _ rfl
  have z2:Tryz.prog.cellsOf 3=1:=by kernel_rfl
  simp only [z2,V5,V6,WU,WV] at k2
  have l2:2<xs.length:=by rw [hx];decide
  obtain ⟨a2,r2,w2⟩:=(Rdr.w (qN z9)) (k2.trans (Wj l2)) (dV Vc hy hw (i:=2) rfl (Wj l2));have k3:DataW.trod enc VK w base spare held m 34 (List.take (Tryz.prog.cellsOf 34) (List.drop 3 [c0,c1,c2,c3,c4,c5,c6,c7,c8,c9,a8,b0,b5,b6,b7,b9,d0,d1,d2,d3,d4]))=xs[3]? :=hf 3 _ rfl
  have z3:Tryz.prog.cellsOf 34=3:=by kernel_rfl
  simp only [z3,V5,V6,WU,WV] at k3
  have l3:3<xs.length:=by rw [hx];decide
  obtain ⟨a3,r3,w3⟩:=Mh (k3.trans (Wj l3)) (dV Vc hy hw (i:=3) rfl (Wj l3));have k4:DataW.trod enc VK w base spare held m 36 (List.take (Tryz.prog.cellsOf 36) (List.drop 6 [c0,c1,c2,c3,c4,c5,c6,c7,c8,c9,a8,b0,b5,b6,b7,b9,d0,d1,d2,d3,d4]))=xs[4]? :=hf 4 _ rfl
  have z4:Tryz.prog.cellsOf 36=11:=by kernel_rfl
  simp only [z4,V5,V6,WU,WV] at k4
  have l4:4<xs.length:=by rw [hx];decide
  obtain ⟨a4,r4,w4⟩:=Kg (k4.trans (Wj l4)) (dV Vc hy hw (i:=4) rfl (Wj l4));have k5:DataW.trod enc VK w base spare held m 29 (List.take (Tryz.prog.cellsOf 29) (List.drop 17 [c0,c1,c2,c3,c4,c5,c6,c7,c8,c9,a8,b0,b5,b6,b7,b9,d0,d1,d2,d3,d4]))=xs[5]? :=hf 5 _ rfl
  have z5:Tryz.prog.cellsOf 29=3:=by kernel_rfl
  simp only [z5,V5,V6,WU,WV] at k5
  have l5:5<xs.length:=by rw [hx];decide
  obtain ⟨a5,r5,w5⟩:=uE (k5.trans (Wj l5)) (dV Vc hy hw (i:=5) rfl (Wj l5));have k6:DataW.trod enc VK w base spare held m 3 (List.take (Tryz.prog.cellsOf 3) (List.drop 20 [c0,c1,c2,c3,c4,c5,c6,c7,c8,c9,a8,b0,b5,b6,b7,b9,d0,d1,d2,d3,d4]))=xs[6]? :=hf 6 _ rfl
  have z6:Tryz.prog.cellsOf 3=1:=by kernel_rfl
  simp only [z6,V5,V6,WU,WV] at k6
  have l6:6<xs.length:=by rw [hx];decide
  obtain ⟨a6,r6,w6⟩:=(Rdr.w (qN z9)) (k6.trans (Wj l6)) (dV Vc hy hw (i:=6) rfl (Wj l6));obtain ⟨rfl, -⟩:=V0 (show [c0]=[_] from r0);obtain ⟨rfl, -⟩:=V0 (show [c1]=[_] from r1);obtain ⟨rfl, -⟩:=V0 (show [c2]=[_] from r2);have e3:[c3,c4,c5]=[.int .i64 a3.Xw,.int .i64 a3.N,.string a3.S]:=r3;simp only [V1,and_true] at e3;obtain ⟨rfl,rfl,rfl⟩:=e3;have e4:[c6,c7,c8,c9,a8,b0,b5,b6,b7,b9,d0]=[.int .i64 a4.Has,.int .i64 a4.XE,.int .i64 a4.Value.Xw,.int .i64 a4.Value.N,.string a4.Value.S,.int .i64 a4.XL.Xw,.int .i64 a4.XL.N,.string a4.XL.S,.int .i64 a4.XM.Xw,.int .i64 a4.XM.N,.string a4.XM.S]:=r4;simp only [V1,and_true] at e4;obtain ⟨rfl,rfl,rfl,rfl,rfl,rfl,rfl,rfl,rfl,rfl,rfl⟩:=e4;have e5:[d1,d2,d3]=[.int .i64 a5.Xw,.int .i64 a5.N,.string a5.S]:=r5;simp only [V1,and_true] at e5;obtain ⟨rfl,rfl,rfl⟩:=e5;obtain ⟨rfl, -⟩:=V0 (show [d4]=[_] from r6);exact ⟨⟨a0,a1,a2,a3,a4,a5,a6⟩,J,⟨w0,w1,w2,w3,w4,w5,w6⟩⟩
set_option maxRecDepth 100000 in
theorem Sd {H:Type}{enc:TypeId×Value->H}{hJ:World}{r:Reach}{b0 base:Nat}{spare:Nat->Bool}{held:Bool}{v:Value}{d:DataW H}{p:List MemPlace}(hv:Value.okWide VK hJ r b0 22 v)(h:DataW.Trod enc VK hJ base spare held 22 v d p)(hz:Light VK 22 d): ∃(m:List Vr) (Aq_0:Option Addr) (nq_0 cq_0:Nat),v=W Aq_0 nq_0 cq_0/\(Tz (fun z22=>Hm z22) m)/\(iI DL (W Aq_0 nq_0 cq_0) m).ok (fun _=>False) (fun q=>q<hJ.heap.size) hJ:=by
 obtain ⟨A,n,c,rfl⟩:=okWide_slice Ex hv;obtain ⟨fuel,hf⟩:=h;obtain ⟨m,⟨u,e,h1⟩,hw⟩:=(PB Ex I (by decide) (Xn I) NF) hf hz;obtain ⟨rfl, -⟩:=V0 (show [_]=[_] from e);exact ⟨m,A,n,c,J,hw,h1⟩
def Sat (m:Option ρ)(R:ρ->Prop):Prop:= ∃r,m=some r/\R r
theorem ad {x:ρ}{R:ρ->Prop}(h:R x):Sat (some x) R:=⟨x,rfl,h⟩
theorem Sat.eq {m:Option ρ}{x:ρ}(h:Sat m (· =x)):m=some x:=by obtain ⟨r,h1,rfl⟩:=h;exact h1
theorem Sat.mono {m:Option ρ}{R Q:ρ->Prop}(h:Sat m R)(k:∀x,R x->Q x):Sat m Q:=by obtain ⟨r,h1,h2⟩:=h;exact ⟨r,h1,k _ h2⟩
theorem Sat.bind {m:Option σ}{f:σ->Option ρ}{P:σ->Prop}{R:ρ->Prop}(h:Sat m P)(k:∀x,P x->Sat (f x) R):Sat (m.bind f) R:=by obtain ⟨x,rfl,h2⟩:=h;exact k x h2
theorem kL {x y:Option ρ}{R:ρ->Prop}(h1:b=true->Sat x R)(h2:b=false->Sat y R):Sat (bif b then x else y) R:=by cases b with|true=>exact h1 rfl|false=>exact h2 rfl
theorem aK {p:Prop}[Decidable p]{x y:Option ρ}{R:ρ->Prop}(h1:p->Sat x R)(h2:¬p->Sat y R):Sat (bif decide p then x else y) R:=by
 by_cases h:p
 ·rw [Vy h];exact h1 h
 rw [Vz h];exact h2 h
theorem La {x y:Option ρ}{R:ρ->Prop}(h1:b=false->Sat x R)(h2:b=true->Sat y R):Sat (bif !b then x else y) R:=by cases b with|true=>exact h2 rfl|false=>exact h1 rfl
theorem cQ {b:Prop}[Decidable b]{m:Option ρ}{R:ρ->Prop}(h:b)(k:Sat m R):Sat (aD b m) R:=by unfold aD;rw [if_pos h];exact k
theorem rq {xs:List α}{i:Int}{f:α->Option ρ}{R:ρ->Prop}(h0:0<=i)(h1:i<xs.length)(k:∀x,xs[i.toNat]? =some x->Sat (f x) R):Sat ((ao xs i).bind f) R:=by
 unfold ao;rw [if_neg U,Wj U];exact k _ (Wj U)
theorem bs {x:σ}{f:σ->Option ρ}:(some x).bind f=f x:=Eq.trans rfl rfl
theorem ct {x y:ρ}:(bif true then x else y)=x:=Eq.trans rfl rfl
theorem cf {x y:ρ}:(bif false then x else y)=y:=Eq.trans rfl rfl
theorem nt:(!true)=false:=Eq.trans rfl rfl
theorem nf:(!false)=true:=Eq.trans rfl rfl
theorem dn {b:Int}(h:a<b):decide (a<b)=true:=Vy h
theorem cY {b:Int}(h:b<=a):decide (a<b)=false:=Vz U
theorem Oi {b:Int}(h:a<=b):decide (a<=b)=true:=Vy h
theorem Oj {b:Int}(h:b<a):decide (a<=b)=false:=Vz U
theorem sP {b:Int}(h:a=b):decide (a=b)=true:=Vy h
theorem iO {b:Int}(h:a≠b):decide (a=b)=false:=Vz h
theorem gi {b:Prop}[Decidable b]{m:Option ρ}(h:b):aD b m=m:=if_pos h
theorem r64 {m:Option ρ}(h1:-9000000000000000000<=a)(h2:a<=9000000000000000000):aD (in64 a) m=m:=if_pos ⟨by omega,by omega⟩
theorem rF {n:Nat}{m:Option ρ}(h:n<=1000000):aD (bY n) m=m:=if_pos (by unfold bY;omega)
theorem Qa {xs:List α}{i:Int}(h0:0<=i)(h1:i.toNat<xs.length):ao xs i=some xs[i.toNat]:=by
 unfold ao;rw [if_neg U,Wj h1]
theorem aG {xs:List α}(h1:i<xs.length):ao xs (i:Int)=some xs[i]:=by
 unfold ao;rw [if_neg U,VW,Wj h1]
theorem cG (L:Nat->Nat->σ->Option ρ)(n:Nat)(Inv:Nat->σ->Prop)(R:ρ->Prop)(round:∀m i s,i<n->Inv i s->(∀s',Inv (i+1) s'->Sat (L m (i+1) s') R)->Sat (L (m+1) i s) R)(fin:∀m s,Inv n s->Sat (L (m+1) n s) R): ∀m i s,n<m+i->i<=n->Inv i s->Sat (L m i s) R
 |0,i,s,h,h2,_=>by omega
 |m+1,i,s,h,h2,hi=>by
  by_cases e:i=n
  ·subst e;exact fin m s hi
  exact round m i s U hi fun s' h'=>cG L n Inv R round fin m (i+1) s' U U h'
theorem rB (L:Nat->σ->Option ρ)(v:σ->Nat)(Inv:σ->Prop)(R:ρ->Prop)(round:∀m s,Inv s->(∀s',v s'<v s->Inv s'->Sat (L m s') R)->Sat (L (m+1) s) R): ∀m s,v s<m->Inv s->Sat (L m s) R
 |0,_,h,_=>by omega
 |m+1,s,h,hi=>round m s hi fun s' h1 h2=>rB L v Inv R round m s' U h2
theorem ay {l:List α}(h:i<l.length):l.take (i+1)=l.take i++ [l[i]]:=by
 rw [List.take_add_one,Wj h];rfl
theorem LK: ∀{a b:List Int},a.Pairwise (· < ·)->b.Pairwise (· < ·)->(∀x,x∈a↔x∈b)->a=b
 | [],[],_,_,_=>rfl
 | [],y::b,_,_,h=>by have:=(h y).2 (by simp);cases this
 |x::a,[],_,_,h=>by have:=(h x).1 (by simp);cases this
 | x::a,y::b,ha,hb,h=>by
  obtain ⟨ha1,ha2⟩:=List.pairwise_cons.1 ha;obtain ⟨a6,a8⟩:=List.pairwise_cons.1 hb
  have e:x=y:=by
   rcases WF.1 ((h x).1 (by simp)) with e|h1
   ·exact e
   rcases WF.1 ((h y).2 (by simp)) with e|h2
   ·exact e.symm
   have:=a6 x h1;have:=ha1 y h2;omega
  subst e;rw [LK ha2 a8 fun z=> ?_];constructor
  ·intro hz;rcases WF.1 ((h z).1 (by simp [hz])) with e|h1
   ·subst e;exact absurd (ha1 z hz) U
   exact h1
  intro hz;rcases WF.1 ((h z).2 (by simp [hz])) with e|h1
  ·subst e;exact absurd (a6 z hz) U
  exact h1
theorem KK [DecidableEq α](a:α)(L:List (α×β)):(∃i b,fp a L 0=some (i,b)/\L[i]? =some (a,b))\/(fp a L 0=none/\a∉L.map (·.1)):=by
 cases h:fp a L 0 with
 | none=>exact .inr ⟨rfl,fun h1=>by
   obtain ⟨p,h2,h3⟩:=WI.1 h1
   exact (Qc a L).1 h p h2 h3⟩
 |some q=>obtain ⟨i,b⟩:=q;exact .inl ⟨i,b,J,(Lx a L 0 i b h).2⟩
theorem AN [DecidableEq α](L:List (α×β))(a:α)(b:β):(wI L a b).map (·.1)=if a∈L.map (·.1) then L.map (·.1) else L.map (·.1)++ [a]:=by
 unfold wI;rcases KK a L with ⟨i,c,h1,h2⟩|⟨h1,h2⟩
 ·have hm:a∈L.map (·.1):=WI.2 ⟨_,WJ h2,rfl⟩;rw [h1,if_pos hm];show (L.set i (a,b)).map (·.1)=_;rw [List.map_set];apply V8;intro j;by_cases e:i=j
  ·subst e;have hlt:=(Wl.1 h2).1;rw [Wo (by simpa using hlt),Wm,h2];rfl
  rw [Wn e]
 rw [h1,if_neg h2];show (L++ [(a,b)]).map (·.1)=_;rw [WB];rfl
theorem Ps [DecidableEq α](L:List (α×β))(a:α)(b:β)(x:α):x∈(wI L a b).map (·.1)↔x=a\/x∈L.map (·.1):=by
 rw [AN];split
 ·constructor
  ·exact .inr
  rintro (rfl|h)<;>assumption
 rw [WE,WL];exact Or.comm
theorem wM: ∀{l:List α} {i:Nat} {a:α},l.Nodup->l[i]? =some a-> ∀x,x∈l.eraseIdx i↔x∈l/\x≠a
 | [],_,_,_,h,_=>by simp at h
 |y::l,0,a,hn,h,x=>by
  simp only [Wh,Xf] at h;subst h;rw [List.eraseIdx_cons_zero];obtain ⟨h1, -⟩:=List.nodup_cons.1 hn;constructor
  ·intro hx;exact ⟨by simp [hx],fun e=>h1 (e▸hx)⟩
  rintro ⟨hx,hne⟩;rcases WF.1 hx with e|hx
  ·exact absurd e hne
  exact hx
 | y::l,i+1,a,hn,h,x=>by
  simp only [Wg] at h;obtain ⟨h1,h2⟩:=List.nodup_cons.1 hn;rw [List.eraseIdx_cons_succ,WF,WF,wM h2 h x];have ha:a∈l:=WJ h;constructor
  ·rintro (rfl|⟨h3,h4⟩)
   ·exact ⟨.inl J,fun e=>h1 (e▸ha)⟩
   exact ⟨.inr h3,h4⟩
  rintro ⟨rfl|h3,h4⟩
  ·exact .inl J
  exact .inr ⟨h3,h4⟩
theorem G5 [DecidableEq α]{L:List (α×β)}(h:(L.map (·.1)).Nodup)(a:α):(∀x,x∈(C1 L a).map (·.1)↔x∈L.map (·.1)/\x≠a)/\((C1 L a).map (·.1)).Nodup/\(C1 L a).length<=L.length:=by
 unfold C1;rcases KK a L with ⟨i,c,h1,h2⟩|⟨h1,h2⟩
 ·rw [h1]
  have h3:(L.map (·.1))[i]? =some a:=by rw [Wm,h2];rfl
  show (∀x,x∈(L.eraseIdx i).map (·.1)↔_)/\((L.eraseIdx i).map (·.1)).Nodup/\(L.eraseIdx i).length<=_;rw [<-C0];exact ⟨wM h h3,h.sublist (List.eraseIdx_sublist _ _),(List.eraseIdx_sublist _ _).length_le⟩
 rw [h1];exact ⟨fun x=>⟨fun hx=>⟨hx,fun e=>h2 (e▸hx)⟩,fun hx=>hx.1⟩,h,W4 _⟩
theorem oq (xs:List α)(i:Nat):ao xs (i:Int)=xs[i]? :=by
 unfold ao;rw [if_neg U];simp
theorem DY {b:Prop}[Decidable b]{m:Option ρ}(h:b):aD b m=m:=if_pos h
def bd (v:Vp):Bool:=decide (v.Xw=7)||decide (v.Xw=9)
def mu (k:Int)(i:Nat):Bool:=!decide (k=8)&&(!decide (k=10)||decide ((i:Int).tmod 2=0))
def pick (f:Nat->Vp->Bool):Nat->List Vp->List Int
 |_,[]=> []
 |i,v::l=>(bif f i v then [v.N] else [])++pick f (i+1) l
theorem pf (f:Nat->Vp->Bool)(i:Nat)(v:Vp)(l:List Vp):pick f i (v::l)=(bif f i v then [v.N] else [])++pick f (i+1) l:=rfl
theorem Bj (f:Nat->Vp->Bool): ∀(i:Nat) (l:List Vp),(pick f i l).length<=l.length
 |_,[]=>W4 _
 |i,v::l=>by
  have:=Bj f (i+1) l;unfold pick;cases f i v<;>simp<;>omega
theorem Gy: ∀(i:Nat) (l:List Vp),pick (fun _ _=>false) i l=[]
 |_,[]=>rfl
 |i,v::l=>by unfold pick;simp [Gy (i+1) l]
theorem sg (N:Nat)(v:Vp):nI N v=some (bd v):=by
 unfold nI bd;cases decide (v.Xw=7)<;>rfl
theorem AV (N:Nat)(v:Vp):yT N v=some (bd v):=by
 unfold yT bd;cases decide (v.Xw=7)<;>rfl
theorem Ha (N:Nat)(a b:Bool)(x:Vp)(p:List Int)(h:p.length<=5000):cO (fun x st=>eZ N a x st) (b,x) (none,p)=some (true,(none,p++(bif (b==a)&&bd x then [x.N] else []))):=by
 unfold cO eZ;simp only [sg,Xb];cases b==a
 ·simp
 cases bd x
 ·simp
 have:bY (p.length+ [x.N].length):=by unfold bY;simp only [Wv,Wy];omega
 simp only [cond_true,Xb,Bool.and_self];rw [DY this];rfl
theorem LL (N:Nat)(a:Bool)(c:Vd)(hc:c.Xx.length<=2900)(K:Nat)(hK:K<=1000): ∀(m i:Nat) (p:List Int),c.Xx.length<m+i->i<=c.Xx.length->p.length<=K+i->lV N (cO (fun x st=>eZ N a x st)) c m (i:Int) (none,p)=some (none,p++pick (fun i v=>(mu c.Xw i==a)&&bd v) i (c.Xx.drop i))
 |0,i,p,h,h2,_=>by omega
 | m+1,i,p,h,h2,h3=>by
  rw [lV.eq_2];by_cases hi:i<c.Xx.length
  ·rw [show (decide ((i:Int)<(c.Xx.length:Int)))=true from Vy U,oq,Wj hi,V3 hi];simp only [cond_true,Xb]
   have hs:(bif !decide (c.Xw=8) then ((bif !decide (c.Xw=10) then (some true) else (some (decide ((i:Int).tmod 2=0)))).bind fun a6=>some a6) else (some false))=some (mu c.Xw i):=by
    unfold mu;cases decide (c.Xw=8)<;>cases decide (c.Xw=10)<;>rfl
   rw [hs];simp only [Xb];rw [Ha N a _ _ _ U];rw [Xb]
   dsimp only
   rw [Bool.not_true,cond_false];rw [DY (by unfold in64;omega)]
   have hlen:(p++(bif (mu c.Xw i==a)&&bd c.Xx[i] then [c.Xx[i].N] else [])).length<=K+(i+1):=by
    cases (mu c.Xw i==a)&&bd c.Xx[i]<;>simp<;>omega
   have:=LL N a c hc K hK m (i+1) _ U hi hlen;simp only [VT,VS] at this;rw [this];rw [pf,VB]
  rw [show (decide ((i:Int)<(c.Xx.length:Int)))=false from Vz U,V4 U];simp [pick]
theorem Pe (N:Nat)(hN:6500<N)(a:Bool)(c:Vd)(hS:c.Xy.length<=1000)(hc:c.Xx.length<=2900): ∀(m i:Nat) (p:List Int),c.Xy.length<m+i->i<=c.Xy.length->p.length<=i->kZ N (cO (fun x st=>eZ N a x st)) c m (i:Int) (none,p)=some (none,(p++pick (fun _ v=>(true==a)&&bd v) i (c.Xy.drop i))++pick (fun i v=>(mu c.Xw i==a)&&bd v) 0 c.Xx)
 |0,i,p,h,h2,_=>by omega
 | m+1,i,p,h,h2,h3=>by
  rw [kZ.eq_2];by_cases hi:i<c.Xy.length
  ·rw [show (decide ((i:Int)<(c.Xy.length:Int)))=true from Vy U,oq,Wj hi,V3 hi];simp only [cond_true,Xb];rw [Ha N a _ _ _ U];rw [Xb]
   dsimp only
   rw [Bool.not_true,cond_false];rw [DY (by unfold in64;omega)]
   have hlen:(p++(bif (true==a)&&bd c.Xy[i] then [c.Xy[i].N] else [])).length<=(i+1):=by
    cases (true==a)&&bd c.Xy[i]<;>simp<;>omega
   have:=Pe N hN a c hS hc m (i+1) _ U hi hlen;simp only [VT,VS] at this;rw [this];rw [pf,VB p]
  rw [show (decide ((i:Int)<(c.Xy.length:Int)))=false from Vz U,V4 U];simp only [cond_false,um];have:=LL N a c hc p.length U N 0 p U U U;simp only [Int.natCast_zero,VS] at this;rw [this];simp [pick]
theorem yy (N:Nat)(hN:6500<N)(a:Bool)(c:Vd)(hS:c.Xy.length<=1000)(hc:c.Xx.length<=2900):la N c a=some (pick (fun _ v=>(true==a)&&bd v) 0 c.Xy++pick (fun i v=>(mu c.Xw i==a)&&bd v) 0 c.Xx):=by
 unfold la uo ou;have:=Pe N hN a c hS hc N 0 [] U U (by simp);simp only [Int.natCast_zero,VS] at this;rw [Xb,this,Xb];show some _=some _;simp
def nX (k:Int)(i:Nat):Bool:=decide (k=8)||(decide (k=10)&&(decide (0<(i:Int))&&decide ((((i:Int) - 1).tmod 4).tmod 2=0)))
theorem LP (N:Nat)(k:Int)(i:Nat)(hi:i<=5000):Ai N k (i:Int)=some (nX k i):=by
 unfold Ai nX;by_cases h1:k=8
 ·simp [h1]
 by_cases h2:k=10
 ·by_cases h3:(0:Int)<i
  ·subst h2;simp only [h3,decide_true,ct,bs,r64 (a:=(i:Int) - 1) U U,show decide ((10:Int)=8)=false from rfl,cf,Bool.false_or,VR]
  subst h2;simp only [h3,decide_true,decide_false,ct,bs,show decide ((10:Int)=8)=false from rfl,cf,Bool.false_or,VR,VP]
 simp [h1,h2]
theorem EB (N:Nat)(hN:6500<N)(c:Vd)(hS:c.Xy.length<=1000)(hc:c.Xx.length<=2900):uH N c=some (pick (fun _ v=>bd v) 0 c.Xy++pick (fun i v=> !nX c.Xw i&&bd v) 0 c.Xx):=by
 apply Sat.eq;unfold uH;refine cG (fun m i s=>nD N c m s (i:Int)) c.Xy.length (fun i s=>s++pick (fun _ v=>bd v) i (c.Xy.drop i)=pick (fun _ v=>bd v) 0 c.Xy/\s.length<=i) _ ?_ ?_ N 0 [] U U ⟨by simp,by simp⟩
 ·rintro m i s hi ⟨h1,h2⟩ k;show Sat (nD N c (m+1) s i) _;rw [V3 hi,pf] at h1;rw [nD.eq_2,dn U,cond_true,aG hi,bs,AV,bs];simp only [bs];cases hh:bd c.Xy[i]
  all_goals
   simp only [hh,ct,cf,bs,Xu] at h1⊢
   first
   |(unfold qP
     rw [r64 U U]
     exact k s ⟨h1,by omega⟩)
   |(rw [rF (by simp;omega)]
     unfold qP;rw [r64 U U]
     exact k _ ⟨by rw [VB];exact h1,by simp;omega⟩)
 rintro m s ⟨h1,h2⟩;show Sat (nD N c (m+1) s _) _;rw [List.drop_length] at h1
 have h1:s=pick (fun _ v=>bd v) 0 c.Xy:=by rw [<-h1];simp [pick]
 rw [nD.eq_2,cY U,cond_false, <-h1];unfold Be;clear h1;refine cG (fun m i s=>ma N c m s (i:Int)) c.Xx.length (fun i t=>t++pick (fun i v=> !nX c.Xw i&&bd v) i (c.Xx.drop i)=s++pick (fun i v=> !nX c.Xw i&&bd v) 0 c.Xx/\t.length<=1000+i) _ ?_ ?_ N 0 s U U ⟨by simp,by omega⟩
 ·rintro m i s hi ⟨h1,h2⟩ k;show Sat (ma N c (m+1) s i) _;rw [V3 hi,pf] at h1;rw [ma.eq_2,dn U,cond_true,aG hi,bs,AV,bs,LP _ _ _ U];simp only [bs];cases hh:bd c.Xx[i]<;>cases hw:nX c.Xw i
  all_goals
   simp only [hh,hw,Bool.and_true,Bool.and_false,nt,nf,ct,cf,bs,Xu] at h1⊢
   first
   |(unfold qO
     rw [r64 U U]
     exact k s ⟨h1,by omega⟩)
   |(rw [rF (by simp;omega)]
     unfold qO;rw [r64 U U]
     exact k _ ⟨by rw [VB];exact h1,by simp;omega⟩)
 rintro m s ⟨h1,h2⟩;show Sat (ma N c (m+1) s _) _;rw [List.drop_length] at h1;rw [ma.eq_2,cY U,cond_false];exact ad (by rw [<-h1];simp [pick])
theorem De (k:Int)(i:Nat):mu k i=!nX k i:=by
 unfold mu nX;by_cases h8:k=8
 ·subst h8;rfl
 by_cases h10:k=10
 ·subst h10;have e0:(i:Int).tmod 2=(i:Int)%2:=VV U;by_cases hi:(0:Int)<i
  ·have e1:((i:Int) - 1).tmod 4=((i:Int) - 1)%4:=VV U;have e2:(((i:Int) - 1)%4).tmod 2=(((i:Int) - 1)%4)%2:=VV U;rw [e0,e1,e2];by_cases h:(i:Int)%2=0
   ·have h2: ¬(((i:Int) - 1)%4)%2=0:=by omega
    rw [Vy h,Vz h2,Vy hi];rfl
   have h2:(((i:Int) - 1)%4)%2=0:=by omega
   rw [Vz h,Vy h2,Vy hi];rfl
  have:i=0:=by omega
  subst this;rfl
 simp [h8,h10]
def ce (c:Vd):List Int:=pick (fun _ v=>bd v) 0 c.Xy++pick (fun i v=> !nX c.Xw i&&bd v) 0 c.Xx
theorem qz (N:Nat)(hN:6500<N)(c:Vd)(hS:c.Xy.length<=1000)(hc:c.Xx.length<=2900):iz N c=some (ce c):=by
 unfold iz ce;rw [yy N hN true c hS hc,bs]
 have e1:(fun (_:Nat) (v:Vp)=>(true==true)&&bd v)=fun _ v=>bd v:=by funext i v;rfl
 have e2:(fun (i:Nat) (v:Vp)=>(mu c.Xw i==true)&&bd v)=fun i v=> !nX c.Xw i&&bd v:=by funext i v;rw [De];cases nX c.Xw i<;>rfl
 rw [e1,e2]
theorem MM (N:Nat)(hN:6500<N)(c:Vd)(hS:c.Xy.length<=1000)(hc:c.Xx.length<=2900):uH N c=some (ce c):=EB N hN c hS hc
theorem nj (c:Vd):(ce c).length<=c.Xy.length+c.Xx.length:=by
 unfold ce;have h1:=Bj (fun _ v=>bd v) 0 c.Xy;have h2:=Bj (fun i v=> !nX c.Xw i&&bd v) 0 c.Xx;rw [Xp];omega
theorem Bi {f:Nat->Vp->Bool}: ∀{i:Nat} {l:List Vp},x∈pick f i l-> ∃v∈l,v.N=x
 |_,[],h=>by cases h
 | i,v::l,h=>by
  rw [pf,WE] at h;rcases h with h|h
  ·cases hf:f i v
   ·rw [hf] at h;cases h
   rw [hf] at h;exact ⟨v,by simp,(WL.1 h).symm⟩
  obtain ⟨w,h1,h2⟩:=Bi h;exact ⟨w,by simp [h1],h2⟩
theorem Fg (h:x∈ce c): ∃v∈c.Xy++c.Xx,v.N=x:=by
 unfold ce at h;rcases WE.1 h with h|h
 ·obtain ⟨v,h1,h2⟩:=Bi h;exact ⟨v,by simp [h1],h2⟩
 obtain ⟨v,h1,h2⟩:=Bi h;exact ⟨v,by simp [h1],h2⟩
def Gi:Vd:=⟨0,0,0,0,[],[]⟩
def jl (m:Ve)(a:Int):Option Vd:=if a<1 then none else if a%2=1 then m.XA[((a - 1) / 2).toNat]? else m.Xz[((a - 2) / 2).toNat]?
def aw (m:Ve)(a:Int):Bool:=(jl m a).isSome
def aJ (m:Ve)(a:Int):Vd:=(jl m a).getD Gi
structure Small (m:Ve) (roots:List Vp):Prop where
 young:m.XA.length<=600
 old:m.Xz.length<=600
 roots:roots.length<=600
 cells: ∀c∈m.XA++m.Xz,c.Xy.length<=600/\c.Xx.length<=2900
theorem uv (h:jl m a=some c):c∈m.XA++m.Xz:=by
 unfold jl at h;split at h
 ·cases h
 split at h
 ·exact VC _ (WJ h)
 exact VD _ (WJ h)
theorem Small.at_ {roots:List Vp}(h:Small m roots)(a:Int):(aJ m a).Xy.length<=600/\(aJ m a).Xx.length<=2900:=by
 unfold aJ
 cases hc:jl m a with
 |none=>exact ⟨by simp [Gi],by simp [Gi]⟩
 |some c=>exact h.cells c (uv hc)
theorem ue (h:aw m a=true):0<a:=by
 unfold aw jl at h;split at h
 ·cases h
 omega
theorem zc {roots:List Vp}(hs:Small m roots)(h:aw m a=true):a<=1200:=by
 have h1:=hs.young;have h2:=hs.old;unfold aw jl at h;split at h
 ·cases h
 split at h
 ·have:=(Wl.1 (Option.isSome_iff_exists.1 h).choose_spec).1;omega
 have:=(Wl.1 (Option.isSome_iff_exists.1 h).choose_spec).1;omega
theorem zA (h:0<=a):a.tdiv 2=a / 2:=VU h
theorem tl (h:0<=a):a.tmod 2=a%2:=VV h
theorem zb (l:List α)(i:Nat):(l[i]?).isSome=decide ((i:Int)<(l.length:Int)):=by
 by_cases h:i<l.length
 ·rw [Wj h,Vy U];rfl
 rw [Wk U,Vz U];rfl
theorem wE (m:Ve)(a:Int):(a<1/\jl m a=none)\/(∃k:Nat,a=2*(k:Int)+1/\jl m a=m.XA[k]?)\/(∃k:Nat,a=2*(k:Int)+2/\jl m a=m.Xz[k]?):=by
 by_cases h:a<1
 ·exact .inl ⟨h,by unfold jl;rw [if_pos h]⟩
 by_cases h2:a%2=1
 ·refine .inr (.inl ⟨((a - 1) / 2).toNat,by omega,?_⟩);unfold jl;rw [if_neg h,if_pos h2]
 refine .inr (.inr ⟨((a - 2) / 2).toNat,by omega,?_⟩);unfold jl;rw [if_neg h,if_neg h2]
theorem LS (h:in64 a): -4611686018427387904<=a.tdiv 2/\a.tdiv 2<=4611686018427387904:=by
 unfold in64 at h;by_cases h0:0<=a
 ·rw [zA h0];omega
 have h1:(-a).tdiv 2= -(a.tdiv 2):=Int.neg_tdiv a 2;rw [zA U] at h1;omega
theorem EP (N:Nat)(m:Ve)(a:Int)(h:in64 a):Sat (oe N m a) fun r=>r.2.2=aw m a/\(aw m a=true->ao r.1 r.2.1=jl m a):=by
 have hd:=LS h;unfold oe;rw [r64 U U];unfold pB aw;rcases wE m a with ⟨h1,h2⟩|⟨k,h1,h2⟩|⟨k,h1,h2⟩
 ·rw [h2]
  refine aK (fun _=> ?_) fun _=> ?_
  ·rw [r64 U U,r64 U U,cY (a:=0) (b:=a) U,cf,bs];exact ad ⟨J,fun h=>by cases h⟩
  rw [cY (a:=0) (b:=a) U,cf,bs];exact ad ⟨J,fun h=>by cases h⟩
 ·subst h1;rw [h2,tl U,zA U,iO U,cf,dn U,ct,bs,show (2*(k:Int)+1) / 2=k by omega];exact ad ⟨(zb _ _).symm,fun _=>oq _ _⟩
 subst h1;rw [h2,tl U,zA U,sP U,ct,dn U,ct,bs,show (2*(k:Int)+2) / 2 - 1=k by omega];rw [r64 U U,r64 U U];exact ad ⟨(zb _ _).symm,fun _=>oq _ _⟩
theorem vQ (N:Nat)(m:Ve)(a:Int)(h:in64 a):jH N m a=some (aw m a):=by
 obtain ⟨r,h1,h2, -⟩:=EP N m a h;unfold jH;rw [h1,bs,h2]
theorem qI (N:Nat)(c:Vd)(h:c.Xy.length<=600/\c.Xx.length<=2900):dx N c=some c:=by
 unfold dx cx;rw [rF (by simp;omega),bs,rF (by simp;omega),bs];rfl
theorem Im (N:Nat){roots:List Vp}(hs:Small m roots)(a:Int)(h:in64 a):lC N m a=some (aJ m a):=by
 obtain ⟨r,h1,h2,h3⟩:=EP N m a h;unfold lC aJ;rw [h1,bs,h2];unfold aw at*
 cases hc:jl m a with
 |none=>rfl
 |some c=>
  have h4:=h3 (by rw [hc];rfl);rw [hc] at h4;have h5:=qI N c (hs.cells c (uv hc));simp only [Option.isSome_some,nt,cf,h4,bs,h5];rfl
theorem Lt (N:Nat)(m:Ve)(a:Int)(h:in64 a):yR N m a=some (aw m a):=by
 unfold in64 at h;unfold yR aw;rcases wE m a with ⟨h1,h2⟩|⟨k,h1,h2⟩|⟨k,h1,h2⟩
 ·rw [h2,dn h1];rfl
 ·subst h1;rw [h2,cY U,cf,tl U,sP U,ct,zA U,show (2*(k:Int)+1 - 1) / 2=k by omega,zb];rw [gi (by unfold in64;omega),gi (by unfold in64;omega)]
 subst h1;rw [h2,cY U,cf,tl U,iO U,cf,zA U,show (2*(k:Int)+2 - 2) / 2=k by omega,zb];rw [gi (by unfold in64;omega),gi (by unfold in64;omega)]
theorem O8 (N:Nat)(m:Ve)(a:Int)(h:in64 a):Bc N m a=some (aJ m a):=by
 have hh:=Lt N m a h;unfold in64 at h;unfold Bc aJ;rw [hh,bs];unfold aw;rcases wE m a with ⟨h1,h2⟩|⟨k,h1,h2⟩|⟨k,h1,h2⟩
 ·rw [h2];rfl
 ·cases hc:m.XA[k]? with
  |none=>rw [h2,hc];rfl
  |some c=>
   rw [h2,hc];subst h1;simp only [Option.isSome_some,nt,cf];rw [tl U,sP U,ct,zA U,show (2*(k:Int)+1 - 1) / 2=k by omega,oq,hc,bs];rw [gi (by unfold in64;omega),gi (by unfold in64;omega)];rfl
 cases hc:m.Xz[k]? with
 |none=>rw [h2,hc];rfl
 |some c=>
  rw [h2,hc];subst h1;simp only [Option.isSome_some,nt,cf];rw [tl U,iO U,cf,zA U,show (2*(k:Int)+2 - 2) / 2=k by omega,oq,hc,bs];rw [gi (by unfold in64;omega),gi (by unfold in64;omega)];rfl
theorem MQ (N:Nat)(k:Int):wD N k=lm N k:=by
 unfold wD lm jU;by_cases h1:k=1
 ·subst h1;rfl
 by_cases h2:k=2
 ·subst h2;rfl
 by_cases h3:k=3
 ·subst h3;rfl
 by_cases h6:k=6
 ·subst h6;rfl
 by_cases h8:k=8
 ·subst h8;rfl
 by_cases h9:k=9
 ·subst h9;rfl
 by_cases h10:k=10
 ·subst h10;rfl
 rw [iO h1,iO h2,iO h3,iO h6,iO h8,iO h9,iO h10];rfl
theorem Nx (N:Nat)(c:Vd):jT N c=jJ N c:=by
 unfold jT jJ;rw [MQ];rfl
theorem RQ (N:Nat)(v:Vp):wB N v=fP N v:=by
 unfold wB fP rI;by_cases h5:v.Xw=5
 ·rw [h5];rfl
 rw [iO h5];simp only [cf];by_cases hr:v.Xw<0\/9<v.Xw
 ·have h2:v.Xw≠2:=by omega
  have h3:v.Xw≠3:=by omega
  have h6:v.Xw≠6:=by omega
  have h7:v.Xw≠7:=by omega
  have h9:v.Xw≠9:=by omega
  have e1:((bif decide (v.Xw<0) then (some true) else (some (decide (9<v.Xw)))):Option Bool)=some true:=by
   rcases hr with h|h
   ·rw [dn h];rfl
   rw [dn (a:=9) h];cases decide (v.Xw<0)<;>rfl
  rw [e1,bs,ct,iO h2,iO h3,iO h6,iO h7,iO h9];simp only [cf]
  have e2:(((bif decide (v.N=0) then (some (decide (0<=v.Xw))) else (some false)).bind fun a6=>(bif a6 then (some (decide (v.Xw<=9))) else (some false)).bind fun a8=>some a8):Option Bool)=some false:=by
   cases decide (v.N=0)
   ·rfl
   rcases hr with h|h
   ·rw [Oj (a:=0) (b:=v.Xw) U];rfl
   rw [Oj (a:=v.Xw) (b:=9) U];cases decide (0<=v.Xw)<;>rfl
  rw [e2];cases s:(v.S.toList==(⟨#[]⟩:ByteArray).toList)<;>rfl
 have e1:((bif decide (v.Xw<0) then (some true) else (some (decide (9<v.Xw)))):Option Bool)=some false:=by
  rw [cY (a:=v.Xw) (b:=0) U,cY (a:=9) (b:=v.Xw) U];rfl
 rw [e1,bs,cf];cases hs:(v.S.toList==(⟨#[]⟩:ByteArray).toList)
 ·rfl
 simp only [nt,cf];by_cases h2:v.Xw=2
 ·rw [h2];rfl
 rw [iO h2];simp only [cf];by_cases h3:v.Xw=3
 ·rw [h3];rfl
 rw [iO h3];simp only [cf];by_cases h6:v.Xw=6
 ·rw [h6];rfl
 rw [iO h6];simp only [cf];by_cases h7:v.Xw=7
 ·rw [h7];rfl
 rw [iO h7];simp only [cf];by_cases h9:v.Xw=9
 ·rw [h9];rfl
 rw [iO h9,Oi (a:=0) U,Oi (a:=v.Xw) U];cases decide (v.N=0)<;>rfl
theorem I2 (N:Nat)(v:Vp): ∃b,fP N v=some b:=by
 unfold fP;cases decide (v.Xw<0)<;>cases decide (9<v.Xw)<;>cases decide (v.Xw=5)<;>cases decide (v.N=0)<;>cases (v.S.toList==(⟨#[]⟩:ByteArray).toList)<;>cases decide (v.Xw=2)<;>cases decide (v.Xw=3)<;>cases decide ((-9007199254740992)<=v.N)<;>cases decide (v.Xw=6)<;>cases decide (v.Xw=7)<;>cases decide (v.Xw=9)<;>exact ⟨_,rfl⟩
theorem Ca (N k:Nat)(hk:k=2\/k=4)(l:List Vp)(hl:l.length<=2900): ∀(m i:Nat),l.length<m+i->i<=l.length->(l.length - i)%k=0-> ∃b,gq N (k:Int) l m (i:Int)=some b/\
  jo N (cO (fun x st=>bK N (k:Int) x st)) l (k:Int) m (i:Int) (none,())=some (bif b then (none,()) else (some .ret,()))
 |0,i,h,h2,_=>by omega
 | m + 1,i,h,h2,h3=>by
  by_cases hi:i<l.length
  ·have hik:i+k<=l.length:=by
    rcases hk with rfl|rfl<;>omega
   have hmin:(min (k:Int) (((l.drop (i:Int).toNat).take (l.length - (i:Int).toNat)).length:Int))=k:=by
    rw [Xq,Ww,VW];omega
   have hto:((i:Int)+(k:Int)).toNat=i+k:=by omega
   have hx: ∀j,j<k->ao ((l.drop i).take k) (j:Int)=l[i+j]? :=fun j hj=>by
    rw [oq,Wp,if_pos hj,Wi]
   have a6:=hx 0 U;have a8:=hx 1 U;rw [Wj U] at a6 a8;have c7:ao l (i:Int)=some l[i]:=aG hi
   have c8:ao l ((i:Int)+1)=some (l[i+1]'U):=by
    have:=aG (xs:=l) (i:=i+1) U;simpa using this
   obtain ⟨b,b5,b6⟩:=Ca N k hk l hl m (i+k) U hik (by rcases hk with rfl|rfl<;>omega);simp only [VT] at b5 b6
   have fin: ∀b',(bif b' then some false else aD (in64 ((i:Int)+(k:Int))) (gq N (k:Int) l m ((i:Int)+(k:Int))))=some (bif b' then false else b):=fun b'=>by
    cases b'
    ·rw [cf,r64 U U,b5];rfl
    rfl
   have fin2: ∀b':Bool,((bif b' then (some (some Exit.ret,())) else (some (none,())):Option (Option Exit×Unit)).map fun r=>(r.1.isNone,r))=some (!b',(bif b' then some Exit.ret else none,())):=fun b'=>by cases b'<;>rfl
   have goal: ∀b',((some (!b',((bif b' then some Exit.ret else none:Option Exit),())):Option (Bool×(Option Exit×Unit))).bind fun b0=>bif !b0.1 then (some b0.2) else (aD (in64 ((i:Int)+(k:Int))) ((jo N (cO (fun x st=>bK N (k:Int) x st)) l (k:Int) m) ((i:Int)+(k:Int)) b0.2)))=some (bif (bif b' then false else b) then (none,()) else (some .ret,())):=fun b'=>by
    cases b'
    ·rw [bs];simp only [nf,nt,cf];rw [r64 U U];exact b6
    rfl
   have lift: ∀(x:List Vp) (b':Bool),bK N (k:Int) x ()=(bif b' then (some (some Exit.ret,())) else (some (none,())))->cO (fun x st=>bK N (k:Int) x st) x (none,())=some (!b',(bif b' then some Exit.ret else none,())):=fun x b' hb=>by
    unfold cO;simp only [hb];exact fin2 b'
   have key: ∃b',((ao l (i:Int)).bind fun x8=>(bif !decide (x8.Xw=7) then (some true) else (aD (in64 ((i:Int)+1)) ((ao l ((i:Int)+1)).bind fun c9=>some (decide (c9.Xw=8))))).bind fun b9=>bif b9 then (some false) else ((bif decide ((k:Int)=4) then (aD (in64 ((i:Int)+2)) ((ao l ((i:Int)+2)).bind fun d0=>(dI N d0 7).bind fun d1=>(bif !d1 then (some true) else (aD (in64 ((i:Int)+3)) ((ao l ((i:Int)+3)).bind fun d2=>(gL N d2 0 9007199254740992).bind fun d3=>some (!d3)))).bind fun d4=>some d4)) else (some false)).bind fun d6=>bif d6 then (some false) else (aD (in64 ((i:Int)+(k:Int))) ((gq N (k:Int) l m) ((i:Int)+(k:Int))))))=some (bif b' then false else b)/\bK N (k:Int) ((l.drop i).take k) ()=(bif b' then (some (some Exit.ret,())) else (some (none,()))):=by
    unfold bK;simp only [VS,Int.natCast_zero,Int.natCast_one] at a6 a8;rw [c7,bs,r64 (a:=(i:Int)+1) U U,c8,bs];have hk0':ao ((l.drop i).take k) 0=some l[i]:=a6;have hk1':ao ((l.drop i).take k) 1=some (l[i+1]'U):=a8;simp only [hk0',bs,hk1'];cases h7:(!decide (l[i].Xw=7))
    ·simp only [cf,bs];cases h8:decide ((l[i+1]'U).Xw=8)
     ·simp only [cf];rcases hk with rfl|rfl
      ·simp only [show decide (((2:Nat):Int)=4)=false from rfl,cf,bs];have f:=fin false;rw [cf] at f;refine ⟨false,?_,J⟩;exact f
      have b7:=hx 2 U;have c0:=hx 3 U;rw [Wj U] at b7 c0;have hk2':ao ((l.drop i).take 4) 2=some (l[i+2]'U):=b7;have hk3':ao ((l.drop i).take 4) 3=some (l[i+3]'U):=c0
      have e0:ao l ((i:Int)+2)=some (l[i+2]'U):=by
       have:=aG (xs:=l) (i:=i+2) U;simpa using this
      have e3:ao l ((i:Int)+3)=some (l[i+3]'U):=by
       have:=aG (xs:=l) (i:=i+3) U;simpa using this
      simp only [show decide (((4:Nat):Int)=4)=true from rfl,ct];rw [r64 (a:=(i:Int)+2) U U,e0,bs,hk2',bs,r64 (a:=(i:Int)+3) U U,e3,bs,hk3']
      have en: ∀v,iG N v 7=dI N v 7:=fun v=>rfl
      have em: ∀v,iH N v 0 9007199254740992=gL N v 0 9007199254740992:=fun v=>rfl
      have hn: ∃b1,dI N (l[i+2]'U) 7=some b1:=by unfold dI;cases decide ((l[i+2]'U).Xw=0)<;>exact ⟨_,rfl⟩
      have hm: ∃b1,gL N (l[i+3]'U) 0 9007199254740992=some b1:=by unfold gL;cases decide ((l[i+3]'U).Xw=3)<;>cases decide (0<=(l[i+3]'U).N)<;>exact ⟨_,rfl⟩
      obtain ⟨b1,hn⟩:=hn;obtain ⟨b2,hm⟩:=hm;simp only [bs,en,em,hn,hm];cases b1
      ·simp only [nf,ct,bs];exact ⟨true,J,J⟩
      simp only [nt,cf,bs];exact ⟨!b2,fin (!b2),by cases b2<;>rfl⟩
     exact ⟨true,J,J⟩
    exact ⟨true,J,J⟩
   obtain ⟨b',e1,e2⟩:=key;refine ⟨bif b' then false else b,?_,?_⟩
   ·rw [gq.eq_2,dn U,ct];exact e1
   rw [jo.eq_2,dn U,ct,hmin,gi (show (0:Int)<=(i:Int)/\(i:Int).toNat<=l.length/\l.length<=l.length from ⟨by omega,by omega,W4 _⟩),r64 (a:=(i:Int)+(k:Int)) U U,r64 (a:=(i:Int)+(k:Int)) U U];rw [gi (show (0:Int)<=(i:Int)/\(0:Int)<=(i:Int)+(k:Int)/\(i:Int).toNat<=((i:Int)+(k:Int)).toNat/\((i:Int)+(k:Int)).toNat<=l.length from ⟨by omega,by omega,by omega,by omega⟩),hto,VW,show i+k - i=k by omega,lift _ b' e2];exact goal b'
  rw [gq.eq_2,jo.eq_2,cY U,cf,cf];exact ⟨true,J,J⟩
theorem uk (N:Nat)(hN:6500<N)(k:Nat)(hk:k=2\/k=4)(l:List Vp)(hl:l.length<=2900): ∃b,dL N l (k:Int)=some b/\cU N l (k:Int)=some b/\(b=true->l.length%k=0):=by
 unfold dL cU
 have a6:(k:Int)≠0:=by rcases hk with rfl|rfl<;>decide
 rw [gi a6,gi a6]
 have ht:(l.length:Int).tmod (k:Int)=((l.length%k:Nat):Int):=by
  rw [VV U];rfl
 rw [ht];by_cases h:l.length%k=0
 ·rw [sP U];obtain ⟨b,h1,h2⟩:=Ca N k hk l hl N 0 U U (by simpa using h)
  have e:lw N l (k:Int)=some ():=by
   unfold lw;rw [cY (by rcases hk with rfl|rfl<;>omega),cf]
  unfold tv;simp only [nt,cf,e,bs];have h1':gq N (k:Int) l N 0=some b:=h1;have h2':jo N (cO (fun x st=>bK N (k:Int) x st)) l (k:Int) N 0 (none,())=some (bif b then (none,()) else (some .ret,())):=h2;rw [h1',h2',bs];exact ⟨b,by cases b<;>rfl,rfl,fun _=>h⟩
 rw [iO U];exact ⟨false,J,J,fun h=>by cases h⟩
theorem PV (N:Nat)(hN:6500<N)(c:Vd)(hc:c.Xx.length<=2900):kY N c.Xw c.Xx=lD N c:=by
 obtain ⟨b2,h2,h2', -⟩:=uk N hN 2 (.inl rfl) c.Xx hc;obtain ⟨b4,h4,h4', -⟩:=uk N hN 4 (.inr rfl) ((c.Xx.drop ((1:Int).toNat)).take (c.Xx.length - (1:Int).toNat)) (by rw [Xq,Ww];omega);have e2:dL N c.Xx 2=cU N c.Xx 2:=h2.trans h2'.symm;have e4:dL N ((c.Xx.drop ((1:Int).toNat)).take (c.Xx.length - (1:Int).toNat)) 4=cU N ((c.Xx.drop ((1:Int).toNat)).take (c.Xx.length - (1:Int).toNat)) 4:=h4.trans h4'.symm;unfold kY lD mJ ll;rw [e2,e4];rfl
theorem I3 (N:Nat)(c:Vd)(b:Bool)(v:Vp): ∃y,fP N v=some y/\cO (fun x st=>gF N c x st) (b,v) (none,())=some (y,(bif y then none else some Exit.ret,())):=by
 obtain ⟨y,hy⟩:=I2 N v;refine ⟨y,hy,?_⟩;unfold cO gF;simp only [RQ,hy,bs];cases y<;>rfl
theorem Ey (N:Nat)(c:Vd)(hc:c.Xx.length<=2900): ∀(m i:Nat),c.Xx.length<m+i->i<=c.Xx.length-> ∃b,om N c m (i:Int)=(bif b then cV N c else some false)/\
  lV N (cO (fun x st=>gF N c x st)) c m (i:Int) (none,())=some (bif b then none else some Exit.ret,())
 |0,i,h,h2=>by omega
 | m+1,i,h,h2=>by
  rw [om.eq_2,lV.eq_2];by_cases hi:i<c.Xx.length
  ·rw [dn U,ct,ct,aG hi,bs,bs]
   have hs:(bif !decide (c.Xw=8) then ((bif !decide (c.Xw=10) then (some true) else (some (decide ((i:Int).tmod 2=0)))).bind fun a6=>some a6) else (some false))=some (mu c.Xw i):=by
    unfold mu;cases decide (c.Xw=8)<;>cases decide (c.Xw=10)<;>rfl
   obtain ⟨y,h3,h4⟩:=I3 N c (mu c.Xw i) c.Xx[i];rw [hs,bs,h3,h4,bs,bs];cases y
   ·simp only [nf,nt,ct,cf];exact ⟨false,cf.symm,by rw [cf]⟩
   obtain ⟨b,h5,h6⟩:=Ey N c hc m (i+1) U hi;simp only [VT,VS] at h5 h6;simp only [nt,cf,ct];rw [r64 U U,r64 U U];exact ⟨b,h5,h6⟩
  rw [cY U,cf,cf];exact ⟨true,ct.symm,by rw [ct]⟩
theorem uA (N:Nat)(hN:6500<N)(c:Vd)(hS:c.Xy.length<=1000)(hc:c.Xx.length<=2900): ∀(m i:Nat),c.Xy.length<m+i->i<=c.Xy.length-> ∃b,iD N c m (i:Int)=(bif b then cV N c else some false)/\
  kZ N (cO (fun x st=>gF N c x st)) c m (i:Int) (none,())=some (bif b then none else some Exit.ret,())
 |0,i,h,h2=>by omega
 | m+1,i,h,h2=>by
  rw [iD.eq_2,kZ.eq_2];by_cases hi:i<c.Xy.length
  ·rw [dn U,ct,ct,aG hi,bs,bs];obtain ⟨y,h3,h4⟩:=I3 N c true c.Xy[i];rw [h3,h4,bs,bs];cases y
   ·simp only [nf,nt,ct,cf];exact ⟨false,cf.symm,by rw [cf]⟩
   obtain ⟨b,h5,h6⟩:=uA N hN c hS hc m (i+1) U hi;simp only [VT,VS] at h5 h6;simp only [nt,cf,ct];rw [r64 U U,r64 U U];exact ⟨b,h5,h6⟩
  rw [cY U,cf,cf];exact Ey N c hc N 0 U U
theorem xA (N:Nat)(hN:6500<N)(c:Vd)(hS:c.Xy.length<=1000)(hc:c.Xx.length<=2900):fa N c=el N c:=by
 unfold fa el ou
 have hAge:((bif !decide (c.XC=0) then (some (!decide (c.XC=1))) else (some false)).bind fun a6=>some a6)=(some (decide (c.XC<0)||decide (1<c.XC)):Option Bool):=by
  by_cases h0:c.XC=0
  ·rw [h0];rfl
  by_cases h1:c.XC=1
  ·rw [h1];rfl
  rw [iO h0,iO h1];by_cases h2:c.XC<0
  ·rw [dn h2];rfl
  rw [dn (a:=1) (b:=c.XC) U,cY (a:=c.XC) U];rfl
 obtain ⟨b,h1,h2⟩:=uA N hN c hS hc N 0 U U;have h1':iD N c N 0=(bif b then cV N c else some false):=h1;have h2':kZ N (cO (fun x st=>gF N c x st)) c N 0 (none,())=some (bif b then none else some Exit.ret,()):=h2;have e:uo N c=some ():=rfl;rw [hAge,h1',h2',e]
 have tail:((some ()).bind fun (b7:Unit)=>(some ((bif b then none else some Exit.ret:Option Exit),())).bind fun a8=>sE a8.1 ((jT N c).bind fun b0=>(bif b0 then ((kY N c.Xw c.Xx).bind fun b5=>some b5) else (some false)).bind fun b6=>some b6) (some false) (fun _=>none))=(bif b then cV N c else some false):=by
  cases b
  ·rfl
  rw [Nx,PV N hN c hc];rfl
 rw [tail];cases decide (c.Xw<1)<;>cases decide (11<c.Xw)<;>cases decide (c.XD<0)<;>cases decide (c.XB<0)<;>cases decide (63<c.XB)<;>cases decide (c.XC<0)<;>cases decide (1<c.XC)<;>rfl
theorem NR {m:Option Bool}{x:Bool}:m=some x->(m.bind fun b=>some b)=some x:=fun h=>by rw [h];rfl
theorem Ke (N:Nat)(hN:6500<N)(c:Vd)(hS:c.Xy.length<=1000)(hc:c.Xx.length<=2900)(h8:c.Xw=8): ∃b,el N c=some b/\(b=true->c.Xx.length%2=0):=by
 obtain ⟨b1,g1, -⟩:=uA N hN c hS hc N 0 U U;have g1':iD N c N 0=(bif b1 then cV N c else some false):=g1;obtain ⟨b2, -,h2,h3⟩:=uk N hN 2 (.inl rfl) c.Xx hc
 have hm:lD N c=some b2:=by
  unfold lD ll;rw [h8,cY U];show ((cU N c.Xx 2).bind fun a6=>some a6)=_;exact NR h2
 have hs: ∃b3,jJ N c=some b3:=by
  unfold jJ;rw [h8];have:lm N 8=some true:=rfl;rw [this,bs,ct,bs,ct];by_cases hl:1<=(c.Xy.length:Int)
  ·rw [Oi hl,ct,bs,Qa (xs:=c.Xy) (i:=0) U U,bs];cases decide ((c.Xy.length:Int)<=1025)
   ·exact ⟨_,J⟩
   cases decide (c.Xy[(0:Int).toNat].Xw=1)<;>exact ⟨_,rfl⟩
  rw [Oj U];exact ⟨_,J⟩
 obtain ⟨b3,hs⟩:=hs
 have hj:cV N c=some (b3&&b2):=by
  unfold cV;rw [hs,hm];cases b3<;>rfl
 unfold el;rw [g1',hj]
 have fin: ∃b,((bif b1 then some (b3&&b2) else some false):Option Bool)=some b/\(b=true->c.Xx.length%2=0):=by
  cases b1
  ·exact ⟨false,J,fun h=>by cases h⟩
  exact ⟨b3&&b2,J,fun h=>h3 (by cases b3<;>cases b2<;>first|rfl|cases h)⟩
 obtain ⟨b,e1,e2⟩:=fin;rw [e1];have ff: ∃b',(some false:Option Bool)=some b'/\(b'=true->c.Xx.length%2=0):=⟨false,rfl,fun h=>by cases h⟩
 cases decide (c.Xw<1)<;>cases decide (11<c.Xw)<;>cases decide (c.XD<0)<;>cases decide (c.XB<0)<;>cases decide (63<c.XB)<;>cases decide (c.XC<0)<;>cases decide (1<c.XC)<;>first|exact ff|exact ⟨b,rfl,e2⟩
def sa (c:Vd):Bool:=decide (c.Xw=8)&&(el N c).getD false
theorem KD (N:Nat)(hN:6500<N)(c:Vd)(hS:c.Xy.length<=1000)(hc:c.Xx.length<=2900):EK N c=some (sa N c)/\vq N c=some (sa N c)/\(sa N c=true->c.Xx.length%2=0):=by
 unfold EK vq sa;rw [xA N hN c hS hc];by_cases h8:c.Xw=8
 ·obtain ⟨b,h1,h2⟩:=Ke N hN c hS hc h8;rw [h1,h8];exact ⟨J,J,h2⟩
 rw [iO h8];exact ⟨J,J,fun h=>by cases h⟩
abbrev Io (m:Option ρ):Prop:=Sat m fun _=>True
theorem aU (x:ρ):Io (some x):=ad trivial
theorem ms {x y:Option ρ}(hx:b=true->Io x)(hy:b=false->Io y):Io (bif b then x else y):=kL hx hy
theorem Bp (N:Nat)(v:Vp)(a b:Int):Io (gL N v a b):=by
 unfold gL
 refine Sat.bind (P:=fun _=>True) (ms (fun _=>aU _) fun _=>aU _) fun x _=>Sat.bind (P:=fun _=>True) (ms (fun _=>aU _) fun _=>aU _) fun y _=>aU _
theorem xU (N:Nat)(v:Vp)(a:Int):Io (dI N v a):=by
 unfold dI
 exact Sat.bind (P:=fun _=>True) (ms (fun _=>aU _) fun _=>aU _) fun x _=>aU _
theorem yI {c:Bool}{m:Option Bool}(h:c=true->Io m):Io (bif c then m else some false):=ms h fun _=>aU _
theorem xo {f:Vp->Option Bool}(hi:i<l.length)(h:∀v,Io (f v)):Io ((ao l (i:Int)).bind f):=by
 rw [aG hi,bs];exact h _
theorem eE {m:Option Bool}(h:Io m)(k:∀b,Io (f b)):Io (m.bind f):=Sat.bind h fun b _=>k b
theorem sV {m:Option Bool}{p:Prop}(h:Sat m fun b=>b=true->p)(k:∀b,(b=true->p)->Io (f b)):Io (m.bind f):=Sat.bind h k
theorem LY (N:Nat)(c:Vd):Io (jJ N c):=by
 unfold jJ
 have hp:Io (lm N c.Xw):=by
  unfold lm
  iterate 6 refine eE (ms (fun _=>aU _) fun _=>aU _) fun _=> ?_
  exact aU _
 refine eE hp fun y=>eE (ms (fun _=>aU _) fun _=>eE (ms (fun _=>aU _) fun _=>aU _) fun _=>aU _) fun b=> ?_
 refine ms (fun _=> ?_) fun _=> ?_
 ·refine sV (p:=0<c.Xy.length) (aK (fun h=>ad fun _=>by omega) fun _=>ad fun h=>by cases h) fun b hb=>eE (yI fun h=> ?_) fun _=>aU _
  have h0:=hb h
  refine xo (i:=0) h0 fun v=>eE (ms (fun _=>aU _) fun _=>xo (i:=0) h0 fun _=>aU _) fun _=>aU _
 refine ms (fun _=>aU _) fun _=>eE (ms (fun _=>aU _) fun _=>aU _) fun _=>ms (fun _=>aU _) fun _=>kL (fun _=> ?_) fun _=>aU _
 refine sV (p:=1<c.Xy.length) (aK (fun h=> ?_) fun _=>ad fun h=>by cases h) fun b hb=>eE (yI fun h=> ?_) fun _=>aU _
 ·rw [show ((0:Int))=((0:Nat):Int) from rfl,aG U,bs];obtain ⟨x,hx, -⟩:=xU N c.Xy[0] 7
  rw [hx,bs];exact ad fun _=>by omega
 refine xo (i:=1) (hb h) fun v=>eE (xU N v 7) fun _=>aU _
theorem KU {m:Vp->Option Bool}(hi:i<l.length)(h:∀v,Io (m v)){p:Prop}(hp:p):Sat ((ao l (i:Int)).bind fun x=>(m x).bind fun y=>some y) fun b=>b=true->p:=by
 rw [aG hi,bs];obtain ⟨x,hx, -⟩:=h l[i]
 rw [hx,bs];exact ad fun _=>hp
def AG (c:Vd):Prop:=(c.Xw=8->c.Xx.length%2=0)/\(c.Xw=10->1<=c.Xx.length/\(c.Xx.length - 1)%4=0)
theorem N6 (N:Nat)(hN:6500<N)(c:Vd)(hc:c.Xx.length<=2900):Sat (lD N c) fun b=>b=true->AG c:=by
 have j6: ∀p,(p=true->c.Xw=1\/c.Xw=5)->Sat (ll N c p) fun b=>b=true->AG c:=by
  intro p hp
  have other: ∀{m:Option Bool},c.Xw≠8->c.Xw≠10->Io m->Sat m fun b=>b=true->AG c:=fun h8 h10 h=>h.mono fun _ _ _=>⟨fun e=>absurd e h8,fun e=>absurd e h10⟩
  unfold ll
  refine kL (fun h=>other (by rcases hp h with e|e<;>omega) (by rcases hp h with e|e<;>omega) (aU _)) fun _=> ?_
  refine aK (fun hk=>other U U ?_) fun _=> ?_
  ·refine sV (p:=1<c.Xx.length) (aK (fun h=>KU (i:=0) U (fun v=>Bp N v _ _) U) fun _=>ad fun h=>by cases h) fun b hb=>eE (yI fun h=>xo (i:=1) (hb h) fun v=>eE (xU N v 9) fun _=>aU _) fun _=>aU _
  refine aK (fun hk=>other U U ?_) fun _=> ?_
  ·refine sV (p:=0<c.Xx.length) (aK (fun h=>ad fun _=>by omega) fun _=>ad fun h=>by cases h) fun b hb=>eE (yI fun h=>xo (i:=0) (hb h) fun v=>eE (xU N v 9) fun _=>aU _) fun _=>aU _
  refine aK (fun hk=>other U U ?_) fun _=> ?_
  ·refine sV (p:=1<c.Xx.length) (aK (fun h=>KU (i:=0) U (fun v=>Bp N v _ _) U) fun _=>ad fun h=>by cases h) fun b hb=>eE (yI fun h=>xo (i:=1) (hb h) fun v=>eE (xU N v 9) fun _=>aU _) fun _=>aU _
  refine aK (fun hk=>other U U ?_) fun _=> ?_
  ·refine sV (p:=3<c.Xx.length) (aK (fun h=>KU (i:=2) U (fun v=>Bp N v _ _) U) fun _=>ad fun h=>by cases h) fun b hb=>eE (yI fun h=>xo (i:=3) (hb h) fun v=>eE (Bp N v _ _) fun _=>aU _) fun _=>aU _
  refine aK (fun hk=> ?_) fun a8=> ?_
  ·obtain ⟨b, -,h2,h3⟩:=uk N hN 2 (.inl rfl) c.Xx hc;have h2':cU N c.Xx 2=some b:=h2;rw [h2',bs]
   exact ad fun hb=>⟨fun _=>h3 hb,fun e=>absurd e U⟩
  refine aK (fun hk=> ?_) fun a6=> ?_
  ·refine Sat.bind (P:=fun b=>b=true->1<=c.Xx.length) (aK (fun h=> ?_) fun _=>ad fun h=>by cases h) fun b hb=> ?_
   ·rw [show ((0:Int))=((0:Nat):Int) from rfl,aG U,bs];exact ad fun _=>by omega
   refine Sat.bind (P:=fun b=>b=true->AG c) (kL (fun h=> ?_) fun _=>ad fun h=>by cases h) fun b' hb'=>ad hb'
   have h1:=hb h;rw [DY ⟨by omega,by show (1:Int).toNat<=_;exact h1,W4 _⟩]
   have hl:((c.Xx.drop ((1:Int).toNat)).take (c.Xx.length - (1:Int).toNat)).length=c.Xx.length - 1:=by
    rw [Xq,Ww];show min (c.Xx.length - 1) (c.Xx.length - 1)=_;omega
   obtain ⟨b2, -,h2,h3⟩:=uk N hN 4 (.inr rfl) ((c.Xx.drop ((1:Int).toNat)).take (c.Xx.length - (1:Int).toNat)) (by rw [hl];omega);have h2':cU N ((c.Xx.drop ((1:Int).toNat)).take (c.Xx.length - (1:Int).toNat)) 4=some b2:=h2;rw [h2',bs]
   exact ad fun b0=>⟨fun e=>absurd e U,fun _=>⟨h1,by have:=h3 b0;rw [hl] at this;exact this⟩⟩
  refine aK (fun hk=>other U U ?_) fun _=>other a8 a6 (aU _)
  refine eE ?_ fun _=>aU _
  exact ms (fun h=>xo (i:=0) (by have:=Xn h;omega) fun v=>eE (Bp N v _ _) fun _=>aU _) fun _=>aU _
 unfold lD
 refine aK (fun _=>ad fun h=>by cases h) fun _=>aK (fun hk=>ad fun _=>⟨fun e=>absurd e U,fun e=>absurd e U⟩) fun _=>aK (fun hk=>j6 _ fun _=> .inl hk) fun _=>j6 _ fun h=> .inr (Xn h)
theorem Cy (N:Nat)(hN:6500<N)(c:Vd)(hS:c.Xy.length<=1000)(hc:c.Xx.length<=2900):Sat (el N c) fun b=>b=true->AG c:=by
 obtain ⟨b1,g1, -⟩:=uA N hN c hS hc N 0 U U;have g1':iD N c N 0=(bif b1 then cV N c else some false):=g1
 have hj:Sat (cV N c) fun b=>b=true->AG c:=by
  unfold cV
  refine Sat.bind (LY N c) fun y _=> ?_
  refine Sat.bind (P:=fun b=>b=true->AG c) (kL (fun _=>Sat.bind (N6 N hN c hc) fun _ h=>ad h) fun _=>ad fun h=>by cases h) fun _ h=>ad h
 unfold el;rw [g1']
 iterate 6 refine Sat.bind (P:=fun _=>True) (ms (fun _=>aU _) fun _=>aU _) fun _ _=> ?_
 refine kL (fun _=>ad fun h=>by cases h) fun _=>kL (fun _=>hj) fun _=>ad fun h=>by cases h
theorem yZ (L:Nat->Int->Option ρ)(l:List α)(p:α->Bool)(bad k:Option ρ)(step:∀m (i:Nat) (h:i<l.length),L (m+1) (i:Int)=bif p l[i] then L m ((i:Int)+1) else bad)(fin:∀m,L (m+1) (l.length:Int)=k)(N:Nat)(hN:l.length<N):L N 0=bif l.all p then k else bad:=by
 have key: ∀m i:Nat,l.length<m+i->i<=l.length->L m (i:Int)=bif (l.drop i).all p then k else bad:=by
  intro m
  induction m with
  |zero=>intro i h1 h2;omega
  | succ m ih=>
   intro i h1 h2;by_cases hi:i<l.length
   ·rw [step m i hi,V3 hi,List.all_cons];have h3:=ih (i+1) U hi;rw [show (((i+1:Nat)):Int)=(i:Int)+1 by omega] at h3;rw [h3];cases p l[i]<;>rfl
   have e:i=l.length:=by omega
   subst e;rw [fin,List.drop_length];rfl
 have:=key N 0 U U;simpa using this
theorem I4 (L:Nat->Int->Option Bool)(l:List α)(p:α->Bool)(step:∀m (i:Nat) (h:i<l.length),L (m+1) (i:Int)=bif p l[i] then L m ((i:Int)+1) else some false)(fin:∀m,L (m+1) (l.length:Int)=some true)(N:Nat)(hN:l.length<N):L N 0=some (l.all p):=by
 rw [yZ L l p _ _ step fin N hN];cases l.all p<;>rfl
theorem all_map (f:α->β)(p:β->Bool)(l:List α):(l.map f).all p=l.all fun x=>p (f x):=by rw [List.all_map];rfl
theorem FR (q p:α->Bool): ∀l:List α,(l.filter q).all p=l.all fun x=> !q x||p x
 | []=>rfl
 |x::l=>by
  rw [V9,List.all_cons, <-FR q p l];cases h:q x<;>simp
def Pq {α β:Type}[DecidableEq α](a:α)(b:β):List (α×β)->List (α×β)
 | []=> [(a,b)]
 |p::l=>if p.1=a then (a,b)::l else p::Pq a b l
theorem Pr [DecidableEq α](L:List (α×β))(a:α)(b:β):wI L a b=Pq a b L:=by
 have key: ∀(L:List (α×β)) (j:Nat),(∃i c,fp a L j=some (i,c)/\j<=i/\L.set (i - j) (a,b)=Pq a b L)\/(fp a L j=none/\L++ [(a,b)]=Pq a b L):=by
  intro L
  induction L with
  |nil=>intro j;exact .inr ⟨J,J⟩
  | cons p l ih=>
   intro j;obtain ⟨x,y⟩:=p;by_cases e:a=x
   ·refine .inl ⟨j,y,by simp [fp,e],W4 _,?_⟩;rw [Nat.sub_self];simp [Pq,e]
   have e': ¬x=a:=fun h=>e h.symm
   rcases ih (j+1) with ⟨i,c,h1,h2,h3⟩|⟨h1,h2⟩
   ·refine .inl ⟨i,c,by simp [fp,e,h1],by omega,?_⟩;rw [show i - j=(i - (j+1))+1 by omega,List.set_cons_succ,h3];simp [Pq,e']
   exact .inr ⟨by simp [fp,e,h1],by simp [Pq,e',h2]⟩
 unfold wI;rcases key L 0 with ⟨i,c,h1, -,h3⟩|⟨h1,h2⟩
 ·rw [h1];exact h3
 rw [h1];exact h2
theorem Bx [DecidableEq α](p:α×β)(l:List (α×β))(x:α):lk (p::l) x=if p.1=x then some p.2 else lk l x:=by
 unfold lk;rw [List.find?_cons];by_cases e:p.1=x<;>simp [e]
theorem Dq [DecidableEq α](L:List (α×β))(a:α)(b:β)(x:α):lk (wI L a b) x=if a=x then some b else lk L x:=by
 rw [Pr]
 induction L with
 |nil=>rw [Pq,Bx]
 | cons p l ih=>
  unfold Pq;by_cases e:p.1=a
  ·rw [if_pos e,Bx,Bx,e];by_cases e2:a=x<;>simp [e2]
  rw [if_neg e,Bx,Bx,ih];by_cases e2:p.1=x
  ·rw [if_pos e2,if_pos e2,if_neg (fun h=>e (by rw [e2,h]))]
  rw [if_neg e2,if_neg e2]
abbrev vZ:Vp:=⟨0,0,⟨#[]⟩⟩
def rc (l:List Vp)(i:Nat):Vp:=l.getD i vZ
theorem lU (h:i<l.length):ao l (i:Int)=some (rc l i):=by
 rw [aG h];unfold rc;simp [List.getD,h]
def mL (v:Vp):Bool:=(fP 0 v).getD false
theorem I1 (N:Nat)(v:Vp):fP N v=some (mL v):=by
 obtain ⟨b,hb⟩:=I2 0 v;have e:fP N v=fP 0 v:=Eq.trans rfl rfl;unfold mL;rw [e,hb];rfl
def numB (v:Vp)(a b:Int):Bool:=decide (v.Xw=3)&&(decide (a<=v.N)&&decide (v.N<=b))
def noneB (v:Vp)(k:Int):Bool:=decide (v.Xw=0)||decide (v.Xw=k)
theorem xT (N:Nat)(v:Vp)(a b:Int):gL N v a b=some (numB v a b):=by
 unfold gL numB;cases decide (v.Xw=3)<;>cases decide (a<=v.N)<;>cases decide (v.N<=b)<;>rfl
theorem vL (N:Nat)(v:Vp)(k:Int):dI N v k=some (noneB v k):=by
 unfold dI noneB;cases decide (v.Xw=0)<;>cases decide (v.Xw=k)<;>rfl
def CF (k:Int):Bool:=decide (k=1)||decide (k=2)||decide (k=3)||decide (k=6)||decide (k=8)||decide (k=9)||decide (k=10)
theorem Kk (N:Nat)(k:Int):lm N k=some (CF k):=by
 unfold lm CF;cases decide (k=1)<;>cases decide (k=2)<;>cases decide (k=3)<;>cases decide (k=6)<;>cases decide (k=8)<;>cases decide (k=9)<;>cases decide (k=10)<;>rfl
def mU (k sh fl:Int)(l:List Vp):Bool:=
 bif CF k||(decide (k=7)&&decide (0<l.length)) then decide (1<=l.length)&&decide (l.length<=1025)&&(decide ((rc l 0).Xw=1)||decide ((rc l 0).Xw=7))
 else bif decide (k=7) then decide (sh=0) else bif !decide (sh=0)|| !decide (fl=0) then false else bif decide (k=5) then decide (l.length=2)&&noneB (rc l 0) 7&&noneB (rc l 1) 7 else decide (l.length=0)
theorem iq {p q:Prop}[Decidable p][Decidable q](h:p↔q):decide p=decide q:=by
 by_cases hp:p
 ·rw [Vy hp,Vy (h.1 hp)]
 rw [Vz hp,Vz fun hq=>hp (h.2 hq)]
theorem J5 (N:Nat)(c:Vd):jJ N c=some (mU c.Xw c.XD c.XB c.Xy):=by
 unfold jJ mU;rw [Kk,bs,iq (p:=(0:Int)<(c.Xy.length:Int)) (q:=0<c.Xy.length) U,iq (p:=(1:Int)<=(c.Xy.length:Int)) (q:=1<=c.Xy.length) U,iq (p:=(c.Xy.length:Int)<=1025) (q:=c.Xy.length<=1025) U,iq (p:=(c.Xy.length:Int)=2) (q:=c.Xy.length=2) U,iq (p:=(c.Xy.length:Int)=0) (q:=c.Xy.length=0) U]
 have hA: ∀b:Bool,((bif decide (1<=c.Xy.length) then some (decide (c.Xy.length<=1025)) else some false).bind fun b8=>(bif b8 then ((ao c.Xy 0).bind fun a6=>(bif decide (a6.Xw=1) then (some true) else ((ao c.Xy 0).bind fun a8=>some (decide (a8.Xw=7)))).bind fun b0=>some b0) else (some false)).bind fun b9=>some b9)=some (decide (1<=c.Xy.length)&&decide (c.Xy.length<=1025)&&(decide ((rc c.Xy 0).Xw=1)||decide ((rc c.Xy 0).Xw=7))):=fun _=>by
  by_cases h:1<=c.Xy.length
  ·have g:ao c.Xy 0=some (rc c.Xy 0):=lU (i:=0) U;rw [Vy h,g];simp only [bs];cases decide (c.Xy.length<=1025)<;>cases decide ((rc c.Xy 0).Xw=1)<;>cases decide ((rc c.Xy 0).Xw=7)<;>rfl
  rw [Vz h];rfl
 have hB:((bif decide (c.Xy.length=2) then ((ao c.Xy 0).bind fun b5=>(dI N b5 7).bind fun b6=>some b6) else (some false)).bind fun b7=>(bif b7 then ((ao c.Xy 1).bind fun c0=>(dI N c0 7).bind fun c7=>some c7) else (some false)).bind fun c8=>some c8)=some (decide (c.Xy.length=2)&&noneB (rc c.Xy 0) 7&&noneB (rc c.Xy 1) 7):=by
  by_cases h:c.Xy.length=2
  ·have g:ao c.Xy 0=some (rc c.Xy 0):=lU (i:=0) U;have g1:ao c.Xy 1=some (rc c.Xy 1):=lU (i:=1) U;rw [Vy h,g,g1];simp only [bs,vL];cases noneB (rc c.Xy 0) 7<;>cases noneB (rc c.Xy 1) 7<;>rfl
  rw [Vz h];rfl
 rw [hA true,hB];cases CF c.Xw<;>cases decide (c.Xw=7)<;>cases decide (0<c.Xy.length)<;>cases decide (c.XD=0)<;>cases decide (c.XB=0)<;>cases decide (c.Xw=5)<;>rfl
def sD:List Vp->Bool
 |k::v::r=>decide (k.Xw=7)&& !decide (v.Xw=8)&&sD r
 | [_]=>false
 | []=>true
def nM:List Vp->Bool
 |t::h::k::s::r=>decide (t.Xw=7)&& !decide (h.Xw=8)&&(noneB k 7&&numB s 0 9007199254740992)&&nM r
 | []=>true
 |_=>false
theorem o6 (k v:Vp)(r:List Vp):sD (k::v::r)=(decide (k.Xw=7)&& !decide (v.Xw=8)&&sD r):=Eq.trans rfl rfl
theorem oZ (t h k s:Vp)(r:List Vp):nM (t::h::k::s::r)=(decide (t.Xw=7)&& !decide (h.Xw=8)&&(noneB k 7&&numB s 0 9007199254740992)&&nM r):=Eq.trans rfl rfl
theorem G0: ∀{l:List Vp},sD l=true->l.length%2=0
 | [],_=>rfl
 | [_],h=>by cases h
 |k::v::r,h=>by
  rw [o6] at h;rw [Xt] at h;have:=G0 h.2;simp only [Wv];omega
theorem GZ: ∀{l:List Vp},nM l=true->l.length%4=0
 | [],_=>rfl
 | [_],h=>by cases h
 | [_,_],h=>by cases h
 | [_,_,_],h=>by cases h
 |t::a::k::s::r,h=>by
  rw [oZ] at h;rw [Xt] at h;have:=GZ h.2;simp only [Wv];omega
theorem zi {r:List Vp}(h:l.drop i=v::r):ao l (i:Int)=some v/\l.drop (i+1)=r:=by
 have hl:i<l.length:=by
  rcases W7 i l.length with h1|h1
  ·exact h1
  rw [V4 h1] at h;cases h
 rw [V3 hl] at h;obtain ⟨e1,e2⟩:=V0 h;exact ⟨by rw [aG hl,e1],e2⟩
theorem G3 (N:Nat)(l:List Vp)(hl:l.length<=2900): ∀(m i:Nat),l.length<m+i->i<=l.length->(l.length - i)%2=0->gq N 2 l m (i:Int)=some (sD (l.drop i))
 |0,i,h,h2,_=>by omega
 | m+1,i,h,h2,h3=>by
  rw [gq.eq_2]
  match hd:l.drop i with
  | []=>
   have hi:l.length<=i:=by have:=congrArg List.length hd;rw [Ww] at this;simp at this;omega
   rw [cY U,cf];rfl
  | [x]=>have:=congrArg List.length hd;rw [Ww] at this;simp at this;omega
  |k::v::r=>
   have hlen:=congrArg List.length hd;rw [Ww] at hlen;simp only [Wv] at hlen;obtain ⟨g1,d1⟩:=zi hd;obtain ⟨g2,d2⟩:=zi d1;rw [show (((i+1:Nat)):Int)=(i:Int)+1 by omega] at g2;have ih:=G3 N l hl m (i+2) U U U;rw [show (((i+2:Nat)):Int)=(i:Int)+2 by omega,d2] at ih;rw [dn U,ct,g1,bs,r64 U U,g2,bs,Vz (p:=(2:Int)=4) (by decide),cf,bs,cf,r64 U U,ih];simp only [o6];cases decide (k.Xw=7)<;>cases decide (v.Xw=8)<;>rfl
theorem G1 (N:Nat)(l:List Vp)(hl:l.length<=2900): ∀(m i:Nat),l.length<m+i->i<=l.length->(l.length - i)%4=0->gq N 4 l m (i:Int)=some (nM (l.drop i))
 |0,i,h,h2,_=>by omega
 | m+1,i,h,h2,h3=>by
  rw [gq.eq_2]
  match hd:l.drop i with
  | []=>
   have hi:l.length<=i:=by have:=congrArg List.length hd;rw [Ww] at this;simp at this;omega
   rw [cY U,cf];rfl
  | [x]=>have:=congrArg List.length hd;rw [Ww] at this;simp at this;omega
  | [x,y]=>have:=congrArg List.length hd;rw [Ww] at this;simp at this;omega
  | [x,y,z]=>have:=congrArg List.length hd;rw [Ww] at this;simp at this;omega
  |t::v::k::s::r=>
   have hlen:=congrArg List.length hd;rw [Ww] at hlen;simp only [Wv] at hlen;obtain ⟨g1,d1⟩:=zi hd;obtain ⟨g2,d2⟩:=zi d1;obtain ⟨g3,d3⟩:=zi d2;obtain ⟨g4,d4⟩:=zi d3;rw [show (((i+1:Nat)):Int)=(i:Int)+1 by omega] at g2;rw [show (((i+1+1:Nat)):Int)=(i:Int)+2 by omega] at g3;rw [show (((i+1+1+1:Nat)):Int)=(i:Int)+3 by omega] at g4;have ih:=G1 N l hl m (i+4) U U U;rw [show (((i+4:Nat)):Int)=(i:Int)+4 by omega,d4] at ih;rw [dn U,ct,g1,bs,r64 U U,g2,bs,Vy (p:=(4:Int)=4) rfl,ct,r64 U U,g3,bs,vL,bs,r64 U U,g4,bs,xT,bs,r64 U U,ih];simp only [oZ];cases decide (t.Xw=7)<;>cases decide (v.Xw=8)<;>cases noneB k 7<;>cases numB s 0 9007199254740992<;>rfl
theorem OP (N:Nat)(hN:6500<N)(l:List Vp)(hl:l.length<=2900):cU N l 2=some (sD l):=by
 unfold cU;rw [gi (by decide)]
 have e:(l.length:Int).tmod 2=((l.length%2:Nat):Int):=by rw [VV U];omega
 rw [e];by_cases h:l.length%2=0
 ·rw [h,Vy (p:=((0:Nat):Int)=0) rfl,nt,cf];exact G3 N l hl N 0 U U U
 rw [Vz U,nf,ct]
 cases hb:sD l with
 |false=>rfl
 |true=>exact absurd (G0 hb) h
theorem OO (N:Nat)(hN:6500<N)(l:List Vp)(hl:l.length<=2900):cU N l 4=some (nM l):=by
 unfold cU;rw [gi (by decide)]
 have e:(l.length:Int).tmod 4=((l.length%4:Nat):Int):=by rw [VV U];omega
 rw [e];by_cases h:l.length%4=0
 ·rw [h,Vy (p:=((0:Nat):Int)=0) rfl,nt,cf];exact G1 N l hl N 0 U U U
 rw [Vz U,nf,ct]
 cases hb:nM l with
 |false=>rfl
 |true=>exact absurd (GZ hb) h
def ry (k:Int)(l:List Vp):Bool:=
 bif decide (k=2) then decide (l.length<=4096)
 else bif decide (k=1)||decide (k=5) then decide (l.length=0)
 else bif decide (k=3) then decide (l.length=3)&&numB (rc l 0) 0 9007199254740992&&noneB (rc l 1) 9
 else bif decide (k=4) then decide (1<=l.length)&&decide (l.length<=4097)&&noneB (rc l 0) 9
 else bif decide (k=6) then decide (l.length=2)&&numB (rc l 0) 0 3&&noneB (rc l 1) 9
 else bif decide (k=7) then decide (4<=l.length)&&numB (rc l 2) 0 1&&numB (rc l 3) 0 9007199254740992
 else bif decide (k=8) then sD l
 else bif decide (k=10) then decide (1<=l.length)&&decide ((rc l 0).Xw=7)&&nM (l.drop 1)
 else bif decide (k=9) then decide (2<=l.length)&&numB (rc l 0) 0 2
 else true
theorem MF (N:Nat)(hN:6500<N)(c:Vd)(hc:c.Xx.length<=2900):lD N c=some (ry c.Xw c.Xx):=by
 have h6: ∀p:Bool,p=(decide (c.Xw=1)||decide (c.Xw=5))->c.Xw≠2->ll N c p=some (ry c.Xw c.Xx):=by
  intro p hp h2;subst hp;unfold ll ry;rw [iO h2,cf];rcases Bool.eq_false_or_eq_true (decide (c.Xw=1)||decide (c.Xw=5)) with h15|h15
  ·rw [h15,ct,ct,iq (p:=(c.Xx.length:Int)=0) (q:=c.Xx.length=0) U]
  rw [h15,cf,cf];by_cases k3:c.Xw=3
  ·rw [sP k3,ct,ct,iq (p:=(c.Xx.length:Int)=3) (q:=c.Xx.length=3) U];by_cases h:c.Xx.length=3
   ·have g0:ao c.Xx 0=some (rc c.Xx 0):=lU (i:=0) U;have g1:ao c.Xx 1=some (rc c.Xx 1):=lU (i:=1) U;rw [Vy h,g0,g1];simp only [bs,xT,vL];cases numB (rc c.Xx 0) 0 9007199254740992<;>cases noneB (rc c.Xx 1) 9<;>rfl
   rw [Vz h];rfl
  rw [iO k3,cf,cf];by_cases k4:c.Xw=4
  ·rw [sP k4,ct,ct,iq (p:=(1:Int)<=(c.Xx.length:Int)) (q:=1<=c.Xx.length) U,iq (p:=(c.Xx.length:Int)<=4097) (q:=c.Xx.length<=4097) U];by_cases h:1<=c.Xx.length
   ·have g0:ao c.Xx 0=some (rc c.Xx 0):=lU (i:=0) U;rw [Vy h,g0];simp only [bs,vL];cases decide (c.Xx.length<=4097)<;>cases noneB (rc c.Xx 0) 9<;>rfl
   rw [Vz h];rfl
  rw [iO k4,cf,cf];by_cases k6:c.Xw=6
  ·rw [sP k6,ct,ct,iq (p:=(c.Xx.length:Int)=2) (q:=c.Xx.length=2) U];by_cases h:c.Xx.length=2
   ·have g0:ao c.Xx 0=some (rc c.Xx 0):=lU (i:=0) U;have g1:ao c.Xx 1=some (rc c.Xx 1):=lU (i:=1) U;rw [Vy h,g0,g1];simp only [bs,xT,vL];cases numB (rc c.Xx 0) 0 3<;>cases noneB (rc c.Xx 1) 9<;>rfl
   rw [Vz h];rfl
  rw [iO k6,cf,cf];by_cases k7:c.Xw=7
  ·rw [sP k7,ct,ct,iq (p:=(4:Int)<=(c.Xx.length:Int)) (q:=4<=c.Xx.length) U];by_cases h:4<=c.Xx.length
   ·have g2:ao c.Xx 2=some (rc c.Xx 2):=lU (i:=2) U;have g3:ao c.Xx 3=some (rc c.Xx 3):=lU (i:=3) U;rw [Vy h,g2,g3];simp only [bs,xT];cases numB (rc c.Xx 2) 0 1<;>cases numB (rc c.Xx 3) 0 9007199254740992<;>rfl
   rw [Vz h];rfl
  rw [iO k7,cf,cf];by_cases k8:c.Xw=8
  ·rw [sP k8,ct,ct,OP N hN _ hc,bs]
  rw [iO k8,cf,cf];by_cases a6:c.Xw=10
  ·rw [sP a6,ct,ct,iq (p:=(1:Int)<=(c.Xx.length:Int)) (q:=1<=c.Xx.length) U];by_cases h:1<=c.Xx.length
   ·have g0:ao c.Xx 0=some (rc c.Xx 0):=lU (i:=0) U;have hd:((c.Xx.drop ((1:Int).toNat)).take (c.Xx.length - (1:Int).toNat))=c.Xx.drop 1:=WT (by rw [Ww];exact W4 _);rw [Vy h,g0,hd,gi ⟨by omega,by show 1<=_;omega,W4 _⟩,OO N hN _ (by rw [Ww];omega)];simp only [bs];cases decide ((rc c.Xx 0).Xw=7)<;>cases nM (c.Xx.drop 1)<;>rfl
   rw [Vz h];rfl
  rw [iO a6,cf,cf];by_cases k9:c.Xw=9
  ·rw [sP k9,ct,ct,iq (p:=(2:Int)<=(c.Xx.length:Int)) (q:=2<=c.Xx.length) U];by_cases h:2<=c.Xx.length
   ·have g0:ao c.Xx 0=some (rc c.Xx 0):=lU (i:=0) U;rw [Vy h,g0];simp only [bs,xT];cases numB (rc c.Xx 0) 0 2<;>rfl
   rw [Vz h];rfl
  rw [iO k9,cf,cf]
 unfold lD;rw [cY U,cf];by_cases k2:c.Xw=2
 ·rw [sP k2,ct];unfold ry;rw [sP k2,ct,iq (p:=(c.Xx.length:Int)<=4096) (q:=c.Xx.length<=4096) U]
 rw [iO k2,cf];by_cases k1:c.Xw=1
 ·rw [sP k1,ct];exact h6 _ (by rw [sP k1];rfl) k2
 rw [iO k1,cf];exact h6 _ (by rw [iO k1];rfl) k2
def bm (c:Vd):Bool:=
 (!decide (c.Xw<1)&& !decide (11<c.Xw)&& !decide (c.XD<0)&& !decide (c.XB<0)&& !decide (63<c.XB)&& !decide (c.XC<0)&& !decide (1<c.XC))&&(c.Xy.all mL&&(c.Xx.all mL&&(mU c.Xw c.XD c.XB c.Xy&&ry c.Xw c.Xx)))
theorem qr (N:Nat)(hN:6500<N)(c:Vd)(hS:c.Xy.length<=1000)(hc:c.Xx.length<=2900):el N c=some (bm c):=by
 have h19:cV N c=some (mU c.Xw c.XD c.XB c.Xy&&ry c.Xw c.Xx):=by
  unfold cV;rw [J5,MF N hN c hc,bs];cases mU c.Xw c.XD c.XB c.Xy<;>rfl
 have h20:om N c N 0=some (c.Xx.all mL&&(mU c.Xw c.XD c.XB c.Xy&&ry c.Xw c.Xx)):=by
  rw [yZ (fun k i=>om N c k i) c.Xx mL (some false) (some (mU c.Xw c.XD c.XB c.Xy&&ry c.Xw c.Xx)) (fun k i h=> ?_) (fun k=> ?_) N U]
  ·cases c.Xx.all mL<;>rfl
  ·rw [om.eq_2,dn U,ct,aG h,bs,I1,bs,r64 U U];cases mL c.Xx[i]<;>rfl
  rw [om.eq_2,cY U,cf,h19]
 have h12:iD N c N 0=some (c.Xy.all mL&&(c.Xx.all mL&&(mU c.Xw c.XD c.XB c.Xy&&ry c.Xw c.Xx))):=by
  rw [yZ (fun k i=>iD N c k i) c.Xy mL (some false) (some (c.Xx.all mL&&(mU c.Xw c.XD c.XB c.Xy&&ry c.Xw c.Xx))) (fun k i h=> ?_) (fun k=> ?_) N U]
  ·cases c.Xy.all mL<;>rfl
  ·rw [iD.eq_2,dn U,ct,aG h,bs,I1,bs,r64 U U];cases mL c.Xy[i]<;>rfl
  rw [iD.eq_2,cY U,cf];unfold zK;exact h20
 unfold el bm;rw [h12];cases decide (c.Xw<1)<;>cases decide (11<c.Xw)<;>cases decide (c.XD<0)<;>cases decide (c.XB<0)<;>cases decide (63<c.XB)<;>cases decide (c.XC<0)<;>cases decide (1<c.XC)<;>rfl
theorem Fk (N:Nat)(x:Int)(l:List Int)(hl:l.length<=5000): ∀(m i:Nat),l.length<m+i->i<=l.length->Sat (lM N x l m (i:Int)) fun r=>decide (0<=r)=decide (x∈l.drop i)
 |0,i,h,h2=>by omega
 | m+1,i,h,h2=>by
  rw [lM.eq_2];by_cases hi:i<l.length
  ·rw [dn U,ct,aG hi,bs,V3 hi]
   refine aK (fun e=> ?_) fun e=> ?_
   ·exact ad (by rw [Vy U,Vy];rw [e];exact List.mem_cons_self ..)
   rw [r64 U U];have:=Fk N x l hl m (i+1) U hi;simp only [VT,VS] at this
   refine this.mono fun r hr=> ?_
   rw [hr];have:(x∈l[i]::l.drop (i+1))↔x∈l.drop (i+1):=⟨fun h=>(WF.1 h).resolve_left (fun e2=>e e2),WG _⟩;rw [decide_eq_decide];exact this.symm
  rw [cY U,cf,V4 U];exact ad (by simp)
theorem ra (N:Nat)(hN:6500<N)(l:List Int)(hl:l.length<=5000)(x:Int):dN N l x=some (decide (x∈l)):=by
 obtain ⟨r,h1,h2⟩:=Fk N x l hl N 0 U U;unfold dN tt;rw [show lM N x l N 0=some r from h1,bs,h2];rfl
theorem TZ (N:Nat)(hN:6500<N)(l:List Int)(hl:l.length<=5000)(x:Int):EL N x l=some (decide (x∈l)):=by
 apply Sat.eq;unfold EL
 have key: ∀(m i:Nat),l.length<m+i->i<=l.length->Sat (CE N x l m (i:Int)) (· =decide (x∈l.drop i)):=by
  intro m
  induction m with
  |zero=>intro i h h2;omega
  | succ m ih=>
   intro i h h2;rw [CE.eq_2];by_cases hi:i<l.length
   ·rw [dn U,ct,aG hi,bs,V3 hi]
    refine aK (fun e=> ?_) fun e=> ?_
    ·exact ad (by rw [Vy];rw [e];exact List.mem_cons_self ..)
    rw [r64 U U];have:=ih (i+1) U hi;simp only [VT,VS] at this
    refine this.mono fun r hr=> ?_
    rw [hr];have:(x∈l[i]::l.drop (i+1))↔x∈l.drop (i+1):=⟨fun h=>(WF.1 h).resolve_left (fun e2=>e e2.symm),WG _⟩;rw [decide_eq_decide];exact this.symm
   rw [cY U,cf,V4 U];exact ad (by simp)
 exact key N 0 U U
theorem TY (N:Nat)(hN:6500<N)(l:List Int)(hl:l.length<=5000)(x:Int):EJ N l x=some (decide (x∈l)):=by
 apply Sat.eq;unfold EJ
 have key: ∀(m i:Nat),l.length<m+i->i<=l.length->Sat (CD N x l m (i:Int)) (· =decide (x∈l.drop i)):=by
  intro m
  induction m with
  |zero=>intro i h h2;omega
  | succ m ih=>
   intro i h h2;rw [CD.eq_2];by_cases hi:i<l.length
   ·rw [dn U,ct,aG hi,bs,V3 hi]
    refine aK (fun e=> ?_) fun e=> ?_
    ·exact ad (by rw [Vy];rw [e];exact List.mem_cons_self ..)
    rw [r64 U U];have:=ih (i+1) U hi;simp only [VT,VS] at this
    refine this.mono fun r hr=> ?_
    rw [hr];have:(x∈l[i]::l.drop (i+1))↔x∈l.drop (i+1):=⟨fun h=>(WF.1 h).resolve_left (fun e2=>e e2.symm),WG _⟩;rw [decide_eq_decide];exact this.symm
   rw [cY U,cf,V4 U];exact ad (by simp)
 exact key N 0 U U
def opens (p:Int->Bool):List Vp->List Int
 |k::v::l=>(bif bd v&&p k.N then [v.N] else [])++opens p l
 |_=> []
theorem qx (p:Int->Bool)(k v:Vp)(l:List Vp):opens p (k::v::l)=(bif bd v&&p k.N then [v.N] else [])++opens p l:=rfl
theorem GF (p:Int->Bool): ∀l:List Vp,(opens p l).length<=l.length
 | []=>W4 _
 | [_]=>Xa _
 |k::v::l=>by
  have:=GF p l;rw [qx,Xp];cases bd v&&p k.N<;>simp<;>omega
theorem GE: ∀{l:List Vp},x∈opens p l-> ∃v∈l,v.N=x
 | [],h=>by cases h
 | [_],h=>by cases h
 | k::v::l,h=>by
  rw [qx,WE] at h;rcases h with h|h
  ·cases hb:bd v&&p k.N
   ·rw [hb] at h;cases h
   rw [hb] at h;exact ⟨v,by simp,(WL.1 h).symm⟩
  obtain ⟨w,h1,h2⟩:=GE h;exact ⟨w,by simp [h1],h2⟩
theorem IT {q:Int->Bool}(h:∀x,p x=q x)(l:List Vp):opens p l=opens q l:=by rw [show p=q from funext h]
theorem t8 (v:Vp):((bif decide (v.Xw=7) then (some true) else (some (decide (v.Xw=9)))):Option Bool)=some (bd v):=by unfold bd;cases decide (v.Xw=7)<;>rfl
def dJ (c:Vd)(l:List Int):List Int:=bif sa N c then opens (fun x=>decide (x∈l)) c.Xx else []
theorem ET (N:Nat)(c:Vd)(l:List Int):(dJ N c l).length<=c.Xx.length:=by
 unfold dJ;cases sa N c
 ·exact Xa _
 exact GF _ _
theorem Kp {N:Nat}{l:List Int}(h:x∈dJ N c l): ∃v∈c.Xy++c.Xx,v.N=x:=by
 unfold dJ at h;cases hw:sa N c
 ·rw [hw] at h;cases h
 rw [hw] at h;obtain ⟨v,h1,h2⟩:=GE h;exact ⟨v,by simp [h1],h2⟩
theorem Kn (N:Nat)(hN:6500<N)(l:List Int)(hl:l.length<=5000)(k v:Vp)(s:List Int)(hs:s.length<=5000):cO (fun x st=>iQ N l x st) (k,v) (none,s)=some (true,(none,s++(bif bd v&&decide (k.N∈l) then [v.N] else []))):=by
 unfold cO iQ;simp only [t8,bs,ra N hN l hl];cases bd v
 ·simp only [cf,bs,VP,VZ];rfl
 simp only [ct,bs,VR];cases decide (k.N∈l)
 ·simp only [cf,VZ];rfl
 simp only [ct];rw [rF (by simp;omega)];rfl
theorem BZ (N:Nat)(hN:6500<N)(l:List Int)(hl:l.length<=5000)(c:Vd)(hc:c.Xx.length<=2900)(he:c.Xx.length%2=0): ∀(m i:Nat) (s:List Int),c.Xx.length<m+i->i<=c.Xx.length->i%2=0->s.length<=i->ee N (cO (fun x st=>iQ N l x st)) c m (i:Int) (none,s)=some (none,s++opens (fun x=>decide (x∈l)) (c.Xx.drop i))
 |0,i,s,h,h2,_,_=>by omega
 | m+1,i,s,h,h2,h3,h4=>by
  rw [ee.eq_2,r64 (a:=(i:Int)+1) U U];by_cases hi:i<c.Xx.length
  ·have hi1:i+1<c.Xx.length:=by omega
   have a6:ao c.Xx ((i:Int)+1)=some c.Xx[i+1]:=by
    have:=aG hi1;simpa using this
   rw [dn U,ct,aG hi,bs,r64 (a:=(i:Int)+1) U U,a6,bs,Kn N hN l hl _ _ s U,bs];simp only [nt,cf];rw [r64 U U]
   have hlen:(s++(bif bd c.Xx[i+1]&&decide (c.Xx[i].N∈l) then [c.Xx[i+1].N] else [])).length<=i+2:=by
    cases bd c.Xx[i+1]&&decide (c.Xx[i].N∈l)<;>simp<;>omega
   have:=BZ N hN l hl c hc he m (i+2) _ U U U hlen;simp only [VT,VS] at this;rw [this,V3 hi,V3 hi1,qx,VB]
  rw [cY U,cf,V4 U];simp [opens]
theorem ES (N:Nat)(hN:6500<N)(l:List Int)(hl:l.length<=5000)(c:Vd)(hS:c.Xy.length<=1000)(hc:c.Xx.length<=2900):po N c l=some (dJ N c l):=by
 obtain ⟨-,h1,h2⟩:=KD N U c hS hc;unfold po dJ ju;rw [h1,bs];cases hw:sa N c
 ·rfl
 have e:mP N c=some ():=rfl;have:=BZ N hN l hl c hc (h2 hw) N 0 [] U U rfl (by simp);simp only [nt,cf,ct,e,bs];have h3:ee N (cO (fun x st=>iQ N l x st)) c N 0 (none,[])=some (none,[]++opens (fun x=>decide (x∈l)) (c.Xx.drop 0)):=this;rw [h3,bs];rfl
theorem Mr (N:Nat)(hN:6500<N)(l:List Int)(hl:l.length<=5000)(c:Vd)(hS:c.Xy.length<=1000)(hc:c.Xx.length<=2900):xM N c l=some (dJ N c l):=by
 obtain ⟨h1, -,h2⟩:=KD N U c hS hc;unfold xM dJ;cases hw:sa N c
 ·obtain ⟨n,rfl⟩: ∃n,N=n+1:=⟨N - 1,by omega⟩;rw [sJ.eq_2,h1,bs,hw];simp only [cf,bs];rfl
 have he:=h2 hw
 have key: ∀(m i:Nat) (s:List Int),c.Xx.length<m+i->i<=c.Xx.length->i%2=0->s.length<=i->sJ N l c m s (i:Int)=some (s++opens (fun x=>decide (x∈l)) (c.Xx.drop i)):=by
  intro m
  induction m with
  |zero=>intro i s h h2;omega
  | succ m ih=>
   intro i s h h2 h3 h4;rw [sJ.eq_2,h1,bs,hw,ct,bs];by_cases hi:i<c.Xx.length
   ·have hi1:i+1<c.Xx.length:=by omega
    have a6:ao c.Xx ((i:Int)+1)=some c.Xx[i+1]:=by
     have:=aG hi1;simpa using this
    rw [dn U,ct,r64 (a:=(i:Int)+1) U U,a6,bs,aG hi,bs,TZ N hN l hl,bs];simp only [t8,bs]
    have hlen:(s++(bif bd c.Xx[i+1]&&decide (c.Xx[i].N∈l) then [c.Xx[i+1].N] else [])).length<=i+2:=by
     cases bd c.Xx[i+1]&&decide (c.Xx[i].N∈l)<;>simp<;>omega
    have:=ih (i+2) _ U U U hlen;simp only [VT,VS] at this;rw [V3 hi,V3 hi1,qx, <-VB, <-this];unfold uX;rw [r64 (a:=(i:Int)+2) U U,r64 (a:=(i:Int)+2) U U];cases decide (c.Xx[i].N∈l)
    ·simp only [cf,bs,Bool.and_false,VZ]
    cases bd c.Xx[i+1]
    ·simp only [ct,cf,bs,Bool.and_true,VZ]
    simp only [ct,bs,Bool.and_true];rw [rF (by simp;omega)]
   rw [cY U,cf,V4 U];simp [opens,Bd]
 have:=key N 0 [] U U rfl (by simp);simpa using this
theorem Br: ∀(b:Nat) {l:List Int},l.Nodup->(∀x∈l,1<=x/\x<=(b:Int))->l.length<=b
 |0,l,_,h=>by
  cases l with
  |nil=>exact W4 _
  |cons x l=>have:=h x (by simp);omega
 | b+1,l,hn,h=>by
  have h1:=Br b (hn.erase ((b:Int)+1)) fun x hx=>by
   obtain ⟨h2,h3⟩:=hn.mem_erase_iff.1 hx;have:=h x h3;omega
  have h2:=List.length_erase (a:=(b:Int)+1) (l:=l);split at h2<;>omega
theorem RU (kv:List (Int×Unit))(a:Int):(lk kv a).isSome=decide (a∈kv.map (·.1)):=by
 unfold lk;rw [Bool.eq_iff_iff];simp [List.find?_isSome,WI]
def W64 (m:Ve):Prop:= ∀c∈m.XA++m.Xz, ∀v∈c.Xy++c.Xx,in64 v.N
theorem W64.at_ (h:W64 m)(a:Int): ∀v∈(aJ m a).Xy++(aJ m a).Xx,in64 v.N:=by
 unfold aJ
 cases hc:jl m a with
 |none=>intro v hv;simp [Gi] at hv
 |some c=>exact h c (uv hc)
structure Tr (m:Ve) (all:List Int) (met:List (Int×Unit)):Prop where
 nd:all.Nodup
 mem: ∀x,x∈met.map (·.1)↔x∈all
 has: ∀x∈all,aw m x=true
theorem Tr.len {roots:List Vp}(hs:Small m roots){all:List Int}(h:Tr m all met):all.length<=1200:=Br 1200 h.nd fun x hx=>⟨by have:=ue (h.has x hx);omega,by have:=zc hs (h.has x hx);omega⟩
theorem Tr.in64 {roots:List Vp}(hs:Small m roots){all:List Int}(h:Tr m all met)(hx:x∈all):in64 x:=by
 have h1:=ue (h.has x hx);have h2:=zc hs (h.has x hx);unfold Go.Proofs.YthhiddkljcacaaaGreat.in64;omega
theorem Tr.add {all:List Int}(h:Tr m all met)(hx:x∉all)(hh:aw m x=true):Tr m (all++ [x]) (wI met x ()):=⟨WM.2 ⟨h.nd,by simp,fun a ha b hb e=>by rw [WL] at hb;subst hb;subst e;exact hx ha⟩,fun y=>by
 rw [Ps,WE,WL,h.mem y];exact Or.comm,fun y hy=>by
 rcases WE.1 hy with hy|hy
 ·exact h.has y hy
 ·rw [WL] at hy;subst hy;exact hh⟩
theorem I5 {roots:List Vp}(hs:Small m roots)(hw:W64 m)(a:Int):(ce (aJ m a)).length<=3600/\ ∀x∈ce (aJ m a),in64 x:=by
 have h1:=hs.at_ a;have h2:=nj (aJ m a);refine ⟨by omega,fun x hx=> ?_⟩;obtain ⟨v,h3,rfl⟩:=Fg hx;exact hw.at_ a v h3
structure Gr where
 has:Int->Bool
 leads:Int->List Int
 opens:List Int->Int->List Int
def dy (has:Int->Bool):List Int->List Int->List Int
 |row,[]=>row
 |row,x::l=>dy has (bif has x&& !decide (x∈row) then row++ [x] else row) l
inductive Thr (g:Gr):List Int->Nat->List Int->Prop
 |done {row:List Int} {k:Nat}:row.length<=k->Thr g row k row
 |step {row:List Int} {k:Nat} {a:Int} {r:List Int}:row[k]? =some a->Thr g (dy g.has row (g.leads a)) (k+1) r->Thr g row k r
def pg (g:Gr):List Int->List Int->List Int
 |row,[]=>row
 |row,a::avs=>pg g (dy g.has row (g.opens row a)) avs
inductive Ord (g:Gr):List Int->List Int->Prop
 |done {row:List Int}:pg g row row=row->Ord g row row
 |step {row r1 r:List Int}:pg g row row≠row->Thr g (pg g row row) row.length r1->Ord g r1 r->Ord g row r
structure IsOrder (g:Gr) (roots:List Int) (b l:List Int):Prop where
 strong:Thr g (dy g.has [] roots) 0 b
 all:Ord g b l
theorem iY (has:Int->Bool): ∀(row l:List Int), ∃t,dy has row l=row++t/\(∀x∈t,has x=true/\x∈l)
 |row,[]=>⟨[],by simp [dy],by simp⟩
 | row,x::l=>by
  unfold dy
  cases h:has x&& !decide (x∈row) with
  |false=>
   obtain ⟨t,h1,h2⟩:=iY has row l;exact ⟨t,h1,fun y hy=>⟨(h2 y hy).1,by simp [(h2 y hy).2]⟩⟩
  |true=>
   obtain ⟨t,h1,h2⟩:=iY has (row++ [x]) l;refine ⟨x::t,by rw [cond_true,h1];simp,fun y hy=> ?_⟩;rw [Xt] at h;rcases WF.1 hy with e|hy
   ·subst e;exact ⟨h.1,by simp⟩
   exact ⟨(h2 y hy).1,by simp [(h2 y hy).2]⟩
theorem t7 (has:Int->Bool): ∀(row l l':List Int),dy has row (l++l')=dy has (dy has row l) l'
 |_,[],_=>rfl
 |row,x::l,l'=>by
  show dy has _ (l++l')=_;rw [t7 has _ l l'];rfl
theorem qA {has:Int->Bool}: ∀{row:List Int} (l:List Int),row.Nodup->(dy has row l).Nodup
 |_,[],h=>h
 | row,x::l,h=>by
  unfold dy
  cases h2:has x&& !decide (x∈row) with
  |false=>exact qA l h
  |true=>
   rw [Xt] at h2
   have hx:x∉row:=by simpa using h2.2
   exact qA l (WM.2 ⟨h,by simp,fun a ha b hb e=>by rw [WL] at hb;subst hb;subst e;exact hx ha⟩)
theorem vP {has:Int->Bool}: ∀(row l:List Int) {x:Int},x∈l->has x=true->x∈dy has row l
 | row,y::l,x,h,hx=>by
  unfold dy;rcases WF.1 h with e|h
  ·subst e;obtain ⟨t,h1, -⟩:=iY has (bif has x&& !decide (x∈row) then row++ [x] else row) l;rw [h1];refine VC _ ?_;rw [hx,VR];by_cases hm:x∈row<;>simp [hm]
  exact vP _ l h hx
theorem Bz {has:Int->Bool}{l:List Int}(h:x∈dy has row l):x∈row\/(has x=true/\x∈l):=by
 obtain ⟨t,h1,h2⟩:=iY has row l;rw [h1] at h;rcases WE.1 h with h|h
 ·exact .inl h
 exact .inr (h2 x h)
theorem vF (g:Gr): ∀(row avs:List Int), ∃t,pg g row avs=row++t
 |row,[]=>⟨[],by simp [pg]⟩
 |row,a::avs=>by
  obtain ⟨t,h1, -⟩:=iY g.has row (g.opens row a);obtain ⟨t2,h2⟩:=vF g (dy g.has row (g.opens row a)) avs;exact ⟨t++t2,by unfold pg;rw [h2,h1,VB]⟩
theorem CG (g:Gr): ∀(row avs bs:List Int),pg g row (avs++bs)=pg g (pg g row avs) bs
 |_,[],_=>rfl
 |row,a::avs,bs=>by
  show pg g _ (avs++bs)=_;rw [CG g _ avs bs];rfl
theorem Dk {g:Gr}: ∀{row:List Int} (avs:List Int),row.Nodup->(pg g row avs).Nodup
 |_,[],h=>h
 |_,_::avs,h=>Dk avs (qA _ h)
theorem Gz {g:Gr}: ∀{row:List Int} (avs:List Int),(∀x∈row,g.has x=true)-> ∀x∈pg g row avs,g.has x=true
 |_,[],h=>h
 |_,_::avs,h=>Gz avs fun x hx=>(Bz hx).elim (h x) (·.1)
theorem Thr.app {g:Gr}{r:List Int}(h:Thr g row k r): ∃t,r=row++t:=by
 induction h with
 |done _=>exact ⟨[],by simp⟩
 |step _ _ ih=>
  rename_i row _ a _ _ _
  obtain ⟨t,rfl⟩:=ih;obtain ⟨t2,h1, -⟩:=iY g.has row (g.leads a);exact ⟨t2++t,by rw [h1,VB]⟩
theorem Thr.nodup {g:Gr}{r:List Int}(h:Thr g row k r)(hn:row.Nodup):r.Nodup:=by
 induction h with
 |done _=>exact hn
 |step _ _ ih=>exact ih (qA _ hn)
theorem Thr.has {g:Gr}{r:List Int}(h:Thr g row k r)(hn:∀x∈row,g.has x=true): ∀x∈r,g.has x=true:=by
 induction h with
 |done _=>exact hn
 |step _ _ ih=>exact ih fun x hx=>(Bz hx).elim (hn x) (·.1)
theorem Thr.det {g:Gr}{r r':List Int}(h:Thr g row k r)(h':Thr g row k r'):r=r':=by
 induction h with
 |done hk=>
  cases h' with
  |done _=>rfl
  |step ha _=>rw [Wk hk] at ha;cases ha
 |step ha _ ih=>
  cases h' with
  |done hk=>rw [Wk hk] at ha;cases ha
  |step ha' h2=>rw [ha] at ha';cases ha';exact ih h2
theorem Ord.det {g:Gr}{r r':List Int}(h:Ord g row r)(h':Ord g row r'):r=r':=by
 induction h with
 |done hk=>
  cases h' with
  |done _=>rfl
  |step ha _ _=>exact absurd hk ha
 |step ha h1 _ ih=>
  cases h' with
  |done hk=>exact absurd hk ha
  |step _ h1' h2=>exact ih (h1.det h1'▸h2)
theorem IsOrder.det {g:Gr}{roots b l b' l':List Int}(h:IsOrder g roots b l)(h':IsOrder g roots b' l'):b=b'/\l=l':=by
 obtain ⟨h1,h2⟩:=h;obtain ⟨h3,h4⟩:=h';have e:=h1.det h3;subst e;exact ⟨J,h2.det h4⟩
theorem Ord.app {g:Gr}{r:List Int}(h:Ord g row r): ∃t,r=row++t:=by
 induction h with
 |done _=>exact ⟨[],by simp⟩
 |step _ h1 _ ih=>
  rename_i row r1 _ _ _
  obtain ⟨t,rfl⟩:=ih;obtain ⟨t1,rfl⟩:=h1.app;obtain ⟨t2,h2⟩:=vF g row row;exact ⟨t2++t1++t,by rw [h2];simp [VB]⟩
theorem Ord.nodup {g:Gr}{r:List Int}(h:Ord g row r)(hn:row.Nodup):r.Nodup:=by
 induction h with
 |done _=>exact hn
 |step _ h1 _ ih=>exact ih (h1.nodup (Dk _ hn))
theorem Ord.has {g:Gr}{r:List Int}(h:Ord g row r)(hn:∀x∈row,g.has x=true): ∀x∈r,g.has x=true:=by
 induction h with
 |done _=>exact hn
 |step _ h1 _ ih=>exact ih (h1.has (Gz _ hn))
theorem IsOrder.nodup {g:Gr}{roots b l:List Int}(h:IsOrder g roots b l):b.Nodup/\l.Nodup:=
 have hb:=h.strong.nodup (qA _ List.nodup_nil)
 ⟨hb,h.all.nodup hb⟩
theorem IsOrder.has {g:Gr}{roots b l:List Int}(h:IsOrder g roots b l):(∀x∈b,g.has x=true)/\ ∀x∈l,g.has x=true:=
 have hb:=h.strong.has fun x hx=>(Bz hx).elim (fun h=>by cases h) (·.1)
 ⟨hb,h.all.has hb⟩
theorem IsOrder.sub {g:Gr}{roots b l:List Int}(h:IsOrder g roots b l)(hx:x∈b):x∈l:=by
 obtain ⟨t,e⟩:=h.all.app;rw [e];exact VC _ hx
theorem IsOrder.roots {g:Gr}{roots b l:List Int}(h:IsOrder g roots b l)(hx:x∈roots)(hh:g.has x=true):x∈b:=by
 obtain ⟨t,e⟩:=h.strong.app;rw [e];exact VC _ (vP _ _ hx hh)
def CloG (g:Gr)(row:List Int)(k:Nat):Prop:= ∀(i:Nat) (a x:Int),i<k->row[i]? =some a->x∈g.leads a->g.has x=true->x∈row
theorem CloG.app {g:Gr}{t:List Int}(hk:k<=row.length)(h:CloG g row k):CloG g (row++t) k:=fun i a x hi ha hx hh=>by
 rw [We U] at ha;exact VC _ (h i a x hi ha hx hh)
theorem Thr.clo {g:Gr}{r:List Int}(h:Thr g row k r)(hk:k<=row.length)(hc:CloG g row k):CloG g r r.length:=by
 induction h with
 |done a6=>intro i a x hi ha hx hh;exact hc i a x U ha hx hh
 | step ha _ ih=>
  rename_i row k a _ _
  have hlt:=(Wl.1 ha).1;obtain ⟨t,h1, -⟩:=iY g.has row (g.leads a)
  refine ih (by rw [h1,Xp];omega) fun i b x hi hb hx hh=> ?_
  by_cases e:i=k
  ·subst e;rw [h1,We hlt,ha] at hb;cases hb;exact vP _ _ hx hh
  rw [h1] at hb⊢;exact (CloG.app hk hc (t:=t)) i b x U hb hx hh
theorem GA {g:Gr}: ∀{row avs:List Int},pg g row avs=row-> ∀a∈avs, ∀x∈g.opens row a,g.has x=true->x∈row
 | row,b::avs,h,a,ha,x,hx,hh=>by
  have h1:dy g.has row (g.opens row b)=row:=by
   obtain ⟨t,e1, -⟩:=iY g.has row (g.opens row b);obtain ⟨t2,e2⟩:=vF g (dy g.has row (g.opens row b)) avs
   have h3:row++t++t2=row:=by rw [<-e1, <-e2];exact h
   have h4:=congrArg List.length h3;simp only [Xp] at h4;have h5:t=[]:=V7 U;rw [e1,h5,VZ]
  rcases WF.1 ha with e|ha
  ·subst e;have:=vP row _ hx hh;rwa [h1] at this
  refine GA (avs:=avs) ?_ a ha x hx hh;unfold pg at h;rw [h1] at h;exact h
theorem Ord.closed {g:Gr}{r:List Int}(h:Ord g row r)(hc:CloG g row row.length):CloG g r r.length/\ ∀a∈r, ∀x∈g.opens r a,g.has x=true->x∈r:=by
 induction h with
 |done hp=>exact ⟨hc,GA hp⟩
 |step _ h1 _ ih=>
  rename_i row _ _ _ _
  obtain ⟨t,e⟩:=vF g row row;refine ih (h1.clo (by rw [e,Xp];omega) ?_);rw [e];exact hc.app (W4 _)
theorem IsOrder.closed {g:Gr}{roots b l:List Int}(h:IsOrder g roots b l):(∀a∈l, ∀x∈g.leads a,g.has x=true->x∈l)/\ ∀a∈l, ∀x∈g.opens l a,g.has x=true->x∈l:=by
 obtain ⟨h1,h2⟩:=h.all.closed (h.strong.clo (Xa _) fun i _ _ hi=>absurd hi U);refine ⟨fun a ha x hx hh=> ?_,h2⟩;obtain ⟨i,hi,e⟩:=Wu ha;exact h1 i a x hi (by rw [Wj hi,e]) hx hh
def FW (m:Ve):Gr:=⟨aw m,fun a=>ce (aJ m a),fun row a=>dJ N (aJ m a) row⟩
def bR (l:List Vp):List Int:=(l.filter bd).map (·.N)
theorem zj (l l':List Vp):bR (l++l')=bR l++bR l':=by unfold bR;simp
theorem qJ:x∈bR l↔ ∃v∈l,bd v=true/\v.N=x:=by
 unfold bR;simp only [WI,WH];constructor
 ·rintro ⟨v,⟨h1,h2⟩,h3⟩;exact ⟨v,h1,h2,h3⟩
 rintro ⟨v,h1,h2,h3⟩;exact ⟨v,⟨h1,h2⟩,h3⟩
theorem HR (N:Nat){roots:List Vp}(hN:6500<N)(hs:Small m roots)(d:Int)(l:List Int)(hl:l.length<=3600)(h64:∀x∈l,in64 x){all:List Int}(ht:Tr m all met):
  Sat (d9 N ⟨m,all,met,d⟩ l) fun r=>r.m_=m/\r.Ye=d/\Tr m r.XW r.XN/\r.XW=dy (aw m) all l:=by
 unfold d9;refine cG (fun k i (s:List Int×List (Int×Unit))=>cT N l ⟨m,all,met,d⟩ k (i:Int) s.1 s.2) l.length (fun i s=>Tr m s.1 s.2/\s.1=dy (aw m) all (l.take i)) _ ?_ ?_ N 0 (all,met) U U ⟨ht,J⟩
 ·rintro k i ⟨al,mt⟩ hi ⟨h1,h2⟩ go;show Sat (cT N l ⟨m,all,met,d⟩ (k+1) i al mt) _;simp only at h1 h2;have a6:=h64 l[i] (Xv _)
  have hnext:dy (aw m) all (l.take (i+1))=(bif aw m l[i]&& !decide (l[i]∈al) then al++ [l[i]] else al):=by
   rw [ay hi,t7, <-h2];rfl
  rw [cT.eq_2,dn U,ct,aG hi,bs,RU];unfold jG;rw [r64 (a:=(i:Int)+1) U U,r64 (a:=(i:Int)+1) U U];by_cases hm:l[i]∈al
  ·rw [Vy ((h1.mem _).2 hm)];simp only [nt,cf,bs];exact go (al,mt) ⟨h1,by rw [hnext,Vy hm];simp⟩
  rw [Vz (fun h=>hm ((h1.mem _).1 h))];simp only [nf,ct,bs,vQ N m _ a6];cases hh:aw m l[i]
  ·simp only [cf];exact go (al,mt) ⟨h1,by rw [hnext,hh];rfl⟩
  simp only [ct];have hlen:=h1.len hs;rw [rF (by simp;omega)];exact go (al++ [l[i]],wI mt l[i] ()) ⟨h1.add hm hh,by rw [hnext,hh,Vz hm];rfl⟩
 rintro k ⟨al,mt⟩ ⟨h1,h2⟩;show Sat (cT N l ⟨m,all,met,d⟩ (k+1) _ al mt) _;rw [cT.eq_2,cY U,cf];exact ad ⟨J,J,h1,by simpa using h2⟩
theorem Dc (N:Nat)(hN:6500<N){roots:List Vp}(hs:Small m roots)(hw:W64 m){all:List Int}(ht:Tr m all met)(k:Nat)(hk:k<=all.length):
  Sat (il N ⟨m,all,met,(k:Int)⟩) fun r=>r.m_=m/\r.Ye=(r.XW.length:Int)/\Tr m r.XW r.XN/\Thr (FW N m) all k r.XW:=by
 unfold il;refine rB (fun f (s:List Int×List (Int×Unit)×Nat)=>gn N f m.XA m.Xz s.1 s.2.1 (s.2.2:Int)) (fun s=>1300 - s.2.2) (fun s=>Tr m s.1 s.2.1/\s.2.2<=s.1.length/\ ∀r,Thr (FW N m) s.1 s.2.2 r->Thr (FW N m) all k r) _ ?_ N (all,met,k) (by show 1300 - k<N;omega) ⟨ht,hk,fun _ h=>h⟩;rintro f ⟨al,mt,j⟩ ⟨h1,h3,h4⟩ go;show Sat (gn N (f+1) m.XA m.Xz al mt (j:Int)) _;simp only at h1 h3 h4;have hlen:=h1.len hs;rw [gn.eq_2];by_cases hj:j<al.length
 ·have hx:=Xv hj;have hat:=Im N hs al[j] (h1.in64 hs hx);have hsm:=hs.at_ al[j];obtain ⟨a6,a8⟩:=I5 hs hw al[j];rw [dn U,ct,aG hj,bs];have hat':lC N ⟨m.XA,m.Xz⟩ al[j]=some (aJ m al[j]):=hat;rw [hat',bs,qz N U _ U U,bs];refine Sat.bind (HR N hN hs (j:Int) _ a6 a8 h1) ?_;rintro ⟨m',al',mt',d'⟩ ⟨e1,e2,h5,h6⟩;simp only at e1 e2 h5 h6;subst e1 e2;have hlen':=h5.len hs
  dsimp only
  rw [r64 U U]
  have hge:al.length<=al'.length:=by
   obtain ⟨t,e, -⟩:=iY (aw m') al (ce (aJ m' al[j]));rw [h6,e,Xp];omega
  have hgo:=go (al',mt',j+1) (by show 1300 - (j+1)<1300 - j;omega) ⟨h5,by show j+1<=al'.length;omega,fun r hr=>h4 r (.step (Wj hj) (by rw [h6] at hr;exact hr))⟩;simpa using hgo
 have:j=al.length:=by omega
 subst this;rw [cY U,cf];exact ad ⟨J,J,h1,h4 _ (.done (W4 _))⟩
theorem Nh (N:Nat)(hN:6500<N){roots:List Vp}(hs:Small m roots)(hw:W64 m)(hr:∀v∈roots,in64 v.N):
  Sat (og N m roots) fun r=>r.m_=m/\r.Ye=(r.XW.length:Int)/\Tr m r.XW r.XN/\Thr (FW N m) (dy (aw m) [] (bR roots)) 0 r.XW:=by
 have hrl:=hs.roots;unfold og;refine cG (fun k i (s:List Int×List (Int×Unit))=>jp N roots k (i:Int) m.XA m.Xz s.1 s.2 0) roots.length (fun i s=>Tr m s.1 s.2/\s.1=dy (aw m) [] (bR (roots.take i))) _ ?_ ?_ N 0 ([],[]) U U ⟨⟨by simp,by simp,by simp⟩,J⟩
 ·rintro k i ⟨al,mt⟩ hi ⟨h1,h2⟩ go;show Sat (jp N roots (k+1) (i:Int) m.XA m.Xz al mt 0) _;simp only at h1 h2;have a6:=hr roots[i] (Xv _)
  have ha:oy N roots[i]=some (roots[i].N,bd roots[i]):=by
   unfold oy;rw [t8,bs]
  have hnext:dy (aw m) [] (bR (roots.take (i+1)))=dy (aw m) al (bR [roots[i]]):=by
   rw [ay hi,zj,t7, <-h2]
  rw [jp.eq_2,dn U,ct,aG hi,bs];unfold qt;rw [ha,bs];cases hb:bd roots[i]
  ·simp only [cf,bs];rw [r64 U U];refine go (al,mt) ⟨h1,?_⟩;rw [hnext];simp [bR,hb,dy]
  simp only [ct];obtain ⟨⟨m',al',mt',d'⟩,e0,e1,e2,h5,h6⟩:=HR N hN hs 0 [roots[i].N] (by simp) (by intro x hx;rw [WL] at hx;subst hx;exact a6) h1;simp only at e1 e2 h5 h6;subst e1 e2;have e0':d9 N ⟨⟨m'.XA,m'.Xz⟩,al,mt,0⟩ [roots[i].N]=some ⟨m',al',mt',0⟩:=e0;rw [e0',bs,bs]
  dsimp only
  rw [r64 U U];refine go (al',mt') ⟨h5,?_⟩;show al'=_;rw [hnext,h6];simp [bR,hb]
 rintro k ⟨al,mt⟩ ⟨h1,h2⟩;show Sat (jp N roots (k+1) _ m.XA m.Xz al mt 0) _;rw [jp.eq_2,cY U,cf];unfold tC;refine Sat.bind (Dc N hN hs hw h1 0 (Xa _)) ?_;rintro r ⟨e1,e2,h5,h6⟩;simp only [Xs] at h2;exact ad ⟨e1,e2,h5,by rw [<-h2];exact h6⟩
theorem IS (N:Nat){roots:List Vp}(hs:Small m roots)(hw:W64 m)(a:Int)(l:List Int):(dJ N (aJ m a) l).length<=3600/\ ∀x∈dJ N (aJ m a) l,in64 x:=by
 have h1:=hs.at_ a;have h2:=ET N (aJ m a) l;refine ⟨by omega,fun x hx=> ?_⟩;obtain ⟨v,h3,rfl⟩:=Kp hx;exact hw.at_ a v h3
theorem NN (N:Nat)(hN:6500<N){roots:List Vp}(hs:Small m roots)(hw:W64 m){all:List Int}(ht:Tr m all met)(d:Int):
  Sat (kM N ⟨m,all,met,d⟩) fun r=>r.2.m_=m/\r.2.Ye=d/\Tr m r.2.XW r.2.XN/\r.1=decide ((all.length:Int)<(r.2.XW.length:Int))/\r.2.XW=pg (FW N m) all all:=by
 have hlen:=ht.len hs;unfold kM;refine cG (fun k i (s:List Int×List (Int×Unit))=>du N ⟨m,all,met,d⟩ k (i:Int) m.XA m.Xz s.1 s.2 d) all.length (fun i s=>Tr m s.1 s.2/\(∃t,s.1=all++t)/\s.1=pg (FW N m) all (all.take i)) _ ?_ ?_ N 0 (all,met) U U ⟨ht,⟨[],by simp⟩,J⟩
 ·rintro k i ⟨al,mt⟩ hi ⟨h1,⟨t,h2⟩,h3⟩ go;show Sat (du N ⟨m,all,met,d⟩ (k+1) (i:Int) m.XA m.Xz al mt d) _;simp only at h1 h2 h3;have hlen1:=h1.len hs
  have htk:List.take all.length al=all:=by rw [h2,List.take_left'];rfl
  have hx:=Xv hi;have hsm:=hs.at_ all[i];have hat:lC N ⟨m.XA,m.Xz⟩ all[i]=some (aJ m all[i]):=Im N hs all[i] (ht.in64 hs hx)
  have hnext:pg (FW N m) all (all.take (i+1))=dy (aw m) al (dJ N (aJ m all[i]) al):=by
   rw [ay hi,CG, <-h3];rfl
  rw [du.eq_2];simp only [Xs];rw [dn U,ct,htk,aG hi,bs,hat,bs];unfold lA;by_cases h8:(aJ m all[i]).Xw=8
  ·rw [sP h8,ct,ES N hN al U _ U U,bs];obtain ⟨a6,a8⟩:=IS N hs hw all[i] al;obtain ⟨⟨m',al',mt',d'⟩,e0,e1,e2,h5,h6⟩:=HR N hN hs d _ a6 a8 h1;simp only at e1 e2 h5 h6;subst e1 e2;have e0':d9 N ⟨⟨m'.XA,m'.Xz⟩,al,mt,d'⟩ (dJ N (aJ m' all[i]) al)=some ⟨m',al',mt',d'⟩:=e0;rw [e0',bs]
   dsimp only
   rw [r64 U U];obtain ⟨t',e', -⟩:=iY (aw m') al (dJ N (aJ m' all[i]) al);exact go (al',mt') ⟨h5,⟨t++t',by show al'=_;rw [h6,e',h2,VB]⟩,by show al'=_;rw [hnext,h6]⟩
  rw [iO h8,cf,r64 U U];refine go (al,mt) ⟨h1,⟨t,h2⟩,?_⟩
  have h0:dJ N (aJ m all[i]) al=[]:=by
   unfold dJ sa;rw [iO h8];rfl
  show al=_;rw [hnext,h0];rfl
 rintro k ⟨al,mt⟩ ⟨h1,⟨t,h2⟩,h3⟩;show Sat (du N ⟨m,all,met,d⟩ (k+1) _ m.XA m.Xz al mt d) _;rw [du.eq_2];simp only [Xs] at h3⊢;rw [cY U,cf];exact ad ⟨J,J,h1,J,h3⟩
theorem Mq (N:Nat)(hN:6500<N){roots:List Vp}(hs:Small m roots)(hw:W64 m)(hr:∀v∈roots,in64 v.N):
  ∃b all,IsOrder (FW N m) (bR roots) b.XW all/\all.length<=1200/\b.XW.length<=1200/\og N m roots=some b/\lW N m roots=some all:=by
 obtain ⟨⟨m',al0,mt0,d0⟩,e0,e1,e2,h1,h2⟩:=Nh N hN hs hw hr;simp only at e1 e2 h1 h2;subst e1 e2;have hlen0:=h1.len hs
 have key:Sat (lW N m' roots) fun all=>Ord (FW N m') al0 all/\all.length<=1200:=by
  unfold lW;rw [e0,bs];refine rB (fun f (s:List Int×List (Int×Unit))=>lP N f m'.XA m'.Xz s.1 s.2 (s.1.length:Int)) (fun s=>1300 - s.1.length) (fun s=>Tr m' s.1 s.2/\ ∀r,Ord (FW N m') s.1 r->Ord (FW N m') al0 r) _ ?_ N (al0,mt0) (by show 1300 - al0.length<N;omega) ⟨h1,fun _ h=>h⟩;rintro f ⟨al,mt⟩ ⟨h4,h5⟩ go;show Sat (lP N (f+1) m'.XA m'.Xz al mt (al.length:Int)) _;simp only at h4 h5;have hlen:=h4.len hs;rw [lP.eq_2];obtain ⟨⟨b,m2,al2,mt2,d2⟩,g0,g1,g2,g3,g5,g6⟩:=NN N hN hs hw h4 (al.length:Int);simp only at g1 g2 g3 g5 g6;subst g1 g2;have hlen2:=g3.len hs;have g0':kM N ⟨⟨m2.XA,m2.Xz⟩,al,mt,(al.length:Int)⟩=some (b,⟨m2,al2,mt2,(al.length:Int)⟩):=g0;obtain ⟨t2,ht2⟩:=vF (FW N m2) al al;rw [g0',bs]
  dsimp only
  rw [g5]
  refine aK (fun hlt=> ?_) fun hge=> ?_
  ·refine Sat.bind (Dc N hN hs hw g3 al.length U) ?_;rintro ⟨m3,al3,mt3,d3⟩ ⟨k1,k2,k3,k4⟩;simp only at k1 k2 k3 k4;subst k1 k2;have hlen3:=k3.len hs;refine go (al3,mt3) ?_ ⟨k3,fun r h=>h5 r (.step ?_ (by rw [<-g6];exact k4) h)⟩
   ·show 1300 - al3.length<1300 - al.length;obtain ⟨t3,e3⟩:=k4.app
    have:al2.length<=al3.length:=by rw [e3,Xp];omega
    omega
   rw [<-g6];intro e;rw [e] at hlt;omega
  have e:al2=al:=by
   rw [ht2] at g6;have h0:t2=[]:=V7 (by rw [g6,Xp] at hge;omega);rw [g6,h0,VZ]
  subst e;unfold rW;exact ad ⟨h5 _ (.done g6.symm),by omega⟩
 obtain ⟨all,k1,k2,k3⟩:=key;exact ⟨⟨m',al0,mt0,(al0.length:Int)⟩,all,⟨h2,k2⟩,k3,hlen0,e0,k1⟩
theorem sW (l:List Int)(x:Int):x∈kk l↔x∈l:=by unfold kk;exact List.mem_mergeSort
theorem Gq {l:List Int}(h:l.Nodup):(kk l).Pairwise (· < ·):=by
 have h1:(kk l).Pairwise fun a b=>decide (a<=b)=true:=List.pairwise_mergeSort (by intro a b c h1 h2;simp at*;omega) (by intro a b;simp;omega) l
 have h2:(kk l).Nodup:=(List.mergeSort_perm l _).nodup_iff.2 h;rw [List.nodup_iff_pairwise_ne] at h2;exact h1.imp₂ (fun a b h3 h4=>by simp at h3;omega) h2
theorem Eo {l s:List Int}(h:l.Nodup)(hs:s.Pairwise (· < ·))(he:∀x,x∈l↔x∈s):kk l=s:=LK (Gq h) hs fun x=>(sW l x).trans (he x)
theorem LX (N:Nat)(l:List Int)(h:l.length<=5000):qL N l=some (kk l):=by
 unfold qL;rw [rF U]
def obj (n:Int):Vp:=⟨7,n,⟨#[]⟩⟩
theorem PZ {N:Nat}{roots:List Vp}{l s:List Int}(h:lW N m roots=some l)(hl:l.length<=5000)(hs:kk l=s):nB N m roots=some s:=by
 unfold nB;rw [h,bs,LX N l hl,bs,hs]
structure Tq (m:Ve) (all:List Int):Prop where
 nd:all.Nodup
 has: ∀x∈all,aw m x=true
theorem Tq.len {roots:List Vp}(hs:Small m roots){all:List Int}(h:Tq m all):all.length<=1200:=Br 1200 h.nd fun x hx=>⟨by have:=ue (h.has x hx);omega,by have:=zc hs (h.has x hx);omega⟩
theorem Tq.in64 {roots:List Vp}(hs:Small m roots){all:List Int}(h:Tq m all)(hx:x∈all):in64 x:=by
 have h1:=ue (h.has x hx);have h2:=zc hs (h.has x hx);unfold Go.Proofs.YthhiddkljcacaaaGreat.in64;omega
theorem Tq.lay {all:List Int}(h:Tq m all)(l:List Int):Tq m (dy (aw m) all l):=⟨qA l h.nd,fun x hx=>(Bz hx).elim (h.has x) (·.1)⟩
theorem Eu (N:Nat){roots:List Vp}(hN:6500<N)(hs:Small m roots)(l:List Int)(hl:l.length<=3600)(h64:∀x∈l,in64 x){all:List Int}(ht:Tq m all):ta N m all l=some (dy (aw m) all l):=by
 apply Sat.eq;unfold ta;refine cG (fun k i (s:List Int)=>qv N l m k s (i:Int)) l.length (fun i s=>Tq m s/\s=dy (aw m) all (l.take i)) _ ?_ ?_ N 0 all U U ⟨ht,J⟩
 ·rintro k i s hi ⟨h0,h1⟩ go;show Sat (qv N l m (k+1) s (i:Int)) _;have a6:=h64 l[i] (Xv _);have hsl:=h0.len hs
  have hnext:dy (aw m) all (l.take (i+1))=(bif aw m l[i]&& !decide (l[i]∈s) then s++ [l[i]] else s):=by
   rw [ay hi,t7, <-h1];rfl
  have hT:Tq m (dy (aw m) all (l.take (i+1))):=ht.lay _;rw [qv.eq_2,dn U,ct];simp only [aG hi,bs,Lt N m _ a6,TY N hN s U l[i]];unfold xL;cases hh:aw m l[i]
  ·simp only [cf,bs];rw [r64 U U];exact go s ⟨h0,by rw [hnext,hh];rfl⟩
  simp only [ct,bs];by_cases hm:l[i]∈s
  ·rw [Vy hm];simp only [nt,cf];rw [r64 U U];exact go s ⟨h0,by rw [hnext,hh,Vy hm];rfl⟩
  have e:dy (aw m) all (l.take (i+1))=s++ [l[i]]:=by rw [hnext,hh,Vz hm];rfl
  rw [Vz hm];simp only [nf,ct];rw [rF (by simp;omega),r64 U U];exact go (s++ [l[i]]) ⟨e▸hT,e.symm⟩
 rintro k s ⟨h0,h1⟩;show Sat (qv N l m (k+1) s _) _;rw [qv.eq_2,cY U,cf];exact ad (by simpa using h1)
theorem Mi (N:Nat)(hN:6500<N)(l:List Vp)(hl:l.length<=3600):oA N l=some (bR l):=by
 apply Sat.eq;unfold oA;refine cG (fun k i (s:List Int)=>iJ N l k s (i:Int)) l.length (fun i s=>s=bR (l.take i)) _ ?_ ?_ N 0 [] U U J
 ·rintro k i s hi h1 go;show Sat (iJ N l (k+1) s (i:Int)) _
  have hsl:s.length<=3600:=by
   rw [h1];unfold bR;rw [Xr];exact W5 (Wx _ _) (by rw [Xq];omega)
  have hnext:bR (l.take (i+1))=s++bR [l[i]]:=by rw [ay hi,zj,h1]
  rw [iJ.eq_2,dn U,ct];simp only [aG hi,bs,t8];unfold qw;cases hb:bd l[i]
  ·simp only [cf];rw [r64 U U];exact go s (by rw [hnext];simp [bR,hb])
  simp only [ct];rw [rF (by simp;omega),r64 U U];exact go (s++ [l[i].N]) (by rw [hnext];simp [bR,hb])
 rintro k s h1;show Sat (iJ N l (k+1) s _) _;rw [iJ.eq_2,cY U,cf];exact ad (by simpa using h1)
theorem AR (N:Nat)(hN:6500<N){roots:List Vp}(hs:Small m roots)(hw:W64 m){all:List Int}(ht:Tq m all)(k:Nat)(hk:k<=all.length):
  Sat (lZ N m all (k:Int)) fun r=>Tq m r/\Thr (FW N m) all k r:=by
 unfold lZ;refine rB (fun f (s:List Int×Nat)=>pC N m f s.1 (s.2:Int)) (fun s=>1300 - s.2) (fun s=>Tq m s.1/\s.2<=s.1.length/\ ∀r,Thr (FW N m) s.1 s.2 r->Thr (FW N m) all k r) _ ?_ N (all,k) (by show 1300 - k<N;omega) ⟨ht,hk,fun _ h=>h⟩;rintro f ⟨al,j⟩ ⟨h1,h3,h4⟩ go;show Sat (pC N m (f+1) al (j:Int)) _;simp only at h1 h3 h4;have hlen:=h1.len hs;rw [pC.eq_2];by_cases hj:j<al.length
 ·have hx:=Xv hj;have hsm:=hs.at_ al[j];obtain ⟨a6,a8⟩:=I5 hs hw al[j];rw [dn U,ct,aG hj,bs,O8 N m _ (h1.in64 hs hx),bs,MM N U _ U U,bs,Eu N hN hs _ a6 a8 h1,bs,r64 U U]
  have hge:al.length<=(dy (aw m) al (ce (aJ m al[j]))).length:=by
   obtain ⟨t,e, -⟩:=iY (aw m) al (ce (aJ m al[j]));rw [e,Xp];omega
  exact go (dy (aw m) al (ce (aJ m al[j])),j+1) (by show 1300 - (j+1)<1300 - j;omega) ⟨h1.lay _,by show j+1<=(dy (aw m) al (ce (aJ m al[j]))).length;omega,fun r hr=>h4 r (.step (Wj hj) hr)⟩
 have:j=al.length:=by omega
 subst this;rw [cY U,cf];exact ad ⟨h1,h4 _ (.done (W4 _))⟩
theorem Kb (N:Nat)(hN:6500<N){roots:List Vp}(hs:Small m roots)(hw:W64 m)(hr:∀v∈roots,in64 v.N):
  ∃b all,IsOrder (FW N m) (bR roots) b all/\uG N m roots=some all/\((oA N roots).bind fun y5=>(ta N m ([]:List Int) y5).bind fun y8=>lZ N m y8 0)=some b:=by
 have hrl:=hs.roots;have ha:=Mi N hN roots U
 have h64: ∀x∈bR roots,in64 x:=fun x hx=>by
  obtain ⟨v,h1, -,rfl⟩:=qJ.1 hx;exact hr v h1
 have hal:(bR roots).length<=3600:=by
  unfold bR;rw [Xr];exact W5 (Wx _ _) U
 have hT0:Tq m []:=⟨List.nodup_nil,by simp⟩;have hlay:=Eu N hN hs (bR roots) hal h64 hT0;obtain ⟨b,b0,b1,b2⟩:=AR N hN hs hw (hT0.lay (bR roots)) 0 (Xa _);have b0':lZ N m (dy (aw m) [] (bR roots)) 0=some b:=b0
 have key:Sat (uG N m roots) fun all=>Ord (FW N m) b all:=by
  unfold uG;rw [ha,bs,hlay,bs,b0',bs];refine rB (fun f (s:List Int)=>kc N m f s) (fun s=>1300 - s.length) (fun s=>Tq m s/\ ∀r,Ord (FW N m) s r->Ord (FW N m) b r) _ ?_ N b (by show 1300 - b.length<N;omega) ⟨b1,fun _ h=>h⟩;rintro f al ⟨h4,h5⟩ go;show Sat (kc N m (f+1) al) _;have hlen:=h4.len hs;rw [kc.eq_2];refine cG (fun k i (s:List Int)=>oh N (kc N m f) al m k s (i:Int)) al.length (fun i s=>Tq m s/\(∃t,s=al++t)/\s=pg (FW N m) al (al.take i)) _ ?_ ?_ N 0 al U U ⟨h4,⟨[],by simp⟩,J⟩
  ·rintro k i s hi ⟨h0,⟨t,h1⟩,h2⟩ go2;show Sat (oh N (kc N m f) al m (k+1) s (i:Int)) _;have hsl:=h0.len hs
   have hg:ao s (i:Int)=some al[i]:=by
    rw [oq,h1,We hi,Wj hi]
   have hx:=Xv hi;have hsm:=hs.at_ al[i];obtain ⟨a6,a8⟩:=IS N hs hw al[i] s
   have hnext:pg (FW N m) al (al.take (i+1))=dy (aw m) s (dJ N (aJ m al[i]) s):=by
    rw [ay hi,CG, <-h2];rfl
   rw [oh.eq_2,dn U,ct,hg,bs,O8 N m _ (h4.in64 hs hx),bs,Mr N hN s U _ U U,bs,Eu N hN hs _ a6 a8 h0,bs,r64 U U];obtain ⟨t',e', -⟩:=iY (aw m) s (dJ N (aJ m al[i]) s);exact go2 _ ⟨h0.lay _,⟨t++t',by rw [e',h1,VB]⟩,hnext.symm⟩
  rintro k s ⟨h0,⟨t,h1⟩,h2⟩;show Sat (oh N (kc N m f) al m (k+1) s _) _;have hsl:=h0.len hs;simp only [Xs] at h2;rw [oh.eq_2,cY U,cf];unfold zJ
  refine aK (fun he=> ?_) fun hne=> ?_
  ·have h6:t=[]:=V7 (by rw [h1,Xp] at he;omega)
   have h7:s=al:=by rw [h1,h6,VZ]
   exact ad (by rw [h7] at h2⊢;exact h5 _ (.done h2.symm))
  have hle:al.length<=s.length:=by rw [h1,Xp];omega
  refine Sat.bind (AR N hN hs hw h0 al.length hle) fun r ⟨r1,r2⟩=> ?_
  obtain ⟨t3,e3⟩:=r2.app;have b5:=r1.len hs;refine go r ?_ ⟨r1,fun r' hr'=>h5 r' (.step ?_ (by rw [<-h2];exact r2) hr')⟩
  ·show 1300 - r.length<1300 - al.length
   have:s.length<=r.length:=by rw [e3,Xp];omega
   omega
  rw [<-h2];intro e;rw [e] at hne;omega
 obtain ⟨all,k1,k2⟩:=key;exact ⟨b,all,⟨b2,k2⟩,k1,by rw [ha,bs,hlay,bs];exact b0'⟩
theorem Gn: ∀{s:List Int} {k:Nat} (h:k+1<s.length),((s.set (k+1) (s[k]'U)).set k s[k+1]).Perm s
 |a::b::r,0,_=>List.Perm.swap a b r
 |a::r,k+1,h=>by
  have ih:=Gn (s:=r) (k:=k) (by simpa using h);simp only [List.set_cons_succ,List.getElem_cons_succ];exact ih.cons a
def Uk (s:List Int)(i k:Nat):Prop:= ∀a b:Nat,a<b->b<=i->b≠k->s.getD a 0<=s.getD b 0
theorem BI (s:List Int)(i j:Nat)(x:Int)(hi:i<s.length):(s.set i x).getD j 0=if j=i then x else s.getD j 0:=by
 by_cases e:j=i
 ·subst e;simp [List.getD,hi]
 rw [if_neg e];simp only [List.getD];rw [Wn (fun h=>e h.symm)]
theorem zd (s:List Int)(i:Nat)(hi:i<s.length):s.getD i 0=s[i]:=by simp [List.getD,hi]
theorem Kd (N:Nat)(hN:6500<N)(l:List Int)(hl:l.length<=3600)(hn:l.Nodup):wi N l=some (kk l):=by
 apply Sat.eq;unfold wi;rw [rF (by simp;omega),Xu]
 have fin: ∀s:List Int,s.Perm l->Uk s (l.length - 1) l.length->s=kk l:=fun s hp hi=>by
  have hlen:=hp.length_eq;have hnd:s.Nodup:=hp.nodup_iff.2 hn;refine (Eo hn (WN.2 fun a b ha hb hab=> ?_) fun x=>(hp.mem_iff).symm).symm;have h1:=hi a b hab U U;rw [zd s a ha,zd s b hb] at h1;have h2:=WN.1 (List.nodup_iff_pairwise_ne.1 hnd) a b ha hb hab;omega
 by_cases h0:l.length=0
 ·have e:l=[]:=V7 h0;subst e;obtain ⟨n,rfl⟩: ∃n,N=n+1:=⟨N - 1,by omega⟩;rw [iC.eq_2,cY (by simp),cf];exact ad (by unfold kk;simp)
 refine cG (fun k i (s:List Int)=>iC N k s (i:Int)) l.length (fun i s=>s.Perm l/\Uk s (i - 1) l.length) _ ?_ ?_ N 1 l U U ⟨List.Perm.refl _,fun a b h1 h2=>absurd h2 U⟩
 ·rintro f i s hi ⟨h1,h2⟩ go;show Sat (iC N (f+1) s (i:Int)) _;have hlen:=h1.length_eq;rw [iC.eq_2,hlen,dn U,ct]
  have hi0:i<=l.length:=by omega
  refine rB (fun k (st:List Int×Nat)=>pD N (iC N f) (i:Int) k st.1 (st.2:Int)) (fun st=>st.2) (fun st=>st.1.Perm l/\st.2<=i/\Uk st.1 i st.2) _ ?_ N (s,i) (by show i<N;omega) ⟨h1,W4 _,fun a b q1 q2 q3=>h2 a b q1 (by show b<=i - 1;simp only at q3;omega) U⟩;rintro k ⟨t,j⟩ ⟨g1,g2,g3⟩ go2;simp only at g1 g2 g3;show Sat (pD N (iC N f) (i:Int) (k+1) t (j:Int)) _;have hlt:=g1.length_eq
  have stop:(j=0\/t.getD (j - 1) 0<=t.getD j 0)->Sat (tI N (iC N f) (i:Int) t) (· =kk l):=fun hst=>by
   unfold tI;rw [r64 U U];refine go t ⟨g1,fun a b q1 q2 q3=> ?_⟩
   have q2':b<=i:=by omega
   by_cases e:b=j
   ·subst e;rcases hst with h|h
    ·omega
    by_cases e2:a=b - 1
    ·subst e2;exact h
    have:=g3 a (b - 1) U U U;omega
   exact g3 a b q1 q2' e
  rw [pD.eq_2];by_cases hj:0<j
  ·have hp:ao t ((j:Int) - 1)=some (t[j - 1]'U):=by
    have:=aG (xs:=t) (i:=j - 1) U;rw [show (((j - 1:Nat)):Int)=(j:Int) - 1 by omega] at this;exact this
   have hq:ao t (j:Int)=some (t[j]'U):=aG U;rw [dn U,ct,r64 U U,hp,bs,hq,bs,bs];by_cases hc:t[j]'U<t[j - 1]'U
   ·rw [dn hc,ct,bs,r64 (a:=(j:Int) - 1) U U,bs,bs,r64 (a:=(j:Int) - 1) U U]
    have hs2:ao (List.set t (j:Int).toNat (t[j - 1]'U)) ((j:Int) - 1)=some ((List.set t (j:Int).toNat (t[j - 1]'U))[j - 1]'(by simp;omega)):=by
     have:=aG (xs:=List.set t (j:Int).toNat (t[j - 1]'U)) (i:=j - 1) (by simp;omega);rw [show (((j - 1:Nat)):Int)=(j:Int) - 1 by omega] at this;exact this
    rw [hs2,bs,r64 (a:=(j:Int) - 1) U U,VW,show ((j:Int) - 1).toNat=j - 1 by omega,show (j:Int) - 1=((j - 1:Nat):Int) by omega];obtain ⟨q,rfl⟩: ∃q,j=q+1:=⟨j - 1,by omega⟩;simp only [Nat.add_sub_cancel] at*;refine go2 ((t.set (q+1) (t[q]'U)).set q (t[q+1]'U),q) (by show q<q+1;omega) ⟨(Gn U).trans g1,by show q<=i;omega,fun a b q1 q2 q3=> ?_⟩;have q3':b≠q:=q3;have hqa:=zd t q U;have hqb:=zd t (q+1) U;show ((t.set (q+1) (t[q]'U)).set q (t[q+1]'U)).getD a 0<=((t.set (q+1) (t[q]'U)).set q (t[q+1]'U)).getD b 0;rw [BI _ q _ _ (by simp;omega),BI _ q _ _ (by simp;omega),BI t (q+1) _ _ U,BI t (q+1) _ _ U,if_neg q3'];by_cases b1:b=q+1
    ·rw [if_pos b1];by_cases a1:a=q
     ·rw [if_pos a1];omega
     rw [if_neg a1,if_neg U, <-hqa];exact g3 a q U U U
    rw [if_neg b1];by_cases a1:a=q
    ·rw [if_pos a1, <-hqb];exact g3 (q+1) b U q2 b1
    rw [if_neg a1];by_cases a2:a=q+1
    ·rw [if_pos a2, <-hqa];exact g3 q b U q2 b1
    rw [if_neg a2];exact g3 a b q1 q2 b1
   rw [cY U,cf];refine stop (.inr ?_);rw [zd t (j - 1) U,zd t j U];omega
  rw [cY U,cf,bs,cf];exact stop (.inl U)
 rintro f s ⟨h1,h2⟩;show Sat (iC N (f+1) s _) _;rw [iC.eq_2,h1.length_eq,cY U,cf];unfold zI;exact ad (fin s h1 h2)
def mq (c:Vd):List Int:=pick (fun i v=>nX c.Xw i&&bd v) 0 c.Xx
theorem xm (N:Nat)(hN:6500<N)(c:Vd)(hS:c.Xy.length<=1000)(hc:c.Xx.length<=2900):mg N c=some (mq c):=by
 unfold mg mq;rw [yy N hN false c hS hc,bs]
 have e1:(fun (_:Nat) (v:Vp)=>(true==false)&&bd v)=fun _ _=>false:=by funext i v;rfl
 have e2:(fun (i:Nat) (v:Vp)=>(mu c.Xw i==false)&&bd v)=fun i v=>nX c.Xw i&&bd v:=by funext i v;rw [De];cases nX c.Xw i<;>rfl
 rw [e1,e2,Gy,Xu]
theorem ri (c:Vd):(mq c).length<=c.Xx.length:=Bj _ 0 c.Xx
theorem Ix (h:x∈mq c): ∃v∈c.Xy++c.Xx,v.N=x:=by
 obtain ⟨v,h1,h2⟩:=Bi h;exact ⟨v,VD _ h1,h2⟩
def iP (m:Ve)(l:List Int):Bool:=l.all (aw m)
def Fv (m:Ve)(c:Vd):Bool:=(el N c).getD false&&(iP m (ce c)&&iP m (mq c))
theorem Ck {roots:List Vp}(hs:Small m roots)(hw:W64 m)(hc:c∈m.XA++m.Xz):((ce c).length<=3500/\ ∀x∈ce c,in64 x)/\(mq c).length<=2900/\ ∀x∈mq c,in64 x:=by
 have h1:=hs.cells c hc;have h2:=nj c;have h3:=ri c;refine ⟨⟨by omega,fun x hx=> ?_⟩,by omega,fun x hx=> ?_⟩
 ·obtain ⟨v,h4,rfl⟩:=Fg hx;exact hw c hc v h4
 obtain ⟨v,h4,rfl⟩:=Ix hx;exact hw c hc v h4
def wt:List Vd->Nat
 | []=>0
 |c::l=>1+c.Xy.length+c.Xx.length+wt l
theorem Ef: ∀a b:List Vd,wt (a++b)=wt a+wt b
 | [],b=>by simp [wt]
 |c::a,b=>by rw [V2,wt,wt,Ef a b];omega
theorem Po {l:List Vd}(h:i<l.length):wt (l.take (i+1))=wt (l.take i)+(1+l[i].Xy.length+l[i].Xx.length):=by
 rw [ay h,Ef];simp [wt]
structure Wtd (m:Ve) (roots:List Vp):Prop where
 le:roots.length+wt m.XA+wt m.Xz<=2900
 cnt:m.XA.length+m.Xz.length<=600
def i3 (p:Int->Bool):List Vp->List Vp
 |k::v::r=>(bif p k.N then [k,v] else [])++i3 p r
 |_=> []
theorem FL (p:Int->Bool): ∀l:List Vp,(i3 p l).length<=l.length
 | []=>by simp [i3]
 | [_]=>by simp [i3]
 |k::v::r=>by
  have:=FL p r;unfold i3;cases p k.N<;>simp<;>omega
theorem AE {x:Vp}: ∀{l:List Vp},x∈i3 p l->x∈l
 | [],h=>by simp [i3] at h
 | [_],h=>by simp [i3] at h
 | k::v::r,h=>by
  unfold i3 at h;rcases WE.1 h with h|h
  ·cases hp:p k.N with
   |false=>rw [hp] at h;cases h
   |true=>rw [hp] at h;simp at h;rcases h with h|h<;>simp [h]
  have:=AE h;simp [this]
def sf (l:List Int)(c:Vd):Vd:=bif sa N c then ⟨c.Xw,c.XD,c.XB,c.XC,c.Xy,i3 (fun x=>decide (x∈l)) c.Xx⟩ else c
theorem MN (N:Nat)(hN:6500<N)(l:List Int)(hl:l.length<=5000)(y:Vd)(k v:Vp)(s:List Vp)(hs:s.length<=5000):cO (fun x st=>jX N (fun x=>jn N x l) y x st) (k,v) (none,s)=some (true,(none,s++(bif decide (k.N∈l) then [k,v] else []))):=by
 unfold cO jX jn;simp only [bs,ra N hN l hl];cases decide (k.N∈l)
 ·simp only [cf,VZ];rfl
 simp only [ct];rw [rF (by simp;omega)];rfl
theorem GQ (N:Nat)(hN:6500<N)(l:List Int)(hl:l.length<=5000)(y c:Vd)(hc:c.Xx.length<=2900)(he:c.Xx.length%2=0): ∀(m i:Nat) (s:List Vp),c.Xx.length<m+i->i<=c.Xx.length->i%2=0->s.length<=i->ee N (cO (fun x st=>jX N (fun x=>jn N x l) y x st)) c m (i:Int) (none,s)=some (none,s++i3 (fun x=>decide (x∈l)) (c.Xx.drop i))
 |0,i,s,h,h2,_,_=>by omega
 | m+1,i,s,h,h2,h3,h4=>by
  rw [ee.eq_2,r64 (a:=(i:Int)+1) U U];by_cases hi:i<c.Xx.length
  ·have hi1:i+1<c.Xx.length:=by omega
   have a6:ao c.Xx ((i:Int)+1)=some c.Xx[i+1]:=by
    have:=aG hi1;simpa using this
   rw [dn U,ct,aG hi,bs,r64 (a:=(i:Int)+1) U U,a6,bs,MN N hN l hl y _ _ s U,bs];simp only [nt,cf];rw [r64 U U]
   have hlen:(s++(bif decide (c.Xx[i].N∈l) then [c.Xx[i],c.Xx[i+1]] else [])).length<=i+2:=by
    cases decide (c.Xx[i].N∈l)<;>simp<;>omega
   have:=GQ N hN l hl y c hc he m (i+2) _ U U U hlen;simp only [VT,VS] at this;rw [this,V3 hi,V3 hi1,VB];rfl
  rw [cY U,cf,V4 U];simp [i3]
theorem FK (N:Nat)(hN:6500<N)(l:List Int)(hl:l.length<=5000)(c:Vd)(hS:c.Xy.length<=600)(hc:c.Xx.length<=2900):ny N c l=some (bif sa N c then sf N l c else Gi):=by
 obtain ⟨-,h1,h2⟩:=KD N U c U U;unfold ny xn ju sf;rw [h1,bs];cases hw:sa N c
 ·rfl
 have e:mP N c=some ():=rfl;have:=GQ N hN l hl c c U (h2 hw) N 0 [] U U rfl (by simp);simp only [nt,cf,ct,e,bs,qI N c ⟨hS,hc⟩];have h3:ee N (cO (fun x st=>jX N (fun x=>jn N x l) c x st)) c N 0 (none,[])=some (none,[]++i3 (fun x=>decide (x∈l)) (c.Xx.drop 0)):=this;rw [h3,bs];rfl
theorem KR (N:Nat)(l:List Int)(c:Vd):(sf N l c).Xy.length=c.Xy.length/\(sf N l c).Xx.length<=c.Xx.length:=by
 unfold sf;cases sa N c
 ·exact ⟨J,W4 _⟩
 exact ⟨J,FL _ _⟩
theorem KQ {N:Nat}{l:List Int}(h:v∈(sf N l c).Xy++(sf N l c).Xx):v∈c.Xy++c.Xx:=by
 unfold sf at h;cases hw:sa N c
 ·rw [hw] at h;exact h
 rw [hw] at h;rcases WE.1 h with h|h
 ·exact VC _ h
 exact VD _ (AE h)
def Ga (c:Vd):Bool:=decide (c.Xw=10)&&(el N c).getD false
theorem qW {roots:List Vp}(hs:Small m roots)(h:aw m x=true):in64 x:=by
 have h2:=ue h;have h3:=zc hs h;unfold in64;omega
def mO:Vp:=⟨0,0,⟨#[]⟩⟩
def er (l:List Int):List Vp->List Vp
 |t::h::k::s::r=>(bif decide (t.N∈l) then [t,h,(bif decide (k.Xw=7)&& !decide (k.N∈l) then mO else k),s] else [])++er l r
 |_=> []
def nK (l:List Int)(cb:Vp):List Vp->List Vp
 |t::h::_::s::r=>(bif decide (t.N∈l) then [] else [cb,h,s])++nK l cb r
 |_=> []
theorem wv (l:List Int)(t h k s:Vp)(r:List Vp):er l (t::h::k::s::r)=(bif decide (t.N∈l) then [t,h,(bif decide (k.Xw=7)&& !decide (k.N∈l) then mO else k),s] else [])++er l r:=Eq.trans rfl rfl
theorem J0 (l:List Int)(cb t h k s:Vp)(r:List Vp):nK l cb (t::h::k::s::r)=(bif decide (t.N∈l) then [] else [cb,h,s])++nK l cb r:=Eq.trans rfl rfl
theorem yu (p:Int->Bool)(k v:Vp)(r:List Vp):i3 p (k::v::r)=(bif p k.N then [k,v] else [])++i3 p r:=Eq.trans rfl rfl
theorem Ok (l:List Int)(cb:Vp): ∀xs:List Vp,(er l xs).length+(nK l cb xs).length<=xs.length
 | []=>by simp [er,nK]
 | [_]=>by simp [er,nK]
 | [_,_]=>by simp [er,nK]
 | [_,_,_]=>by simp [er,nK]
 |t::h::k::s::r=>by
  have:=Ok l cb r;unfold er nK;cases decide (t.N∈l)<;>simp<;>omega
def yv (l:List Int)(c:Vd):Vd×List Vp:=(⟨c.Xw,c.XD,c.XB,c.XC,c.Xy,c.Xx.take 1++er l (c.Xx.drop 1)⟩,nK l (c.Xx.headD mO) (c.Xx.drop 1))
theorem four (h:4<=l.length): ∃t a k s r,l=t::a::k::s::r:=by
 match l,h with
 |t::a::k::s::r,_=>exact ⟨t,a,k,s,r,rfl⟩
theorem Jh (N:Nat)(hN:6500<N)(l:List Int)(p:List (Int×Bool))(hp:∀x,(lk p x).getD false=decide (x∈l))(c y:Vd)(cb:Vp)(hcb:c.Xx[0]? =some cb)(hc:c.Xx.length<=2900): ∀(m i:Nat) (o t:List Vp),c.Xx.length<m+i->i<=c.Xx.length->(c.Xx.length - i)%4=0->o.length<=i->t.length<=i->gA N (cO (fun x st=>fT N c p y x st)) c m (i:Int) (none,(o,t))=some (none,(o++er l (c.Xx.drop i),t++nK l cb (c.Xx.drop i)))
 |0,i,o,t,h,h2,_,_,_=>by omega
 | m +1,i,o,t,h,h2,h3,h4,h5=>by
  rw [gA.eq_2,r64 (a:=(i:Int)+4) U U];by_cases hi:i+4<=c.Xx.length
  ·obtain ⟨v1,v2,v3,v4,r,hd⟩:=four (l:=c.Xx.drop i) (by rw [Ww];omega)
   have hd4:c.Xx.drop (i+4)=r:=by rw [<-List.drop_drop,hd];rfl
   have hx:(c.Xx.drop (i:Int).toNat).take (((i:Int)+4).toNat - (i:Int).toNat)=[v1,v2,v3,v4]:=by
    rw [VW,show ((i:Int)+4).toNat - i=4 by omega,hd];rfl
   have h0:ao c.Xx 0=some cb:=by
    have:=oq c.Xx 0;rw [hcb] at this;exact this
   have e0:ao [v1,v2,v3,v4] 0=some v1:=rfl;have e1:ao [v1,v2,v3,v4] 1=some v2:=rfl;have e2:ao [v1,v2,v3,v4] 2=some v3:=rfl;have e3:ao [v1,v2,v3,v4] 3=some v4:=rfl;rw [Oi U,ct,r64 U U,r64 U U,gi ⟨by omega,by omega,by omega,by omega⟩,hx]
   have hb:cO (fun x st=>fT N c p y x st) ((i:Int),[v1,v2,v3,v4]) (none,(o,t))=some (true,(none,(o++(bif decide (v1.N∈l) then [v1,v2,(bif decide (v3.Xw=7)&& !decide (v3.N∈l) then mO else v3),v4] else []),t++(bif decide (v1.N∈l) then [] else [cb,v2,v4])))):=by
    unfold cO fT;simp only [e0,e1,e2,e3,bs,hp,h0];unfold nG;simp only [e0,e1,e2,e3,bs];cases decide (v1.N∈l)
    ·simp only [nf,ct,cf,VZ];rw [rF (by simp;omega)];rfl
    simp only [nt,ct,cf,VZ];rw [rF (by simp;omega),rF (by simp;omega)];cases decide (v3.Xw=7)<;>cases decide (v3.N∈l)<;>rfl
   rw [hb,bs];simp only [nt,cf];rw [r64 U U];have:=Jh N hN l p hp c y cb hcb hc m (i+4) (o++(bif decide (v1.N∈l) then [v1,v2,(bif decide (v3.Xw=7)&& !decide (v3.N∈l) then mO else v3),v4] else [])) (t++(bif decide (v1.N∈l) then [] else [cb,v2,v4])) U hi U (by cases decide (v1.N∈l)<;>simp<;>omega) (by cases decide (v1.N∈l)<;>simp<;>omega);rw [show (((i+4:Nat)):Int)=(i:Int)+4 by omega] at this;rw [this,hd4,hd,VB,VB];rfl
  rw [Oj U,cf,V4 U];simp [er,nK]
theorem P6 (N:Nat)(hN:6500<N)(c:Vd)(hS:c.Xy.length<=1000)(hc:c.Xx.length<=2900):uO N c=some (Ga N c)/\(Ga N c=true->1<=c.Xx.length/\(c.Xx.length - 1)%4=0):=by
 obtain ⟨b,hb,a6⟩:=Cy N hN c hS hc;unfold uO Ga;rw [xA N hN c hS hc,hb];refine ⟨by cases decide (c.Xw=10)<;>cases b<;>rfl,fun h=> ?_⟩;rw [Xt,Xl] at h;exact (a6 h.2).2 h.1
theorem zW (N:Nat)(hN:6500<N)(l:List Int)(hl:l.length<=5000)(c:Vd)(hS:c.Xy.length<=600)(hc:c.Xx.length<=2900):kV N c l=some (bif Ga N c then yv l c else (Gi,[])):=by
 obtain ⟨h1,h2⟩:=P6 N U c U U;unfold kV;rw [h1,bs];cases hw:Ga N c
 ·rfl
 obtain ⟨g1,g2⟩:=h2 hw;simp only [nt,cf,ct]
 have hcb:c.Xx[0]? =some (c.Xx.headD mO):=by
  cases hm:c.Xx with
  |nil=>rw [hm] at g1;simp at g1
  |cons a r=>rfl
 apply Sat.eq;refine cG (fun k i (s:List (Int×Bool))=>iN N l c k (i:Int) s) l.length (fun i s=> ∀x,(lk s x).getD false=decide (x∈l.take i)) _ ?_ ?_ N 0 [] U U (fun x=>by simp;rfl)
 ·intro k i s hi h3 go;show Sat (iN N l c (k+1) (i:Int) s) _;rw [iN.eq_2,dn U,ct,aG hi,bs,r64 U U]
  refine go _ fun x=> ?_
  rw [Dq,ay hi];by_cases e:l[i]=x
  ·rw [if_pos e,Vy (by simp [e])];rfl
  rw [if_neg e,h3 x];by_cases hm:x∈l.take i
  ·rw [Vy hm,Vy (VC _ hm)]
  rw [Vz hm,Vz (by simp only [WE,WL];exact fun h=>h.elim hm fun h=>e h.symm)]
 intro k s h3;show Sat (iN N l c (k+1) _ s) _;rw [Xs] at h3;rw [iN.eq_2,cY U,cf];unfold qG ve cx qF nV
 have h0:ao c.Xx 0=some (c.Xx.headD mO):=by
  have:=oq c.Xx 0;rw [hcb] at this;exact this
 rw [rF (by simp;omega),bs,h0,bs,bs,bs];have:=Jh N hN l s h3 c ⟨c.Xw,c.XD,c.XB,c.XC,[]++c.Xy,[c.Xx.headD mO]⟩ _ hcb U N 1 [c.Xx.headD mO] [] U g1 g2 (by simp) (by simp);have this':gA N (cO (fun x st=>fT N c s ⟨c.Xw,c.XD,c.XB,c.XC,[]++c.Xy,[c.Xx.headD mO]⟩ x st)) c N 1 (none,([c.Xx.headD mO],[]))=_:=this;rw [this',bs];refine ad ?_
 have ht:c.Xx.take 1=[c.Xx.headD mO]:=by
  cases hm:c.Xx with
  |nil=>rw [hm] at g1;simp at g1
  |cons a r=>rfl
 unfold yv;rw [ht];rfl
def wP (a:Int):Bool:=decide (a.tmod 2=0)
def F8 (a:Int):Bool:=decide (a.tmod 2=1)
def pF (live:List Int):List Int:=live.filter wP++live.filter F8
theorem ze: ∀{l:List Int} {i:Nat} (hi:i<l.length),p l[i]=true->(l.filter p)[((l.take i).filter p).length]? =some l[i]
 |x::l,0,hi,h=>by
  simp only [List.getElem_cons_zero] at h;simp [h]
 |x::l,i+1,hi,h=>by
  simp only [List.getElem_cons_succ] at h;have ih:=ze (l:=l) (i:=i) (by simpa using hi) h;rw [WU]
  cases hx:p x with
  |true=>simp only [V9,hx,if_true,Wv,Wg,List.getElem_cons_succ];exact ih
  |false=>simp only [V9,hx,VQ,if_false,List.getElem_cons_succ];exact ih
theorem Ji {l:List Int}(hi:i<l.length):((l.take (i+1)).filter p).length=((l.take i).filter p).length+(bif p l[i] then 1 else 0):=by
 rw [ay hi,List.filter_append,Xp];cases h:p l[i]<;>simp [h]
theorem EQ (N:Nat)(φ:Int×Int->σ->Option (Option Exit×σ))(live:List Int)(hl:live.length<=2000)(hN:6500<N)(kb:Int->Int->Option Exit×σ->Option (Option Exit×σ))(b:Int)(p:Int->Bool)(hp:∀a,p a=decide (a.tmod 2=b))(p6:Int)(h6:0<=p6/\p6<=2)(n0:Nat)(hn0:n0<=2000)(Inv:Nat->σ->Prop)(R:Option Exit×σ->Prop)(hstep:∀i (hi:i<live.length) s,p live[i]=true->Inv (n0+((live.take i).filter p).length) s->Sat (φ (((n0+((live.take i).filter p).length:Nat):Int),live[i]) s) fun r=>r.1=none/\Inv (n0+((live.take i).filter p).length+1) r.2)(hk:∀s,Inv (n0+(live.filter p).length) s->Sat (kb ((n0+(live.filter p).length:Nat):Int) (p6+1) (none,s)) R)(s:σ)(hs:Inv n0 s):Sat (cM N kb (cO φ) b p6 live N (n0:Int) 0 (none,s)) R:=by
 have hfl: ∀i,((live.take i).filter p).length<=2000:=fun i=>W5 (Wx _ _) (by rw [Xq];omega)
 refine cG (fun k i (st:Nat×σ)=>cM N kb (cO φ) b p6 live k (st.1:Int) (i:Int) (none,st.2)) live.length (fun i st=>st.1=n0+((live.take i).filter p).length/\Inv st.1 st.2) _ ?_ ?_ N 0 (n0,s) U U ⟨by simp,hs⟩
 ·rintro k i ⟨n,st⟩ hi ⟨h1,h2⟩ go;simp only at h1 h2;have hb:=hfl i;show Sat (cM N kb (cO φ) b p6 live (k+1) (n:Int) (i:Int) (none,st)) _;have hnx:=Ji (p:=p) hi;rw [cM.eq_2,dn U,ct,aG hi,bs, <-hp];unfold lG;rw [r64 (a:=(i:Int)+1) U U];cases hq:p live[i]
  ·simp only [nf,ct];rw [hq] at hnx;have hg:=go (n,st) ⟨by show n=_;rw [hnx];exact h1,h2⟩
   first|rw [r64 (a:=(i:Int)+1) U U]|skip
   exact hg
  simp only [nt,cf];rw [hq] at hnx;obtain ⟨⟨e,s'⟩,g1,g2,g3⟩:=hstep i hi st hq (by rw [<-h1];exact h2);simp only at g2 g3;subst g2
  have hf:cO φ ((n:Int),live[i]) (none,st)=some (true,(none,s')):=by
   unfold cO;simp only;rw [h1,g1];rfl
  rw [hf,bs];simp only [nt,cf];rw [r64 (a:=(n:Int)+1) U U];have hg:=go (n+1,s') ⟨by show n+1=_;rw [hnx];show n+1=_+(_+1);omega,by show Inv (n+1) s';rw [h1];exact g3⟩
  first|rw [r64 (a:=(i:Int)+1) U U]|skip
  exact hg
 rintro k ⟨n,st⟩ ⟨h1,h2⟩;simp only [Xs] at h1 h2;show Sat (cM N kb (cO φ) b p6 live (k+1) (n:Int) _ (none,st)) _;rw [cM.eq_2,cY U,cf];unfold pL;rw [r64 U U,h1];exact hk st (by rw [<-h1];exact h2)
theorem ER (N:Nat)(φ:Int×Int->σ->Option (Option Exit×σ))(live:List Int)(hl:live.length<=2000)(hN:6500<N)(Inv:Nat->σ->Prop)(hstep:∀n a s,(pF live)[n]? =some a->Inv n s->Sat (φ ((n:Int),a) s) fun r=>r.1=none/\Inv (n+1) r.2)(s:σ)(hs:Inv 0 s):Sat (fR N live (cO φ) (none,s)) fun r=>r.1=none/\Inv (pF live).length r.2:=by
 obtain ⟨k,rfl⟩: ∃k,N=k+3:=⟨N - 3,by omega⟩;have hev:(live.filter wP).length<=2000:=W5 (Wx _ _) hl;unfold fR;rw [eV.eq_2,show ((([0,1]:List Int).length:Int))=2 from rfl,dn U,ct,show ao ([0,1]:List Int) 0=some 0 from rfl,bs];refine EQ (k+3) φ live hl U _ 0 wP (fun _=>J) 0 U 0 U Inv _ (fun i hi st hp hi2=> ?_) (fun st hst=> ?_) s hs
 ·refine hstep _ _ _ ?_ hi2;unfold pF;rw [We]
  ·rw [W9];exact ze hi hp
  have:=(Wl.1 (ze hi hp)).1;omega
 rw [eV.eq_2,show ((([0,1]:List Int).length:Int))=2 from rfl,dn U,ct,show ao ([0,1]:List Int) (0+1)=some 1 from rfl,bs];refine EQ (k+3) φ live hl U _ 1 F8 (fun _=>J) (0+1) U (0+(live.filter wP).length) U Inv _ (fun i hi st hp hi2=> ?_) (fun st hst=> ?_) st hst
 ·refine hstep _ _ _ ?_ hi2;unfold pF;rw [Wf U,show 0+(live.filter wP).length+((live.take i).filter F8).length - (live.filter wP).length=((live.take i).filter F8).length by omega];exact ze hi hp
 rw [eV.eq_2,show ((([0,1]:List Int).length:Int))=2 from rfl,cY U,cf];refine ad ⟨J,?_⟩;unfold pF;rw [Xp]
 have e:0+(live.filter wP).length+(live.filter F8).length=(live.filter wP).length+(live.filter F8).length:=by omega
 rw [<-e];exact hst
theorem MR {w:Vp}(h:v.Xw=w.Xw):bd v=bd w:=by unfold bd;rw [h]
def cp (c:Vd):List Int:=ce c++mq c
def rT (c:Vd):Bool:=(el N c).getD false
theorem Nj (c:Vd):(cp c).length<=c.Xy.length+2*c.Xx.length:=by
 have h1:=nj c;have h2:=ri c;unfold cp;rw [Xp];omega
theorem BM: ∀l:List Vd,(l.flatMap cp).length<=2*wt l
 | []=>by simp [wt]
 |c::l=>by
  have h1:=BM l;have h2:=Nj c;rw [Wb,Xp,wt];omega
theorem Kt (N:Nat)(m:Ve)(l:List Int)(hl:l.length<N)(a6:l.length<=6000)(h64:∀x∈l,in64 x):bD N l (fun x=>iL N x m)=some (!iP m l):=by
 have key: ∀k i:Nat,l.length<k+i->i<=l.length->Sat (dG N (fun x=>iL N x m) l k (i:Int)) fun r=>decide (0<=r)=!(l.drop i).all (aw m):=by
  intro k
  induction k with
  |zero=>intro i h1 h2;omega
  | succ k ih=>
   intro i h1 h2;rw [dG.eq_2];by_cases hi:i<l.length
   ·have h3:=ih (i+1) U hi;rw [show (((i+1:Nat)):Int)=(i:Int)+1 by omega] at h3;rw [dn U,ct,aG hi,bs,V3 hi,List.all_cons];unfold iL;rw [vQ N m _ (h64 _ (Xv _)),bs,bs,r64 U U];cases aw m l[i]
    ·exact ad (by rw [Vy U];rfl)
    exact h3
   rw [cY U,cf,V4 U];exact ad J
 obtain ⟨r,h1,h2⟩:=key N 0 U U;have h1':dG N (fun x=>iL N x m) l N 0=some r:=h1;unfold bD lq;rw [h1',bs,h2];unfold iP;simp
def nW (m:Ve)(roots:List Vp):Int:=
 bif (m.XA++m.Xz).all (rT N) then bif iP m ((m.XA++m.Xz).flatMap cp++bR roots) then 0 else 50 else 51
theorem FN (N:Nat)(hN:6500<N){roots:List Vp}(hs:Small m roots)(ht:Wtd m roots)(hw:W64 m)(hr:∀v∈roots,in64 v.N):me N m roots=some (nW N m roots):=by
 have hle:=ht.le;have h1:=hs.young;have h2:=hs.old;have h3:=hs.roots
 have a64: ∀(l:List Vd),(∀c∈l,c∈m.XA++m.Xz)-> ∀x∈l.flatMap cp,in64 x:=fun l hl x hx=>by
  obtain ⟨c,hc,hx⟩:=List.mem_flatMap.1 hx;obtain ⟨⟨-,g1⟩, -,g2⟩:=Ck hs hw (hl c hc);exact (WE.1 hx).elim (g1 x) (g2 x)
 have r64': ∀x∈bR roots,in64 x:=fun x hx=>by
  obtain ⟨v,h1, -,rfl⟩:=qJ.1 hx;exact hr v h1
 have hal: ∀k,(bR (roots.take k)).length<=roots.length:=fun k=>by
  unfold bR;rw [Xr];exact W5 (Wx _ _) (by rw [Xq];omega)
 -- the roots
 have hroots: ∀q:List Int,q.length+roots.length<=5800->(∀x∈q,in64 x)->pN N roots m q=some (bif iP m (q++bR roots) then 0 else 50):=by
  intro q hq a6;apply Sat.eq;unfold pN;refine cG (fun k i (s:List Int)=>fw N roots m k s (i:Int)) roots.length (fun i s=>s=q++bR (roots.take i)) _ ?_ ?_ N 0 q U U (by simp [bR])
  ·rintro k i s hi h1 go;show Sat (fw N roots m (k+1) s (i:Int)) _
   have hnext:q++bR (roots.take (i+1))=s++bR [roots[i]]:=by rw [ay hi,zj,h1,VB]
   have hsl:s.length<=5800:=by have:=hal i;rw [h1,Xp];omega
   rw [fw.eq_2,dn U,ct,aG hi,bs,t8,bs];unfold oE;cases hb:bd roots[i]
   ·rw [cf,r64 U U];exact go s (by rw [hnext];simp [bR,hb])
   rw [ct,rF (by simp;omega),r64 U U];exact go _ (by rw [hnext];simp [bR,hb])
  rintro k s h1;show Sat (fw N roots m (k+1) s _) _;rw [Xs] at h1
  have hsl:s.length<=5800:=by have:=hal roots.length;rw [Xs] at this;rw [h1,Xp];omega
  rw [fw.eq_2,cY U,cf];unfold r7;rw [Kt N m s U U (fun x hx=>by rw [h1] at hx;exact (WE.1 hx).elim (a6 x) (r64' x)),bs, <-h1];cases iP m s<;>exact ad rfl
 -- one row
 have row: ∀(kb:List Int->Int->Option Int) (p:Int) (l:List Vd) (q:List Int),in64 (p+1)->l.length<=600->wt l<=2900->(∀c∈l,c∈m.XA++m.Xz)->q.length<=6000->lS N kb m p l roots N q 0=bif l.all (rT N) then kb (q++l.flatMap cp) (p+1) else some 51:=by
  intro kb p l q hp hll hl a8 hq
  have key: ∀(k i:Nat),l.length<k+i->i<=l.length->lS N kb m p l roots k (q++(l.take i).flatMap cp) (i:Int)=bif (l.drop i).all (rT N) then kb (q++l.flatMap cp) (p+1) else some 51:=by
   intro k
   induction k with
   |zero=>intro i h1 h2;omega
   | succ k ih=>
    intro i h4 h5;have hfl:=BM (l.take i)
    have hwt:wt (l.take i)<=wt l:=by
     have:=Ef (l.take i) (l.drop i);rw [WS] at this;omega
    by_cases hi:i<l.length
    ·have hm:=a8 l[i] (Xv _);have hc:=hs.cells _ hm;have hwi:=Po hi
     have hwt2:wt (l.take (i+1))<=wt l:=by
      have:=Ef (l.take (i+1)) (l.drop (i+1));rw [WS] at this;omega
     obtain ⟨b,hb, -⟩:=Cy N U l[i] U U
     have hrc:rT N l[i]=b:=by unfold rT;rw [hb];rfl
     have e1:=nj l[i];have e2:=ri l[i];have h6:=ih (i+1) U hi;rw [show (((i+1:Nat)):Int)=(i:Int)+1 by omega] at h6;rw [lS.eq_2,dn U,ct,aG hi,bs,xA N U _ U U,hb,bs,qz N U _ U U,bs,Xp,rF U,xm N U _ U U,bs,Xp,Xp,rF U,r64 U U]
     have hap:q++(l.take i).flatMap cp++ce l[i]++mq l[i]=q++(l.take (i+1)).flatMap cp:=by
      rw [ay hi,Wa];simp [cp,VB]
     rw [hap,h6,V3 hi,List.all_cons,hrc];cases b<;>rfl
    have e:i=l.length:=by omega
    subst e;rw [lS.eq_2,cY U,cf,List.drop_length,Xs];unfold r8;rw [gi hp];rfl
  have:=key N 0 U U;simpa using this
 have hwy:wt m.XA<=2900:=by omega
 have hwo:wt m.Xz<=2900:=by omega
 have hfy:=BM m.XA;have hfo:=BM m.Xz;obtain ⟨k,rfl⟩: ∃k,N=k+3:=⟨N - 3,by omega⟩;unfold me nW;rw [ni.eq_2,show ((([m.XA,m.Xz]:List VF).length:Int))=2 from rfl,dn U,ct,show ao ([m.XA,m.Xz]:List VF) 0=some m.XA from rfl,bs,row _ 0 m.XA [] (by unfold in64;omega) h1 hwy (fun c hc=>VC _ hc) (by simp)];rw [ni.eq_2,show ((([m.XA,m.Xz]:List VF).length:Int))=2 from rfl,dn U,ct,show ao ([m.XA,m.Xz]:List VF) (0+1)=some m.Xz from rfl,bs,Xu,row _ (0+1) m.Xz (m.XA.flatMap cp) (by unfold in64;omega) h2 hwo (fun c hc=>VD _ hc) U]
 rw [ni.eq_2,show ((([m.XA,m.Xz]:List VF).length:Int))=2 from rfl,cY U,cf,hroots _ (by rw [Xp];omega) (fun x hx=>by
  rw [<-Wa] at hx
  exact a64 _ (fun c hc=>hc) x hx),List.all_append,Wa]
 cases m.XA.all (rT (k+3))<;>cases m.Xz.all (rT (k+3))<;>rfl
def sX (f:List Int)(a:Int):Int:=2*((f.idxOf a:Nat):Int)+2
def bI (ρ:Int->Int)(f:List Int)(v:Vp):Vp:=bif bd v&&decide (v.N∈f) then ⟨v.Xw,ρ v.N,v.S⟩ else v
def lF (ρ:Int->Int)(f:List Int)(c:Vd):Vd:=⟨c.Xw,c.XD,c.XB,c.XC,c.Xy.map (bI ρ f),c.Xx.map (bI ρ f)⟩
def RhoM (kv:List (Int×Int))(f:List Int):Prop:= ∀x,lk kv x=if x∈f then some (sX f x) else none
theorem wl (N:Nat)(hN:6500<N)(l:List Vp)(hl:l.length<=6000)(kv:List (Int×Int))(f:List Int)(hk:RhoM kv f):d7 N l kv=some (l.map (bI (sX f) f)):=by
 apply Sat.eq;unfold d7;refine cG (fun k i (s:List Vp)=>gv N l kv k s (i:Int)) l.length (fun i s=>s=(l.take i).map (bI (sX f) f)) _ ?_ ?_ N 0 [] U U J
 ·rintro k i s hi h1 go;show Sat (gv N l kv (k+1) s (i:Int)) _
  have hsl:s.length<=i:=by rw [h1,Xr,Xq];omega
  have hnext:(l.take (i+1)).map (bI (sX f) f)=s++ [bI (sX f) f l[i]]:=by rw [ay hi,WB,h1];rfl
  rw [gv.eq_2,dn U,ct,aG hi,bs,hk l[i].N,t8];unfold oD;by_cases hm:l[i].N∈f
  ·rw [if_pos hm];simp only [bs,Option.isSome_some,ct];cases hb:bd l[i]
   ·rw [cf,rF (by simp;omega),r64 U U];refine go _ ?_;rw [hnext];unfold bI;rw [hb];rfl
   rw [ct,rF (by simp;omega),r64 U U];refine go _ ?_;rw [hnext];unfold bI;rw [hb,Vy hm];rfl
  rw [if_neg hm];simp only [bs,Option.isSome_none,cf];rw [rF (by simp;omega),r64 U U];refine go _ ?_;rw [hnext];unfold bI;rw [Vz hm,Bool.and_false];rfl
 rintro k s h1;show Sat (gv N l kv (k+1) s _) _;rw [gv.eq_2,cY U,cf];exact ad (by rw [h1,Xs])
def mI (l:List Int)(c:Vd):Vd:=bif decide (c.Xw=8) then sf N l c else bif decide (c.Xw=10) then (yv l c).1 else c
def iR (l:List Int)(c:Vd):List Vp:=bif decide (c.Xw=10) then (yv l c).2 else []
theorem sS (N:Nat)(l:List Int)(c:Vd):(mI N l c).Xy.length=c.Xy.length/\(mI N l c).Xx.length+(iR l c).length<=c.Xx.length:=by
 unfold mI iR;by_cases h8:c.Xw=8
 ·rw [Vy h8,Vz (p:=c.Xw=10) U];have:=KR N l c;simp only [cond_true,cond_false,Wy];omega
 rw [Vz h8];by_cases h10:c.Xw=10
 ·rw [Vy h10];have:=Ok l (c.Xx.headD mO) (c.Xx.drop 1);rw [Ww] at this;unfold yv;refine ⟨J,?_⟩;show (c.Xx.take 1++er l (c.Xx.drop 1)).length+(nK l (c.Xx.headD mO) (c.Xx.drop 1)).length<=c.Xx.length;rw [Xp,Xq]
  cases hm:c.Xx with
  |nil=>rw [hm] at this;simp [er,nK]
  |cons a r=>rw [hm] at this;simp only [Wv] at this⊢;omega
 rw [Vz h10];simp
theorem RhoM.nil:RhoM [] []:=fun x=>rfl
theorem RhoM.add {kv:List (Int×Int)}{f:List Int}(hi:i<f.length)(h:RhoM kv (f.take i))(hn:f.Nodup):RhoM (wI kv f[i] (2*(i:Int)+2)) (f.take (i+1)):=by
 intro x
 have hlen:(f.take i).length=i:=by rw [Xq];omega
 have hni:f[i]∉f.take i:=by
  intro hm;obtain ⟨j,hj,e⟩:=Wu hm;rw [Xq] at hj;rw [List.getElem_take] at e;exact WN.1 (List.nodup_iff_pairwise_ne.1 hn) j i U hi U e
 rw [Dq,ay hi];unfold sX;rw [List.idxOf_append];by_cases e:f[i]=x
 ·rw [if_pos e, <-e,if_pos (VD _ (by simp)),if_neg hni];simp [hlen]
 rw [if_neg e,h x];by_cases hm:x∈f.take i
 ·rw [if_pos hm,if_pos (VC _ hm),if_pos hm];rfl
 rw [if_neg hm,if_neg (by simp only [WE,WL];exact fun hh=>hh.elim hm fun hh=>e hh.symm)]
structure Coll where
 next:Ve
 now:List Vp
 gone:List Vp
def Jy (m:Ve)(roots:List Vp)(live f:List Int):Coll:=
 ⟨⟨[],f.map fun a=>lF (sX f) f (mI N live (aJ m a))⟩,roots.map (bI (sX f) f),(f.flatMap fun a=>iR live (aJ m a)).map (bI (sX f) f)⟩
structure Mild (g:Vp->Vp):Prop where
 z:g vZ=vZ
 kind: ∀v,(g v).Xw=v.Xw
 num: ∀v,v.Xw=3->g v=v
 may: ∀v,mL v=true->mL (g v)=true
section
variable {g:Vp->Vp}(h:Mild g)
include h
theorem Mild.at_ (l:List Vp)(i:Nat):rc (l.map g) i=g (rc l i):=by
 unfold rc;simp only [List.getD,Wm]
 cases l[i]? with
 |none=>exact h.z.symm
 |some v=>rfl
theorem Mild.numB (v:Vp)(a b:Int):Go.Proofs.YthhiddkljcacaaaGreat.numB (g v) a b=Go.Proofs.YthhiddkljcacaaaGreat.numB v a b:=by
 unfold Go.Proofs.YthhiddkljcacaaaGreat.numB;by_cases h3:v.Xw=3
 ·rw [h.num v h3]
 rw [h.kind,Vz h3];rfl
theorem Mild.noneB (v:Vp)(k:Int):Go.Proofs.YthhiddkljcacaaaGreat.noneB (g v) k=Go.Proofs.YthhiddkljcacaaaGreat.noneB v k:=by
 unfold Go.Proofs.YthhiddkljcacaaaGreat.noneB;rw [h.kind]
theorem Mild.ent2: ∀l:List Vp,sD (l.map g)=sD l
 | []=>rfl
 | [_]=>rfl
 |k::v::r=>by
  simp only [WC];simp only [o6];rw [h.kind,h.kind,Mild.ent2 r]
theorem Mild.ent4: ∀l:List Vp,nM (l.map g)=nM l
 | []=>rfl
 | [_]=>rfl
 | [_,_]=>rfl
 | [_,_,_]=>rfl
 |t::v::k::s::r=>by
  simp only [WC];simp only [oZ];rw [h.kind,h.kind,h.noneB,h.numB,Mild.ent4 r]
theorem Mild.slots (k sh fl:Int)(l:List Vp):mU k sh fl (l.map g)=mU k sh fl l:=by
 unfold mU;simp only [Xr,h.at_,h.kind,h.noneB]
theorem Mild.more (k:Int)(l:List Vp):ry k (l.map g)=ry k l:=by
 unfold ry;rw [<-List.map_drop,h.ent2,h.ent4];simp only [Xr,h.at_,h.kind,h.noneB,h.numB]
theorem Mild.all (hl:l.all mL=true):(l.map g).all mL=true:=by
 rw [VY] at hl⊢;intro v hv;obtain ⟨w,hw,rfl⟩:=WI.1 hv;exact h.may w (hl w hw)
theorem Mild.right (hc:bm c=true):bm ⟨c.Xw,c.XD,c.XB,c.XC,c.Xy.map g,c.Xx.map g⟩=true:=by
 unfold bm at hc⊢;simp only [Xt] at hc;obtain ⟨h1,h2,h3,h4,h5⟩:=hc;simp only [h.slots,h.more,h.all h2,h.all h3,h4,h5,Bool.and_true];simp only [Xt];exact h1
end
theorem Lm (hb:bd v=true):mL v=((v.S.toList==(⟨#[]⟩:ByteArray).toList)&&decide (1<=v.N)):=by
 have hk:v.Xw=7\/v.Xw=9:=by
  unfold bd at hb;rw [Bool.or_eq_true,Xl,Xl] at hb;exact hb
 unfold mL fP;rcases hk with hk|hk<;>rw [hk]<;>cases (v.S.toList==(⟨#[]⟩:ByteArray).toList)<;>rfl
structure Ren (ρ:Int->Int) (f:List Int):Prop where
 inj: ∀a b,a∈f->b∈f->ρ a=ρ b->a=b
 pos: ∀a∈f,1<=ρ a
theorem N5 {ρ:Int->Int}{f:List Int}(hρ:Ren ρ f):Mild (bI ρ f) where
 z:=rfl
 kind v:=by unfold bI;cases bd v&&decide (v.N∈f)<;>rfl
 num v h:=by
  have:bd v=false:=by unfold bd;rw [h];rfl
  unfold bI;rw [this];rfl
 may v h:=by
  cases hb:bd v&&decide (v.N∈f) with
  |false=>unfold bI;rw [hb];exact h
  |true=>
   have a6:=(Xt _ _▸hb:bd v=true/\decide (v.N∈f)=true);have a8:=a6.1
   have e:bI ρ f v=⟨v.Xw,ρ v.N,v.S⟩:=by unfold bI;rw [hb];rfl
   have b0:bd (⟨v.Xw,ρ v.N,v.S⟩:Vp)=true:=a8;rw [e,Lm b0];rw [Lm a8,Xt] at h;rw [Xt];exact ⟨h.1,Vy (hρ.pos _ (Xn a6.2))⟩
theorem ME {ρ:Int->Int}{f:List Int}(hρ:Ren ρ f)(h:bm c=true):bm (lF ρ f c)=true:=(N5 hρ).right h
theorem uB (h:bm c=true):c.Xy.all mL=true/\c.Xx.all mL=true/\ry c.Xw c.Xx=true:=by
 unfold bm at h;simp only [Xt] at h;exact ⟨h.2.1,h.2.2.1,h.2.2.2.2⟩
theorem Ew (h:bm c=true){m:List Vp}(h1:m.all mL=true)(h2:ry c.Xw m=true):bm ⟨c.Xw,c.XD,c.XB,c.XC,c.Xy,m⟩=true:=by
 unfold bm at h⊢;simp only [Xt] at h;obtain ⟨g1,g2,g3,g4,g5⟩:=h;simp only [g2,h1,g4,h2,Bool.and_true];simp only [Xt];exact g1
theorem FF (p:Int->Bool): ∀{l:List Vp},sD l=true->sD (i3 p l)=true
 | [],_=>rfl
 | [_],h=>by cases h
 |k::v::r,h=>by
  rw [o6] at h;rw [Xt] at h;have ih:=FF p h.2;simp only [yu];cases p k.N
  ·exact ih
  show sD (k::v::i3 p r)=true;simp only [o6];rw [h.1,ih];rfl
theorem G2 (lv:List Int): ∀{l:List Vp},nM l=true->nM (er lv l)=true
 | [],_=>rfl
 | [_],h=>by cases h
 | [_,_],h=>by cases h
 | [_,_,_],h=>by cases h
 | t::v::k::s::r,h=>by
  rw [oZ] at h;rw [Xt,Xt,Xt,Xt] at h;obtain ⟨⟨⟨h1,h2⟩,h3,h4⟩,h5⟩:=h;have ih:=G2 lv h5;simp only [wv];cases decide (t.N∈lv)
  ·exact ih
  show nM (t::v::(bif decide (k.Xw=7)&& !decide (k.N∈lv) then mO else k)::s::er lv r)=true;simp only [oZ]
  have h6:noneB (bif decide (k.Xw=7)&& !decide (k.N∈lv) then mO else k) 7=true:=by
   cases decide (k.Xw=7)&& !decide (k.N∈lv)
   ·exact h3
   rfl
  rw [h1,h2,h6,h4,ih];rfl
theorem Fi (lv:List Int){x:Vp}: ∀{l:List Vp},x∈er lv l->x∈l\/x=mO
 | [],h=>by simp [er] at h
 | [_],h=>by simp [er] at h
 | [_,_],h=>by simp [er] at h
 | [_,_,_],h=>by simp [er] at h
 | t::v::k::s::r,h=>by
  simp only [wv] at h;rcases WE.1 h with h|h
  ·cases hd:decide (t.N∈lv) with
   |false=>rw [hd] at h;cases h
   |true=>
    rw [hd] at h
    cases hk:decide (k.Xw=7)&& !decide (k.N∈lv) with
    |false=>rw [hk] at h;simp at h;rcases h with h|h|h|h<;>subst h<;>simp
    |true=>rw [hk] at h;simp at h;rcases h with h|h|h|h<;>subst h<;>simp
  rcases Fi lv h with h|h
  ·exact .inl (by simp [h])
  exact .inr h
theorem Ob:mL mO=true:=by kernel_rfl
theorem Nd (N:Nat)(lv:List Int)(h:bm c=true):bm (mI N lv c)=true:=by
 obtain ⟨h1,h2,h3⟩:=uB h;unfold mI;by_cases h8:c.Xw=8
 ·rw [sP h8,cond_true];unfold sf;cases sa N c
  ·exact h
  refine Ew h (m:=i3 (fun x=>decide (x∈lv)) c.Xx) ?_ ?_
  ·rw [VY] at h2⊢
   exact fun v hv=>h2 v (AE hv)
  rw [h8] at h3⊢;exact FF _ h3
 rw [iO h8,cond_false];by_cases h10:c.Xw=10
 ·rw [sP h10,cond_true];rw [h10] at h3;have h3':(decide (1<=c.Xx.length)&&decide ((rc c.Xx 0).Xw=7)&&nM (c.Xx.drop 1))=true:=h3;simp only [Xt,Xl] at h3';obtain ⟨⟨g1,g2⟩,g3⟩:=h3';refine Ew h (m:=c.Xx.take 1++er lv (c.Xx.drop 1)) ?_ ?_
  ·rw [VY] at h2⊢;intro v hv;rcases WE.1 hv with hv|hv
   ·exact h2 v (List.mem_of_mem_take hv)
   rcases Fi lv hv with hv|rfl
   ·exact h2 v (List.mem_of_mem_drop hv)
   exact Ob
  rw [h10];show (decide (1<=(c.Xx.take 1++er lv (c.Xx.drop 1)).length)&&decide ((rc (c.Xx.take 1++er lv (c.Xx.drop 1)) 0).Xw=7)&&nM ((c.Xx.take 1++er lv (c.Xx.drop 1)).drop 1))=true
  obtain ⟨a,r,hr⟩: ∃a r,c.Xx=a::r:=by
   cases hm:c.Xx with
   |nil=>rw [hm] at g1;simp at g1
   |cons a r=>exact ⟨a,r,rfl⟩
  rw [hr] at g2 g3⊢;have e1:(a::r).take 1++er lv ((a::r).drop 1)=a::er lv r:=rfl;rw [e1];have g3':nM r=true:=g3;have g2':a.Xw=7:=g2;simp only [Xt,Xl];exact ⟨⟨by simp,g2'⟩,G2 lv g3'⟩
 rw [iO h10,cond_false];exact h
end Go.Proofs.YthhiddkljcacaaaGreat
namespace Go.Proofs.YthhiddkljcacaaaGreat
variable (N:Nat){b:Bool}{f:Bool->Option Bool}{a x:Int}{p:Int->Bool}{met:List (Int×Unit)}{row:List Int}{l:List Vp}{i k:Nat}{α β ρ σ:Type}{c:Vd}{m:Ve}{v:Vp}
open Go.RowKit
end Go.Proofs.YthhiddkljcacaaaGreat