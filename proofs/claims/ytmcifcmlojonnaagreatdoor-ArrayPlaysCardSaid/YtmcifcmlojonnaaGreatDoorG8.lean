/- Merged texts: part 8. No conditions of their own. -/
import Derived.Test.YtmcifcmlojonnaaGreatDoorG7
import Derived.Test.YtmcifcmlojonnaaGreatDoorG2
import Derived.Test.YtmcifcmlojonnaaGreatDoorG1
import Derived.ProofKit
namespace Go.Proofs.YtmcifcmlojonnaaGreatDoor
open Go.RowKit
variable (N:Nat){held:Bool}{f:Bool->Option Bool}{a x:Int}{p:Int->Bool}{met:List (Int×Unit)}{l row:List Int}{b0 i k:Nat}{spare:Nat->Bool}{H α β ρ σ:Type}{c:W3}{m:WY}{v:WZ}{hJ:World}
theorem WM:type_of% Tryz.underlying43:=Tryz.underlying43
theorem WL:type_of% Tryz.underlying41:=Tryz.underlying41
theorem WK:type_of% Tryz.underlying39:=Tryz.underlying39
theorem WJ:type_of% Tryz.underlying28:=Tryz.underlying28
set_option maxRecDepth 20000
def zw (N:Nat)(a0:WY)(a1:Int):Option Bool:=
 bif decide (a1<1) then (some false) else (bif decide (a1.tmod 2=1) then (aI (in64 (a1 - 1)) (aI (in64 ((a1 - 1).tdiv 2)) (some (decide ((a1 - 1).tdiv 2<(a0.Zp.length:Int)))))) else (aI (in64 (a1 - 2)) (aI (in64 ((a1 - 2).tdiv 2)) (some (decide ((a1 - 2).tdiv 2<(a0.Zr.length:Int)))))))
def BO (a0:WY)(a1:Int):Option W3:=
 (zw N a0 a1).bind fun y5=>bif !y5 then (some (⟨0,0,0,0,[],[]⟩:W3)) else (bif decide (a1.tmod 2=1) then (aI (in64 (a1 - 1)) (aI (in64 ((a1 - 1).tdiv 2)) ((aq a0.Zp ((a1 - 1).tdiv 2)).bind fun a6=>some a6))) else (aI (in64 (a1 - 2)) (aI (in64 ((a1 - 2).tdiv 2)) ((aq a0.Zr ((a1 - 2).tdiv 2)).bind fun a7=>some a7))))
def lH (N:Nat)(a0:Int):Option Bool:=
 (bif decide (a0=1) then (some true) else (some (decide (a0=2)))).bind fun b1=>(bif b1 then (some true) else (some (decide (a0=3)))).bind fun b2=>(bif b2 then (some true) else (some (decide (a0=6)))).bind fun b3=>(bif b3 then (some true) else (some (decide (a0=8)))).bind fun b4=>(bif b4 then (some true) else (some (decide (a0=9)))).bind fun b5=>(bif b5 then (some true) else (some (decide (a0=10)))).bind fun b6=>some b6
def dT (N:Nat)(a0:WZ)(a1:Int):Option Bool:=
 (bif decide (a0.Zh=0) then (some true) else (some (decide (a0.Zh=a1)))).bind fun b2=>some b2
def kq (a0:W3):Option Bool:=
 (lH N a0.Zh).bind fun y4=>(bif y4 then (some true) else ((bif decide (a0.Zh=7) then (some (decide (0<(a0.Zj.length:Int)))) else (some false)).bind fun b6=>some b6)).bind fun b5=>bif b5 then ((bif decide (1<=(a0.Zj.length:Int)) then (some (decide ((a0.Zj.length:Int)<=1025))) else (some false)).bind fun b8=>(bif b8 then ((aq a0.Zj 0).bind fun a6=>(bif decide (a6.Zh=1) then (some true) else ((aq a0.Zj 0).bind fun a7=>some (decide (a7.Zh=7)))).bind fun a8=>some a8) else (some false)).bind fun b9=>some b9) else (bif decide (a0.Zh=7) then (some (decide (a0.Zq=0))) else ((bif !decide (a0.Zq=0) then (some true) else (some (!decide (a0.Zm=0)))).bind fun b0=>bif b0 then (some false) else (bif decide (a0.Zh=5) then ((bif decide ((a0.Zj.length:Int)=2) then ((aq a0.Zj 0).bind fun b7=>(dT N b7 7).bind fun c7=>some c7) else (some false)).bind fun c8=>(bif c8 then ((aq a0.Zj 1).bind fun c9=>(dT N c9 7).bind fun d0=>some d0) else (some false)).bind fun d1=>some d1) else (some (decide ((a0.Zj.length:Int)=0))))))
def ij (N:Nat)(a0:WZ)(a1 a2:Int):Option Bool:=
 (bif decide (a0.Zh=3) then (some (decide (a1<=a0.N))) else (some false)).bind fun b2=>(bif b2 then (some (decide (a0.N<=a2))) else (some false)).bind fun b3=>some b3
def Fv (N:Nat):Option Bool:=
 some true
def gT (N:Nat)(a1:Int)(a0:W8):Nat->Int->Option Bool
 |0,_=>none
 |m5+1,p6=>bif decide (p6<(a0.length:Int)) then ((aq a0 p6).bind fun x8=>(bif !decide (x8.Zh=7) then (some true) else (aI (in64 (p6+1)) ((aq a0 (p6+1)).bind fun a6=>some (decide (a6.Zh=8))))).bind fun b9=>bif b9 then (some false) else ((bif decide (a1=4) then (aI (in64 (p6+2)) ((aq a0 (p6+2)).bind fun a7=>(dT N a7 7).bind fun a8=>(bif !a8 then (some true) else (aI (in64 (p6+3)) ((aq a0 (p6+3)).bind fun b0=>(ij N b0 0 9007199254740992).bind fun b5=>some (!b5)))).bind fun b6=>some b6)) else (some false)).bind fun b7=>bif b7 then (some false) else (aI (in64 (p6+a1)) ((gT N a1 a0 m5) (p6+a1))))) else (Fv N)
def dg (a0:W8)(a1:Int):Option Bool:=
 aI (a1≠0) (bif !decide ((a0.length:Int).tmod a1=0) then (some false) else (gT N a1 a0 N 0))
def lG (a0:W3)(p7:Bool):Option Bool:=
 bif p7 then (some (decide ((a0.Zi.length:Int)=0))) else (bif decide (a0.Zh=3) then ((bif decide ((a0.Zi.length:Int)=3) then ((aq a0.Zi 0).bind fun a6=>(ij N a6 0 9007199254740992).bind fun a7=>some a7) else (some false)).bind fun a8=>(bif a8 then ((aq a0.Zi 1).bind fun b0=>(dT N b0 9).bind fun b5=>some b5) else (some false)).bind fun b6=>some b6) else (bif decide (a0.Zh=4) then ((bif decide (1<=(a0.Zi.length:Int)) then (some (decide ((a0.Zi.length:Int)<=4097))) else (some false)).bind fun b7=>(bif b7 then ((aq a0.Zi 0).bind fun b9=>(dT N b9 9).bind fun c7=>some c7) else (some false)).bind fun c8=>some c8) else (bif decide (a0.Zh=6) then ((bif decide ((a0.Zi.length:Int)=2) then ((aq a0.Zi 0).bind fun c9=>(ij N c9 0 3).bind fun d0=>some d0) else (some false)).bind fun d1=>(bif d1 then ((aq a0.Zi 1).bind fun d2=>(dT N d2 9).bind fun d3=>some d3) else (some false)).bind fun d4=>some d4) else (bif decide (a0.Zh=7) then ((bif decide (4<=(a0.Zi.length:Int)) then ((aq a0.Zi 2).bind fun d6=>(ij N d6 0 1).bind fun e0=>some e0) else (some false)).bind fun e1=>(bif e1 then ((aq a0.Zi 3).bind fun e2=>(ij N e2 0 9007199254740992).bind fun e3=>some e3) else (some false)).bind fun e4=>some e4) else (bif decide (a0.Zh=8) then ((dg N a0.Zi 2).bind fun e5=>some e5) else (bif decide (a0.Zh=10) then ((bif decide (1<=(a0.Zi.length:Int)) then ((aq a0.Zi 0).bind fun e6=>some (decide (e6.Zh=7))) else (some false)).bind fun e7=>(bif e7 then (aI ((0:Int)<=1/\(1:Int).toNat<=a0.Zi.length/\a0.Zi.length<=a0.Zi.length) ((dg N ((a0.Zi.drop ((1:Int).toNat)).take (a0.Zi.length - (1:Int).toNat)) 4).bind fun e8=>some e8)) else (some false)).bind fun e9=>some e9) else (bif decide (a0.Zh=9) then ((bif decide (2<=(a0.Zi.length:Int)) then ((aq a0.Zi 0).bind fun f0=>(ij N f0 0 2).bind fun f1=>some f1) else (some false)).bind fun f2=>some f2) else (some true))))))))
def mb (a0:W3):Option Bool:=
 bif decide (1048576<(a0.Zi.length:Int)) then (some false) else (bif decide (a0.Zh=2) then (some (decide ((a0.Zi.length:Int)<=4096))) else (bif decide (a0.Zh=1) then (lG N a0 (decide (a0.Zh=1))) else (lG N a0 (decide (a0.Zh=5)))))
def dh (a0:W3):Option Bool:=
 (kq N a0).bind fun a6=>(bif a6 then ((mb N a0).bind fun a7=>some a7) else (some false)).bind fun a8=>some a8
def oO (N:Nat)(a0:W3):Nat->Int->Option Bool
 |0,_=>none
 |a6+1,p21=>bif decide (p21<(a0.Zi.length:Int)) then ((aq a0.Zi p21).bind fun a7=>(dN N a7).bind fun a8=>bif !a8 then (some false) else (aI (in64 (p21+1)) ((oO N a0 a6) (p21+1)))) else (dh N a0)
def Ao (a0:W3):Option Bool:=
 oO N a0 N 0
def iY (N:Nat)(a0:W3):Nat->Int->Option Bool
 |0,_=>none
 |a6+1,p13=>bif decide (p13<(a0.Zj.length:Int)) then ((aq a0.Zj p13).bind fun a7=>(dN N a7).bind fun a8=>bif !a8 then (some false) else (aI (in64 (p13+1)) ((iY N a0 a6) (p13+1)))) else (Ao N a0)
def fL (a0:W3):Option Bool:=
 (bif decide (a0.Zh<1) then (some true) else (some (decide (11<a0.Zh)))).bind fun b4=>(bif b4 then (some true) else (some (decide (a0.Zq<0)))).bind fun b5=>(bif b5 then (some true) else (some (decide (a0.Zm<0)))).bind fun b6=>(bif b6 then (some true) else (some (decide (63<a0.Zm)))).bind fun b7=>(bif b7 then (some true) else (some (decide (a0.Zn<0)))).bind fun b8=>(bif b8 then (some true) else (some (decide (1<a0.Zn)))).bind fun b9=>bif b9 then (some false) else (iY N a0 N 0)
def zx (N:Nat)(a0:WZ):Option Bool:=
 (bif decide (a0.Zh=7) then (some true) else (some (decide (a0.Zh=9)))).bind fun b2=>some b2
def AN (N:Nat)(a0 a1:Int):Option Bool:=
 (bif decide (a0=8) then (some true) else ((bif decide (a0=10) then (some (decide (0<a1))) else (some false)).bind fun b2=>(bif b2 then (aI (in64 (a1 - 1)) (some (decide (((a1 - 1).tmod 4).tmod 2=0)))) else (some false)).bind fun b3=>some b3)).bind fun b1=>some b1
def GO (N:Nat)(a6:Xf):Option Xf:=
 some a6
def rP (N:Nat)(a6:Xf->Int->Option Xf)(a7:Int)(a0:W3)(a8:Xf):Option Xf:=
 aI (in64 (a7+1)) (a6 a8 (a7+1))
def mF (N:Nat)(a0:W3):Nat->Xf->Int->Option Xf
 |0,_,_=>none
 |a8+1,a7,a6=>bif decide (a6<(a0.Zi.length:Int)) then ((aq a0.Zi a6).bind fun b5=>(zx N b5).bind fun b6=>(bif b6 then ((AN N a0.Zh a6).bind fun b7=>some (!b7)) else (some false)).bind fun b9=>bif b9 then ((aq a0.Zi a6).bind fun b0=>aI (bm (a7.length+([b0.N]:List Int).length)) (rP N (mF N a0 a8) a6 a0 (a7++([b0.N]:List Int)))) else (rP N (mF N a0 a8) a6 a0 a7)) else (GO N a7)
def BR (a0:W3)(p5:Xf):Option Xf:=
 mF N a0 N p5 0
def rQ (N:Nat)(a6:Xf->Int->Option Xf)(p8:Int)(a0:W3)(a7:Xf):Option Xf:=
 aI (in64 (p8+1)) (a6 a7 (p8+1))
def nR (N:Nat)(a0:W3):Nat->Xf->Int->Option Xf
 |0,_,_=>none
 |m6+1,p7,p8=>bif decide (p8<(a0.Zj.length:Int)) then ((aq a0.Zj p8).bind fun a7=>(zx N a7).bind fun a8=>bif a8 then ((aq a0.Zj p8).bind fun a6=>aI (bm (p7.length+([a6.N]:List Int).length)) (rQ N (nR N a0 m6) p8 a0 (p7++([a6.N]:List Int)))) else (rQ N (nR N a0 m6) p8 a0 p7)) else (BR N a0 p7)
def vb (a0:W3):Option Xf:=
 nR N a0 N [] 0
def C9 (N:Nat)(p4:Xf):Option Xf:=
 some p4
def rp (N:Nat)(a6:Xf->Int->Option Xf)(p7:Int)(a0:W8)(a7:Xf):Option Xf:=
 aI (in64 (p7+1)) (a6 a7 (p7+1))
def jf (N:Nat)(a0:W8):Nat->Xf->Int->Option Xf
 |0,_,_=>none
 |m5+1,p6,p7=>bif decide (p7<(a0.length:Int)) then ((aq a0 p7).bind fun a7=>(bif decide (a7.Zh=7) then (some true) else ((aq a0 p7).bind fun a8=>some (decide (a8.Zh=9)))).bind fun b12=>bif b12 then ((aq a0 p7).bind fun a6=>aI (bm (p6.length+([a6.N]:List Int).length)) (rp N (jf N a0 m5) p7 a0 (p6++([a6.N]:List Int)))) else (rp N (jf N a0 m5) p7 a0 p6)) else (C9 N p6)
def o8 (a0:W8):Option Xf:=
 jf N a0 N ([]:List Int) 0
def NB (N:Nat):Option Bool:=
 some false
def Da (N:Nat)(a1:Int)(a0:Xf):Nat->Int->Option Bool
 |0,_=>none
 |m3+1,p4=>bif decide (p4<(a0.length:Int)) then ((aq a0 p4).bind fun x6=>bif decide (x6=a1) then (some true) else (aI (in64 (p4+1)) ((Da N a1 a0 m3) (p4+1)))) else (NB N)
def Fs (a0:Xf)(a1:Int):Option Bool:=
 Da N a1 a0 N 0
def KQ (N:Nat)(p7:Xf):Option Xf:=
 some p7
def yz (N:Nat)(a7:Xf->Int->Option Xf)(a6:Int)(a2:Xf)(a0:WY)(p13:Xf):Option Xf:=
 aI (in64 (a6+1)) (a7 p13 (a6+1))
def rn (N:Nat)(a2:Xf)(a0:WY):Nat->Xf->Int->Option Xf
 |0,_,_=>none
 |m8+1,p9,a6=>bif decide (a6<(a2.length:Int)) then ((aq a2 a6).bind fun a8=>(zw N a0 a8).bind fun b0=>(bif b0 then ((aq a2 a6).bind fun b5=>(Fs N p9 b5).bind fun b6=>some (!b6)) else (some false)).bind fun b16=>bif b16 then ((aq a2 a6).bind fun a7=>aI (bm (p9.length+([a7]:List Int).length)) (yz N (rn N a2 a0 m8) a6 a2 a0 (p9++([a7]:List Int)))) else (yz N (rn N a2 a0 m8) a6 a2 a0 p9)) else (KQ N p9)
def tL (a0:WY)(a1 a2:Xf):Option Xf:=
 rn N a2 a0 N a1 0
def Fo (N:Nat)(p6:Xf):Option Xf:=
 some p6
def qp (N:Nat)(a0:WY):Nat->Xf->Int->Option Xf
 |0,_,_=>none
 |m7+1,p8,p9=>bif decide (p9<(p8.length:Int)) then ((aq p8 p9).bind fun a6=>(BO N a0 a6).bind fun a7=>(vb N a7).bind fun a8=>(tL N a0 p8 a8).bind fun b0=>aI (in64 (p9+1)) ((qp N a0 m7) b0 (p9+1))) else (Fo N p8)
def mE (a0:WY)(a1:Xf)(a2:Int):Option Xf:=
 qp N a0 N a1 a2
def Al (N:Nat)(p6:Xf):Option Xf:=
 some p6
def ur (N:Nat)(a6:Xf->Int->Option Xf)(p9:Int)(a7:Xf):Option Xf:=
 aI (in64 (p9+1)) (a6 a7 (p9+1))
def qq (N:Nat)(a7:Xf->Int->Option Xf)(p9:Int):Nat->Xf->Int->Option Xf
 |0,_,_=>none
 |b0+1,a6,p15=>(bif decide (0<p15) then (aI (in64 (p15 - 1)) ((aq a6 (p15 - 1)).bind fun b5=>(aq a6 p15).bind fun b6=>some (decide (b6<b5)))) else (some false)).bind fun b16=>bif b16 then ((aq a6 p15).bind fun b7=>aI (in64 (p15 - 1)) ((aq a6 (p15 - 1)).bind fun a8=>(aq a6 p15).bind fun b9=>aI (in64 (p15 - 1)) ((aq (List.set a6 p15.toNat a8) (p15 - 1)).bind fun c7=>aI (in64 (p15 - 1)) ((qq N a7 p9 b0) (List.set (List.set a6 p15.toNat a8) ((p15 - 1).toNat) b7) (p15 - 1))))) else (ur N a7 p9 a6)
def iX (N:Nat):Nat->Xf->Int->Option Xf
 |0,_,_=>none
 |m7+1,p8,p9=>bif decide (p9<(p8.length:Int)) then (qq N (iX N m7) p9 N p8 p9) else (Al N p8)
def wS (a0:Xf):Option Xf:=
 aI (bm (([]:List Int).length+a0.length)) (iX N N (([]:List Int)++a0) 1)
def Ft (a0:W3):Option Bool:=
 (bif decide (a0.Zh=8) then ((fL N a0).bind fun y5=>some y5) else (some false)).bind fun b4=>some b4
def NC (N:Nat):Option Bool:=
 some false
def Db (N:Nat)(a0:Int)(a1:Xf):Nat->Int->Option Bool
 |0,_=>none
 |m3+1,p4=>bif decide (p4<(a1.length:Int)) then ((aq a1 p4).bind fun x6=>bif decide (x6=a0) then (some true) else (aI (in64 (p4+1)) ((Db N a0 a1 m3) (p4+1)))) else (NC N)
def Fu (a0:Int)(a1:Xf):Option Bool:=
 Db N a0 a1 N 0
def BP (N:Nat)(p6:Xf):Option Xf:=
 some p6
def vH (N:Nat)(a6:Xf->Int->Option Xf)(p9:Int)(a1:Xf)(a0:W3)(p15:Xf):Option Xf:=
 aI (in64 (p9+2)) (a6 p15 (p9+2))
def tl (N:Nat)(a1:Xf)(a0:W3):Nat->Xf->Int->Option Xf
 |0,_,_=>none
 |m7+1,p8,p9=>(Ft N a0).bind fun a7=>(bif a7 then (some (decide (p9<(a0.Zi.length:Int)))) else (some false)).bind fun b12=>bif b12 then (aI (in64 (p9+1)) ((aq a0.Zi (p9+1)).bind fun a6=>(aq a0.Zi p9).bind fun a8=>(Fu N a8.N a1).bind fun b0=>(bif b0 then ((bif decide (a6.Zh=7) then (some true) else (some (decide (a6.Zh=9)))).bind fun b5=>some b5) else (some false)).bind fun b6=>bif b6 then (aI (bm (p8.length+([a6.N]:List Int).length)) (vH N (tl N a1 a0 m7) p9 a1 a0 (p8++([a6.N]:List Int)))) else (vH N (tl N a1 a0 m7) p9 a1 a0 p8))) else (BP N p8)
def yA (a0:W3)(a1:Xf):Option Xf:=
 tl N a1 a0 N [] 0
def An (a6:Xf->Option Xf)(p13:Xf)(a0:WY)(p15:Xf):Option Xf:=
 bif decide ((p15.length:Int)=(p13.length:Int)) then (some p15) else ((mE N a0 p15 (p13.length:Int)).bind fun a7=>a6 a7)
def oN (N:Nat)(a6:Xf->Option Xf)(p13:Xf)(a0:WY):Nat->Xf->Int->Option Xf
 |0,_,_=>none
 |b0+1,a7,a8=>bif decide (a8<(p13.length:Int)) then ((aq a7 a8).bind fun b5=>(BO N a0 b5).bind fun b6=>(yA N b6 a7).bind fun b7=>(tL N a0 a7 b7).bind fun b9=>aI (in64 (a8+1)) ((oN N a6 p13 a0 b0) b9 (a8+1))) else (An N a6 p13 a0 a7)
def kG (N:Nat)(a0:WY):Nat->Xf->Option Xf
 |0,_=>none
 |a6+1,p13=>oN N (kG N a0 a6) p13 a0 N p13 0
def uZ (a0:WY)(a1:W8):Option Xf:=
 (o8 N a1).bind fun y5=>(tL N a0 ([]:List Int) y5).bind fun y8=>(mE N a0 y8 0).bind fun a6=>kG N a0 N a6
def Fq (a0:WY)(a1:W8):Option Xf:=
 (uZ N a0 a1).bind fun y5=>(wS N y5).bind fun y7=>some y7
def FW (kv:List (Int×β)):List Int:=(kv.map (·.1)).mergeSort (fun x y=>decide (x<=y))
open Go.RowKit Go.ChangeShapes Go.WideShapes Go.Deep
def rd (x:WZ):Prop:=(in64 x.Zh)/\(in64 x.N)/\(x.S.size<=reachBytes)
set_option maxRecDepth 100000 in
theorem sg:Kp Xk 28 ay rd:=fun {_ enc w base spare held _ cs y} h hw=>by
 obtain ⟨xs,m, -,hy,hl,hx,hf⟩:=DataW.trod_struct WJ h
 have hc:Tryz.prog.cellsOf 28=3:=by kernel_rfl
 rw [hc] at hl
 match cs,hl,hf with
 | [c0,c1,c2],_,hf=>
  have k0:DataW.trod enc Xk w base spare held m 3 (List.take (Tryz.prog.cellsOf 3) (List.drop 0 [c0,c1,c2]))=xs[0]? :=hf 0 _ rfl
  have z0:Tryz.prog.cellsOf 3=1:=by kernel_rfl
  simp only [z0,XI,XJ,YD,YE] at k0
  have l0:0<xs.length:=by rw [hx];decide
  obtain ⟨a0,r0,w0⟩:=(Rdr.w (uT WB)) (k0.trans (XX l0)) (fD WJ hy hw (i:=0) rfl (XX l0));have k1:DataW.trod enc Xk w base spare held m 3 (List.take (Tryz.prog.cellsOf 3) (List.drop 1 [c0,c1,c2]))=xs[1]? :=hf 1 _ rfl
  have z1:Tryz.prog.cellsOf 3=1:=by kernel_rfl
  simp only [z1,XI,XJ,YD,YE] at k1
  have l1:1<xs.length:=by rw [hx];decide
  obtain ⟨a1,r1,w1⟩:=(Rdr.w (uT WB)) (k1.trans (XX l1)) (fD WJ hy hw (i:=1) rfl (XX l1));have k2:DataW.trod enc Xk w base spare held m 9 (List.take (Tryz.prog.cellsOf 9) (List.drop 2 [c0,c1,c2]))=xs[2]? :=hf 2 _ rfl
  have z2:Tryz.prog.cellsOf 9=1:=by kernel_rfl
  simp only [z2,XI,XJ,YD,YE] at k2
  have l2:2<xs.length:=by rw [hx];decide
  obtain ⟨a2,r2,w2⟩:=(Jt Wz) (k2.trans (XX l2)) (fD WJ hy hw (i:=2) rfl (XX l2));obtain ⟨rfl, -⟩:=XC (show [c0]=[_] from r0);obtain ⟨rfl, -⟩:=XC (show [c1]=[_] from r1);obtain ⟨rfl, -⟩:=XC (show [c2]=[_] from r2);exact ⟨⟨a0,a1,a2⟩,J,⟨w0,w1,w2⟩⟩
def LO (x:WX):Prop:=(in64 x.Zh)/\(in64 x.N)/\(x.S.size<=reachBytes)
set_option maxRecDepth 100000 in
theorem Ny:Kp Xk 39 gQ LO:=fun {_ enc w base spare held _ cs y} h hw=>by
 obtain ⟨xs,m, -,hy,hl,hx,hf⟩:=DataW.trod_struct WK h
 have hc:Tryz.prog.cellsOf 39=3:=by kernel_rfl
 rw [hc] at hl
 match cs,hl,hf with
 | [c0,c1,c2],_,hf=>
  have k0:DataW.trod enc Xk w base spare held m 3 (List.take (Tryz.prog.cellsOf 3) (List.drop 0 [c0,c1,c2]))=xs[0]? :=hf 0 _ rfl
  have z0:Tryz.prog.cellsOf 3=1:=by kernel_rfl
  simp only [z0,XI,XJ,YD,YE] at k0
  have l0:0<xs.length:=by rw [hx];decide
  obtain ⟨a0,r0,w0⟩:=(Rdr.w (uT WB)) (k0.trans (XX l0)) (fD WK hy hw (i:=0) rfl (XX l0));have k1:DataW.trod enc Xk w base spare held m 3 (List.take (Tryz.prog.cellsOf 3) (List.drop 1 [c0,c1,c2]))=xs[1]? :=hf 1 _ rfl
  have z1:Tryz.prog.cellsOf 3=1:=by kernel_rfl
  simp only [z1,XI,XJ,YD,YE] at k1
  have l1:1<xs.length:=by rw [hx];decide
  obtain ⟨a1,r1,w1⟩:=(Rdr.w (uT WB)) (k1.trans (XX l1)) (fD WK hy hw (i:=1) rfl (XX l1));have k2:DataW.trod enc Xk w base spare held m 9 (List.take (Tryz.prog.cellsOf 9) (List.drop 2 [c0,c1,c2]))=xs[2]? :=hf 2 _ rfl
  have z2:Tryz.prog.cellsOf 9=1:=by kernel_rfl
  simp only [z2,XI,XJ,YD,YE] at k2
  have l2:2<xs.length:=by rw [hx];decide
  obtain ⟨a2,r2,w2⟩:=(Jt Wz) (k2.trans (XX l2)) (fD WK hy hw (i:=2) rfl (XX l2));obtain ⟨rfl, -⟩:=XC (show [c0]=[_] from r0);obtain ⟨rfl, -⟩:=XC (show [c1]=[_] from r1);obtain ⟨rfl, -⟩:=XC (show [c2]=[_] from r2);exact ⟨⟨a0,a1,a2⟩,J,⟨w0,w1,w2⟩⟩
def Jc (x:WW):Prop:=(in64 x.Has)/\(in64 x.Zk)/\(rd x.Value)/\(rd x.Zx)/\(rd x.Zy)
set_option maxRecDepth 100000 in
theorem KM:Kp Xk 41 OW Jc:=fun {_ enc w base spare held _ cs y} h hw=>by
 obtain ⟨xs,m, -,hy,hl,hx,hf⟩:=DataW.trod_struct WL h
 have hc:Tryz.prog.cellsOf 41=11:=by kernel_rfl
 rw [hc] at hl
 match cs,hl,hf with
 | [c0,c1,c2,c3,c4,c5,c6,c7,c8,c9,a6],_,hf=>
  have k0:DataW.trod enc Xk w base spare held m 3 (List.take (Tryz.prog.cellsOf 3) (List.drop 0 [c0,c1,c2,c3,c4,c5,c6,c7,c8,c9,a6]))=xs[0]? :=hf 0 _ rfl
  have z0:Tryz.prog.cellsOf 3=1:=by kernel_rfl
  simp only [z0,XI,XJ,YD,YE] at k0
  have l0:0<xs.length:=by rw [hx];decide
  obtain ⟨a0,r0,w0⟩:=(Rdr.w (uT WB)) (k0.trans (XX l0)) (fD WL hy hw (i:=0) rfl (XX l0));have k1:DataW.trod enc Xk w base spare held m 3 (List.take (Tryz.prog.cellsOf 3) (List.drop 1 [c0,c1,c2,c3,c4,c5,c6,c7,c8,c9,a6]))=xs[1]? :=hf 1 _ rfl
  have z1:Tryz.prog.cellsOf 3=1:=by kernel_rfl
  simp only [z1,XI,XJ,YD,YE] at k1
  have l1:1<xs.length:=by rw [hx];decide
  obtain ⟨a1,r1,w1⟩:=(Rdr.w (uT WB)) (k1.trans (XX l1)) (fD WL hy hw (i:=1) rfl (XX l1));have k2:DataW.trod enc Xk w base spare held m 28 (List.take (Tryz.prog.cellsOf 28) (List.drop 2 [c0,c1,c2,c3,c4,c5,c6,c7,c8,c9,a6]))=xs[2]? :=hf 2 _ rfl
  have z2:Tryz.prog.cellsOf 28=3:=by kernel_rfl
  simp only [z2,XI,XJ,YD,YE] at k2
  have l2:2<xs.length:=by rw [hx];decide
  obtain ⟨a2,r2,w2⟩:=sg (k2.trans (XX l2)) (fD WL hy hw (i:=2) rfl (XX l2));have k3:DataW.trod enc Xk w base spare held m 28 (List.take (Tryz.prog.cellsOf 28) (List.drop 5 [c0,c1,c2,c3,c4,c5,c6,c7,c8,c9,a6]))=xs[3]? :=hf 3 _ rfl
  have z3:Tryz.prog.cellsOf 28=3:=by kernel_rfl
  simp only [z3,XI,XJ,YD,YE] at k3
  have l3:3<xs.length:=by rw [hx];decide
  obtain ⟨a3,r3,w3⟩:=sg (k3.trans (XX l3)) (fD WL hy hw (i:=3) rfl (XX l3));have k4:DataW.trod enc Xk w base spare held m 28 (List.take (Tryz.prog.cellsOf 28) (List.drop 8 [c0,c1,c2,c3,c4,c5,c6,c7,c8,c9,a6]))=xs[4]? :=hf 4 _ rfl
  have z4:Tryz.prog.cellsOf 28=3:=by kernel_rfl
  simp only [z4,XI,XJ,YD,YE] at k4
  have l4:4<xs.length:=by rw [hx];decide
  obtain ⟨a4,r4,w4⟩:=sg (k4.trans (XX l4)) (fD WL hy hw (i:=4) rfl (XX l4));obtain ⟨rfl, -⟩:=XC (show [c0]=[_] from r0);obtain ⟨rfl, -⟩:=XC (show [c1]=[_] from r1);have e2:[c2,c3,c4]=[.int .i64 a2.Zh,.int .i64 a2.N,.string a2.S]:=r2;simp only [XD,and_true] at e2;obtain ⟨rfl,rfl,rfl⟩:=e2;have e3:[c5,c6,c7]=[.int .i64 a3.Zh,.int .i64 a3.N,.string a3.S]:=r3;simp only [XD,and_true] at e3;obtain ⟨rfl,rfl,rfl⟩:=e3;have e4:[c8,c9,a6]=[.int .i64 a4.Zh,.int .i64 a4.N,.string a4.S]:=r4;simp only [XD,and_true] at e4;obtain ⟨rfl,rfl,rfl⟩:=e4;exact ⟨⟨a0,a1,a2,a3,a4⟩,J,⟨w0,w1,w2,w3,w4⟩⟩
def Ic (x:WQ):Prop:=(in64 x.Zh)/\(in64 x.N)/\(LO x.K)/\(Jc x.D)/\(rd x.V)
set_option maxRecDepth 100000 in
theorem Nz:Kp Xk 43 vX Ic:=fun {_ enc w base spare held _ cs y} h hw=>by
 obtain ⟨xs,m, -,hy,hl,hx,hf⟩:=DataW.trod_struct WM h
 have hc:Tryz.prog.cellsOf 43=19:=by kernel_rfl
 rw [hc] at hl
 match cs,hl,hf with
 | [c0,c1,c2,c3,c4,c5,c6,c7,c8,c9,a6,a7,a8,b0,b5,b6,b7,b9,d0],_,hf=>
  have k0:DataW.trod enc Xk w base spare held m 3 (List.take (Tryz.prog.cellsOf 3) (List.drop 0 [c0,c1,c2,c3,c4,c5,c6,c7,c8,c9,a6,a7,a8,b0,b5,b6,b7,b9,d0]))=xs[0]? :=hf 0 _ rfl
  have z0:Tryz.prog.cellsOf 3=1:=by kernel_rfl
  simp only [z0,XI,XJ,YD,YE] at k0
  have l0:0<xs.length:=by rw [hx];decide
  obtain ⟨a0,r0,w0⟩:=(Rdr.w (uT WB)) (k0.trans (XX l0)) (fD WM hy hw (i:=0) rfl (XX l0));have k1:DataW.trod enc Xk w base spare held m 3 (List.take (Tryz.prog.cellsOf 3) (List.drop 1 [c0,c1,c2,c3,c4,c5,c6,c7,c8,c9,a6,a7,a8,b0,b5,b6,b7,b9,d0]))=xs[1]? :=hf 1 _ rfl
  have z1:Tryz.prog.cellsOf 3=1:=by kernel_rfl
  simp only [z1,XI,XJ,YD,YE] at k1
  have l1:1<xs.length:=by rw [hx];decide
  obtain ⟨a1,r1,w1⟩:=(Rdr.w (uT WB)) (k1.trans (XX l1)) (fD WM hy hw (i:=1) rfl (XX l1));have k2:DataW.trod enc Xk w base spare held m 39 (List.take (Tryz.prog.cellsOf 39) (List.drop 2 [c0,c1,c2,c3,c4,c5,c6,c7,c8,c9,a6,a7,a8,b0,b5,b6,b7,b9,d0]))=xs[2]? :=hf 2 _ rfl
  have z2:Tryz.prog.cellsOf 39=3:=by kernel_rfl
  simp only [z2,XI,XJ,YD,YE] at k2
  have l2:2<xs.length:=by rw [hx];decide
  obtain ⟨a2,r2,w2⟩:=Ny (k2.trans (XX l2)) (fD WM hy hw (i:=2) rfl (XX l2));have k3:DataW.trod enc Xk w base spare held m 41 (List.take (Tryz.prog.cellsOf 41) (List.drop 5 [c0,c1,c2,c3,c4,c5,c6,c7,c8,c9,a6,a7,a8,b0,b5,b6,b7,b9,d0]))=xs[3]? :=hf 3 _ rfl
  have z3:Tryz.prog.cellsOf 41=11:=by kernel_rfl
  simp only [z3,XI,XJ,YD,YE] at k3
  have l3:3<xs.length:=by rw [hx];decide
  obtain ⟨a3,r3,w3⟩:=KM (k3.trans (XX l3)) (fD WM hy hw (i:=3) rfl (XX l3));have k4:DataW.trod enc Xk w base spare held m 28 (List.take (Tryz.prog.cellsOf 28) (List.drop 16 [c0,c1,c2,c3,c4,c5,c6,c7,c8,c9,a6,a7,a8,b0,b5,b6,b7,b9,d0]))=xs[4]? :=hf 4 _ rfl
  have z4:Tryz.prog.cellsOf 28=3:=by kernel_rfl
  simp only [z4,XI,XJ,YD,YE] at k4
  have l4:4<xs.length:=by rw [hx];decide
  obtain ⟨a4,r4,w4⟩:=sg (k4.trans (XX l4)) (fD WM hy hw (i:=4) rfl (XX l4));obtain ⟨rfl, -⟩:=XC (show [c0]=[_] from r0);obtain ⟨rfl, -⟩:=XC (show [c1]=[_] from r1);have e2:[c2,c3,c4]=[.int .i64 a2.Zh,.int .i64 a2.N,.string a2.S]:=r2;simp only [XD,and_true] at e2;obtain ⟨rfl,rfl,rfl⟩:=e2;have e3:[c5,c6,c7,c8,c9,a6,a7,a8,b0,b5,b6]=[.int .i64 a3.Has,.int .i64 a3.Zk,.int .i64 a3.Value.Zh,.int .i64 a3.Value.N,.string a3.Value.S,.int .i64 a3.Zx.Zh,.int .i64 a3.Zx.N,.string a3.Zx.S,.int .i64 a3.Zy.Zh,.int .i64 a3.Zy.N,.string a3.Zy.S]:=r3;simp only [XD,and_true] at e3;obtain ⟨rfl,rfl,rfl,rfl,rfl,rfl,rfl,rfl,rfl,rfl,rfl⟩:=e3;have e4:[b7,b9,d0]=[.int .i64 a4.Zh,.int .i64 a4.N,.string a4.S]:=r4;simp only [XD,and_true] at e4;obtain ⟨rfl,rfl,rfl⟩:=e4;exact ⟨⟨a0,a1,a2,a3,a4⟩,J,⟨w0,w1,w2,w3,w4⟩⟩
set_option maxRecDepth 100000 in
theorem TN {enc:TypeId×Value->H}{r:Reach}{base:Nat}{v:Value}{d:DataW H}{p:List MemPlace}(hv:Value.okWide Xk hJ r b0 22 v)(h:DataW.Trod enc Xk hJ base spare held 22 v d p)(hz:Light Xk 22 d): ∃(m:W8) (Aq_0:Option Addr) (nq_0 cq_0:Nat),v=W Aq_0 nq_0 cq_0/\(UU (fun z22=>rd z22) m)/\(iy ay (W Aq_0 nq_0 cq_0) m).ok (fun _=>False) (fun q=>q<hJ.heap.size) hJ:=by
 obtain ⟨A,n,c,rfl⟩:=okWide_slice t9 hv;obtain ⟨fuel,hf⟩:=h;obtain ⟨m,⟨u,e,h1⟩,hw⟩:=(Ma t9 O (by decide) (Y8 O) sg) hf hz;obtain ⟨rfl, -⟩:=XC (show [_]=[_] from e);exact ⟨m,A,n,c,J,hw,h1⟩
set_option maxRecDepth 100000 in
theorem TM {enc:TypeId×Value->H}{r:Reach}{base:Nat}{v:Value}{d:DataW H}{p:List MemPlace}(hv:Value.okWide Xk hJ r b0 23 v)(h:DataW.Trod enc Xk hJ base spare held 23 v d p)(hz:Light Xk 23 d): ∃(m:List WQ) (Aq_0:Option Addr) (nq_0 cq_0:Nat),v=W Aq_0 nq_0 cq_0/\(UU (fun z23=>Ic z23) m)/\(iy vX (W Aq_0 nq_0 cq_0) m).ok (fun _=>False) (fun q=>q<hJ.heap.size) hJ:=by
 obtain ⟨A,n,c,rfl⟩:=okWide_slice z5 hv;obtain ⟨fuel,hf⟩:=h;obtain ⟨m,⟨u,e,h1⟩,hw⟩:=(Ma z5 O (by decide) (Y8 O) Nz) hf hz;obtain ⟨rfl, -⟩:=XC (show [_]=[_] from e);exact ⟨m,A,n,c,J,hw,h1⟩
def Sat (m:Option ρ)(R:ρ->Prop):Prop:= ∃r,m=some r/\R r
theorem ad {x:ρ}{R:ρ->Prop}(h:R x):Sat (some x) R:=⟨x,rfl,h⟩
theorem Sat.eq {m:Option ρ}{x:ρ}(h:Sat m (· =x)):m=some x:=by obtain ⟨r,h1,rfl⟩:=h;exact h1
theorem Sat.mono {m:Option ρ}{R Q:ρ->Prop}(h:Sat m R)(k:∀x,R x->Q x):Sat m Q:=by obtain ⟨r,h1,h2⟩:=h;exact ⟨r,h1,k _ h2⟩
theorem Sat.bind {m:Option σ}{f:σ->Option ρ}{P:σ->Prop}{R:ρ->Prop}(h:Sat m P)(k:∀x,P x->Sat (f x) R):Sat (m.bind f) R:=by obtain ⟨x,rfl,h2⟩:=h;exact k x h2
theorem dB {b:Bool}{x y:Option ρ}{R:ρ->Prop}(h1:b=true->Sat x R)(h2:b=false->Sat y R):Sat (bif b then x else y) R:=by cases b with|true=>exact h1 rfl|false=>exact h2 rfl
theorem aC {p:Prop}[Decidable p]{x y:Option ρ}{R:ρ->Prop}(h1:p->Sat x R)(h2:¬p->Sat y R):Sat (bif decide p then x else y) R:=by
 by_cases h:p
 ·rw [W9 h];exact h1 h
 rw [Xa h];exact h2 h
theorem Eu {b:Bool}{x y:Option ρ}{R:ρ->Prop}(h1:b=false->Sat x R)(h2:b=true->Sat y R):Sat (bif !b then x else y) R:=by cases b with|true=>exact h2 rfl|false=>exact h1 rfl
theorem av {b:Prop}[Decidable b]{m:Option ρ}{R:ρ->Prop}(h:b)(k:Sat m R):Sat (aI b m) R:=by unfold aI;rw [if_pos h];exact k
theorem qe {xs:List α}{i:Int}{f:α->Option ρ}{R:ρ->Prop}(h0:0<=i)(h1:i<xs.length)(k:∀x,xs[i.toNat]? =some x->Sat (f x) R):Sat ((aq xs i).bind f) R:=by
 unfold aq;rw [if_neg I,XX I];exact k _ (XX I)
theorem bs {x:σ}{f:σ->Option ρ}:(some x).bind f=f x:=Eq.trans rfl rfl
theorem ct {x y:ρ}:(bif true then x else y)=x:=Eq.trans rfl rfl
theorem cf {x y:ρ}:(bif false then x else y)=y:=Eq.trans rfl rfl
theorem nt:(!true)=false:=Eq.trans rfl rfl
theorem nf:(!false)=true:=Eq.trans rfl rfl
theorem fJ {b:Int}(h:a<b):decide (a<b)=true:=W9 h
theorem fz {b:Int}(h:b<=a):decide (a<b)=false:=Xa I
theorem Rj {b:Int}(h:a<=b):decide (a<=b)=true:=W9 h
theorem Rk {b:Int}(h:b<a):decide (a<=b)=false:=Xa I
theorem tv {b:Int}(h:a=b):decide (a=b)=true:=W9 h
theorem jk {b:Int}(h:a≠b):decide (a=b)=false:=Xa h
theorem cj {b:Prop}[Decidable b]{m:Option ρ}(h:b):aI b m=m:=if_pos h
theorem r64 {m:Option ρ}(h1:-9000000000000000000<=a)(h2:a<=9000000000000000000):aI (in64 a) m=m:=if_pos ⟨by omega,by omega⟩
theorem rF {n:Nat}{m:Option ρ}(h:n<=1000000):aI (bm n) m=m:=if_pos (by unfold bm;omega)
theorem Rv {xs:List α}{i:Int}(h0:0<=i)(h1:i.toNat<xs.length):aq xs i=some xs[i.toNat]:=by
 unfold aq;rw [if_neg I,XX h1]
theorem aM {xs:List α}(h1:i<xs.length):aq xs (i:Int)=some xs[i]:=by
 unfold aq;rw [if_neg I,Xy,XX h1]
theorem jt (L:Nat->Nat->σ->Option ρ)(n:Nat)(Inv:Nat->σ->Prop)(R:ρ->Prop)(round:∀m i s,i<n->Inv i s->(∀s',Inv (i+1) s'->Sat (L m (i+1) s') R)->Sat (L (m+1) i s) R)(fin:∀m s,Inv n s->Sat (L (m+1) n s) R): ∀m i s,n<m+i->i<=n->Inv i s->Sat (L m i s) R
 |0,i,s,h,h2,_=>by omega
 |m+1,i,s,h,h2,hi=>by
  by_cases e:i=n
  ·subst e;exact fin m s hi
  exact round m i s I hi fun s' h'=>jt L n Inv R round fin m (i+1) s' I I h'
theorem wi (L:Nat->σ->Option ρ)(v:σ->Nat)(Inv:σ->Prop)(R:ρ->Prop)(round:∀m s,Inv s->(∀s',v s'<v s->Inv s'->Sat (L m s') R)->Sat (L (m+1) s) R): ∀m s,v s<m->Inv s->Sat (L m s) R
 |0,_,h,_=>by omega
 |m+1,s,h,hi=>round m s hi fun s' h1 h2=>wi L v Inv R round m s' I h2
theorem cn {l:List α}(h:i<l.length):l.take (i+1)=l.take i++ [l[i]]:=by
 rw [List.take_add_one,XX h];rfl
theorem MT: ∀{a b:List Int},a.Pairwise (· < ·)->b.Pairwise (· < ·)->(∀x,x∈a↔x∈b)->a=b
 | [],[],_,_,_=>rfl
 | [],y::b,_,_,h=>by have:=(h y).2 (by simp);cases this
 |x::a,[],_,_,h=>by have:=(h x).1 (by simp);cases this
 | x::a,y::b,ha,hb,h=>by
  obtain ⟨ha1,ha2⟩:=Yv.1 ha;obtain ⟨a6,a7⟩:=Yv.1 hb
  have e:x=y:=by
   rcases Yj.1 ((h x).1 (by simp)) with e|h1
   ·exact e
   rcases Yj.1 ((h y).2 (by simp)) with e|h2
   ·exact e.symm
   have:=a6 x h1;have:=ha1 y h2;omega
  subst e;rw [MT ha2 a7 fun z=> ?_];constructor
  ·intro hz;rcases Yj.1 ((h z).1 (by simp [hz])) with e|h1
   ·subst e;exact absurd (ha1 z hz) I
   exact h1
  intro hz;rcases Yj.1 ((h z).2 (by simp [hz])) with e|h1
  ·subst e;exact absurd (a6 z hz) I
  exact h1
theorem Lp [DecidableEq α](a:α)(L:List (α×β)):(∃i b,fp a L 0=some (i,b)/\L[i]? =some (a,b))\/(fp a L 0=none/\a∉L.map (·.1)):=by
 cases h:fp a L 0 with
 | none=>exact .inr ⟨rfl,fun h1=>by
   obtain ⟨p,h2,h3⟩:=Yn.1 h1
   exact (Rx a L).1 h p h2 h3⟩
 |some q=>obtain ⟨i,b⟩:=q;exact .inl ⟨i,b,J,(My a L 0 i b h).2⟩
theorem Bp [DecidableEq α](L:List (α×β))(a:α)(b:β):(Bq L a b).map (·.1)=if a∈L.map (·.1) then L.map (·.1) else L.map (·.1)++ [a]:=by
 unfold Bq;rcases Lp a L with ⟨i,c,h1,h2⟩|⟨h1,h2⟩
 ·have hm:a∈L.map (·.1):=Yn.2 ⟨_,Yo h2,rfl⟩;rw [h1,if_pos hm];show (L.set i (a,b)).map (·.1)=_;rw [List.map_set];apply XL;intro j;by_cases e:i=j
  ·subst e;have hlt:=(XZ.1 h2).1;rw [X4 (by simpa using hlt),X0,h2];rfl
  rw [X3 e]
 rw [h1,if_neg h2];show (L++ [(a,b)]).map (·.1)=_;rw [Yf];rfl
theorem QG [DecidableEq α](L:List (α×β))(a:α)(b:β)(x:α):x∈(Bq L a b).map (·.1)↔x=a\/x∈L.map (·.1):=by
 rw [Bp];split
 ·constructor
  ·exact .inr
  rintro (rfl|h)<;>assumption
 rw [Yi,Ys];exact Or.comm
theorem xt: ∀{l:List α} {i:Nat} {a:α},l.Nodup->l[i]? =some a-> ∀x,x∈l.eraseIdx i↔x∈l/\x≠a
 | [],_,_,_,h,_=>by simp at h
 |y::l,0,a,hn,h,x=>by
  simp only [XV,YY] at h;subst h;rw [List.eraseIdx_cons_zero];obtain ⟨h1, -⟩:=Yu.1 hn;constructor
  ·intro hx;exact ⟨by simp [hx],fun e=>h1 (e▸hx)⟩
  rintro ⟨hx,hne⟩;rcases Yj.1 hx with e|hx
  ·exact absurd e hne
  exact hx
 | y::l,i+1,a,hn,h,x=>by
  simp only [XU] at h;obtain ⟨h1,h2⟩:=Yu.1 hn;rw [List.eraseIdx_cons_succ,Yj,Yj,xt h2 h x];have ha:a∈l:=Yo h;constructor
  ·rintro (rfl|⟨h3,h4⟩)
   ·exact ⟨.inl J,fun e=>h1 (e▸ha)⟩
   exact ⟨.inr h3,h4⟩
  rintro ⟨rfl|h3,h4⟩
  ·exact .inl J
  exact .inr ⟨h3,h4⟩
theorem HV [DecidableEq α]{L:List (α×β)}(h:(L.map (·.1)).Nodup)(a:α):(∀x,x∈(Dx L a).map (·.1)↔x∈L.map (·.1)/\x≠a)/\((Dx L a).map (·.1)).Nodup/\(Dx L a).length<=L.length:=by
 unfold Dx;rcases Lp a L with ⟨i,c,h1,h2⟩|⟨h1,h2⟩
 ·rw [h1]
  have h3:(L.map (·.1))[i]? =some a:=by rw [X0,h2];rfl
  show (∀x,x∈(L.eraseIdx i).map (·.1)↔_)/\((L.eraseIdx i).map (·.1)).Nodup/\(L.eraseIdx i).length<=_;rw [<-Dv];exact ⟨xt h h3,h.sublist (List.eraseIdx_sublist _ _),(List.eraseIdx_sublist _ _).length_le⟩
 rw [h1];exact ⟨fun x=>⟨fun hx=>⟨hx,fun e=>h2 (e▸hx)⟩,fun hx=>hx.1⟩,h,YM _⟩
theorem oQ (xs:List α)(i:Nat):aq xs (i:Int)=xs[i]? :=by
 unfold aq;rw [if_neg I];simp
theorem Ey {b:Prop}[Decidable b]{m:Option ρ}(h:b):aI b m=m:=if_pos h
def bO (v:WZ):Bool:=decide (v.Zh=7)||decide (v.Zh=9)
def mT (k:Int)(i:Nat):Bool:=!decide (k=8)&&(!decide (k=10)||decide ((i:Int).tmod 2=0))
def pick (f:Nat->WZ->Bool):Nat->List WZ->List Int
 |_,[]=> []
 |i,v::l=>(bif f i v then [v.N] else [])++pick f (i+1) l
theorem pN (f:Nat->WZ->Bool)(i:Nat)(v:WZ)(l:List WZ):pick f i (v::l)=(bif f i v then [v.N] else [])++pick f (i+1) l:=rfl
theorem BU (f:Nat->WZ->Bool): ∀(i:Nat) (l:List WZ),(pick f i l).length<=l.length
 |_,[]=>YM _
 |i,v::l=>by
  have:=BU f (i+1) l;unfold pick;cases f i v<;>simp<;>omega
theorem Hi: ∀(i:Nat) (l:List WZ),pick (fun _ _=>false) i l=[]
 |_,[]=>rfl
 |i,v::l=>by unfold pick;simp [Hi (i+1) l]
theorem El (N:Nat)(v:WZ):tz N v=some (bO v):=by
 unfold tz bO;cases decide (v.Zh=7)<;>rfl
theorem BC (N:Nat)(v:WZ):zx N v=some (bO v):=by
 unfold zx bO;cases decide (v.Zh=7)<;>rfl
theorem H0 (N:Nat)(a b:Bool)(x:WZ)(p:List Int)(h:p.length<=5000):cM (fun x st=>fC N a x st) (b,x) (none,p)=some (true,(none,p++(bif (b==a)&&bO x then [x.N] else []))):=by
 unfold cM fC;simp only [El,YU];cases b==a
 ·simp
 cases bO x
 ·simp
 have:bm (p.length+ [x.N].length):=by unfold bm;simp only [X9,Yc];omega
 simp only [cond_true,YU,Bool.and_self];rw [Ey this];rfl
theorem MX (N:Nat)(a:Bool)(c:W3)(hc:c.Zi.length<=2900)(K:Nat)(hK:K<=1000): ∀(m i:Nat) (p:List Int),c.Zi.length<m+i->i<=c.Zi.length->p.length<=K+i->my N (cM (fun x st=>fC N a x st)) c m (i:Int) (none,p)=some (none,p++pick (fun i v=>(mT c.Zh i==a)&&bO v) i (c.Zi.drop i))
 |0,i,p,h,h2,_=>by omega
 | m+1,i,p,h,h2,h3=>by
  rw [my.eq_2];by_cases hi:i<c.Zi.length
  ·rw [show (decide ((i:Int)<(c.Zi.length:Int)))=true from W9 I,oQ,XX hi,XF hi];simp only [cond_true,YU]
   have hs:(bif !decide (c.Zh=8) then ((bif !decide (c.Zh=10) then (some true) else (some (decide ((i:Int).tmod 2=0)))).bind fun a6=>some a6) else (some false))=some (mT c.Zh i):=by
    unfold mT;cases decide (c.Zh=8)<;>cases decide (c.Zh=10)<;>rfl
   rw [hs];simp only [YU];rw [H0 N a _ _ _ I];rw [YU]
   dsimp only
   rw [Bool.not_true,cond_false];rw [Ey (by unfold in64;omega)]
   have hlen:(p++(bif (mT c.Zh i==a)&&bO c.Zi[i] then [c.Zi[i].N] else [])).length<=K+(i+1):=by
    cases (mT c.Zh i==a)&&bO c.Zi[i]<;>simp<;>omega
   have:=MX N a c hc K hK m (i+1) _ I hi hlen;simp only [Xv,Xt] at this;rw [this];rw [pN,Xc]
  rw [show (decide ((i:Int)<(c.Zi.length:Int)))=false from Xa I,XG I];simp [pick]
theorem Qm (N:Nat)(hN:6500<N)(a:Bool)(c:W3)(hS:c.Zj.length<=1000)(hc:c.Zi.length<=2900): ∀(m i:Nat) (p:List Int),c.Zj.length<m+i->i<=c.Zj.length->p.length<=i->lz N (cM (fun x st=>fC N a x st)) c m (i:Int) (none,p)=some (none,(p++pick (fun _ v=>(true==a)&&bO v) i (c.Zj.drop i))++pick (fun i v=>(mT c.Zh i==a)&&bO v) 0 c.Zi)
 |0,i,p,h,h2,_=>by omega
 | m+1,i,p,h,h2,h3=>by
  rw [lz.eq_2];by_cases hi:i<c.Zj.length
  ·rw [show (decide ((i:Int)<(c.Zj.length:Int)))=true from W9 I,oQ,XX hi,XF hi];simp only [cond_true,YU];rw [H0 N a _ _ _ I];rw [YU]
   dsimp only
   rw [Bool.not_true,cond_false];rw [Ey (by unfold in64;omega)]
   have hlen:(p++(bif (true==a)&&bO c.Zj[i] then [c.Zj[i].N] else [])).length<=(i+1):=by
    cases (true==a)&&bO c.Zj[i]<;>simp<;>omega
   have:=Qm N hN a c hS hc m (i+1) _ I hi hlen;simp only [Xv,Xt] at this;rw [this];rw [pN,Xc p]
  rw [show (decide ((i:Int)<(c.Zj.length:Int)))=false from Xa I,XG I];simp only [cond_false,uD];have:=MX N a c hc p.length I N 0 p I I I;simp only [Int.natCast_zero,Xt] at this;rw [this];simp [pick]
theorem zg (N:Nat)(hN:6500<N)(a:Bool)(c:W3)(hS:c.Zj.length<=1000)(hc:c.Zi.length<=2900):lC N c a=some (pick (fun _ v=>(true==a)&&bO v) 0 c.Zj++pick (fun i v=>(mT c.Zh i==a)&&bO v) 0 c.Zi):=by
 unfold lC uE oW;have:=Qm N hN a c hS hc N 0 [] I I (by simp);simp only [Int.natCast_zero,Xt] at this;rw [YU,this,YU];show some _=some _;simp
def oH (k:Int)(i:Nat):Bool:=decide (k=8)||(decide (k=10)&&(decide (0<(i:Int))&&decide ((((i:Int) - 1).tmod 4).tmod 2=0)))
theorem Ni (N:Nat)(k:Int)(i:Nat)(hi:i<=5000):AN N k (i:Int)=some (oH k i):=by
 unfold AN oH;by_cases h1:k=8
 ·simp [h1]
 by_cases h2:k=10
 ·by_cases h3:(0:Int)<i
  ·subst h2;simp only [h3,decide_true,ct,bs,r64 (a:=(i:Int) - 1) I I,show decide ((10:Int)=8)=false from rfl,cf,Bool.false_or,Xs]
  subst h2;simp only [h3,decide_true,decide_false,ct,bs,show decide ((10:Int)=8)=false from rfl,cf,Bool.false_or,Xs,Xq]
 simp [h1,h2]
theorem Ff (N:Nat)(hN:6500<N)(c:W3)(hS:c.Zj.length<=1000)(hc:c.Zi.length<=2900):vb N c=some (pick (fun _ v=>bO v) 0 c.Zj++pick (fun i v=> !oH c.Zh i&&bO v) 0 c.Zi):=by
 apply Sat.eq;unfold vb;refine jt (fun m i s=>nR N c m s (i:Int)) c.Zj.length (fun i s=>s++pick (fun _ v=>bO v) i (c.Zj.drop i)=pick (fun _ v=>bO v) 0 c.Zj/\s.length<=i) _ ?_ ?_ N 0 [] I I ⟨by simp,by simp⟩
 ·rintro m i s hi ⟨h1,h2⟩ k;show Sat (nR N c (m+1) s i) _;rw [XF hi,pN] at h1;rw [nR.eq_2,fJ I,cond_true,aM hi,bs,BC,bs];simp only [bs];cases hh:bO c.Zj[i]
  all_goals
   simp only [hh,ct,cf,bs,Zf] at h1⊢
   first
   |(unfold rQ
     rw [r64 I I]
     exact k s ⟨h1,by omega⟩)
   |(rw [rF (by simp;omega)]
     unfold rQ;rw [r64 I I]
     exact k _ ⟨by rw [Xc];exact h1,by simp;omega⟩)
 rintro m s ⟨h1,h2⟩;show Sat (nR N c (m+1) s _) _;rw [List.drop_length] at h1
 have h1:s=pick (fun _ v=>bO v) 0 c.Zj:=by rw [<-h1];simp [pick]
 rw [nR.eq_2,fz I,cond_false, <-h1];unfold BR;clear h1;refine jt (fun m i s=>mF N c m s (i:Int)) c.Zi.length (fun i t=>t++pick (fun i v=> !oH c.Zh i&&bO v) i (c.Zi.drop i)=s++pick (fun i v=> !oH c.Zh i&&bO v) 0 c.Zi/\t.length<=1000+i) _ ?_ ?_ N 0 s I I ⟨by simp,by omega⟩
 ·rintro m i s hi ⟨h1,h2⟩ k;show Sat (mF N c (m+1) s i) _;rw [XF hi,pN] at h1;rw [mF.eq_2,fJ I,cond_true,aM hi,bs,BC,bs,Ni _ _ _ I];simp only [bs];cases hh:bO c.Zi[i]<;>cases hw:oH c.Zh i
  all_goals
   simp only [hh,hw,Bool.and_true,Xp,nt,nf,ct,cf,bs,Zf] at h1⊢
   first
   |(unfold rP
     rw [r64 I I]
     exact k s ⟨h1,by omega⟩)
   |(rw [rF (by simp;omega)]
     unfold rP;rw [r64 I I]
     exact k _ ⟨by rw [Xc];exact h1,by simp;omega⟩)
 rintro m s ⟨h1,h2⟩;show Sat (mF N c (m+1) s _) _;rw [List.drop_length] at h1;rw [mF.eq_2,fz I,cond_false];exact ad (by rw [<-h1];simp [pick])
theorem DO (k:Int)(i:Nat):mT k i=!oH k i:=by
 unfold mT oH;by_cases h8:k=8
 ·subst h8;rfl
 by_cases h10:k=10
 ·subst h10;have e0:(i:Int).tmod 2=(i:Int)%2:=Xx I;by_cases hi:(0:Int)<i
  ·have e1:((i:Int) - 1).tmod 4=((i:Int) - 1)%4:=Xx I;have e2:(((i:Int) - 1)%4).tmod 2=(((i:Int) - 1)%4)%2:=Xx I;rw [e0,e1,e2];by_cases h:(i:Int)%2=0
   ·have h2: ¬(((i:Int) - 1)%4)%2=0:=by omega
    rw [W9 h,Xa h2,W9 hi];rfl
   have h2:(((i:Int) - 1)%4)%2=0:=by omega
   rw [Xa h,W9 h2,W9 hi];rfl
  have:i=0:=by omega
  subst this;rfl
 simp [h8,h10]
def gq (c:W3):List Int:=pick (fun _ v=>bO v) 0 c.Zj++pick (fun i v=> !oH c.Zh i&&bO v) 0 c.Zi
theorem AT (N:Nat)(hN:6500<N)(c:W3)(hS:c.Zj.length<=1000)(hc:c.Zi.length<=2900):nY N c=some (gq c):=by
 unfold nY gq;rw [zg N hN true c hS hc,bs]
 have e1:(fun (_:Nat) (v:WZ)=>(true==true)&&bO v)=fun _ v=>bO v:=by funext i v;rfl
 have e2:(fun (i:Nat) (v:WZ)=>(mT c.Zh i==true)&&bO v)=fun i v=> !oH c.Zh i&&bO v:=by funext i v;rw [DO];cases oH c.Zh i<;>rfl
 rw [e1,e2]
theorem NY (N:Nat)(hN:6500<N)(c:W3)(hS:c.Zj.length<=1000)(hc:c.Zi.length<=2900):vb N c=some (gq c):=Ff N hN c hS hc
theorem ux (c:W3):(gq c).length<=c.Zj.length+c.Zi.length:=by
 unfold gq;have h1:=BU (fun _ v=>bO v) 0 c.Zj;have h2:=BU (fun i v=> !oH c.Zh i&&bO v) 0 c.Zi;rw [Za];omega
theorem BT {f:Nat->WZ->Bool}: ∀{i:Nat} {l:List WZ},x∈pick f i l-> ∃v∈l,v.N=x
 |_,[],h=>by cases h
 | i,v::l,h=>by
  rw [pN,Yi] at h;rcases h with h|h
  ·cases hf:f i v
   ·rw [hf] at h;cases h
   rw [hf] at h;exact ⟨v,by simp,(Ys.1 h).symm⟩
  obtain ⟨w,h1,h2⟩:=BT h;exact ⟨w,by simp [h1],h2⟩
theorem FV (h:x∈gq c): ∃v∈c.Zj++c.Zi,v.N=x:=by
 unfold gq at h;rcases Yi.1 h with h|h
 ·obtain ⟨v,h1,h2⟩:=BT h;exact ⟨v,by simp [h1],h2⟩
 obtain ⟨v,h1,h2⟩:=BT h;exact ⟨v,by simp [h1],h2⟩
def G4:W3:=⟨0,0,0,0,[],[]⟩
def kH (m:WY)(a:Int):Option W3:=if a<1 then none else if a%2=1 then m.Zp[((a - 1) / 2).toNat]? else m.Zr[((a - 2) / 2).toNat]?
def aZ (m:WY)(a:Int):Bool:=(kH m a).isSome
def cp (m:WY)(a:Int):W3:=(kH m a).getD G4
structure Small (m:WY) (roots:List WZ):Prop where
 young:m.Zp.length<=600
 old:m.Zr.length<=600
 roots:roots.length<=600
 cells: ∀c∈m.Zp++m.Zr,c.Zj.length<=600/\c.Zi.length<=2900
theorem xi (h:kH m a=some c):c∈m.Zp++m.Zr:=by
 unfold kH at h;split at h
 ·cases h
 split at h
 ·exact Xd _ (Yo h)
 exact Xe _ (Yo h)
theorem Small.at_ {roots:List WZ}(h:Small m roots)(a:Int):(cp m a).Zj.length<=600/\(cp m a).Zi.length<=2900:=by
 unfold cp
 cases hc:kH m a with
 |none=>exact ⟨by simp [G4],by simp [G4]⟩
 |some c=>exact h.cells c (xi hc)
theorem wo (h:aZ m a=true):0<a:=by
 unfold aZ kH at h;split at h
 ·cases h
 omega
theorem Cs {roots:List WZ}(hs:Small m roots)(h:aZ m a=true):a<=1200:=by
 have h1:=hs.young;have h2:=hs.old;unfold aZ kH at h;split at h
 ·cases h
 split at h
 ·have:=(XZ.1 (Option.isSome_iff_exists.1 h).choose_spec).1;omega
 have:=(XZ.1 (Option.isSome_iff_exists.1 h).choose_spec).1;omega
theorem DN (h:0<=a):a.tdiv 2=a / 2:=Xw h
theorem uO (h:0<=a):a.tmod 2=a%2:=Xx h
theorem zF (l:List α)(i:Nat):(l[i]?).isSome=decide ((i:Int)<(l.length:Int)):=by
 by_cases h:i<l.length
 ·rw [XX h,W9 I];rfl
 rw [XY I,Xa I];rfl
theorem xn (m:WY)(a:Int):(a<1/\kH m a=none)\/(∃k:Nat,a=2*(k:Int)+1/\kH m a=m.Zp[k]?)\/(∃k:Nat,a=2*(k:Int)+2/\kH m a=m.Zr[k]?):=by
 by_cases h:a<1
 ·exact .inl ⟨h,by unfold kH;rw [if_pos h]⟩
 by_cases h2:a%2=1
 ·refine .inr (.inl ⟨((a - 1) / 2).toNat,by omega,?_⟩);unfold kH;rw [if_neg h,if_pos h2]
 refine .inr (.inr ⟨((a - 2) / 2).toNat,by omega,?_⟩);unfold kH;rw [if_neg h,if_neg h2]
theorem Nj (h:in64 a): -4611686018427387904<=a.tdiv 2/\a.tdiv 2<=4611686018427387904:=by
 unfold in64 at h;by_cases h0:0<=a
 ·rw [DN h0];omega
 have h1:(-a).tdiv 2= -(a.tdiv 2):=Int.neg_tdiv a 2;rw [DN I] at h1;omega
theorem FB (N:Nat)(m:WY)(a:Int)(h:in64 a):Sat (oL N m a) fun r=>r.2.2=aZ m a/\(aZ m a=true->aq r.1 r.2.1=kH m a):=by
 have hd:=Nj h;unfold oL;rw [r64 I I];unfold qh aZ;rcases xn m a with ⟨h1,h2⟩|⟨k,h1,h2⟩|⟨k,h1,h2⟩
 ·rw [h2]
  refine aC (fun _=> ?_) fun _=> ?_
  ·rw [r64 I I,r64 I I,fz (a:=0) (b:=a) I,cf,bs];exact ad ⟨J,fun h=>by cases h⟩
  rw [fz (a:=0) (b:=a) I,cf,bs];exact ad ⟨J,fun h=>by cases h⟩
 ·subst h1;rw [h2,uO I,DN I,jk I,cf,fJ I,ct,bs,show (2*(k:Int)+1) / 2=k by omega];exact ad ⟨(zF _ _).symm,fun _=>oQ _ _⟩
 subst h1;rw [h2,uO I,DN I,tv I,ct,fJ I,ct,bs,show (2*(k:Int)+2) / 2 - 1=k by omega];rw [r64 I I,r64 I I];exact ad ⟨(zF _ _).symm,fun _=>oQ _ _⟩
theorem F2 (N:Nat)(m:WY)(a:Int)(h:in64 a):pH N m a=some (aZ m a):=by
 obtain ⟨r,h1,h2, -⟩:=FB N m a h;unfold pH;rw [h1,bs,h2]
theorem pS (N:Nat)(c:W3)(h:c.Zj.length<=600/\c.Zi.length<=2900):fO N c=some c:=by
 unfold fO dz;rw [rF (by simp;omega),bs,rF (by simp;omega),bs];rfl
theorem I0 (N:Nat){roots:List WZ}(hs:Small m roots)(a:Int)(h:in64 a):lV N m a=some (cp m a):=by
 obtain ⟨r,h1,h2,h3⟩:=FB N m a h;unfold lV cp;rw [h1,bs,h2];unfold aZ at*
 cases hc:kH m a with
 |none=>rfl
 |some c=>
  have h4:=h3 (by rw [hc];rfl);rw [hc] at h4;have h5:=pS N c (hs.cells c (xi hc));simp only [Option.isSome_some,nt,cf,h4,bs,h5];rfl
theorem Mu (N:Nat)(m:WY)(a:Int)(h:in64 a):zw N m a=some (aZ m a):=by
 unfold in64 at h;unfold zw aZ;rcases xn m a with ⟨h1,h2⟩|⟨k,h1,h2⟩|⟨k,h1,h2⟩
 ·rw [h2,fJ h1];rfl
 ·subst h1;rw [h2,fz I,cf,uO I,tv I,ct,DN I,show (2*(k:Int)+1 - 1) / 2=k by omega,zF];rw [cj (by unfold in64;omega),cj (by unfold in64;omega)]
 subst h1;rw [h2,fz I,cf,uO I,jk I,cf,DN I,show (2*(k:Int)+2 - 2) / 2=k by omega,zF];rw [cj (by unfold in64;omega),cj (by unfold in64;omega)]
theorem Qg (N:Nat)(m:WY)(a:Int)(h:in64 a):BO N m a=some (cp m a):=by
 have hh:=Mu N m a h;unfold in64 at h;unfold BO cp;rw [hh,bs];unfold aZ;rcases xn m a with ⟨h1,h2⟩|⟨k,h1,h2⟩|⟨k,h1,h2⟩
 ·rw [h2];rfl
 ·cases hc:m.Zp[k]? with
  |none=>rw [h2,hc];rfl
  |some c=>
   rw [h2,hc];subst h1;simp only [Option.isSome_some,nt,cf];rw [uO I,tv I,ct,DN I,show (2*(k:Int)+1 - 1) / 2=k by omega,oQ,hc,bs];rw [cj (by unfold in64;omega),cj (by unfold in64;omega)];rfl
 cases hc:m.Zr[k]? with
 |none=>rw [h2,hc];rfl
 |some c=>
  rw [h2,hc];subst h1;simp only [Option.isSome_some,nt,cf];rw [uO I,jk I,cf,DN I,show (2*(k:Int)+2 - 2) / 2=k by omega,oQ,hc,bs];rw [cj (by unfold in64;omega),cj (by unfold in64;omega)];rfl
theorem N3 (N:Nat)(k:Int):xh N k=lH N k:=by
 unfold xh lH kA;by_cases h1:k=1
 ·subst h1;rfl
 by_cases h2:k=2
 ·subst h2;rfl
 by_cases h3:k=3
 ·subst h3;rfl
 by_cases h6:k=6
 ·subst h6;rfl
 by_cases h8:k=8
 ·subst h8;rfl
 by_cases h9:k=9
 ·subst h9;rfl
 by_cases h10:k=10
 ·subst h10;rfl
 rw [jk h1,jk h2,jk h3,jk h6,jk h8,jk h9,jk h10];rfl
theorem OM (N:Nat)(c:W3):kz N c=kq N c:=by
 unfold kz kq;rw [N3];rfl
theorem Tj (N:Nat)(v:WZ):xg N v=dN N v:=by
 unfold xg dN ss;by_cases h5:v.Zh=5
 ·rw [h5];rfl
 rw [jk h5];simp only [cf];by_cases hr:v.Zh<0\/9<v.Zh
 ·have h2:v.Zh≠2:=by omega
  have h3:v.Zh≠3:=by omega
  have h6:v.Zh≠6:=by omega
  have h7:v.Zh≠7:=by omega
  have h9:v.Zh≠9:=by omega
  have e1:((bif decide (v.Zh<0) then (some true) else (some (decide (9<v.Zh)))):Option Bool)=some true:=by
   rcases hr with h|h
   ·rw [fJ h];rfl
   rw [fJ (a:=9) h];cases decide (v.Zh<0)<;>rfl
  rw [e1,bs,ct,jk h2,jk h3,jk h6,jk h7,jk h9];simp only [cf]
  have e2:(((bif decide (v.N=0) then (some (decide (0<=v.Zh))) else (some false)).bind fun a6=>(bif a6 then (some (decide (v.Zh<=9))) else (some false)).bind fun a7=>some a7):Option Bool)=some false:=by
   cases decide (v.N=0)
   ·rfl
   rcases hr with h|h
   ·rw [Rk (a:=0) (b:=v.Zh) I];rfl
   rw [Rk (a:=v.Zh) (b:=9) I];cases decide (0<=v.Zh)<;>rfl
  rw [e2];cases s:(v.S.toList==(⟨#[]⟩:ByteArray).toList)<;>rfl
 have e1:((bif decide (v.Zh<0) then (some true) else (some (decide (9<v.Zh)))):Option Bool)=some false:=by
  rw [fz (a:=v.Zh) (b:=0) I,fz (a:=9) (b:=v.Zh) I];rfl
 rw [e1,bs,cf];cases hs:(v.S.toList==(⟨#[]⟩:ByteArray).toList)
 ·rfl
 simp only [nt,cf];by_cases h2:v.Zh=2
 ·rw [h2];rfl
 rw [jk h2];simp only [cf];by_cases h3:v.Zh=3
 ·rw [h3];rfl
 rw [jk h3];simp only [cf];by_cases h6:v.Zh=6
 ·rw [h6];rfl
 rw [jk h6];simp only [cf];by_cases h7:v.Zh=7
 ·rw [h7];rfl
 rw [jk h7];simp only [cf];by_cases h9:v.Zh=9
 ·rw [h9];rfl
 rw [jk h9,Rj (a:=0) I,Rj (a:=v.Zh) I];cases decide (v.N=0)<;>rfl
theorem JK (N:Nat)(v:WZ): ∃b,dN N v=some b:=by
 unfold dN;cases decide (v.Zh<0)<;>cases decide (9<v.Zh)<;>cases decide (v.Zh=5)<;>cases decide (v.N=0)<;>cases (v.S.toList==(⟨#[]⟩:ByteArray).toList)<;>cases decide (v.Zh=2)<;>cases decide (v.Zh=3)<;>cases decide ((-9007199254740992)<=v.N)<;>cases decide (v.Zh=6)<;>cases decide (v.Zh=7)<;>cases decide (v.Zh=9)<;>exact ⟨_,rfl⟩
theorem CG (N k:Nat)(hk:k=2\/k=4)(l:List WZ)(hl:l.length<=2900): ∀(m i:Nat),l.length<m+i->i<=l.length->(l.length - i)%k=0-> ∃b,gT N (k:Int) l m (i:Int)=some b/\
  jU N (cM (fun x st=>cc N (k:Int) x st)) l (k:Int) m (i:Int) (none,())=some (bif b then (none,()) else (some .ret,()))
 |0,i,h,h2,_=>by omega
 | m + 1,i,h,h2,h3=>by
  by_cases hi:i<l.length
  ·have hik:i+k<=l.length:=by
    rcases hk with rfl|rfl<;>omega
   have hmin:(min (k:Int) (((l.drop (i:Int).toNat).take (l.length - (i:Int).toNat)).length:Int))=k:=by
    rw [Zb,Ya,Xy];omega
   have hto:((i:Int)+(k:Int)).toNat=i+k:=by omega
   have hx: ∀j,j<k->aq ((l.drop i).take k) (j:Int)=l[i+j]? :=fun j hj=>by
    rw [oQ,X5,if_pos hj,XW]
   have a6:=hx 0 I;have a7:=hx 1 I;rw [XX I] at a6 a7;have c7:aq l (i:Int)=some l[i]:=aM hi
   have c8:aq l ((i:Int)+1)=some (l[i+1]'I):=by
    have:=aM (xs:=l) (i:=i+1) I;simpa using this
   obtain ⟨b,b0,b5⟩:=CG N k hk l hl m (i+k) I hik (by rcases hk with rfl|rfl<;>omega);simp only [Xv] at b0 b5
   have fin: ∀b',(bif b' then some false else aI (in64 ((i:Int)+(k:Int))) (gT N (k:Int) l m ((i:Int)+(k:Int))))=some (bif b' then false else b):=fun b'=>by
    cases b'
    ·rw [cf,r64 I I,b0];rfl
    rfl
   have fin2: ∀b':Bool,((bif b' then (some (some Exit.ret,())) else (some (none,())):Option (Option Exit×Unit)).map fun r=>(r.1.isNone,r))=some (!b',(bif b' then some Exit.ret else none,())):=fun b'=>by cases b'<;>rfl
   have goal: ∀b',((some (!b',((bif b' then some Exit.ret else none:Option Exit),())):Option (Bool×(Option Exit×Unit))).bind fun a8=>bif !a8.1 then (some a8.2) else (aI (in64 ((i:Int)+(k:Int))) ((jU N (cM (fun x st=>cc N (k:Int) x st)) l (k:Int) m) ((i:Int)+(k:Int)) a8.2)))=some (bif (bif b' then false else b) then (none,()) else (some .ret,())):=fun b'=>by
    cases b'
    ·rw [bs];simp only [nf,nt,cf];rw [r64 I I];exact b5
    rfl
   have lift: ∀(x:List WZ) (b':Bool),cc N (k:Int) x ()=(bif b' then (some (some Exit.ret,())) else (some (none,())))->cM (fun x st=>cc N (k:Int) x st) x (none,())=some (!b',(bif b' then some Exit.ret else none,())):=fun x b' hb=>by
    unfold cM;simp only [hb];exact fin2 b'
   have key: ∃b',((aq l (i:Int)).bind fun x8=>(bif !decide (x8.Zh=7) then (some true) else (aI (in64 ((i:Int)+1)) ((aq l ((i:Int)+1)).bind fun c9=>some (decide (c9.Zh=8))))).bind fun b9=>bif b9 then (some false) else ((bif decide ((k:Int)=4) then (aI (in64 ((i:Int)+2)) ((aq l ((i:Int)+2)).bind fun d0=>(dT N d0 7).bind fun d1=>(bif !d1 then (some true) else (aI (in64 ((i:Int)+3)) ((aq l ((i:Int)+3)).bind fun d2=>(ij N d2 0 9007199254740992).bind fun d3=>some (!d3)))).bind fun d4=>some d4)) else (some false)).bind fun d6=>bif d6 then (some false) else (aI (in64 ((i:Int)+(k:Int))) ((gT N (k:Int) l m) ((i:Int)+(k:Int))))))=some (bif b' then false else b)/\cc N (k:Int) ((l.drop i).take k) ()=(bif b' then (some (some Exit.ret,())) else (some (none,()))):=by
    unfold cc;simp only [Xt,Int.natCast_zero,Int.natCast_one] at a6 a7;rw [c7,bs,r64 (a:=(i:Int)+1) I I,c8,bs];have hk0':aq ((l.drop i).take k) 0=some l[i]:=a6;have hk1':aq ((l.drop i).take k) 1=some (l[i+1]'I):=a7;simp only [hk0',bs,hk1'];cases h7:(!decide (l[i].Zh=7))
    ·simp only [cf,bs];cases h8:decide ((l[i+1]'I).Zh=8)
     ·simp only [cf];rcases hk with rfl|rfl
      ·simp only [show decide (((2:Nat):Int)=4)=false from rfl,cf,bs];have f:=fin false;rw [cf] at f;refine ⟨false,?_,J⟩;exact f
      have b6:=hx 2 I;have b7:=hx 3 I;rw [XX I] at b6 b7;have hk2':aq ((l.drop i).take 4) 2=some (l[i+2]'I):=b6;have hk3':aq ((l.drop i).take 4) 3=some (l[i+3]'I):=b7
      have e0:aq l ((i:Int)+2)=some (l[i+2]'I):=by
       have:=aM (xs:=l) (i:=i+2) I;simpa using this
      have e3:aq l ((i:Int)+3)=some (l[i+3]'I):=by
       have:=aM (xs:=l) (i:=i+3) I;simpa using this
      simp only [show decide (((4:Nat):Int)=4)=true from rfl,ct];rw [r64 (a:=(i:Int)+2) I I,e0,bs,hk2',bs,r64 (a:=(i:Int)+3) I I,e3,bs,hk3']
      have en: ∀v,jb N v 7=dT N v 7:=fun v=>rfl
      have em: ∀v,jc N v 0 9007199254740992=ij N v 0 9007199254740992:=fun v=>rfl
      have hn: ∃b1,dT N (l[i+2]'I) 7=some b1:=by unfold dT;cases decide ((l[i+2]'I).Zh=0)<;>exact ⟨_,rfl⟩
      have hm: ∃b1,ij N (l[i+3]'I) 0 9007199254740992=some b1:=by unfold ij;cases decide ((l[i+3]'I).Zh=3)<;>cases decide (0<=(l[i+3]'I).N)<;>exact ⟨_,rfl⟩
      obtain ⟨b1,hn⟩:=hn;obtain ⟨b2,hm⟩:=hm;simp only [bs,en,em,hn,hm];cases b1
      ·simp only [nf,ct,bs];exact ⟨true,J,J⟩
      simp only [nt,cf,bs];exact ⟨!b2,fin (!b2),by cases b2<;>rfl⟩
     exact ⟨true,J,J⟩
    exact ⟨true,J,J⟩
   obtain ⟨b',e1,e2⟩:=key;refine ⟨bif b' then false else b,?_,?_⟩
   ·rw [gT.eq_2,fJ I,ct];exact e1
   rw [jU.eq_2,fJ I,ct,hmin,cj (show (0:Int)<=(i:Int)/\(i:Int).toNat<=l.length/\l.length<=l.length from ⟨by omega,by omega,YM _⟩),r64 (a:=(i:Int)+(k:Int)) I I,r64 (a:=(i:Int)+(k:Int)) I I];rw [cj (show (0:Int)<=(i:Int)/\(0:Int)<=(i:Int)+(k:Int)/\(i:Int).toNat<=((i:Int)+(k:Int)).toNat/\((i:Int)+(k:Int)).toNat<=l.length from ⟨by omega,by omega,by omega,by omega⟩),hto,Xy,show i+k - i=k by omega,lift _ b' e2];exact goal b'
  rw [gT.eq_2,jU.eq_2,fz I,cf,cf];exact ⟨true,J,J⟩
theorem uB (N:Nat)(hN:6500<N)(k:Nat)(hk:k=2\/k=4)(l:List WZ)(hl:l.length<=2900): ∃b,dV N l (k:Int)=some b/\dg N l (k:Int)=some b/\(b=true->l.length%k=0):=by
 unfold dV dg
 have a6:(k:Int)≠0:=by rcases hk with rfl|rfl<;>decide
 rw [cj a6,cj a6]
 have ht:(l.length:Int).tmod (k:Int)=((l.length%k:Nat):Int):=by
  rw [Xx I];rfl
 rw [ht];by_cases h:l.length%k=0
 ·rw [tv I];obtain ⟨b,h1,h2⟩:=CG N k hk l hl N 0 I I (by simpa using h)
  have e:lP N l (k:Int)=some ():=by
   unfold lP;rw [fz (by rcases hk with rfl|rfl<;>omega),cf]
  unfold ue;simp only [nt,cf,e,bs];have h1':gT N (k:Int) l N 0=some b:=h1;have h2':jU N (cM (fun x st=>cc N (k:Int) x st)) l (k:Int) N 0 (none,())=some (bif b then (none,()) else (some .ret,())):=h2;rw [h1',h2',bs];exact ⟨b,by cases b<;>rfl,rfl,fun _=>h⟩
 rw [jk I];exact ⟨false,J,J,fun h=>by cases h⟩
theorem Ra (N:Nat)(hN:6500<N)(c:W3)(hc:c.Zi.length<=2900):lw N c.Zh c.Zi=mb N c:=by
 obtain ⟨b2,h2,h2', -⟩:=uB N hN 2 (.inl rfl) c.Zi hc;obtain ⟨b4,h4,h4', -⟩:=uB N hN 4 (.inr rfl) ((c.Zi.drop ((1:Int).toNat)).take (c.Zi.length - (1:Int).toNat)) (by rw [Zb,Ya];omega);have e2:dV N c.Zi 2=dg N c.Zi 2:=h2.trans h2'.symm;have e4:dV N ((c.Zi.drop ((1:Int).toNat)).take (c.Zi.length - (1:Int).toNat)) 4=dg N ((c.Zi.drop ((1:Int).toNat)).take (c.Zi.length - (1:Int).toNat)) 4:=h4.trans h4'.symm;unfold lw mb nc lG;rw [e2,e4];rfl
theorem JL (N:Nat)(c:W3)(b:Bool)(v:WZ): ∃y,dN N v=some y/\cM (fun x st=>ie N c x st) (b,v) (none,())=some (y,(bif y then none else some Exit.ret,())):=by
 obtain ⟨y,hy⟩:=JK N v;refine ⟨y,hy,?_⟩;unfold cM ie;simp only [Tj,hy,bs];cases y<;>rfl
theorem Fd (N:Nat)(c:W3)(hc:c.Zi.length<=2900): ∀(m i:Nat),c.Zi.length<m+i->i<=c.Zi.length-> ∃b,oO N c m (i:Int)=(bif b then dh N c else some false)/\
  my N (cM (fun x st=>ie N c x st)) c m (i:Int) (none,())=some (bif b then none else some Exit.ret,())
 |0,i,h,h2=>by omega
 | m+1,i,h,h2=>by
  rw [oO.eq_2,my.eq_2];by_cases hi:i<c.Zi.length
  ·rw [fJ I,ct,ct,aM hi,bs,bs]
   have hs:(bif !decide (c.Zh=8) then ((bif !decide (c.Zh=10) then (some true) else (some (decide ((i:Int).tmod 2=0)))).bind fun a6=>some a6) else (some false))=some (mT c.Zh i):=by
    unfold mT;cases decide (c.Zh=8)<;>cases decide (c.Zh=10)<;>rfl
   obtain ⟨y,h3,h4⟩:=JL N c (mT c.Zh i) c.Zi[i];rw [hs,bs,h3,h4,bs,bs];cases y
   ·simp only [nf,nt,ct,cf];exact ⟨false,cf.symm,by rw [cf]⟩
   obtain ⟨b,h5,h6⟩:=Fd N c hc m (i+1) I hi;simp only [Xv,Xt] at h5 h6;simp only [nt,cf,ct];rw [r64 I I,r64 I I];exact ⟨b,h5,h6⟩
  rw [fz I,cf,cf];exact ⟨true,ct.symm,by rw [ct]⟩
theorem uP (N:Nat)(hN:6500<N)(c:W3)(hS:c.Zj.length<=1000)(hc:c.Zi.length<=2900): ∀(m i:Nat),c.Zj.length<m+i->i<=c.Zj.length-> ∃b,iY N c m (i:Int)=(bif b then dh N c else some false)/\
  lz N (cM (fun x st=>ie N c x st)) c m (i:Int) (none,())=some (bif b then none else some Exit.ret,())
 |0,i,h,h2=>by omega
 | m+1,i,h,h2=>by
  rw [iY.eq_2,lz.eq_2];by_cases hi:i<c.Zj.length
  ·rw [fJ I,ct,ct,aM hi,bs,bs];obtain ⟨y,h3,h4⟩:=JL N c true c.Zj[i];rw [h3,h4,bs,bs];cases y
   ·simp only [nf,nt,ct,cf];exact ⟨false,cf.symm,by rw [cf]⟩
   obtain ⟨b,h5,h6⟩:=uP N hN c hS hc m (i+1) I hi;simp only [Xv,Xt] at h5 h6;simp only [nt,cf,ct];rw [r64 I I,r64 I I];exact ⟨b,h5,h6⟩
  rw [fz I,cf,cf];exact Fd N c hc N 0 I I
theorem BA (N:Nat)(hN:6500<N)(c:W3)(hS:c.Zj.length<=1000)(hc:c.Zi.length<=2900):gG N c=fL N c:=by
 unfold gG fL oW
 have hAge:((bif !decide (c.Zn=0) then (some (!decide (c.Zn=1))) else (some false)).bind fun a6=>some a6)=(some (decide (c.Zn<0)||decide (1<c.Zn)):Option Bool):=by
  by_cases h0:c.Zn=0
  ·rw [h0];rfl
  by_cases h1:c.Zn=1
  ·rw [h1];rfl
  rw [jk h0,jk h1];by_cases h2:c.Zn<0
  ·rw [fJ h2];rfl
  rw [fJ (a:=1) (b:=c.Zn) I,fz (a:=c.Zn) I];rfl
 obtain ⟨b,h1,h2⟩:=uP N hN c hS hc N 0 I I;have h1':iY N c N 0=(bif b then dh N c else some false):=h1;have h2':lz N (cM (fun x st=>ie N c x st)) c N 0 (none,())=some (bif b then none else some Exit.ret,()):=h2;have e:uE N c=some ():=rfl;rw [hAge,h1',h2',e]
 have tail:((some ()).bind fun (b6:Unit)=>(some ((bif b then none else some Exit.ret:Option Exit),())).bind fun a7=>rc a7.1 ((kz N c).bind fun a8=>(bif a8 then ((lw N c.Zh c.Zi).bind fun b0=>some b0) else (some false)).bind fun b5=>some b5) (some false) (fun _=>none))=(bif b then dh N c else some false):=by
  cases b
  ·rfl
  rw [OM,Ra N hN c hc];rfl
 rw [tail];cases decide (c.Zh<1)<;>cases decide (11<c.Zh)<;>cases decide (c.Zq<0)<;>cases decide (c.Zm<0)<;>cases decide (63<c.Zm)<;>cases decide (c.Zn<0)<;>cases decide (1<c.Zn)<;>rfl
theorem O5 {m:Option Bool}{x:Bool}:m=some x->(m.bind fun b=>some b)=some x:=fun h=>by rw [h];rfl
theorem KH (N:Nat)(hN:6500<N)(c:W3)(hS:c.Zj.length<=1000)(hc:c.Zi.length<=2900)(h8:c.Zh=8): ∃b,fL N c=some b/\(b=true->c.Zi.length%2=0):=by
 obtain ⟨b1,g1, -⟩:=uP N hN c hS hc N 0 I I;have g1':iY N c N 0=(bif b1 then dh N c else some false):=g1;obtain ⟨b2, -,h2,h3⟩:=uB N hN 2 (.inl rfl) c.Zi hc
 have hm:mb N c=some b2:=by
  unfold mb lG;rw [h8,fz I];show ((dg N c.Zi 2).bind fun a6=>some a6)=_;exact O5 h2
 have hs: ∃b3,kq N c=some b3:=by
  unfold kq;rw [h8];have:lH N 8=some true:=rfl;rw [this,bs,ct,bs,ct];by_cases hl:1<=(c.Zj.length:Int)
  ·rw [Rj hl,ct,bs,Rv (xs:=c.Zj) (i:=0) I I,bs];cases decide ((c.Zj.length:Int)<=1025)
   ·exact ⟨_,J⟩
   cases decide (c.Zj[(0:Int).toNat].Zh=1)<;>exact ⟨_,rfl⟩
  rw [Rk I];exact ⟨_,J⟩
 obtain ⟨b3,hs⟩:=hs
 have hj:dh N c=some (b3&&b2):=by
  unfold dh;rw [hs,hm];cases b3<;>rfl
 unfold fL;rw [g1',hj]
 have fin: ∃b,((bif b1 then some (b3&&b2) else some false):Option Bool)=some b/\(b=true->c.Zi.length%2=0):=by
  cases b1
  ·exact ⟨false,J,fun h=>by cases h⟩
  exact ⟨b3&&b2,J,fun h=>h3 (by cases b3<;>cases b2<;>first|rfl|cases h)⟩
 obtain ⟨b,e1,e2⟩:=fin;rw [e1];have ff: ∃b',(some false:Option Bool)=some b'/\(b'=true->c.Zi.length%2=0):=⟨false,rfl,fun h=>by cases h⟩
 cases decide (c.Zh<1)<;>cases decide (11<c.Zh)<;>cases decide (c.Zq<0)<;>cases decide (c.Zm<0)<;>cases decide (63<c.Zm)<;>cases decide (c.Zn<0)<;>cases decide (1<c.Zn)<;>first|exact ff|exact ⟨b,rfl,e2⟩
def uy (c:W3):Bool:=decide (c.Zh=8)&&(fL N c).getD false
theorem Li (N:Nat)(hN:6500<N)(c:W3)(hS:c.Zj.length<=1000)(hc:c.Zi.length<=2900):Ft N c=some (uy N c)/\vP N c=some (uy N c)/\(uy N c=true->c.Zi.length%2=0):=by
 unfold Ft vP uy;rw [BA N hN c hS hc];by_cases h8:c.Zh=8
 ·obtain ⟨b,h1,h2⟩:=KH N hN c hS hc h8;rw [h1,h8];exact ⟨J,J,h2⟩
 rw [jk h8];exact ⟨J,J,fun h=>by cases h⟩
abbrev I6 (m:Option ρ):Prop:=Sat m fun _=>True
theorem bl (x:ρ):I6 (some x):=ad trivial
theorem mR {b:Bool}{x y:Option ρ}(hx:b=true->I6 x)(hy:b=false->I6 y):I6 (bif b then x else y):=dB hx hy
theorem Cb (N:Nat)(v:WZ)(a b:Int):I6 (ij N v a b):=by
 unfold ij
 refine Sat.bind (P:=fun _=>True) (mR (fun _=>bl _) fun _=>bl _) fun x _=>Sat.bind (P:=fun _=>True) (mR (fun _=>bl _) fun _=>bl _) fun y _=>bl _
theorem yF (N:Nat)(v:WZ)(a:Int):I6 (dT N v a):=by
 unfold dT
 exact Sat.bind (P:=fun _=>True) (mR (fun _=>bl _) fun _=>bl _) fun x _=>bl _
theorem zn {c:Bool}{m:Option Bool}(h:c=true->I6 m):I6 (bif c then m else some false):=mR h fun _=>bl _
theorem xW {l:List WZ}{f:WZ->Option Bool}(hi:i<l.length)(h:∀v,I6 (f v)):I6 ((aq l (i:Int)).bind f):=by
 rw [aM hi,bs];exact h _
theorem fe {m:Option Bool}(h:I6 m)(k:∀b,I6 (f b)):I6 (m.bind f):=Sat.bind h fun b _=>k b
theorem tJ {m:Option Bool}{p:Prop}(h:Sat m fun b=>b=true->p)(k:∀b,(b=true->p)->I6 (f b)):I6 (m.bind f):=Sat.bind h k
theorem Nq (N:Nat)(c:W3):I6 (kq N c):=by
 unfold kq
 have hp:I6 (lH N c.Zh):=by
  unfold lH
  iterate 6 refine fe (mR (fun _=>bl _) fun _=>bl _) fun _=> ?_
  exact bl _
 refine fe hp fun y=>fe (mR (fun _=>bl _) fun _=>fe (mR (fun _=>bl _) fun _=>bl _) fun _=>bl _) fun b=> ?_
 refine mR (fun _=> ?_) fun _=> ?_
 ·refine tJ (p:=0<c.Zj.length) (aC (fun h=>ad fun _=>by omega) fun _=>ad fun h=>by cases h) fun b hb=>fe (zn fun h=> ?_) fun _=>bl _
  have h0:=hb h
  refine xW (i:=0) h0 fun v=>fe (mR (fun _=>bl _) fun _=>xW (i:=0) h0 fun _=>bl _) fun _=>bl _
 refine mR (fun _=>bl _) fun _=>fe (mR (fun _=>bl _) fun _=>bl _) fun _=>mR (fun _=>bl _) fun _=>dB (fun _=> ?_) fun _=>bl _
 refine tJ (p:=1<c.Zj.length) (aC (fun h=> ?_) fun _=>ad fun h=>by cases h) fun b hb=>fe (zn fun h=> ?_) fun _=>bl _
 ·rw [show ((0:Int))=((0:Nat):Int) from rfl,aM I,bs];obtain ⟨x,hx, -⟩:=yF N c.Zj[0] 7
  rw [hx,bs];exact ad fun _=>by omega
 refine xW (i:=1) (hb h) fun v=>fe (yF N v 7) fun _=>bl _
theorem LH {l:List WZ}{m:WZ->Option Bool}(hi:i<l.length)(h:∀v,I6 (m v)){p:Prop}(hp:p):Sat ((aq l (i:Int)).bind fun x=>(m x).bind fun y=>some y) fun b=>b=true->p:=by
 rw [aM hi,bs];obtain ⟨x,hx, -⟩:=h l[i]
 rw [hx,bs];exact ad fun _=>hp
def Bj (c:W3):Prop:=(c.Zh=8->c.Zi.length%2=0)/\(c.Zh=10->1<=c.Zi.length/\(c.Zi.length - 1)%4=0)
theorem Ph (N:Nat)(hN:6500<N)(c:W3)(hc:c.Zi.length<=2900):Sat (mb N c) fun b=>b=true->Bj c:=by
 have j6: ∀p,(p=true->c.Zh=1\/c.Zh=5)->Sat (lG N c p) fun b=>b=true->Bj c:=by
  intro p hp
  have other: ∀{m:Option Bool},c.Zh≠8->c.Zh≠10->I6 m->Sat m fun b=>b=true->Bj c:=fun h8 h10 h=>h.mono fun _ _ _=>⟨fun e=>absurd e h8,fun e=>absurd e h10⟩
  unfold lG
  refine dB (fun h=>other (by rcases hp h with e|e<;>omega) (by rcases hp h with e|e<;>omega) (bl _)) fun _=> ?_
  refine aC (fun hk=>other I I ?_) fun _=> ?_
  ·refine tJ (p:=1<c.Zi.length) (aC (fun h=>LH (i:=0) I (fun v=>Cb N v _ _) I) fun _=>ad fun h=>by cases h) fun b hb=>fe (zn fun h=>xW (i:=1) (hb h) fun v=>fe (yF N v 9) fun _=>bl _) fun _=>bl _
  refine aC (fun hk=>other I I ?_) fun _=> ?_
  ·refine tJ (p:=0<c.Zi.length) (aC (fun h=>ad fun _=>by omega) fun _=>ad fun h=>by cases h) fun b hb=>fe (zn fun h=>xW (i:=0) (hb h) fun v=>fe (yF N v 9) fun _=>bl _) fun _=>bl _
  refine aC (fun hk=>other I I ?_) fun _=> ?_
  ·refine tJ (p:=1<c.Zi.length) (aC (fun h=>LH (i:=0) I (fun v=>Cb N v _ _) I) fun _=>ad fun h=>by cases h) fun b hb=>fe (zn fun h=>xW (i:=1) (hb h) fun v=>fe (yF N v 9) fun _=>bl _) fun _=>bl _
  refine aC (fun hk=>other I I ?_) fun _=> ?_
  ·refine tJ (p:=3<c.Zi.length) (aC (fun h=>LH (i:=2) I (fun v=>Cb N v _ _) I) fun _=>ad fun h=>by cases h) fun b hb=>fe (zn fun h=>xW (i:=3) (hb h) fun v=>fe (Cb N v _ _) fun _=>bl _) fun _=>bl _
  refine aC (fun hk=> ?_) fun a7=> ?_
  ·obtain ⟨b, -,h2,h3⟩:=uB N hN 2 (.inl rfl) c.Zi hc;have h2':dg N c.Zi 2=some b:=h2;rw [h2',bs]
   exact ad fun hb=>⟨fun _=>h3 hb,fun e=>absurd e I⟩
  refine aC (fun hk=> ?_) fun a6=> ?_
  ·refine Sat.bind (P:=fun b=>b=true->1<=c.Zi.length) (aC (fun h=> ?_) fun _=>ad fun h=>by cases h) fun b hb=> ?_
   ·rw [show ((0:Int))=((0:Nat):Int) from rfl,aM I,bs];exact ad fun _=>by omega
   refine Sat.bind (P:=fun b=>b=true->Bj c) (dB (fun h=> ?_) fun _=>ad fun h=>by cases h) fun b' hb'=>ad hb'
   have h1:=hb h;rw [Ey ⟨by omega,by show (1:Int).toNat<=_;exact h1,YM _⟩]
   have hl:((c.Zi.drop ((1:Int).toNat)).take (c.Zi.length - (1:Int).toNat)).length=c.Zi.length - 1:=by
    rw [Zb,Ya];show min (c.Zi.length - 1) (c.Zi.length - 1)=_;omega
   obtain ⟨b2, -,h2,h3⟩:=uB N hN 4 (.inr rfl) ((c.Zi.drop ((1:Int).toNat)).take (c.Zi.length - (1:Int).toNat)) (by rw [hl];omega);have h2':dg N ((c.Zi.drop ((1:Int).toNat)).take (c.Zi.length - (1:Int).toNat)) 4=some b2:=h2;rw [h2',bs]
   exact ad fun a8=>⟨fun e=>absurd e I,fun _=>⟨h1,by have:=h3 a8;rw [hl] at this;exact this⟩⟩
  refine aC (fun hk=>other I I ?_) fun _=>other a7 a6 (bl _)
  refine fe ?_ fun _=>bl _
  exact mR (fun h=>xW (i:=0) (by have:=Y8 h;omega) fun v=>fe (Cb N v _ _) fun _=>bl _) fun _=>bl _
 unfold mb
 refine aC (fun _=>ad fun h=>by cases h) fun _=>aC (fun hk=>ad fun _=>⟨fun e=>absurd e I,fun e=>absurd e I⟩) fun _=>aC (fun hk=>j6 _ fun _=> .inl hk) fun _=>j6 _ fun h=> .inr (Y8 h)
theorem Hg (N:Nat)(hN:6500<N)(c:W3)(hS:c.Zj.length<=1000)(hc:c.Zi.length<=2900):Sat (fL N c) fun b=>b=true->Bj c:=by
 obtain ⟨b1,g1, -⟩:=uP N hN c hS hc N 0 I I;have g1':iY N c N 0=(bif b1 then dh N c else some false):=g1
 have hj:Sat (dh N c) fun b=>b=true->Bj c:=by
  unfold dh
  refine Sat.bind (Nq N c) fun y _=> ?_
  refine Sat.bind (P:=fun b=>b=true->Bj c) (dB (fun _=>Sat.bind (Ph N hN c hc) fun _ h=>ad h) fun _=>ad fun h=>by cases h) fun _ h=>ad h
 unfold fL;rw [g1']
 iterate 6 refine Sat.bind (P:=fun _=>True) (mR (fun _=>bl _) fun _=>bl _) fun _ _=> ?_
 refine dB (fun _=>ad fun h=>by cases h) fun _=>dB (fun _=>hj) fun _=>ad fun h=>by cases h
theorem Hx (L:Nat->Int->Option ρ)(l:List α)(p:α->Bool)(bad k:Option ρ)(step:∀m (i:Nat) (h:i<l.length),L (m+1) (i:Int)=bif p l[i] then L m ((i:Int)+1) else bad)(fin:∀m,L (m+1) (l.length:Int)=k)(N:Nat)(hN:l.length<N):L N 0=bif l.all p then k else bad:=by
 have key: ∀m i:Nat,l.length<m+i->i<=l.length->L m (i:Int)=bif (l.drop i).all p then k else bad:=by
  intro m
  induction m with
  |zero=>intro i h1 h2;omega
  | succ m ih=>
   intro i h1 h2;by_cases hi:i<l.length
   ·rw [step m i hi,XF hi,List.all_cons];have h3:=ih (i+1) I hi;rw [show (((i+1:Nat)):Int)=(i:Int)+1 by omega] at h3;rw [h3];cases p l[i]<;>rfl
   have e:i=l.length:=by omega
   subst e;rw [fin,List.drop_length];rfl
 have:=key N 0 I I;simpa using this
def QE {α β:Type}[DecidableEq α](a:α)(b:β):List (α×β)->List (α×β)
 | []=> [(a,b)]
 |p::l=>if p.1=a then (a,b)::l else p::QE a b l
theorem QF [DecidableEq α](L:List (α×β))(a:α)(b:β):Bq L a b=QE a b L:=by
 have key: ∀(L:List (α×β)) (j:Nat),(∃i c,fp a L j=some (i,c)/\j<=i/\L.set (i - j) (a,b)=QE a b L)\/(fp a L j=none/\L++ [(a,b)]=QE a b L):=by
  intro L
  induction L with
  |nil=>intro j;exact .inr ⟨J,J⟩
  | cons p l ih=>
   intro j;obtain ⟨x,y⟩:=p;by_cases e:a=x
   ·refine .inl ⟨j,y,by simp [fp,e],YM _,?_⟩;rw [YR];simp [QE,e]
   have e': ¬x=a:=fun h=>e h.symm
   rcases ih (j+1) with ⟨i,c,h1,h2,h3⟩|⟨h1,h2⟩
   ·refine .inl ⟨i,c,by simp [fp,e,h1],by omega,?_⟩;rw [show i - j=(i - (j+1))+1 by omega,List.set_cons_succ,h3];simp [QE,e']
   exact .inr ⟨by simp [fp,e,h1],by simp [QE,e',h2]⟩
 unfold Bq;rcases key L 0 with ⟨i,c,h1, -,h3⟩|⟨h1,h2⟩
 ·rw [h1];exact h3
 rw [h1];exact h2
theorem Ci [DecidableEq α](p:α×β)(l:List (α×β))(x:α):lk (p::l) x=if p.1=x then some p.2 else lk l x:=by
 unfold lk;rw [List.find?_cons];by_cases e:p.1=x<;>simp [e]
theorem Pp [DecidableEq α](L:List (α×β))(a:α)(b:β)(x:α):lk (Bq L a b) x=if a=x then some b else lk L x:=by
 rw [QF]
 induction L with
 |nil=>rw [QE,Ci]
 | cons p l ih=>
  unfold QE;by_cases e:p.1=a
  ·rw [if_pos e,Ci,Ci,e];by_cases e2:a=x<;>simp [e2]
  rw [if_neg e,Ci,Ci,ih];by_cases e2:p.1=x
  ·rw [if_pos e2,if_pos e2,if_neg (fun h=>e (by rw [e2,h]))]
  rw [if_neg e2,if_neg e2]
abbrev vZ:WZ:=⟨0,0,⟨#[]⟩⟩
def rY (l:List WZ)(i:Nat):WZ:=l.getD i vZ
theorem mx {l:List WZ}(h:i<l.length):aq l (i:Int)=some (rY l i):=by
 rw [aM h];unfold rY;simp [List.getD,h]
def ln (v:WZ):Bool:=(dN 0 v).getD false
theorem FN (N:Nat)(v:WZ):dN N v=some (ln v):=by
 obtain ⟨b,hb⟩:=JK 0 v;have e:dN N v=dN 0 v:=Eq.trans rfl rfl;unfold ln;rw [e,hb];rfl
def numB (v:WZ)(a b:Int):Bool:=decide (v.Zh=3)&&(decide (a<=v.N)&&decide (v.N<=b))
def noneB (v:WZ)(k:Int):Bool:=decide (v.Zh=0)||decide (v.Zh=k)
theorem yE (N:Nat)(v:WZ)(a b:Int):ij N v a b=some (numB v a b):=by
 unfold ij numB;cases decide (v.Zh=3)<;>cases decide (a<=v.N)<;>cases decide (v.N<=b)<;>rfl
theorem wh (N:Nat)(v:WZ)(k:Int):dT N v k=some (noneB v k):=by
 unfold dT noneB;cases decide (v.Zh=0)<;>cases decide (v.Zh=k)<;>rfl
def Fz (k:Int):Bool:=decide (k=1)||decide (k=2)||decide (k=3)||decide (k=6)||decide (k=8)||decide (k=9)||decide (k=10)
theorem KU (N:Nat)(k:Int):lH N k=some (Fz k):=by
 unfold lH Fz;cases decide (k=1)<;>cases decide (k=2)<;>cases decide (k=3)<;>cases decide (k=6)<;>cases decide (k=8)<;>cases decide (k=9)<;>cases decide (k=10)<;>rfl
def ot (k sh fl:Int)(l:List WZ):Bool:=
 bif Fz k||(decide (k=7)&&decide (0<l.length)) then decide (1<=l.length)&&decide (l.length<=1025)&&(decide ((rY l 0).Zh=1)||decide ((rY l 0).Zh=7))
 else bif decide (k=7) then decide (sh=0) else bif !decide (sh=0)|| !decide (fl=0) then false else bif decide (k=5) then decide (l.length=2)&&noneB (rY l 0) 7&&noneB (rY l 1) 7 else decide (l.length=0)
theorem jx {p q:Prop}[Decidable p][Decidable q](h:p↔q):decide p=decide q:=by
 by_cases hp:p
 ·rw [W9 hp,W9 (h.1 hp)]
 rw [Xa hp,Xa fun hq=>hp (h.2 hq)]
theorem Kz (N:Nat)(c:W3):kq N c=some (ot c.Zh c.Zq c.Zm c.Zj):=by
 unfold kq ot;rw [KU,bs,jx (p:=(0:Int)<(c.Zj.length:Int)) (q:=0<c.Zj.length) I,jx (p:=(1:Int)<=(c.Zj.length:Int)) (q:=1<=c.Zj.length) I,jx (p:=(c.Zj.length:Int)<=1025) (q:=c.Zj.length<=1025) I,jx (p:=(c.Zj.length:Int)=2) (q:=c.Zj.length=2) I,jx (p:=(c.Zj.length:Int)=0) (q:=c.Zj.length=0) I]
 have hA: ∀b:Bool,((bif decide (1<=c.Zj.length) then some (decide (c.Zj.length<=1025)) else some false).bind fun b8=>(bif b8 then ((aq c.Zj 0).bind fun a6=>(bif decide (a6.Zh=1) then (some true) else ((aq c.Zj 0).bind fun a7=>some (decide (a7.Zh=7)))).bind fun a8=>some a8) else (some false)).bind fun b9=>some b9)=some (decide (1<=c.Zj.length)&&decide (c.Zj.length<=1025)&&(decide ((rY c.Zj 0).Zh=1)||decide ((rY c.Zj 0).Zh=7))):=fun _=>by
  by_cases h:1<=c.Zj.length
  ·have g:aq c.Zj 0=some (rY c.Zj 0):=mx (i:=0) I;rw [W9 h,g];simp only [bs];cases decide (c.Zj.length<=1025)<;>cases decide ((rY c.Zj 0).Zh=1)<;>cases decide ((rY c.Zj 0).Zh=7)<;>rfl
  rw [Xa h];rfl
 have hB:((bif decide (c.Zj.length=2) then ((aq c.Zj 0).bind fun b0=>(dT N b0 7).bind fun b5=>some b5) else (some false)).bind fun b6=>(bif b6 then ((aq c.Zj 1).bind fun b7=>(dT N b7 7).bind fun c7=>some c7) else (some false)).bind fun c8=>some c8)=some (decide (c.Zj.length=2)&&noneB (rY c.Zj 0) 7&&noneB (rY c.Zj 1) 7):=by
  by_cases h:c.Zj.length=2
  ·have g:aq c.Zj 0=some (rY c.Zj 0):=mx (i:=0) I;have g1:aq c.Zj 1=some (rY c.Zj 1):=mx (i:=1) I;rw [W9 h,g,g1];simp only [bs,wh];cases noneB (rY c.Zj 0) 7<;>cases noneB (rY c.Zj 1) 7<;>rfl
  rw [Xa h];rfl
 rw [hA true,hB];cases Fz c.Zh<;>cases decide (c.Zh=7)<;>cases decide (0<c.Zj.length)<;>cases decide (c.Zq=0)<;>cases decide (c.Zm=0)<;>cases decide (c.Zh=5)<;>rfl
def uC:List WZ->Bool
 |k::v::r=>decide (k.Zh=7)&& !decide (v.Zh=8)&&uC r
 | [_]=>false
 | []=>true
def oT:List WZ->Bool
 |t::h::k::s::r=>decide (t.Zh=7)&& !decide (h.Zh=8)&&(noneB k 7&&numB s 0 9007199254740992)&&oT r
 | []=>true
 |_=>false
theorem rH (k v:WZ)(r:List WZ):uC (k::v::r)=(decide (k.Zh=7)&& !decide (v.Zh=8)&&uC r):=Eq.trans rfl rfl
theorem rG (t h k s:WZ)(r:List WZ):oT (t::h::k::s::r)=(decide (t.Zh=7)&& !decide (h.Zh=8)&&(noneB k 7&&numB s 0 9007199254740992)&&oT r):=Eq.trans rfl rfl
theorem HP: ∀{l:List WZ},uC l=true->l.length%2=0
 | [],_=>rfl
 | [_],h=>by cases h
 |k::v::r,h=>by
  rw [rH] at h;rw [Ze] at h;have:=HP h.2;simp only [X9];omega
theorem HO: ∀{l:List WZ},oT l=true->l.length%4=0
 | [],_=>rfl
 | [_],h=>by cases h
 | [_,_],h=>by cases h
 | [_,_,_],h=>by cases h
 |t::a::k::s::r,h=>by
  rw [rG] at h;rw [Ze] at h;have:=HO h.2;simp only [X9];omega
theorem zM {l r:List WZ}(h:l.drop i=v::r):aq l (i:Int)=some v/\l.drop (i+1)=r:=by
 have hl:i<l.length:=by
  rcases YP i l.length with h1|h1
  ·exact h1
  rw [XG h1] at h;cases h
 rw [XF hl] at h;obtain ⟨e1,e2⟩:=XC h;exact ⟨by rw [aM hl,e1],e2⟩
theorem HS (N:Nat)(l:List WZ)(hl:l.length<=2900): ∀(m i:Nat),l.length<m+i->i<=l.length->(l.length - i)%2=0->gT N 2 l m (i:Int)=some (uC (l.drop i))
 |0,i,h,h2,_=>by omega
 | m+1,i,h,h2,h3=>by
  rw [gT.eq_2]
  match hd:l.drop i with
  | []=>
   have hi:l.length<=i:=by have:=congrArg List.length hd;rw [Ya] at this;simp at this;omega
   rw [fz I,cf];rfl
  | [x]=>have:=congrArg List.length hd;rw [Ya] at this;simp at this;omega
  |k::v::r=>
   have hlen:=congrArg List.length hd;rw [Ya] at hlen;simp only [X9] at hlen;obtain ⟨g1,d1⟩:=zM hd;obtain ⟨g2,d2⟩:=zM d1;rw [show (((i+1:Nat)):Int)=(i:Int)+1 by omega] at g2;have ih:=HS N l hl m (i+2) I I I;rw [show (((i+2:Nat)):Int)=(i:Int)+2 by omega,d2] at ih;rw [fJ I,ct,g1,bs,r64 I I,g2,bs,Xa (p:=(2:Int)=4) (by decide),cf,bs,cf,r64 I I,ih];simp only [rH];cases decide (k.Zh=7)<;>cases decide (v.Zh=8)<;>rfl
theorem HQ (N:Nat)(l:List WZ)(hl:l.length<=2900): ∀(m i:Nat),l.length<m+i->i<=l.length->(l.length - i)%4=0->gT N 4 l m (i:Int)=some (oT (l.drop i))
 |0,i,h,h2,_=>by omega
 | m+1,i,h,h2,h3=>by
  rw [gT.eq_2]
  match hd:l.drop i with
  | []=>
   have hi:l.length<=i:=by have:=congrArg List.length hd;rw [Ya] at this;simp at this;omega
   rw [fz I,cf];rfl
  | [x]=>have:=congrArg List.length hd;rw [Ya] at this;simp at this;omega
  | [x,y]=>have:=congrArg List.length hd;rw [Ya] at this;simp at this;omega
  | [x,y,z]=>have:=congrArg List.length hd;rw [Ya] at this;simp at this;omega
  |t::v::k::s::r=>
   have hlen:=congrArg List.length hd;rw [Ya] at hlen;simp only [X9] at hlen;obtain ⟨g1,d1⟩:=zM hd;obtain ⟨g2,d2⟩:=zM d1;obtain ⟨g3,d3⟩:=zM d2;obtain ⟨g4,d4⟩:=zM d3;rw [show (((i+1:Nat)):Int)=(i:Int)+1 by omega] at g2;rw [show (((i+1+1:Nat)):Int)=(i:Int)+2 by omega] at g3;rw [show (((i+1+1+1:Nat)):Int)=(i:Int)+3 by omega] at g4;have ih:=HQ N l hl m (i+4) I I I;rw [show (((i+4:Nat)):Int)=(i:Int)+4 by omega,d4] at ih;rw [fJ I,ct,g1,bs,r64 I I,g2,bs,W9 (p:=(4:Int)=4) rfl,ct,r64 I I,g3,bs,wh,bs,r64 I I,g4,bs,yE,bs,r64 I I,ih];simp only [rG];cases decide (t.Zh=7)<;>cases decide (v.Zh=8)<;>cases noneB k 7<;>cases numB s 0 9007199254740992<;>rfl
theorem PR (N:Nat)(hN:6500<N)(l:List WZ)(hl:l.length<=2900):dg N l 2=some (uC l):=by
 unfold dg;rw [cj (by decide)]
 have e:(l.length:Int).tmod 2=((l.length%2:Nat):Int):=by rw [Xx I];omega
 rw [e];by_cases h:l.length%2=0
 ·rw [h,W9 (p:=((0:Nat):Int)=0) rfl,nt,cf];exact HS N l hl N 0 I I I
 rw [Xa I,nf,ct]
 cases hb:uC l with
 |false=>rfl
 |true=>exact absurd (HP hb) h
theorem PQ (N:Nat)(hN:6500<N)(l:List WZ)(hl:l.length<=2900):dg N l 4=some (oT l):=by
 unfold dg;rw [cj (by decide)]
 have e:(l.length:Int).tmod 4=((l.length%4:Nat):Int):=by rw [Xx I];omega
 rw [e];by_cases h:l.length%4=0
 ·rw [h,W9 (p:=((0:Nat):Int)=0) rfl,nt,cf];exact HQ N l hl N 0 I I I
 rw [Xa I,nf,ct]
 cases hb:oT l with
 |false=>rfl
 |true=>exact absurd (HO hb) h
def sn (k:Int)(l:List WZ):Bool:=
 bif decide (k=2) then decide (l.length<=4096)
 else bif decide (k=1)||decide (k=5) then decide (l.length=0)
 else bif decide (k=3) then decide (l.length=3)&&numB (rY l 0) 0 9007199254740992&&noneB (rY l 1) 9
 else bif decide (k=4) then decide (1<=l.length)&&decide (l.length<=4097)&&noneB (rY l 0) 9
 else bif decide (k=6) then decide (l.length=2)&&numB (rY l 0) 0 3&&noneB (rY l 1) 9
 else bif decide (k=7) then decide (4<=l.length)&&numB (rY l 2) 0 1&&numB (rY l 3) 0 9007199254740992
 else bif decide (k=8) then uC l
 else bif decide (k=10) then decide (1<=l.length)&&decide ((rY l 0).Zh=7)&&oT (l.drop 1)
 else bif decide (k=9) then decide (2<=l.length)&&numB (rY l 0) 0 2
 else true
theorem NT (N:Nat)(hN:6500<N)(c:W3)(hc:c.Zi.length<=2900):mb N c=some (sn c.Zh c.Zi):=by
 have h6: ∀p:Bool,p=(decide (c.Zh=1)||decide (c.Zh=5))->c.Zh≠2->lG N c p=some (sn c.Zh c.Zi):=by
  intro p hp h2;subst hp;unfold lG sn;rw [jk h2,cf];rcases Bool.eq_false_or_eq_true (decide (c.Zh=1)||decide (c.Zh=5)) with h15|h15
  ·rw [h15,ct,ct,jx (p:=(c.Zi.length:Int)=0) (q:=c.Zi.length=0) I]
  rw [h15,cf,cf];by_cases k3:c.Zh=3
  ·rw [tv k3,ct,ct,jx (p:=(c.Zi.length:Int)=3) (q:=c.Zi.length=3) I];by_cases h:c.Zi.length=3
   ·have g0:aq c.Zi 0=some (rY c.Zi 0):=mx (i:=0) I;have g1:aq c.Zi 1=some (rY c.Zi 1):=mx (i:=1) I;rw [W9 h,g0,g1];simp only [bs,yE,wh];cases numB (rY c.Zi 0) 0 9007199254740992<;>cases noneB (rY c.Zi 1) 9<;>rfl
   rw [Xa h];rfl
  rw [jk k3,cf,cf];by_cases k4:c.Zh=4
  ·rw [tv k4,ct,ct,jx (p:=(1:Int)<=(c.Zi.length:Int)) (q:=1<=c.Zi.length) I,jx (p:=(c.Zi.length:Int)<=4097) (q:=c.Zi.length<=4097) I];by_cases h:1<=c.Zi.length
   ·have g0:aq c.Zi 0=some (rY c.Zi 0):=mx (i:=0) I;rw [W9 h,g0];simp only [bs,wh];cases decide (c.Zi.length<=4097)<;>cases noneB (rY c.Zi 0) 9<;>rfl
   rw [Xa h];rfl
  rw [jk k4,cf,cf];by_cases k6:c.Zh=6
  ·rw [tv k6,ct,ct,jx (p:=(c.Zi.length:Int)=2) (q:=c.Zi.length=2) I];by_cases h:c.Zi.length=2
   ·have g0:aq c.Zi 0=some (rY c.Zi 0):=mx (i:=0) I;have g1:aq c.Zi 1=some (rY c.Zi 1):=mx (i:=1) I;rw [W9 h,g0,g1];simp only [bs,yE,wh];cases numB (rY c.Zi 0) 0 3<;>cases noneB (rY c.Zi 1) 9<;>rfl
   rw [Xa h];rfl
  rw [jk k6,cf,cf];by_cases k7:c.Zh=7
  ·rw [tv k7,ct,ct,jx (p:=(4:Int)<=(c.Zi.length:Int)) (q:=4<=c.Zi.length) I];by_cases h:4<=c.Zi.length
   ·have g2:aq c.Zi 2=some (rY c.Zi 2):=mx (i:=2) I;have g3:aq c.Zi 3=some (rY c.Zi 3):=mx (i:=3) I;rw [W9 h,g2,g3];simp only [bs,yE];cases numB (rY c.Zi 2) 0 1<;>cases numB (rY c.Zi 3) 0 9007199254740992<;>rfl
   rw [Xa h];rfl
  rw [jk k7,cf,cf];by_cases k8:c.Zh=8
  ·rw [tv k8,ct,ct,PR N hN _ hc,bs]
  rw [jk k8,cf,cf];by_cases a6:c.Zh=10
  ·rw [tv a6,ct,ct,jx (p:=(1:Int)<=(c.Zi.length:Int)) (q:=1<=c.Zi.length) I];by_cases h:1<=c.Zi.length
   ·have g0:aq c.Zi 0=some (rY c.Zi 0):=mx (i:=0) I;have hd:((c.Zi.drop ((1:Int).toNat)).take (c.Zi.length - (1:Int).toNat))=c.Zi.drop 1:=YC (by rw [Ya];exact YM _);rw [W9 h,g0,hd,cj ⟨by omega,by show 1<=_;omega,YM _⟩,PQ N hN _ (by rw [Ya];omega)];simp only [bs];cases decide ((rY c.Zi 0).Zh=7)<;>cases oT (c.Zi.drop 1)<;>rfl
   rw [Xa h];rfl
  rw [jk a6,cf,cf];by_cases k9:c.Zh=9
  ·rw [tv k9,ct,ct,jx (p:=(2:Int)<=(c.Zi.length:Int)) (q:=2<=c.Zi.length) I];by_cases h:2<=c.Zi.length
   ·have g0:aq c.Zi 0=some (rY c.Zi 0):=mx (i:=0) I;rw [W9 h,g0];simp only [bs,yE];cases numB (rY c.Zi 0) 0 2<;>rfl
   rw [Xa h];rfl
  rw [jk k9,cf,cf]
 unfold mb;rw [fz I,cf];by_cases k2:c.Zh=2
 ·rw [tv k2,ct];unfold sn;rw [tv k2,ct,jx (p:=(c.Zi.length:Int)<=4096) (q:=c.Zi.length<=4096) I]
 rw [jk k2,cf];by_cases k1:c.Zh=1
 ·rw [tv k1,ct];exact h6 _ (by rw [tv k1];rfl) k2
 rw [jk k1,cf];exact h6 _ (by rw [jk k1];rfl) k2
def bQ (c:W3):Bool:=
 (!decide (c.Zh<1)&& !decide (11<c.Zh)&& !decide (c.Zq<0)&& !decide (c.Zm<0)&& !decide (63<c.Zm)&& !decide (c.Zn<0)&& !decide (1<c.Zn))&&(c.Zj.all ln&&(c.Zi.all ln&&(ot c.Zh c.Zq c.Zm c.Zj&&sn c.Zh c.Zi)))
theorem AH (N:Nat)(hN:6500<N)(c:W3)(hS:c.Zj.length<=1000)(hc:c.Zi.length<=2900):fL N c=some (bQ c):=by
 have h19:dh N c=some (ot c.Zh c.Zq c.Zm c.Zj&&sn c.Zh c.Zi):=by
  unfold dh;rw [Kz,NT N hN c hc,bs];cases ot c.Zh c.Zq c.Zm c.Zj<;>rfl
 have h20:oO N c N 0=some (c.Zi.all ln&&(ot c.Zh c.Zq c.Zm c.Zj&&sn c.Zh c.Zi)):=by
  rw [Hx (fun k i=>oO N c k i) c.Zi ln (some false) (some (ot c.Zh c.Zq c.Zm c.Zj&&sn c.Zh c.Zi)) (fun k i h=> ?_) (fun k=> ?_) N I]
  ·cases c.Zi.all ln<;>rfl
  ·rw [oO.eq_2,fJ I,ct,aM h,bs,FN,bs,r64 I I];cases ln c.Zi[i]<;>rfl
  rw [oO.eq_2,fz I,cf,h19]
 have h12:iY N c N 0=some (c.Zj.all ln&&(c.Zi.all ln&&(ot c.Zh c.Zq c.Zm c.Zj&&sn c.Zh c.Zi))):=by
  rw [Hx (fun k i=>iY N c k i) c.Zj ln (some false) (some (c.Zi.all ln&&(ot c.Zh c.Zq c.Zm c.Zj&&sn c.Zh c.Zi))) (fun k i h=> ?_) (fun k=> ?_) N I]
  ·cases c.Zj.all ln<;>rfl
  ·rw [iY.eq_2,fJ I,ct,aM h,bs,FN,bs,r64 I I];cases ln c.Zj[i]<;>rfl
  rw [iY.eq_2,fz I,cf];unfold Ao;exact h20
 unfold fL bQ;rw [h12];cases decide (c.Zh<1)<;>cases decide (11<c.Zh)<;>cases decide (c.Zq<0)<;>cases decide (c.Zm<0)<;>cases decide (63<c.Zm)<;>cases decide (c.Zn<0)<;>cases decide (1<c.Zn)<;>rfl
theorem FZ (N:Nat)(x:Int)(l:List Int)(hl:l.length<=5000): ∀(m i:Nat),l.length<m+i->i<=l.length->Sat (mn N x l m (i:Int)) fun r=>decide (0<=r)=decide (x∈l.drop i)
 |0,i,h,h2=>by omega
 | m+1,i,h,h2=>by
  rw [mn.eq_2];by_cases hi:i<l.length
  ·rw [fJ I,ct,aM hi,bs,XF hi]
   refine aC (fun e=> ?_) fun e=> ?_
   ·exact ad (by rw [W9 I,W9];rw [e];exact Yl ..)
   rw [r64 I I];have:=FZ N x l hl m (i+1) I hi;simp only [Xv,Xt] at this
   refine this.mono fun r hr=> ?_
   rw [hr];have:(x∈l[i]::l.drop (i+1))↔x∈l.drop (i+1):=⟨fun h=>(Yj.1 h).resolve_left (fun e2=>e e2),Yk _⟩;rw [decide_eq_decide];exact this.symm
  rw [fz I,cf,XG I];exact ad (by simp)
theorem Ay (N:Nat)(hN:6500<N)(l:List Int)(hl:l.length<=5000)(x:Int):kf N l x=some (decide (x∈l)):=by
 obtain ⟨r,h1,h2⟩:=FZ N x l hl N 0 I I;unfold kf uc;rw [show mn N x l N 0=some r from h1,bs,h2];rfl
theorem VD (N:Nat)(hN:6500<N)(l:List Int)(hl:l.length<=5000)(x:Int):Fu N x l=some (decide (x∈l)):=by
 apply Sat.eq;unfold Fu
 have key: ∀(m i:Nat),l.length<m+i->i<=l.length->Sat (Db N x l m (i:Int)) (· =decide (x∈l.drop i)):=by
  intro m
  induction m with
  |zero=>intro i h h2;omega
  | succ m ih=>
   intro i h h2;rw [Db.eq_2];by_cases hi:i<l.length
   ·rw [fJ I,ct,aM hi,bs,XF hi]
    refine aC (fun e=> ?_) fun e=> ?_
    ·exact ad (by rw [W9];rw [e];exact Yl ..)
    rw [r64 I I];have:=ih (i+1) I hi;simp only [Xv,Xt] at this
    refine this.mono fun r hr=> ?_
    rw [hr];have:(x∈l[i]::l.drop (i+1))↔x∈l.drop (i+1):=⟨fun h=>(Yj.1 h).resolve_left (fun e2=>e e2.symm),Yk _⟩;rw [decide_eq_decide];exact this.symm
   rw [fz I,cf,XG I];exact ad (by simp)
 exact key N 0 I I
theorem VC (N:Nat)(hN:6500<N)(l:List Int)(hl:l.length<=5000)(x:Int):Fs N l x=some (decide (x∈l)):=by
 apply Sat.eq;unfold Fs
 have key: ∀(m i:Nat),l.length<m+i->i<=l.length->Sat (Da N x l m (i:Int)) (· =decide (x∈l.drop i)):=by
  intro m
  induction m with
  |zero=>intro i h h2;omega
  | succ m ih=>
   intro i h h2;rw [Da.eq_2];by_cases hi:i<l.length
   ·rw [fJ I,ct,aM hi,bs,XF hi]
    refine aC (fun e=> ?_) fun e=> ?_
    ·exact ad (by rw [W9];rw [e];exact Yl ..)
    rw [r64 I I];have:=ih (i+1) I hi;simp only [Xv,Xt] at this
    refine this.mono fun r hr=> ?_
    rw [hr];have:(x∈l[i]::l.drop (i+1))↔x∈l.drop (i+1):=⟨fun h=>(Yj.1 h).resolve_left (fun e2=>e e2.symm),Yk _⟩;rw [decide_eq_decide];exact this.symm
   rw [fz I,cf,XG I];exact ad (by simp)
 exact key N 0 I I
def opens (p:Int->Bool):List WZ->List Int
 |k::v::l=>(bif bO v&&p k.N then [v.N] else [])++opens p l
 |_=> []
theorem rq (p:Int->Bool)(k v:WZ)(l:List WZ):opens p (k::v::l)=(bif bO v&&p k.N then [v.N] else [])++opens p l:=rfl
theorem Ho (p:Int->Bool): ∀l:List WZ,(opens p l).length<=l.length
 | []=>YM _
 | [_]=>YT _
 |k::v::l=>by
  have:=Ho p l;rw [rq,Za];cases bO v&&p k.N<;>simp<;>omega
theorem Hm: ∀{l:List WZ},x∈opens p l-> ∃v∈l,v.N=x
 | [],h=>by cases h
 | [_],h=>by cases h
 | k::v::l,h=>by
  rw [rq,Yi] at h;rcases h with h|h
  ·cases hb:bO v&&p k.N
   ·rw [hb] at h;cases h
   rw [hb] at h;exact ⟨v,by simp,(Ys.1 h).symm⟩
  obtain ⟨w,h1,h2⟩:=Hm h;exact ⟨w,by simp [h1],h2⟩
theorem JE {q:Int->Bool}(h:∀x,p x=q x)(l:List WZ):opens p l=opens q l:=by rw [show p=q from funext h]
theorem wl (v:WZ):((bif decide (v.Zh=7) then (some true) else (some (decide (v.Zh=9)))):Option Bool)=some (bO v):=by unfold bO;cases decide (v.Zh=7)<;>rfl
def iL (c:W3)(l:List Int):List Int:=bif uy N c then opens (fun x=>decide (x∈l)) c.Zi else []
theorem K1 (N:Nat)(c:W3)(l:List Int):(iL N c l).length<=c.Zi.length:=by
 unfold iL;cases uy N c
 ·exact YT _
 exact Ho _ _
theorem K0 {N:Nat}(h:x∈iL N c l): ∃v∈c.Zj++c.Zi,v.N=x:=by
 unfold iL at h;cases hw:uy N c
 ·rw [hw] at h;cases h
 rw [hw] at h;obtain ⟨v,h1,h2⟩:=Hm h;exact ⟨v,by simp [h1],h2⟩
theorem KZ (N:Nat)(hN:6500<N)(l:List Int)(hl:l.length<=5000)(k v:WZ)(s:List Int)(hs:s.length<=5000):cM (fun x st=>jn N l x st) (k,v) (none,s)=some (true,(none,s++(bif bO v&&decide (k.N∈l) then [v.N] else []))):=by
 unfold cM jn;simp only [wl,bs,Ay N hN l hl];cases bO v
 ·simp only [cf,bs,Xq,XB];rfl
 simp only [ct,bs,Xs];cases decide (k.N∈l)
 ·simp only [cf,XB];rfl
 simp only [ct];rw [rF (by simp;omega)];rfl
theorem CF (N:Nat)(hN:6500<N)(l:List Int)(hl:l.length<=5000)(c:W3)(hc:c.Zi.length<=2900)(he:c.Zi.length%2=0): ∀(m i:Nat) (s:List Int),c.Zi.length<m+i->i<=c.Zi.length->i%2=0->s.length<=i->eJ N (cM (fun x st=>jn N l x st)) c m (i:Int) (none,s)=some (none,s++opens (fun x=>decide (x∈l)) (c.Zi.drop i))
 |0,i,s,h,h2,_,_=>by omega
 | m+1,i,s,h,h2,h3,h4=>by
  rw [eJ.eq_2,r64 (a:=(i:Int)+1) I I];by_cases hi:i<c.Zi.length
  ·have hi1:i+1<c.Zi.length:=by omega
   have a6:aq c.Zi ((i:Int)+1)=some c.Zi[i+1]:=by
    have:=aM hi1;simpa using this
   rw [fJ I,ct,aM hi,bs,r64 (a:=(i:Int)+1) I I,a6,bs,KZ N hN l hl _ _ s I,bs];simp only [nt,cf];rw [r64 I I]
   have hlen:(s++(bif bO c.Zi[i+1]&&decide (c.Zi[i].N∈l) then [c.Zi[i+1].N] else [])).length<=i+2:=by
    cases bO c.Zi[i+1]&&decide (c.Zi[i].N∈l)<;>simp<;>omega
   have:=CF N hN l hl c hc he m (i+2) _ I I I hlen;simp only [Xv,Xt] at this;rw [this,XF hi,XF hi1,rq,Xc]
  rw [fz I,cf,XG I];simp [opens]
theorem KY (N:Nat)(hN:6500<N)(l:List Int)(hl:l.length<=5000)(c:W3)(hS:c.Zj.length<=1000)(hc:c.Zi.length<=2900):sV N c l=some (iL N c l):=by
 obtain ⟨-,h1,h2⟩:=Li N I c hS hc;unfold sV iL kc;rw [h1,bs];cases hw:uy N c
 ·rfl
 have e:nk N c=some ():=rfl;have:=CF N hN l hl c hc (h2 hw) N 0 [] I I rfl (by simp);simp only [nt,cf,ct,e,bs];have h3:eJ N (cM (fun x st=>jn N l x st)) c N 0 (none,[])=some (none,[]++opens (fun x=>decide (x∈l)) (c.Zi.drop 0)):=this;rw [h3,bs];rfl
theorem NJ (N:Nat)(hN:6500<N)(l:List Int)(hl:l.length<=5000)(c:W3)(hS:c.Zj.length<=1000)(hc:c.Zi.length<=2900):yA N c l=some (iL N c l):=by
 obtain ⟨h1, -,h2⟩:=Li N I c hS hc;unfold yA iL;cases hw:uy N c
 ·obtain ⟨n,rfl⟩: ∃n,N=n+1:=⟨N - 1,by omega⟩;rw [tl.eq_2,h1,bs,hw];simp only [cf,bs];rfl
 have he:=h2 hw
 have key: ∀(m i:Nat) (s:List Int),c.Zi.length<m+i->i<=c.Zi.length->i%2=0->s.length<=i->tl N l c m s (i:Int)=some (s++opens (fun x=>decide (x∈l)) (c.Zi.drop i)):=by
  intro m
  induction m with
  |zero=>intro i s h h2;omega
  | succ m ih=>
   intro i s h h2 h3 h4;rw [tl.eq_2,h1,bs,hw,ct,bs];by_cases hi:i<c.Zi.length
   ·have hi1:i+1<c.Zi.length:=by omega
    have a6:aq c.Zi ((i:Int)+1)=some c.Zi[i+1]:=by
     have:=aM hi1;simpa using this
    rw [fJ I,ct,r64 (a:=(i:Int)+1) I I,a6,bs,aM hi,bs,VD N hN l hl,bs];simp only [wl,bs]
    have hlen:(s++(bif bO c.Zi[i+1]&&decide (c.Zi[i].N∈l) then [c.Zi[i+1].N] else [])).length<=i+2:=by
     cases bO c.Zi[i+1]&&decide (c.Zi[i].N∈l)<;>simp<;>omega
    have:=ih (i+2) _ I I I hlen;simp only [Xv,Xt] at this;rw [XF hi,XF hi1,rq, <-Xc, <-this];unfold vH;rw [r64 (a:=(i:Int)+2) I I,r64 (a:=(i:Int)+2) I I];cases decide (c.Zi[i].N∈l)
    ·simp only [cf,bs,Xp,XB]
    cases bO c.Zi[i+1]
    ·simp only [ct,cf,bs,Bool.and_true,XB]
    simp only [ct,bs,Bool.and_true];rw [rF (by simp;omega)]
   rw [fz I,cf,XG I];simp [opens,BP]
 have:=key N 0 [] I I rfl (by simp);simpa using this
theorem FL: ∀(b:Nat) {l:List Int},l.Nodup->(∀x∈l,1<=x/\x<=(b:Int))->l.length<=b
 |0,l,_,h=>by
  cases l with
  |nil=>exact YM _
  |cons x l=>have:=h x (by simp);omega
 | b+1,l,hn,h=>by
  have h1:=FL b (hn.erase ((b:Int)+1)) fun x hx=>by
   obtain ⟨h2,h3⟩:=hn.mem_erase_iff.1 hx;have:=h x h3;omega
  have h2:=List.length_erase (a:=(b:Int)+1) (l:=l);split at h2<;>omega
theorem Tp (kv:List (Int×Unit))(a:Int):(lk kv a).isSome=decide (a∈kv.map (·.1)):=by
 unfold lk;rw [Bool.eq_iff_iff];simp [List.find?_isSome,Yn]
def W64 (m:WY):Prop:= ∀c∈m.Zp++m.Zr, ∀v∈c.Zj++c.Zi,in64 v.N
theorem W64.at_ (h:W64 m)(a:Int): ∀v∈(cp m a).Zj++(cp m a).Zi,in64 v.N:=by
 unfold cp
 cases hc:kH m a with
 |none=>intro v hv;simp [G4] at hv
 |some c=>exact h c (xi hc)
structure Tr (m:WY) (all:List Int) (met:List (Int×Unit)):Prop where
 nd:all.Nodup
 mem: ∀x,x∈met.map (·.1)↔x∈all
 has: ∀x∈all,aZ m x=true
theorem Tr.len {roots:List WZ}(hs:Small m roots){all:List Int}(h:Tr m all met):all.length<=1200:=FL 1200 h.nd fun x hx=>⟨by have:=wo (h.has x hx);omega,by have:=Cs hs (h.has x hx);omega⟩
theorem Tr.in64 {roots:List WZ}(hs:Small m roots){all:List Int}(h:Tr m all met)(hx:x∈all):in64 x:=by
 have h1:=wo (h.has x hx);have h2:=Cs hs (h.has x hx);unfold Go.Proofs.YtmcifcmlojonnaaGreatDoor.in64;omega
theorem Tr.add {all:List Int}(h:Tr m all met)(hx:x∉all)(hh:aZ m x=true):Tr m (all++ [x]) (Bq met x ()):=⟨Yt.2 ⟨h.nd,by simp,fun a ha b hb e=>by rw [Ys] at hb;subst hb;subst e;exact hx ha⟩,fun y=>by
 rw [QG,Yi,Ys,h.mem y];exact Or.comm,fun y hy=>by
 rcases Yi.1 hy with hy|hy
 ·exact h.has y hy
 ·rw [Ys] at hy;subst hy;exact hh⟩
theorem JM {roots:List WZ}(hs:Small m roots)(hw:W64 m)(a:Int):(gq (cp m a)).length<=3600/\ ∀x∈gq (cp m a),in64 x:=by
 have h1:=hs.at_ a;have h2:=ux (cp m a);refine ⟨by omega,fun x hx=> ?_⟩;obtain ⟨v,h3,rfl⟩:=FV hx;exact hw.at_ a v h3
structure Gr where
 has:Int->Bool
 leads:Int->List Int
 opens:List Int->Int->List Int
def mg (has:Int->Bool):List Int->List Int->List Int
 |row,[]=>row
 |row,x::l=>mg has (bif has x&& !decide (x∈row) then row++ [x] else row) l
inductive Thr (g:Gr):List Int->Nat->List Int->Prop
 |done {row:List Int} {k:Nat}:row.length<=k->Thr g row k row
 |step {row:List Int} {k:Nat} {a:Int} {r:List Int}:row[k]? =some a->Thr g (mg g.has row (g.leads a)) (k+1) r->Thr g row k r
def pO (g:Gr):List Int->List Int->List Int
 |row,[]=>row
 |row,a::avs=>pO g (mg g.has row (g.opens row a)) avs
inductive Ord (g:Gr):List Int->List Int->Prop
 |done {row:List Int}:pO g row row=row->Ord g row row
 |step {row r1 r:List Int}:pO g row row≠row->Thr g (pO g row row) row.length r1->Ord g r1 r->Ord g row r
structure IsOrder (g:Gr) (roots:List Int) (b l:List Int):Prop where
 strong:Thr g (mg g.has [] roots) 0 b
 all:Ord g b l
theorem mv (has:Int->Bool): ∀(row l:List Int), ∃t,mg has row l=row++t/\(∀x∈t,has x=true/\x∈l)
 |row,[]=>⟨[],by simp [mg],by simp⟩
 | row,x::l=>by
  unfold mg
  cases h:has x&& !decide (x∈row) with
  |false=>
   obtain ⟨t,h1,h2⟩:=mv has row l;exact ⟨t,h1,fun y hy=>⟨(h2 y hy).1,by simp [(h2 y hy).2]⟩⟩
  |true=>
   obtain ⟨t,h1,h2⟩:=mv has (row++ [x]) l;refine ⟨x::t,by rw [cond_true,h1];simp,fun y hy=> ?_⟩;rw [Ze] at h;rcases Yj.1 hy with e|hy
   ·subst e;exact ⟨h.1,by simp⟩
   exact ⟨(h2 y hy).1,by simp [(h2 y hy).2]⟩
theorem Ck (has:Int->Bool): ∀(row l l':List Int),mg has row (l++l')=mg has (mg has row l) l'
 |_,[],_=>rfl
 |row,x::l,l'=>by
  show mg has _ (l++l')=_;rw [Ck has _ l l'];rfl
theorem rv {has:Int->Bool}: ∀{row:List Int} (l:List Int),row.Nodup->(mg has row l).Nodup
 |_,[],h=>h
 | row,x::l,h=>by
  unfold mg
  cases h2:has x&& !decide (x∈row) with
  |false=>exact rv l h
  |true=>
   rw [Ze] at h2
   have hx:x∉row:=by simpa using h2.2
   exact rv l (Yt.2 ⟨h,by simp,fun a ha b hb e=>by rw [Ys] at hb;subst hb;subst e;exact hx ha⟩)
theorem Cm {has:Int->Bool}: ∀(row l:List Int) {x:Int},x∈l->has x=true->x∈mg has row l
 | row,y::l,x,h,hx=>by
  unfold mg;rcases Yj.1 h with e|h
  ·subst e;obtain ⟨t,h1, -⟩:=mv has (bif has x&& !decide (x∈row) then row++ [x] else row) l;rw [h1];refine Xd _ ?_;rw [hx,Xs];by_cases hm:x∈row<;>simp [hm]
  exact Cm _ l h hx
theorem Cl {has:Int->Bool}(h:x∈mg has row l):x∈row\/(has x=true/\x∈l):=by
 obtain ⟨t,h1,h2⟩:=mv has row l;rw [h1] at h;rcases Yi.1 h with h|h
 ·exact .inl h
 exact .inr (h2 x h)
theorem wa (g:Gr): ∀(row avs:List Int), ∃t,pO g row avs=row++t
 |row,[]=>⟨[],by simp [pO]⟩
 |row,a::avs=>by
  obtain ⟨t,h1, -⟩:=mv g.has row (g.opens row a);obtain ⟨t2,h2⟩:=wa g (mg g.has row (g.opens row a)) avs;exact ⟨t++t2,by unfold pO;rw [h2,h1,Xc]⟩
theorem Dc (g:Gr): ∀(row avs bs:List Int),pO g row (avs++bs)=pO g (pO g row avs) bs
 |_,[],_=>rfl
 |row,a::avs,bs=>by
  show pO g _ (avs++bs)=_;rw [Dc g _ avs bs];rfl
theorem DW {g:Gr}: ∀{row:List Int} (avs:List Int),row.Nodup->(pO g row avs).Nodup
 |_,[],h=>h
 |_,_::avs,h=>DW avs (rv _ h)
theorem Hj {g:Gr}: ∀{row:List Int} (avs:List Int),(∀x∈row,g.has x=true)-> ∀x∈pO g row avs,g.has x=true
 |_,[],h=>h
 |_,_::avs,h=>Hj avs fun x hx=>(Cl hx).elim (h x) (·.1)
theorem Thr.app {g:Gr}{r:List Int}(h:Thr g row k r): ∃t,r=row++t:=by
 induction h with
 |done _=>exact ⟨[],by simp⟩
 |step _ _ ih=>
  rename_i row _ a _ _ _
  obtain ⟨t,rfl⟩:=ih;obtain ⟨t2,h1, -⟩:=mv g.has row (g.leads a);exact ⟨t2++t,by rw [h1,Xc]⟩
theorem Thr.nodup {g:Gr}{r:List Int}(h:Thr g row k r)(hn:row.Nodup):r.Nodup:=by
 induction h with
 |done _=>exact hn
 |step _ _ ih=>exact ih (rv _ hn)
theorem Thr.has {g:Gr}{r:List Int}(h:Thr g row k r)(hn:∀x∈row,g.has x=true): ∀x∈r,g.has x=true:=by
 induction h with
 |done _=>exact hn
 |step _ _ ih=>exact ih fun x hx=>(Cl hx).elim (hn x) (·.1)
theorem Thr.det {g:Gr}{r r':List Int}(h:Thr g row k r)(h':Thr g row k r'):r=r':=by
 induction h with
 |done hk=>
  cases h' with
  |done _=>rfl
  |step ha _=>rw [XY hk] at ha;cases ha
 |step ha _ ih=>
  cases h' with
  |done hk=>rw [XY hk] at ha;cases ha
  |step ha' h2=>rw [ha] at ha';cases ha';exact ih h2
theorem Ord.det {g:Gr}{r r':List Int}(h:Ord g row r)(h':Ord g row r'):r=r':=by
 induction h with
 |done hk=>
  cases h' with
  |done _=>rfl
  |step ha _ _=>exact absurd hk ha
 |step ha h1 _ ih=>
  cases h' with
  |done hk=>exact absurd hk ha
  |step _ h1' h2=>exact ih (h1.det h1'▸h2)
theorem IsOrder.det {g:Gr}{roots b b' l':List Int}(h:IsOrder g roots b l)(h':IsOrder g roots b' l'):b=b'/\l=l':=by
 obtain ⟨h1,h2⟩:=h;obtain ⟨h3,h4⟩:=h';have e:=h1.det h3;subst e;exact ⟨J,h2.det h4⟩
theorem Ord.app {g:Gr}{r:List Int}(h:Ord g row r): ∃t,r=row++t:=by
 induction h with
 |done _=>exact ⟨[],by simp⟩
 |step _ h1 _ ih=>
  rename_i row r1 _ _ _
  obtain ⟨t,rfl⟩:=ih;obtain ⟨t1,rfl⟩:=h1.app;obtain ⟨t2,h2⟩:=wa g row row;exact ⟨t2++t1++t,by rw [h2];simp [Xc]⟩
theorem Ord.nodup {g:Gr}{r:List Int}(h:Ord g row r)(hn:row.Nodup):r.Nodup:=by
 induction h with
 |done _=>exact hn
 |step _ h1 _ ih=>exact ih (h1.nodup (DW _ hn))
theorem Ord.has {g:Gr}{r:List Int}(h:Ord g row r)(hn:∀x∈row,g.has x=true): ∀x∈r,g.has x=true:=by
 induction h with
 |done _=>exact hn
 |step _ h1 _ ih=>exact ih (h1.has (Hj _ hn))
theorem IsOrder.nodup {g:Gr}{roots b:List Int}(h:IsOrder g roots b l):b.Nodup/\l.Nodup:=
 have hb:=h.strong.nodup (rv _ List.nodup_nil)
 ⟨hb,h.all.nodup hb⟩
theorem IsOrder.has {g:Gr}{roots b:List Int}(h:IsOrder g roots b l):(∀x∈b,g.has x=true)/\ ∀x∈l,g.has x=true:=
 have hb:=h.strong.has fun x hx=>(Cl hx).elim (fun h=>by cases h) (·.1)
 ⟨hb,h.all.has hb⟩
theorem IsOrder.sub {g:Gr}{roots b:List Int}(h:IsOrder g roots b l)(hx:x∈b):x∈l:=by
 obtain ⟨t,e⟩:=h.all.app;rw [e];exact Xd _ hx
theorem IsOrder.roots {g:Gr}{roots b:List Int}(h:IsOrder g roots b l)(hx:x∈roots)(hh:g.has x=true):x∈b:=by
 obtain ⟨t,e⟩:=h.strong.app;rw [e];exact Xd _ (Cm _ _ hx hh)
def CloG (g:Gr)(row:List Int)(k:Nat):Prop:= ∀(i:Nat) (a x:Int),i<k->row[i]? =some a->x∈g.leads a->g.has x=true->x∈row
theorem CloG.app {g:Gr}{t:List Int}(hk:k<=row.length)(h:CloG g row k):CloG g (row++t) k:=fun i a x hi ha hx hh=>by
 rw [XS I] at ha;exact Xd _ (h i a x hi ha hx hh)
theorem Thr.clo {g:Gr}{r:List Int}(h:Thr g row k r)(hk:k<=row.length)(hc:CloG g row k):CloG g r r.length:=by
 induction h with
 |done a6=>intro i a x hi ha hx hh;exact hc i a x I ha hx hh
 | step ha _ ih=>
  rename_i row k a _ _
  have hlt:=(XZ.1 ha).1;obtain ⟨t,h1, -⟩:=mv g.has row (g.leads a)
  refine ih (by rw [h1,Za];omega) fun i b x hi hb hx hh=> ?_
  by_cases e:i=k
  ·subst e;rw [h1,XS hlt,ha] at hb;cases hb;exact Cm _ _ hx hh
  rw [h1] at hb⊢;exact (CloG.app hk hc (t:=t)) i b x I hb hx hh
theorem Hk {g:Gr}: ∀{row avs:List Int},pO g row avs=row-> ∀a∈avs, ∀x∈g.opens row a,g.has x=true->x∈row
 | row,b::avs,h,a,ha,x,hx,hh=>by
  have h1:mg g.has row (g.opens row b)=row:=by
   obtain ⟨t,e1, -⟩:=mv g.has row (g.opens row b);obtain ⟨t2,e2⟩:=wa g (mg g.has row (g.opens row b)) avs
   have h3:row++t++t2=row:=by rw [<-e1, <-e2];exact h
   have h4:=congrArg List.length h3;simp only [Za] at h4;have h5:t=[]:=XK I;rw [e1,h5,XB]
  rcases Yj.1 ha with e|ha
  ·subst e;have:=Cm row _ hx hh;rwa [h1] at this
  refine Hk (avs:=avs) ?_ a ha x hx hh;unfold pO at h;rw [h1] at h;exact h
theorem Ord.closed {g:Gr}{r:List Int}(h:Ord g row r)(hc:CloG g row row.length):CloG g r r.length/\ ∀a∈r, ∀x∈g.opens r a,g.has x=true->x∈r:=by
 induction h with
 |done hp=>exact ⟨hc,Hk hp⟩
 |step _ h1 _ ih=>
  rename_i row _ _ _ _
  obtain ⟨t,e⟩:=wa g row row;refine ih (h1.clo (by rw [e,Za];omega) ?_);rw [e];exact hc.app (YM _)
theorem IsOrder.closed {g:Gr}{roots b:List Int}(h:IsOrder g roots b l):(∀a∈l, ∀x∈g.leads a,g.has x=true->x∈l)/\ ∀a∈l, ∀x∈g.opens l a,g.has x=true->x∈l:=by
 obtain ⟨h1,h2⟩:=h.all.closed (h.strong.clo (YT _) fun i _ _ hi=>absurd hi I);refine ⟨fun a ha x hx hh=> ?_,h2⟩;obtain ⟨i,hi,e⟩:=X8 ha;exact h1 i a x hi (by rw [XX hi,e]) hx hh
def GA (m:WY):Gr:=⟨aZ m,fun a=>gq (cp m a),fun row a=>iL N (cp m a) row⟩
def dJ (l:List WZ):List Int:=(l.filter bO).map (·.N)
theorem DA (l l':List WZ):dJ (l++l')=dJ l++dJ l':=by unfold dJ;simp
theorem tS {l:List WZ}:x∈dJ l↔ ∃v∈l,bO v=true/\v.N=x:=by
 unfold dJ;simp only [Yn,Ym];constructor
 ·rintro ⟨v,⟨h1,h2⟩,h3⟩;exact ⟨v,h1,h2,h3⟩
 rintro ⟨v,h1,h2,h3⟩;exact ⟨v,⟨h1,h2⟩,h3⟩
theorem ID (N:Nat){roots:List WZ}(hN:6500<N)(hs:Small m roots)(d:Int)(l:List Int)(hl:l.length<=3600)(h64:∀x∈l,in64 x){all:List Int}(ht:Tr m all met):
  Sat (eG N ⟨m,all,met,d⟩ l) fun r=>r.m_=m/\r.ZO=d/\Tr m r.ZE r.ZQ/\r.ZE=mg (aZ m) all l:=by
 unfold eG;refine jt (fun k i (s:List Int×List (Int×Unit))=>df N l ⟨m,all,met,d⟩ k (i:Int) s.1 s.2) l.length (fun i s=>Tr m s.1 s.2/\s.1=mg (aZ m) all (l.take i)) _ ?_ ?_ N 0 (all,met) I I ⟨ht,J⟩
 ·rintro k i ⟨al,mt⟩ hi ⟨h1,h2⟩ go;show Sat (df N l ⟨m,all,met,d⟩ (k+1) i al mt) _;simp only at h1 h2;have a6:=h64 l[i] (Zg _)
  have hnext:mg (aZ m) all (l.take (i+1))=(bif aZ m l[i]&& !decide (l[i]∈al) then al++ [l[i]] else al):=by
   rw [cn hi,Ck, <-h2];rfl
  rw [df.eq_2,fJ I,ct,aM hi,bs,Tp];unfold kk;rw [r64 (a:=(i:Int)+1) I I,r64 (a:=(i:Int)+1) I I];by_cases hm:l[i]∈al
  ·rw [W9 ((h1.mem _).2 hm)];simp only [nt,cf,bs];exact go (al,mt) ⟨h1,by rw [hnext,W9 hm];simp⟩
  rw [Xa (fun h=>hm ((h1.mem _).1 h))];simp only [nf,ct,bs,F2 N m _ a6];cases hh:aZ m l[i]
  ·simp only [cf];exact go (al,mt) ⟨h1,by rw [hnext,hh];rfl⟩
  simp only [ct];have hlen:=h1.len hs;rw [rF (by simp;omega)];exact go (al++ [l[i]],Bq mt l[i] ()) ⟨h1.add hm hh,by rw [hnext,hh,Xa hm];rfl⟩
 rintro k ⟨al,mt⟩ ⟨h1,h2⟩;show Sat (df N l ⟨m,all,met,d⟩ (k+1) _ al mt) _;rw [df.eq_2,fz I,cf];exact ad ⟨J,J,h1,by simpa using h2⟩
theorem DM (N:Nat)(hN:6500<N){roots:List WZ}(hs:Small m roots)(hw:W64 m){all:List Int}(ht:Tr m all met)(k:Nat)(hk:k<=all.length):
  Sat (iB N ⟨m,all,met,(k:Int)⟩) fun r=>r.m_=m/\r.ZO=(r.ZE.length:Int)/\Tr m r.ZE r.ZQ/\Thr (GA N m) all k r.ZE:=by
 unfold iB;refine wi (fun f (s:List Int×List (Int×Unit)×Nat)=>gP N f m.Zp m.Zr s.1 s.2.1 (s.2.2:Int)) (fun s=>1300 - s.2.2) (fun s=>Tr m s.1 s.2.1/\s.2.2<=s.1.length/\ ∀r,Thr (GA N m) s.1 s.2.2 r->Thr (GA N m) all k r) _ ?_ N (all,met,k) (by show 1300 - k<N;omega) ⟨ht,hk,fun _ h=>h⟩;rintro f ⟨al,mt,j⟩ ⟨h1,h3,h4⟩ go;show Sat (gP N (f+1) m.Zp m.Zr al mt (j:Int)) _;simp only at h1 h3 h4;have hlen:=h1.len hs;rw [gP.eq_2];by_cases hj:j<al.length
 ·have hx:=Zg hj;have hat:=I0 N hs al[j] (h1.in64 hs hx);have hsm:=hs.at_ al[j];obtain ⟨a6,a7⟩:=JM hs hw al[j];rw [fJ I,ct,aM hj,bs];have hat':lV N ⟨m.Zp,m.Zr⟩ al[j]=some (cp m al[j]):=hat;rw [hat',bs,AT N I _ I I,bs];refine Sat.bind (ID N hN hs (j:Int) _ a6 a7 h1) ?_;rintro ⟨m',al',mt',d'⟩ ⟨e1,e2,h5,h6⟩;simp only at e1 e2 h5 h6;subst e1 e2;have hlen':=h5.len hs
  dsimp only
  rw [r64 I I]
  have hge:al.length<=al'.length:=by
   obtain ⟨t,e, -⟩:=mv (aZ m') al (gq (cp m' al[j]));rw [h6,e,Za];omega
  have hgo:=go (al',mt',j+1) (by show 1300 - (j+1)<1300 - j;omega) ⟨h5,by show j+1<=al'.length;omega,fun r hr=>h4 r (.step (XX hj) (by rw [h6] at hr;exact hr))⟩;simpa using hgo
 have:j=al.length:=by omega
 subst this;rw [fz I,cf];exact ad ⟨J,J,h1,h4 _ (.done (YM _))⟩
theorem Ou (N:Nat)(hN:6500<N){roots:List WZ}(hs:Small m roots)(hw:W64 m)(hr:∀v∈roots,in64 v.N):
  Sat (oM N m roots) fun r=>r.m_=m/\r.ZO=(r.ZE.length:Int)/\Tr m r.ZE r.ZQ/\Thr (GA N m) (mg (aZ m) [] (dJ roots)) 0 r.ZE:=by
 have hrl:=hs.roots;unfold oM;refine jt (fun k i (s:List Int×List (Int×Unit))=>jV N roots k (i:Int) m.Zp m.Zr s.1 s.2 0) roots.length (fun i s=>Tr m s.1 s.2/\s.1=mg (aZ m) [] (dJ (roots.take i))) _ ?_ ?_ N 0 ([],[]) I I ⟨⟨by simp,by simp,by simp⟩,J⟩
 ·rintro k i ⟨al,mt⟩ hi ⟨h1,h2⟩ go;show Sat (jV N roots (k+1) (i:Int) m.Zp m.Zr al mt 0) _;simp only at h1 h2;have a6:=hr roots[i] (Zg _)
  have ha:o3 N roots[i]=some (roots[i].N,bO roots[i]):=by
   unfold o3;rw [wl,bs]
  have hnext:mg (aZ m) [] (dJ (roots.take (i+1)))=mg (aZ m) al (dJ [roots[i]]):=by
   rw [cn hi,DA,Ck, <-h2]
  rw [jV.eq_2,fJ I,ct,aM hi,bs];unfold ri;rw [ha,bs];cases hb:bO roots[i]
  ·simp only [cf,bs];rw [r64 I I];refine go (al,mt) ⟨h1,?_⟩;rw [hnext];simp [dJ,hb,mg]
  simp only [ct];obtain ⟨⟨m',al',mt',d'⟩,e0,e1,e2,h5,h6⟩:=ID N hN hs 0 [roots[i].N] (by simp) (by intro x hx;rw [Ys] at hx;subst hx;exact a6) h1;simp only at e1 e2 h5 h6;subst e1 e2;have e0':eG N ⟨⟨m'.Zp,m'.Zr⟩,al,mt,0⟩ [roots[i].N]=some ⟨m',al',mt',0⟩:=e0;rw [e0',bs,bs]
  dsimp only
  rw [r64 I I];refine go (al',mt') ⟨h5,?_⟩;show al'=_;rw [hnext,h6];simp [dJ,hb]
 rintro k ⟨al,mt⟩ ⟨h1,h2⟩;show Sat (jV N roots (k+1) _ m.Zp m.Zr al mt 0) _;rw [jV.eq_2,fz I,cf];unfold ui;refine Sat.bind (DM N hN hs hw h1 0 (YT _)) ?_;rintro r ⟨e1,e2,h5,h6⟩;simp only [Zd] at h2;exact ad ⟨e1,e2,h5,by rw [<-h2];exact h6⟩
theorem JD (N:Nat){roots:List WZ}(hs:Small m roots)(hw:W64 m)(a:Int)(l:List Int):(iL N (cp m a) l).length<=3600/\ ∀x∈iL N (cp m a) l,in64 x:=by
 have h1:=hs.at_ a;have h2:=K1 N (cp m a) l;refine ⟨by omega,fun x hx=> ?_⟩;obtain ⟨v,h3,rfl⟩:=K0 hx;exact hw.at_ a v h3
theorem O2 (N:Nat)(hN:6500<N){roots:List WZ}(hs:Small m roots)(hw:W64 m){all:List Int}(ht:Tr m all met)(d:Int):
  Sat (lg N ⟨m,all,met,d⟩) fun r=>r.2.m_=m/\r.2.ZO=d/\Tr m r.2.ZE r.2.ZQ/\r.1=decide ((all.length:Int)<(r.2.ZE.length:Int))/\r.2.ZE=pO (GA N m) all all:=by
 have hlen:=ht.len hs;unfold lg;refine jt (fun k i (s:List Int×List (Int×Unit))=>dD N ⟨m,all,met,d⟩ k (i:Int) m.Zp m.Zr s.1 s.2 d) all.length (fun i s=>Tr m s.1 s.2/\(∃t,s.1=all++t)/\s.1=pO (GA N m) all (all.take i)) _ ?_ ?_ N 0 (all,met) I I ⟨ht,⟨[],by simp⟩,J⟩
 ·rintro k i ⟨al,mt⟩ hi ⟨h1,⟨t,h2⟩,h3⟩ go;show Sat (dD N ⟨m,all,met,d⟩ (k+1) (i:Int) m.Zp m.Zr al mt d) _;simp only at h1 h2 h3;have hlen1:=h1.len hs
  have htk:List.take all.length al=all:=by rw [h2,List.take_left'];rfl
  have hx:=Zg hi;have hsm:=hs.at_ all[i];have hat:lV N ⟨m.Zp,m.Zr⟩ all[i]=some (cp m all[i]):=I0 N hs all[i] (ht.in64 hs hx)
  have hnext:pO (GA N m) all (all.take (i+1))=mg (aZ m) al (iL N (cp m all[i]) al):=by
   rw [cn hi,Dc, <-h3];rfl
  rw [dD.eq_2];simp only [Zd];rw [fJ I,ct,htk,aM hi,bs,hat,bs];unfold lU;by_cases h8:(cp m all[i]).Zh=8
  ·rw [tv h8,ct,KY N hN al I _ I I,bs];obtain ⟨a6,a7⟩:=JD N hs hw all[i] al;obtain ⟨⟨m',al',mt',d'⟩,e0,e1,e2,h5,h6⟩:=ID N hN hs d _ a6 a7 h1;simp only at e1 e2 h5 h6;subst e1 e2;have e0':eG N ⟨⟨m'.Zp,m'.Zr⟩,al,mt,d'⟩ (iL N (cp m' all[i]) al)=some ⟨m',al',mt',d'⟩:=e0;rw [e0',bs]
   dsimp only
   rw [r64 I I];obtain ⟨t',e', -⟩:=mv (aZ m') al (iL N (cp m' all[i]) al);exact go (al',mt') ⟨h5,⟨t++t',by show al'=_;rw [h6,e',h2,Xc]⟩,by show al'=_;rw [hnext,h6]⟩
  rw [jk h8,cf,r64 I I];refine go (al,mt) ⟨h1,⟨t,h2⟩,?_⟩
  have h0:iL N (cp m all[i]) al=[]:=by
   unfold iL uy;rw [jk h8];rfl
  show al=_;rw [hnext,h0];rfl
 rintro k ⟨al,mt⟩ ⟨h1,⟨t,h2⟩,h3⟩;show Sat (dD N ⟨m,all,met,d⟩ (k+1) _ m.Zp m.Zr al mt d) _;rw [dD.eq_2];simp only [Zd] at h3⊢;rw [fz I,cf];exact ad ⟨J,J,h1,J,h3⟩
theorem NH (N:Nat)(hN:6500<N){roots:List WZ}(hs:Small m roots)(hw:W64 m)(hr:∀v∈roots,in64 v.N):
  ∃b all,IsOrder (GA N m) (dJ roots) b.ZE all/\all.length<=1200/\b.ZE.length<=1200/\oM N m roots=some b/\mC N m roots=some all:=by
 obtain ⟨⟨m',al0,mt0,d0⟩,e0,e1,e2,h1,h2⟩:=Ou N hN hs hw hr;simp only at e1 e2 h1 h2;subst e1 e2;have hlen0:=h1.len hs
 have key:Sat (mC N m' roots) fun all=>Ord (GA N m') al0 all/\all.length<=1200:=by
  unfold mC;rw [e0,bs];refine wi (fun f (s:List Int×List (Int×Unit))=>ms N f m'.Zp m'.Zr s.1 s.2 (s.1.length:Int)) (fun s=>1300 - s.1.length) (fun s=>Tr m' s.1 s.2/\ ∀r,Ord (GA N m') s.1 r->Ord (GA N m') al0 r) _ ?_ N (al0,mt0) (by show 1300 - al0.length<N;omega) ⟨h1,fun _ h=>h⟩;rintro f ⟨al,mt⟩ ⟨h4,h5⟩ go;show Sat (ms N (f+1) m'.Zp m'.Zr al mt (al.length:Int)) _;simp only at h4 h5;have hlen:=h4.len hs;rw [ms.eq_2];obtain ⟨⟨b,m2,al2,mt2,d2⟩,g0,g1,g2,g3,g5,g6⟩:=O2 N hN hs hw h4 (al.length:Int);simp only at g1 g2 g3 g5 g6;subst g1 g2;have hlen2:=g3.len hs;have g0':lg N ⟨⟨m2.Zp,m2.Zr⟩,al,mt,(al.length:Int)⟩=some (b,⟨m2,al2,mt2,(al.length:Int)⟩):=g0;obtain ⟨t2,ht2⟩:=wa (GA N m2) al al;rw [g0',bs]
  dsimp only
  rw [g5]
  refine aC (fun hlt=> ?_) fun hge=> ?_
  ·refine Sat.bind (DM N hN hs hw g3 al.length I) ?_;rintro ⟨m3,al3,mt3,d3⟩ ⟨k1,k2,k3,k4⟩;simp only at k1 k2 k3 k4;subst k1 k2;have hlen3:=k3.len hs;refine go (al3,mt3) ?_ ⟨k3,fun r h=>h5 r (.step ?_ (by rw [<-g6];exact k4) h)⟩
   ·show 1300 - al3.length<1300 - al.length;obtain ⟨t3,e3⟩:=k4.app
    have:al2.length<=al3.length:=by rw [e3,Za];omega
    omega
   rw [<-g6];intro e;rw [e] at hlt;omega
  have e:al2=al:=by
   rw [ht2] at g6;have h0:t2=[]:=XK (by rw [g6,Za] at hge;omega);rw [g6,h0,XB]
  subst e;unfold sy;exact ad ⟨h5 _ (.done g6.symm),by omega⟩
 obtain ⟨all,k1,k2,k3⟩:=key;exact ⟨⟨m',al0,mt0,(al0.length:Int)⟩,all,⟨h2,k2⟩,k3,hlen0,e0,k1⟩
theorem vQ (l:List Int)(x:Int):x∈kJ l↔x∈l:=by unfold kJ;exact List.mem_mergeSort
theorem G7 (h:l.Nodup):(kJ l).Pairwise (· < ·):=by
 have h1:(kJ l).Pairwise fun a b=>decide (a<=b)=true:=List.pairwise_mergeSort (by intro a b c h1 h2;simp at*;omega) (by intro a b;simp;omega) l
 have h2:(kJ l).Nodup:=(List.mergeSort_perm l _).nodup_iff.2 h;rw [List.nodup_iff_pairwise_ne] at h2;exact h1.imp₂ (fun a b h3 h4=>by simp at h3;omega) h2
theorem E1 {s:List Int}(h:l.Nodup)(hs:s.Pairwise (· < ·))(he:∀x,x∈l↔x∈s):kJ l=s:=MT (G7 h) hs fun x=>(vQ l x).trans (he x)
theorem Np (N:Nat)(l:List Int)(h:l.length<=5000):rM N l=some (kJ l):=by
 unfold rM;rw [rF I]
theorem Rg {N:Nat}{roots:List WZ}{s:List Int}(h:mC N m roots=some l)(hl:l.length<=5000)(hs:kJ l=s):nN N m roots=some s:=by
 unfold nN;rw [h,bs,Np N l hl,bs,hs]
structure Tq (m:WY) (all:List Int):Prop where
 nd:all.Nodup
 has: ∀x∈all,aZ m x=true
theorem Tq.len {roots:List WZ}(hs:Small m roots){all:List Int}(h:Tq m all):all.length<=1200:=FL 1200 h.nd fun x hx=>⟨by have:=wo (h.has x hx);omega,by have:=Cs hs (h.has x hx);omega⟩
theorem Tq.in64 {roots:List WZ}(hs:Small m roots){all:List Int}(h:Tq m all)(hx:x∈all):in64 x:=by
 have h1:=wo (h.has x hx);have h2:=Cs hs (h.has x hx);unfold Go.Proofs.YtmcifcmlojonnaaGreatDoor.in64;omega
theorem Tq.lay {all:List Int}(h:Tq m all)(l:List Int):Tq m (mg (aZ m) all l):=⟨rv l h.nd,fun x hx=>(Cl hx).elim (h.has x) (·.1)⟩
theorem Fa (N:Nat){roots:List WZ}(hN:6500<N)(hs:Small m roots)(l:List Int)(hl:l.length<=3600)(h64:∀x∈l,in64 x){all:List Int}(ht:Tq m all):tL N m all l=some (mg (aZ m) all l):=by
 apply Sat.eq;unfold tL;refine jt (fun k i (s:List Int)=>rn N l m k s (i:Int)) l.length (fun i s=>Tq m s/\s=mg (aZ m) all (l.take i)) _ ?_ ?_ N 0 all I I ⟨ht,J⟩
 ·rintro k i s hi ⟨h0,h1⟩ go;show Sat (rn N l m (k+1) s (i:Int)) _;have a6:=h64 l[i] (Zg _);have hsl:=h0.len hs
  have hnext:mg (aZ m) all (l.take (i+1))=(bif aZ m l[i]&& !decide (l[i]∈s) then s++ [l[i]] else s):=by
   rw [cn hi,Ck, <-h1];rfl
  have hT:Tq m (mg (aZ m) all (l.take (i+1))):=ht.lay _;rw [rn.eq_2,fJ I,ct];simp only [aM hi,bs,Mu N m _ a6,VC N hN s I l[i]];unfold yz;cases hh:aZ m l[i]
  ·simp only [cf,bs];rw [r64 I I];exact go s ⟨h0,by rw [hnext,hh];rfl⟩
  simp only [ct,bs];by_cases hm:l[i]∈s
  ·rw [W9 hm];simp only [nt,cf];rw [r64 I I];exact go s ⟨h0,by rw [hnext,hh,W9 hm];rfl⟩
  have e:mg (aZ m) all (l.take (i+1))=s++ [l[i]]:=by rw [hnext,hh,Xa hm];rfl
  rw [Xa hm];simp only [nf,ct];rw [rF (by simp;omega),r64 I I];exact go (s++ [l[i]]) ⟨e▸hT,e.symm⟩
 rintro k s ⟨h0,h1⟩;show Sat (rn N l m (k+1) s _) _;rw [rn.eq_2,fz I,cf];exact ad (by simpa using h1)
theorem NA (N:Nat)(hN:6500<N)(l:List WZ)(hl:l.length<=3600):o8 N l=some (dJ l):=by
 apply Sat.eq;unfold o8;refine jt (fun k i (s:List Int)=>jf N l k s (i:Int)) l.length (fun i s=>s=dJ (l.take i)) _ ?_ ?_ N 0 [] I I J
 ·rintro k i s hi h1 go;show Sat (jf N l (k+1) s (i:Int)) _
  have hsl:s.length<=3600:=by
   rw [h1];unfold dJ;rw [Zc];exact YN (Yb _ _) (by rw [Zb];omega)
  have hnext:dJ (l.take (i+1))=s++dJ [l[i]]:=by rw [cn hi,DA,h1]
  rw [jf.eq_2,fJ I,ct];simp only [aM hi,bs,wl];unfold rp;cases hb:bO l[i]
  ·simp only [cf];rw [r64 I I];exact go s (by rw [hnext];simp [dJ,hb])
  simp only [ct];rw [rF (by simp;omega),r64 I I];exact go (s++ [l[i].N]) (by rw [hnext];simp [dJ,hb])
 rintro k s h1;show Sat (jf N l (k+1) s _) _;rw [jf.eq_2,fz I,cf];exact ad (by simpa using h1)
theorem Bz (N:Nat)(hN:6500<N){roots:List WZ}(hs:Small m roots)(hw:W64 m){all:List Int}(ht:Tq m all)(k:Nat)(hk:k<=all.length):
  Sat (mE N m all (k:Int)) fun r=>Tq m r/\Thr (GA N m) all k r:=by
 unfold mE;refine wi (fun f (s:List Int×Nat)=>qp N m f s.1 (s.2:Int)) (fun s=>1300 - s.2) (fun s=>Tq m s.1/\s.2<=s.1.length/\ ∀r,Thr (GA N m) s.1 s.2 r->Thr (GA N m) all k r) _ ?_ N (all,k) (by show 1300 - k<N;omega) ⟨ht,hk,fun _ h=>h⟩;rintro f ⟨al,j⟩ ⟨h1,h3,h4⟩ go;show Sat (qp N m (f+1) al (j:Int)) _;simp only at h1 h3 h4;have hlen:=h1.len hs;rw [qp.eq_2];by_cases hj:j<al.length
 ·have hx:=Zg hj;have hsm:=hs.at_ al[j];obtain ⟨a6,a7⟩:=JM hs hw al[j];rw [fJ I,ct,aM hj,bs,Qg N m _ (h1.in64 hs hx),bs,NY N I _ I I,bs,Fa N hN hs _ a6 a7 h1,bs,r64 I I]
  have hge:al.length<=(mg (aZ m) al (gq (cp m al[j]))).length:=by
   obtain ⟨t,e, -⟩:=mv (aZ m) al (gq (cp m al[j]));rw [e,Za];omega
  exact go (mg (aZ m) al (gq (cp m al[j])),j+1) (by show 1300 - (j+1)<1300 - j;omega) ⟨h1.lay _,by show j+1<=(mg (aZ m) al (gq (cp m al[j]))).length;omega,fun r hr=>h4 r (.step (XX hj) hr)⟩
 have:j=al.length:=by omega
 subst this;rw [fz I,cf];exact ad ⟨h1,h4 _ (.done (YM _))⟩
theorem KF (N:Nat)(hN:6500<N){roots:List WZ}(hs:Small m roots)(hw:W64 m)(hr:∀v∈roots,in64 v.N):
  ∃b all,IsOrder (GA N m) (dJ roots) b all/\uZ N m roots=some all/\((o8 N roots).bind fun y5=>(tL N m ([]:List Int) y5).bind fun y8=>mE N m y8 0)=some b:=by
 have hrl:=hs.roots;have ha:=NA N hN roots I
 have h64: ∀x∈dJ roots,in64 x:=fun x hx=>by
  obtain ⟨v,h1, -,rfl⟩:=tS.1 hx;exact hr v h1
 have hal:(dJ roots).length<=3600:=by
  unfold dJ;rw [Zc];exact YN (Yb _ _) I
 have hT0:Tq m []:=⟨List.nodup_nil,by simp⟩;have hlay:=Fa N hN hs (dJ roots) hal h64 hT0;obtain ⟨b,b0,b1,b2⟩:=Bz N hN hs hw (hT0.lay (dJ roots)) 0 (YT _);have b0':mE N m (mg (aZ m) [] (dJ roots)) 0=some b:=b0
 have key:Sat (uZ N m roots) fun all=>Ord (GA N m) b all:=by
  unfold uZ;rw [ha,bs,hlay,bs,b0',bs];refine wi (fun f (s:List Int)=>kG N m f s) (fun s=>1300 - s.length) (fun s=>Tq m s/\ ∀r,Ord (GA N m) s r->Ord (GA N m) b r) _ ?_ N b (by show 1300 - b.length<N;omega) ⟨b1,fun _ h=>h⟩;rintro f al ⟨h4,h5⟩ go;show Sat (kG N m (f+1) al) _;have hlen:=h4.len hs;rw [kG.eq_2];refine jt (fun k i (s:List Int)=>oN N (kG N m f) al m k s (i:Int)) al.length (fun i s=>Tq m s/\(∃t,s=al++t)/\s=pO (GA N m) al (al.take i)) _ ?_ ?_ N 0 al I I ⟨h4,⟨[],by simp⟩,J⟩
  ·rintro k i s hi ⟨h0,⟨t,h1⟩,h2⟩ go2;show Sat (oN N (kG N m f) al m (k+1) s (i:Int)) _;have hsl:=h0.len hs
   have hg:aq s (i:Int)=some al[i]:=by
    rw [oQ,h1,XS hi,XX hi]
   have hx:=Zg hi;have hsm:=hs.at_ al[i];obtain ⟨a6,a7⟩:=JD N hs hw al[i] s
   have hnext:pO (GA N m) al (al.take (i+1))=mg (aZ m) s (iL N (cp m al[i]) s):=by
    rw [cn hi,Dc, <-h2];rfl
   rw [oN.eq_2,fJ I,ct,hg,bs,Qg N m _ (h4.in64 hs hx),bs,NJ N hN s I _ I I,bs,Fa N hN hs _ a6 a7 h0,bs,r64 I I];obtain ⟨t',e', -⟩:=mv (aZ m) s (iL N (cp m al[i]) s);exact go2 _ ⟨h0.lay _,⟨t++t',by rw [e',h1,Xc]⟩,hnext.symm⟩
  rintro k s ⟨h0,⟨t,h1⟩,h2⟩;show Sat (oN N (kG N m f) al m (k+1) s _) _;have hsl:=h0.len hs;simp only [Zd] at h2;rw [oN.eq_2,fz I,cf];unfold An
  refine aC (fun he=> ?_) fun hne=> ?_
  ·have h6:t=[]:=XK (by rw [h1,Za] at he;omega)
   have h7:s=al:=by rw [h1,h6,XB]
   exact ad (by rw [h7] at h2⊢;exact h5 _ (.done h2.symm))
  have hle:al.length<=s.length:=by rw [h1,Za];omega
  refine Sat.bind (Bz N hN hs hw h0 al.length hle) fun r ⟨r1,r2⟩=> ?_
  obtain ⟨t3,e3⟩:=r2.app;have a8:=r1.len hs;refine go r ?_ ⟨r1,fun r' hr'=>h5 r' (.step ?_ (by rw [<-h2];exact r2) hr')⟩
  ·show 1300 - r.length<1300 - al.length
   have:s.length<=r.length:=by rw [e3,Za];omega
   omega
  rw [<-h2];intro e;rw [e] at hne;omega
 obtain ⟨all,k1,k2⟩:=key;exact ⟨b,all,⟨b2,k2⟩,k1,by rw [ha,bs,hlay,bs];exact b0'⟩
theorem G6: ∀{s:List Int} {k:Nat} (h:k+1<s.length),((s.set (k+1) (s[k]'I)).set k s[k+1]).Perm s
 |a::b::r,0,_=>List.Perm.swap a b r
 |a::r,k+1,h=>by
  have ih:=G6 (s:=r) (k:=k) (by simpa using h);simp only [List.set_cons_succ,List.getElem_cons_succ];exact ih.cons a
def VO (s:List Int)(i k:Nat):Prop:= ∀a b:Nat,a<b->b<=i->b≠k->s.getD a 0<=s.getD b 0
theorem Cu (s:List Int)(i j:Nat)(x:Int)(hi:i<s.length):(s.set i x).getD j 0=if j=i then x else s.getD j 0:=by
 by_cases e:j=i
 ·subst e;simp [List.getD,hi]
 rw [if_neg e];simp only [List.getD];rw [X3 (fun h=>e h.symm)]
theorem zG (s:List Int)(i:Nat)(hi:i<s.length):s.getD i 0=s[i]:=by simp [List.getD,hi]
theorem KG (N:Nat)(hN:6500<N)(l:List Int)(hl:l.length<=3600)(hn:l.Nodup):wS N l=some (kJ l):=by
 apply Sat.eq;unfold wS;rw [rF (by simp;omega),Zf]
 have fin: ∀s:List Int,s.Perm l->VO s (l.length - 1) l.length->s=kJ l:=fun s hp hi=>by
  have hlen:=hp.length_eq;have hnd:s.Nodup:=hp.nodup_iff.2 hn;refine (E1 hn (Yw.2 fun a b ha hb hab=> ?_) fun x=>(hp.mem_iff).symm).symm;have h1:=hi a b hab I I;rw [zG s a ha,zG s b hb] at h1;have h2:=Yw.1 (List.nodup_iff_pairwise_ne.1 hnd) a b ha hb hab;omega
 by_cases h0:l.length=0
 ·have e:l=[]:=XK h0;subst e;obtain ⟨n,rfl⟩: ∃n,N=n+1:=⟨N - 1,by omega⟩;rw [iX.eq_2,fz (by simp),cf];exact ad (by unfold kJ;simp)
 refine jt (fun k i (s:List Int)=>iX N k s (i:Int)) l.length (fun i s=>s.Perm l/\VO s (i - 1) l.length) _ ?_ ?_ N 1 l I I ⟨List.Perm.refl _,fun a b h1 h2=>absurd h2 I⟩
 ·rintro f i s hi ⟨h1,h2⟩ go;show Sat (iX N (f+1) s (i:Int)) _;have hlen:=h1.length_eq;rw [iX.eq_2,hlen,fJ I,ct]
  have hi0:i<=l.length:=by omega
  refine wi (fun k (st:List Int×Nat)=>qq N (iX N f) (i:Int) k st.1 (st.2:Int)) (fun st=>st.2) (fun st=>st.1.Perm l/\st.2<=i/\VO st.1 i st.2) _ ?_ N (s,i) (by show i<N;omega) ⟨h1,YM _,fun a b q1 q2 q3=>h2 a b q1 (by show b<=i - 1;simp only at q3;omega) I⟩;rintro k ⟨t,j⟩ ⟨g1,g2,g3⟩ go2;simp only at g1 g2 g3;show Sat (qq N (iX N f) (i:Int) (k+1) t (j:Int)) _;have hlt:=g1.length_eq
  have stop:(j=0\/t.getD (j - 1) 0<=t.getD j 0)->Sat (ur N (iX N f) (i:Int) t) (· =kJ l):=fun hst=>by
   unfold ur;rw [r64 I I];refine go t ⟨g1,fun a b q1 q2 q3=> ?_⟩
   have q2':b<=i:=by omega
   by_cases e:b=j
   ·subst e;rcases hst with h|h
    ·omega
    by_cases e2:a=b - 1
    ·subst e2;exact h
    have:=g3 a (b - 1) I I I;omega
   exact g3 a b q1 q2' e
  rw [qq.eq_2];by_cases hj:0<j
  ·have hp:aq t ((j:Int) - 1)=some (t[j - 1]'I):=by
    have:=aM (xs:=t) (i:=j - 1) I;rw [show (((j - 1:Nat)):Int)=(j:Int) - 1 by omega] at this;exact this
   have hq:aq t (j:Int)=some (t[j]'I):=aM I;rw [fJ I,ct,r64 I I,hp,bs,hq,bs,bs];by_cases hc:t[j]'I<t[j - 1]'I
   ·rw [fJ hc,ct,bs,r64 (a:=(j:Int) - 1) I I,bs,bs,r64 (a:=(j:Int) - 1) I I]
    have hs2:aq (List.set t (j:Int).toNat (t[j - 1]'I)) ((j:Int) - 1)=some ((List.set t (j:Int).toNat (t[j - 1]'I))[j - 1]'(by simp;omega)):=by
     have:=aM (xs:=List.set t (j:Int).toNat (t[j - 1]'I)) (i:=j - 1) (by simp;omega);rw [show (((j - 1:Nat)):Int)=(j:Int) - 1 by omega] at this;exact this
    rw [hs2,bs,r64 (a:=(j:Int) - 1) I I,Xy,show ((j:Int) - 1).toNat=j - 1 by omega,show (j:Int) - 1=((j - 1:Nat):Int) by omega];obtain ⟨q,rfl⟩: ∃q,j=q+1:=⟨j - 1,by omega⟩;simp only [Nat.add_sub_cancel] at*;refine go2 ((t.set (q+1) (t[q]'I)).set q (t[q+1]'I),q) (by show q<q+1;omega) ⟨(G6 I).trans g1,by show q<=i;omega,fun a b q1 q2 q3=> ?_⟩;have q3':b≠q:=q3;have hqa:=zG t q I;have hqb:=zG t (q+1) I;show ((t.set (q+1) (t[q]'I)).set q (t[q+1]'I)).getD a 0<=((t.set (q+1) (t[q]'I)).set q (t[q+1]'I)).getD b 0;rw [Cu _ q _ _ (by simp;omega),Cu _ q _ _ (by simp;omega),Cu t (q+1) _ _ I,Cu t (q+1) _ _ I,if_neg q3'];by_cases b1:b=q+1
    ·rw [if_pos b1];by_cases a1:a=q
     ·rw [if_pos a1];omega
     rw [if_neg a1,if_neg I, <-hqa];exact g3 a q I I I
    rw [if_neg b1];by_cases a1:a=q
    ·rw [if_pos a1, <-hqb];exact g3 (q+1) b I q2 b1
    rw [if_neg a1];by_cases a2:a=q+1
    ·rw [if_pos a2, <-hqa];exact g3 q b I q2 b1
    rw [if_neg a2];exact g3 a b q1 q2 b1
   rw [fz I,cf];refine stop (.inr ?_);rw [zG t (j - 1) I,zG t j I];omega
  rw [fz I,cf,bs,cf];exact stop (.inl I)
 rintro f s ⟨h1,h2⟩;show Sat (iX N (f+1) s _) _;rw [iX.eq_2,h1.length_eq,fz I,cf];unfold Al;exact ad (fin s h1 h2)
def pX (c:W3):List Int:=pick (fun i v=>oH c.Zh i&&bO v) 0 c.Zi
theorem DF (N:Nat)(hN:6500<N)(c:W3)(hS:c.Zj.length<=1000)(hc:c.Zi.length<=2900):oX N c=some (pX c):=by
 unfold oX pX;rw [zg N hN false c hS hc,bs]
 have e1:(fun (_:Nat) (v:WZ)=>(true==false)&&bO v)=fun _ _=>false:=by funext i v;rfl
 have e2:(fun (i:Nat) (v:WZ)=>(mT c.Zh i==false)&&bO v)=fun i v=>oH c.Zh i&&bO v:=by funext i v;rw [DO];cases oH c.Zh i<;>rfl
 rw [e1,e2,Hi,Zf]
theorem uM (c:W3):(pX c).length<=c.Zi.length:=BU _ 0 c.Zi
theorem Jd (h:x∈pX c): ∃v∈c.Zj++c.Zi,v.N=x:=by
 obtain ⟨v,h1,h2⟩:=BT h;exact ⟨v,Xe _ h1,h2⟩
def wz (m:WY)(l:List Int):Bool:=l.all (aZ m)
theorem Nh {roots:List WZ}(hs:Small m roots)(hw:W64 m)(hc:c∈m.Zp++m.Zr):((gq c).length<=3500/\ ∀x∈gq c,in64 x)/\(pX c).length<=2900/\ ∀x∈pX c,in64 x:=by
 have h1:=hs.cells c hc;have h2:=ux c;have h3:=uM c;refine ⟨⟨by omega,fun x hx=> ?_⟩,by omega,fun x hx=> ?_⟩
 ·obtain ⟨v,h4,rfl⟩:=FV hx;exact hw c hc v h4
 obtain ⟨v,h4,rfl⟩:=Jd hx;exact hw c hc v h4
def wt:List W3->Nat
 | []=>0
 |c::l=>1+c.Zj.length+c.Zi.length+wt l
theorem ES: ∀a b:List W3,wt (a++b)=wt a+wt b
 | [],b=>by simp [wt]
 |c::a,b=>by rw [XE,wt,wt,ES a b];omega
theorem QB {l:List W3}(h:i<l.length):wt (l.take (i+1))=wt (l.take i)+(1+l[i].Zj.length+l[i].Zi.length):=by
 rw [cn h,ES];simp [wt]
structure Wtd (m:WY) (roots:List WZ):Prop where
 le:roots.length+wt m.Zp+wt m.Zr<=2900
 cnt:m.Zp.length+m.Zr.length<=600
def jR (p:Int->Bool):List WZ->List WZ
 |k::v::r=>(bif p k.N then [k,v] else [])++jR p r
 |_=> []
theorem Gq (p:Int->Bool): ∀l:List WZ,(jR p l).length<=l.length
 | []=>by simp [jR]
 | [_]=>by simp [jR]
 |k::v::r=>by
  have:=Gq p r;unfold jR;cases p k.N<;>simp<;>omega
theorem Bf {x:WZ}: ∀{l:List WZ},x∈jR p l->x∈l
 | [],h=>by simp [jR] at h
 | [_],h=>by simp [jR] at h
 | k::v::r,h=>by
  unfold jR at h;rcases Yi.1 h with h|h
  ·cases hp:p k.N with
   |false=>rw [hp] at h;cases h
   |true=>rw [hp] at h;simp at h;rcases h with h|h<;>simp [h]
  have:=Bf h;simp [this]
def sK (l:List Int)(c:W3):W3:=bif uy N c then ⟨c.Zh,c.Zq,c.Zm,c.Zn,c.Zj,jR (fun x=>decide (x∈l)) c.Zi⟩ else c
theorem NZ (N:Nat)(hN:6500<N)(l:List Int)(hl:l.length<=5000)(y:W3)(k v:WZ)(s:List WZ)(hs:s.length<=5000):cM (fun x st=>kD N (fun x=>jS N x l) y x st) (k,v) (none,s)=some (true,(none,s++(bif decide (k.N∈l) then [k,v] else []))):=by
 unfold cM kD jS;simp only [bs,Ay N hN l hl];cases decide (k.N∈l)
 ·simp only [cf,XB];rfl
 simp only [ct];rw [rF (by simp;omega)];rfl
theorem HD (N:Nat)(hN:6500<N)(l:List Int)(hl:l.length<=5000)(y c:W3)(hc:c.Zi.length<=2900)(he:c.Zi.length%2=0): ∀(m i:Nat) (s:List WZ),c.Zi.length<m+i->i<=c.Zi.length->i%2=0->s.length<=i->eJ N (cM (fun x st=>kD N (fun x=>jS N x l) y x st)) c m (i:Int) (none,s)=some (none,s++jR (fun x=>decide (x∈l)) (c.Zi.drop i))
 |0,i,s,h,h2,_,_=>by omega
 | m+1,i,s,h,h2,h3,h4=>by
  rw [eJ.eq_2,r64 (a:=(i:Int)+1) I I];by_cases hi:i<c.Zi.length
  ·have hi1:i+1<c.Zi.length:=by omega
   have a6:aq c.Zi ((i:Int)+1)=some c.Zi[i+1]:=by
    have:=aM hi1;simpa using this
   rw [fJ I,ct,aM hi,bs,r64 (a:=(i:Int)+1) I I,a6,bs,NZ N hN l hl y _ _ s I,bs];simp only [nt,cf];rw [r64 I I]
   have hlen:(s++(bif decide (c.Zi[i].N∈l) then [c.Zi[i],c.Zi[i+1]] else [])).length<=i+2:=by
    cases decide (c.Zi[i].N∈l)<;>simp<;>omega
   have:=HD N hN l hl y c hc he m (i+2) _ I I I hlen;simp only [Xv,Xt] at this;rw [this,XF hi,XF hi1,Xc];rfl
  rw [fz I,cf,XG I];simp [jR]
theorem LA (N:Nat)(hN:6500<N)(l:List Int)(hl:l.length<=5000)(c:W3)(hS:c.Zj.length<=600)(hc:c.Zi.length<=2900):pY N c l=some (bif uy N c then sK N l c else G4):=by
 obtain ⟨-,h1,h2⟩:=Li N I c I I;unfold pY xT kc sK;rw [h1,bs];cases hw:uy N c
 ·rfl
 have e:nk N c=some ():=rfl;have:=HD N hN l hl c c I (h2 hw) N 0 [] I I rfl (by simp);simp only [nt,cf,ct,e,bs,pS N c ⟨hS,hc⟩];have h3:eJ N (cM (fun x st=>kD N (fun x=>jS N x l) c x st)) c N 0 (none,[])=some (none,[]++jR (fun x=>decide (x∈l)) (c.Zi.drop 0)):=this;rw [h3,bs];rfl
theorem LC (N:Nat)(l:List Int)(c:W3):(sK N l c).Zj.length=c.Zj.length/\(sK N l c).Zi.length<=c.Zi.length:=by
 unfold sK;cases uy N c
 ·exact ⟨J,YM _⟩
 exact ⟨J,Gq _ _⟩
theorem LB {N:Nat}(h:v∈(sK N l c).Zj++(sK N l c).Zi):v∈c.Zj++c.Zi:=by
 unfold sK at h;cases hw:uy N c
 ·rw [hw] at h;exact h
 rw [hw] at h;rcases Yi.1 h with h|h
 ·exact Xd _ h
 exact Xe _ (Bf h)
def Lk (c:W3):Bool:=decide (c.Zh=10)&&(fL N c).getD false
theorem xa {roots:List WZ}(hs:Small m roots)(h:aZ m x=true):in64 x:=by
 have h2:=wo h;have h3:=Cs hs h;unfold in64;omega
def oh:WZ:=⟨0,0,⟨#[]⟩⟩
def fb (l:List Int):List WZ->List WZ
 |t::h::k::s::r=>(bif decide (t.N∈l) then [t,h,(bif decide (k.Zh=7)&& !decide (k.N∈l) then oh else k),s] else [])++fb l r
 |_=> []
def qb (l:List Int)(cb:WZ):List WZ->List WZ
 |t::h::_::s::r=>(bif decide (t.N∈l) then [] else [cb,h,s])++qb l cb r
 |_=> []
theorem AU (l:List Int)(t h k s:WZ)(r:List WZ):fb l (t::h::k::s::r)=(bif decide (t.N∈l) then [t,h,(bif decide (k.Zh=7)&& !decide (k.N∈l) then oh else k),s] else [])++fb l r:=Eq.trans rfl rfl
theorem D3 (p:Int->Bool)(k v:WZ)(r:List WZ):jR p (k::v::r)=(bif p k.N then [k,v] else [])++jR p r:=Eq.trans rfl rfl
theorem Pq (l:List Int)(cb:WZ): ∀xs:List WZ,(fb l xs).length+(qb l cb xs).length<=xs.length
 | []=>by simp [fb,qb]
 | [_]=>by simp [fb,qb]
 | [_,_]=>by simp [fb,qb]
 | [_,_,_]=>by simp [fb,qb]
 |t::h::k::s::r=>by
  have:=Pq l cb r;unfold fb qb;cases decide (t.N∈l)<;>simp<;>omega
def Gs (l:List Int)(c:W3):W3×List WZ:=(⟨c.Zh,c.Zq,c.Zm,c.Zn,c.Zj,c.Zi.take 1++fb l (c.Zi.drop 1)⟩,qb l (c.Zi.headD oh) (c.Zi.drop 1))
theorem four {l:List WZ}(h:4<=l.length): ∃t a k s r,l=t::a::k::s::r:=by
 match l,h with
 |t::a::k::s::r,_=>exact ⟨t,a,k,s,r,rfl⟩
theorem JZ (N:Nat)(hN:6500<N)(l:List Int)(p:List (Int×Bool))(hp:∀x,(lk p x).getD false=decide (x∈l))(c y:W3)(cb:WZ)(hcb:c.Zi[0]? =some cb)(hc:c.Zi.length<=2900): ∀(m i:Nat) (o t:List WZ),c.Zi.length<m+i->i<=c.Zi.length->(c.Zi.length - i)%4=0->o.length<=i->t.length<=i->ib N (cM (fun x st=>gu N c p y x st)) c m (i:Int) (none,(o,t))=some (none,(o++fb l (c.Zi.drop i),t++qb l cb (c.Zi.drop i)))
 |0,i,o,t,h,h2,_,_,_=>by omega
 | m +1,i,o,t,h,h2,h3,h4,h5=>by
  rw [ib.eq_2,r64 (a:=(i:Int)+4) I I];by_cases hi:i+4<=c.Zi.length
  ·obtain ⟨v1,v2,v3,v4,r,hd⟩:=four (l:=c.Zi.drop i) (by rw [Ya];omega)
   have hd4:c.Zi.drop (i+4)=r:=by rw [<-List.drop_drop,hd];rfl
   have hx:(c.Zi.drop (i:Int).toNat).take (((i:Int)+4).toNat - (i:Int).toNat)=[v1,v2,v3,v4]:=by
    rw [Xy,show ((i:Int)+4).toNat - i=4 by omega,hd];rfl
   have h0:aq c.Zi 0=some cb:=by
    have:=oQ c.Zi 0;rw [hcb] at this;exact this
   have e0:aq [v1,v2,v3,v4] 0=some v1:=rfl;have e1:aq [v1,v2,v3,v4] 1=some v2:=rfl;have e2:aq [v1,v2,v3,v4] 2=some v3:=rfl;have e3:aq [v1,v2,v3,v4] 3=some v4:=rfl;rw [Rj I,ct,r64 I I,r64 I I,cj ⟨by omega,by omega,by omega,by omega⟩,hx]
   have hb:cM (fun x st=>gu N c p y x st) ((i:Int),[v1,v2,v3,v4]) (none,(o,t))=some (true,(none,(o++(bif decide (v1.N∈l) then [v1,v2,(bif decide (v3.Zh=7)&& !decide (v3.N∈l) then oh else v3),v4] else []),t++(bif decide (v1.N∈l) then [] else [cb,v2,v4])))):=by
    unfold cM gu;simp only [e0,e1,e2,e3,bs,hp,h0];unfold nX;simp only [e0,e1,e2,e3,bs];cases decide (v1.N∈l)
    ·simp only [nf,ct,cf,XB];rw [rF (by simp;omega)];rfl
    simp only [nt,ct,cf,XB];rw [rF (by simp;omega),rF (by simp;omega)];cases decide (v3.Zh=7)<;>cases decide (v3.N∈l)<;>rfl
   rw [hb,bs];simp only [nt,cf];rw [r64 I I];have:=JZ N hN l p hp c y cb hcb hc m (i+4) (o++(bif decide (v1.N∈l) then [v1,v2,(bif decide (v3.Zh=7)&& !decide (v3.N∈l) then oh else v3),v4] else [])) (t++(bif decide (v1.N∈l) then [] else [cb,v2,v4])) I hi I (by cases decide (v1.N∈l)<;>simp<;>omega) (by cases decide (v1.N∈l)<;>simp<;>omega);rw [show (((i+4:Nat)):Int)=(i:Int)+4 by omega] at this;rw [this,hd4,hd,Xc,Xc];rfl
  rw [Rk I,cf,XG I];simp [fb,qb]
theorem Rn (N:Nat)(hN:6500<N)(c:W3)(hS:c.Zj.length<=1000)(hc:c.Zi.length<=2900):vi N c=some (Lk N c)/\(Lk N c=true->1<=c.Zi.length/\(c.Zi.length - 1)%4=0):=by
 obtain ⟨b,hb,a6⟩:=Hg N hN c hS hc;unfold vi Lk;rw [BA N hN c hS hc,hb];refine ⟨by cases decide (c.Zh=10)<;>cases b<;>rfl,fun h=> ?_⟩;rw [Ze,Y6] at h;exact (a6 h.2).2 h.1
theorem GW (N:Nat)(hN:6500<N)(l:List Int)(hl:l.length<=5000)(c:W3)(hS:c.Zj.length<=600)(hc:c.Zi.length<=2900):nG N c l=some (bif Lk N c then Gs l c else (G4,[])):=by
 obtain ⟨h1,h2⟩:=Rn N I c I I;unfold nG;rw [h1,bs];cases hw:Lk N c
 ·rfl
 obtain ⟨g1,g2⟩:=h2 hw;simp only [nt,cf,ct]
 have hcb:c.Zi[0]? =some (c.Zi.headD oh):=by
  cases hm:c.Zi with
  |nil=>rw [hm] at g1;simp at g1
  |cons a r=>rfl
 apply Sat.eq;refine jt (fun k i (s:List (Int×Bool))=>ji N l c k (i:Int) s) l.length (fun i s=> ∀x,(lk s x).getD false=decide (x∈l.take i)) _ ?_ ?_ N 0 [] I I (fun x=>by simp;rfl)
 ·intro k i s hi h3 go;show Sat (ji N l c (k+1) (i:Int) s) _;rw [ji.eq_2,fJ I,ct,aM hi,bs,r64 I I]
  refine go _ fun x=> ?_
  rw [Pp,cn hi];by_cases e:l[i]=x
  ·rw [if_pos e,W9 (by simp [e])];rfl
  rw [if_neg e,h3 x];by_cases hm:x∈l.take i
  ·rw [W9 hm,W9 (Xd _ hm)]
  rw [Xa hm,Xa (by simp only [Yi,Ys];exact fun h=>h.elim hm fun h=>e h.symm)]
 intro k s h3;show Sat (ji N l c (k+1) _ s) _;rw [Zd] at h3;rw [ji.eq_2,fz I,cf];unfold rC vI dz rB oA
 have h0:aq c.Zi 0=some (c.Zi.headD oh):=by
  have:=oQ c.Zi 0;rw [hcb] at this;exact this
 rw [rF (by simp;omega),bs,h0,bs,bs,bs];have:=JZ N hN l s h3 c ⟨c.Zh,c.Zq,c.Zm,c.Zn,[]++c.Zj,[c.Zi.headD oh]⟩ _ hcb I N 1 [c.Zi.headD oh] [] I g1 g2 (by simp) (by simp);have this':ib N (cM (fun x st=>gu N c s ⟨c.Zh,c.Zq,c.Zm,c.Zn,[]++c.Zj,[c.Zi.headD oh]⟩ x st)) c N 1 (none,([c.Zi.headD oh],[]))=_:=this;rw [this',bs];refine ad ?_
 have ht:c.Zi.take 1=[c.Zi.headD oh]:=by
  cases hm:c.Zi with
  |nil=>rw [hm] at g1;simp at g1
  |cons a r=>rfl
 unfold Gs;rw [ht];rfl
def xw (a:Int):Bool:=decide (a.tmod 2=0)
def GT (a:Int):Bool:=decide (a.tmod 2=1)
def qy (live:List Int):List Int:=live.filter xw++live.filter GT
theorem zH: ∀{l:List Int} {i:Nat} (hi:i<l.length),p l[i]=true->(l.filter p)[((l.take i).filter p).length]? =some l[i]
 |x::l,0,hi,h=>by
  simp only [List.getElem_cons_zero] at h;simp [h]
 |x::l,i+1,hi,h=>by
  simp only [List.getElem_cons_succ] at h;have ih:=zH (l:=l) (i:=i) (by simpa using hi) h;rw [YD]
  cases hx:p x with
  |true=>simp only [XN,hx,if_true,X9,XU,List.getElem_cons_succ];exact ih
  |false=>simp only [XN,hx,Xr,if_false,List.getElem_cons_succ];exact ih
theorem J0 (hi:i<l.length):((l.take (i+1)).filter p).length=((l.take i).filter p).length+(bif p l[i] then 1 else 0):=by
 rw [cn hi,XM,Za];cases h:p l[i]<;>simp [h]
theorem FE (N:Nat)(φ:Int×Int->σ->Option (Option Exit×σ))(live:List Int)(hl:live.length<=2000)(hN:6500<N)(kb:Int->Int->Option Exit×σ->Option (Option Exit×σ))(b:Int)(p:Int->Bool)(hp:∀a,p a=decide (a.tmod 2=b))(p6:Int)(h6:0<=p6/\p6<=2)(n0:Nat)(hn0:n0<=2000)(Inv:Nat->σ->Prop)(R:Option Exit×σ->Prop)(hstep:∀i (hi:i<live.length) s,p live[i]=true->Inv (n0+((live.take i).filter p).length) s->Sat (φ (((n0+((live.take i).filter p).length:Nat):Int),live[i]) s) fun r=>r.1=none/\Inv (n0+((live.take i).filter p).length+1) r.2)(hk:∀s,Inv (n0+(live.filter p).length) s->Sat (kb ((n0+(live.filter p).length:Nat):Int) (p6+1) (none,s)) R)(s:σ)(hs:Inv n0 s):Sat (cY N kb (cM φ) b p6 live N (n0:Int) 0 (none,s)) R:=by
 have hfl: ∀i,((live.take i).filter p).length<=2000:=fun i=>YN (Yb _ _) (by rw [Zb];omega)
 refine jt (fun k i (st:Nat×σ)=>cY N kb (cM φ) b p6 live k (st.1:Int) (i:Int) (none,st.2)) live.length (fun i st=>st.1=n0+((live.take i).filter p).length/\Inv st.1 st.2) _ ?_ ?_ N 0 (n0,s) I I ⟨by simp,hs⟩
 ·rintro k i ⟨n,st⟩ hi ⟨h1,h2⟩ go;simp only at h1 h2;have hb:=hfl i;show Sat (cY N kb (cM φ) b p6 live (k+1) (n:Int) (i:Int) (none,st)) _;have hnx:=J0 (p:=p) hi;rw [cY.eq_2,fJ I,ct,aM hi,bs, <-hp];unfold mf;rw [r64 (a:=(i:Int)+1) I I];cases hq:p live[i]
  ·simp only [nf,ct];rw [hq] at hnx;have hg:=go (n,st) ⟨by show n=_;rw [hnx];exact h1,h2⟩
   first|rw [r64 (a:=(i:Int)+1) I I]|skip
   exact hg
  simp only [nt,cf];rw [hq] at hnx;obtain ⟨⟨e,s'⟩,g1,g2,g3⟩:=hstep i hi st hq (by rw [<-h1];exact h2);simp only at g2 g3;subst g2
  have hf:cM φ ((n:Int),live[i]) (none,st)=some (true,(none,s')):=by
   unfold cM;simp only;rw [h1,g1];rfl
  rw [hf,bs];simp only [nt,cf];rw [r64 (a:=(n:Int)+1) I I];have hg:=go (n+1,s') ⟨by show n+1=_;rw [hnx];show n+1=_+(_+1);omega,by show Inv (n+1) s';rw [h1];exact g3⟩
  first|rw [r64 (a:=(i:Int)+1) I I]|skip
  exact hg
 rintro k ⟨n,st⟩ ⟨h1,h2⟩;simp only [Zd] at h1 h2;show Sat (cY N kb (cM φ) b p6 live (k+1) (n:Int) _ (none,st)) _;rw [cY.eq_2,fz I,cf];unfold qz;rw [r64 I I,h1];exact hk st (by rw [<-h1];exact h2)
theorem FF (N:Nat)(φ:Int×Int->σ->Option (Option Exit×σ))(live:List Int)(hl:live.length<=2000)(hN:6500<N)(Inv:Nat->σ->Prop)(hstep:∀n a s,(qy live)[n]? =some a->Inv n s->Sat (φ ((n:Int),a) s) fun r=>r.1=none/\Inv (n+1) r.2)(s:σ)(hs:Inv 0 s):Sat (gp N live (cM φ) (none,s)) fun r=>r.1=none/\Inv (qy live).length r.2:=by
 obtain ⟨k,rfl⟩: ∃k,N=k+3:=⟨N - 3,by omega⟩;have hev:(live.filter xw).length<=2000:=YN (Yb _ _) hl;unfold gp;rw [fw.eq_2,show ((([0,1]:List Int).length:Int))=2 from rfl,fJ I,ct,show aq ([0,1]:List Int) 0=some 0 from rfl,bs];refine FE (k+3) φ live hl I _ 0 xw (fun _=>J) 0 I 0 I Inv _ (fun i hi st hp hi2=> ?_) (fun st hst=> ?_) s hs
 ·refine hstep _ _ _ ?_ hi2;unfold qy;rw [XS]
  ·rw [YS];exact zH hi hp
  have:=(XZ.1 (zH hi hp)).1;omega
 rw [fw.eq_2,show ((([0,1]:List Int).length:Int))=2 from rfl,fJ I,ct,show aq ([0,1]:List Int) (0+1)=some 1 from rfl,bs];refine FE (k+3) φ live hl I _ 1 GT (fun _=>J) (0+1) I (0+(live.filter xw).length) I Inv _ (fun i hi st hp hi2=> ?_) (fun st hst=> ?_) st hst
 ·refine hstep _ _ _ ?_ hi2;unfold qy;rw [XT I,show 0+(live.filter xw).length+((live.take i).filter GT).length - (live.filter xw).length=((live.take i).filter GT).length by omega];exact zH hi hp
 rw [fw.eq_2,show ((([0,1]:List Int).length:Int))=2 from rfl,fz I,cf];refine ad ⟨J,?_⟩;unfold qy;rw [Za]
 have e:0+(live.filter xw).length+(live.filter GT).length=(live.filter xw).length+(live.filter GT).length:=by omega
 rw [<-e];exact hst
theorem N4 {w:WZ}(h:v.Zh=w.Zh):bO v=bO w:=by unfold bO;rw [h]
def fP (c:W3):List Int:=gq c++pX c
def sx (c:W3):Bool:=(fL N c).getD false
theorem Ow (c:W3):(fP c).length<=c.Zj.length+2*c.Zi.length:=by
 have h1:=ux c;have h2:=uM c;unfold fP;rw [Za];omega
theorem Cy: ∀l:List W3,(l.flatMap fP).length<=2*wt l
 | []=>by simp [wt]
 |c::l=>by
  have h1:=Cy l;have h2:=Ow c;rw [XQ,Za,wt];omega
theorem K9 (N:Nat)(m:WY)(l:List Int)(hl:l.length<N)(a6:l.length<=6000)(h64:∀x∈l,in64 x):cI N l (fun x=>jg N x m)=some (!wz m l):=by
 have key: ∀k i:Nat,l.length<k+i->i<=l.length->Sat (dQ N (fun x=>jg N x m) l k (i:Int)) fun r=>decide (0<=r)=!(l.drop i).all (aZ m):=by
  intro k
  induction k with
  |zero=>intro i h1 h2;omega
  | succ k ih=>
   intro i h1 h2;rw [dQ.eq_2];by_cases hi:i<l.length
   ·have h3:=ih (i+1) I hi;rw [show (((i+1:Nat)):Int)=(i:Int)+1 by omega] at h3;rw [fJ I,ct,aM hi,bs,XF hi,List.all_cons];unfold jg;rw [F2 N m _ (h64 _ (Zg _)),bs,bs,r64 I I];cases aZ m l[i]
    ·exact ad (by rw [W9 I];rfl)
    exact h3
   rw [fz I,cf,XG I];exact ad J
 obtain ⟨r,h1,h2⟩:=key N 0 I I;have h1':dQ N (fun x=>jg N x m) l N 0=some r:=h1;unfold cI lJ;rw [h1',bs,h2];unfold wz;simp
def oB (m:WY)(roots:List WZ):Int:=
 bif (m.Zp++m.Zr).all (sx N) then bif wz m ((m.Zp++m.Zr).flatMap fP++dJ roots) then 0 else 50 else 51
theorem Gt (N:Nat)(hN:6500<N){roots:List WZ}(hs:Small m roots)(ht:Wtd m roots)(hw:W64 m)(hr:∀v∈roots,in64 v.N):mI N m roots=some (oB N m roots):=by
 have hle:=ht.le;have h1:=hs.young;have h2:=hs.old;have h3:=hs.roots
 have a64: ∀(l:List W3),(∀c∈l,c∈m.Zp++m.Zr)-> ∀x∈l.flatMap fP,in64 x:=fun l hl x hx=>by
  obtain ⟨c,hc,hx⟩:=List.mem_flatMap.1 hx;obtain ⟨⟨-,g1⟩, -,g2⟩:=Nh hs hw (hl c hc);exact (Yi.1 hx).elim (g1 x) (g2 x)
 have r64': ∀x∈dJ roots,in64 x:=fun x hx=>by
  obtain ⟨v,h1, -,rfl⟩:=tS.1 hx;exact hr v h1
 have hal: ∀k,(dJ (roots.take k)).length<=roots.length:=fun k=>by
  unfold dJ;rw [Zc];exact YN (Yb _ _) (by rw [Zb];omega)
 -- the roots
 have hroots: ∀q:List Int,q.length+roots.length<=5800->(∀x∈q,in64 x)->qB N roots m q=some (bif wz m (q++dJ roots) then 0 else 50):=by
  intro q hq a6;apply Sat.eq;unfold qB;refine jt (fun k i (s:List Int)=>fN N roots m k s (i:Int)) roots.length (fun i s=>s=q++dJ (roots.take i)) _ ?_ ?_ N 0 q I I (by simp [dJ])
  ·rintro k i s hi h1 go;show Sat (fN N roots m (k+1) s (i:Int)) _
   have hnext:q++dJ (roots.take (i+1))=s++dJ [roots[i]]:=by rw [cn hi,DA,h1,Xc]
   have hsl:s.length<=5800:=by have:=hal i;rw [h1,Za];omega
   rw [fN.eq_2,fJ I,ct,aM hi,bs,wl,bs];unfold pc;cases hb:bO roots[i]
   ·rw [cf,r64 I I];exact go s (by rw [hnext];simp [dJ,hb])
   rw [ct,rF (by simp;omega),r64 I I];exact go _ (by rw [hnext];simp [dJ,hb])
  rintro k s h1;show Sat (fN N roots m (k+1) s _) _;rw [Zd] at h1
  have hsl:s.length<=5800:=by have:=hal roots.length;rw [Zd] at this;rw [h1,Za];omega
  rw [fN.eq_2,fz I,cf];unfold sC;rw [K9 N m s I I (fun x hx=>by rw [h1] at hx;exact (Yi.1 hx).elim (a6 x) (r64' x)),bs, <-h1];cases wz m s<;>exact ad rfl
 -- one row
 have row: ∀(kb:List Int->Int->Option Int) (p:Int) (l:List W3) (q:List Int),in64 (p+1)->l.length<=600->wt l<=2900->(∀c∈l,c∈m.Zp++m.Zr)->q.length<=6000->mu N kb m p l roots N q 0=bif l.all (sx N) then kb (q++l.flatMap fP) (p+1) else some 51:=by
  intro kb p l q hp hll hl a7 hq
  have key: ∀(k i:Nat),l.length<k+i->i<=l.length->mu N kb m p l roots k (q++(l.take i).flatMap fP) (i:Int)=bif (l.drop i).all (sx N) then kb (q++l.flatMap fP) (p+1) else some 51:=by
   intro k
   induction k with
   |zero=>intro i h1 h2;omega
   | succ k ih=>
    intro i h4 h5;have hfl:=Cy (l.take i)
    have hwt:wt (l.take i)<=wt l:=by
     have:=ES (l.take i) (l.drop i);rw [YB] at this;omega
    by_cases hi:i<l.length
    ·have hm:=a7 l[i] (Zg _);have hc:=hs.cells _ hm;have hwi:=QB hi
     have hwt2:wt (l.take (i+1))<=wt l:=by
      have:=ES (l.take (i+1)) (l.drop (i+1));rw [YB] at this;omega
     obtain ⟨b,hb, -⟩:=Hg N I l[i] I I
     have hrc:sx N l[i]=b:=by unfold sx;rw [hb];rfl
     have e1:=ux l[i];have e2:=uM l[i];have h6:=ih (i+1) I hi;rw [show (((i+1:Nat)):Int)=(i:Int)+1 by omega] at h6;rw [mu.eq_2,fJ I,ct,aM hi,bs,BA N I _ I I,hb,bs,AT N I _ I I,bs,Za,rF I,DF N I _ I I,bs,Za,Za,rF I,r64 I I]
     have hap:q++(l.take i).flatMap fP++gq l[i]++pX l[i]=q++(l.take (i+1)).flatMap fP:=by
      rw [cn hi,XP];simp [fP,Xc]
     rw [hap,h6,XF hi,List.all_cons,hrc];cases b<;>rfl
    have e:i=l.length:=by omega
    subst e;rw [mu.eq_2,fz I,cf,List.drop_length,Zd];unfold sD;rw [cj hp];rfl
  have:=key N 0 I I;simpa using this
 have hwy:wt m.Zp<=2900:=by omega
 have hwo:wt m.Zr<=2900:=by omega
 have hfy:=Cy m.Zp;have hfo:=Cy m.Zr;obtain ⟨k,rfl⟩: ∃k,N=k+3:=⟨N - 3,by omega⟩;unfold mI oB;rw [nB.eq_2,show ((([m.Zp,m.Zr]:List Xg).length:Int))=2 from rfl,fJ I,ct,show aq ([m.Zp,m.Zr]:List Xg) 0=some m.Zp from rfl,bs,row _ 0 m.Zp [] (by unfold in64;omega) h1 hwy (fun c hc=>Xd _ hc) (by simp)];rw [nB.eq_2,show ((([m.Zp,m.Zr]:List Xg).length:Int))=2 from rfl,fJ I,ct,show aq ([m.Zp,m.Zr]:List Xg) (0+1)=some m.Zr from rfl,bs,Zf,row _ (0+1) m.Zr (m.Zp.flatMap fP) (by unfold in64;omega) h2 hwo (fun c hc=>Xe _ hc) I]
 rw [nB.eq_2,show ((([m.Zp,m.Zr]:List Xg).length:Int))=2 from rfl,fz I,cf,hroots _ (by rw [Za];omega) (fun x hx=>by
  rw [<-XP] at hx
  exact a64 _ (fun c hc=>hc) x hx),List.all_append,XP]
 cases m.Zp.all (sx (k+3))<;>cases m.Zr.all (sx (k+3))<;>rfl
def tK (f:List Int)(a:Int):Int:=2*((f.idxOf a:Nat):Int)+2
def fW (ρ:Int->Int)(f:List Int)(v:WZ):WZ:=bif bO v&&decide (v.N∈f) then ⟨v.Zh,ρ v.N,v.S⟩ else v
def sm (ρ:Int->Int)(f:List Int)(c:W3):W3:=⟨c.Zh,c.Zq,c.Zm,c.Zn,c.Zj.map (fW ρ f),c.Zi.map (fW ρ f)⟩
def RhoM (kv:List (Int×Int))(f:List Int):Prop:= ∀x,lk kv x=if x∈f then some (tK f x) else none
theorem wX (N:Nat)(hN:6500<N)(l:List WZ)(hl:l.length<=6000)(kv:List (Int×Int))(f:List Int)(hk:RhoM kv f):eo N l kv=some (l.map (fW (tK f) f)):=by
 apply Sat.eq;unfold eo;refine jt (fun k i (s:List WZ)=>gZ N l kv k s (i:Int)) l.length (fun i s=>s=(l.take i).map (fW (tK f) f)) _ ?_ ?_ N 0 [] I I J
 ·rintro k i s hi h1 go;show Sat (gZ N l kv (k+1) s (i:Int)) _
  have hsl:s.length<=i:=by rw [h1,Zc,Zb];omega
  have hnext:(l.take (i+1)).map (fW (tK f) f)=s++ [fW (tK f) f l[i]]:=by rw [cn hi,Yf,h1];rfl
  rw [gZ.eq_2,fJ I,ct,aM hi,bs,hk l[i].N,wl];unfold pa;by_cases hm:l[i].N∈f
  ·rw [if_pos hm];simp only [bs,Option.isSome_some,ct];cases hb:bO l[i]
   ·rw [cf,rF (by simp;omega),r64 I I];refine go _ ?_;rw [hnext];unfold fW;rw [hb];rfl
   rw [ct,rF (by simp;omega),r64 I I];refine go _ ?_;rw [hnext];unfold fW;rw [hb,W9 hm];rfl
  rw [if_neg hm];simp only [bs,Option.isSome_none,cf];rw [rF (by simp;omega),r64 I I];refine go _ ?_;rw [hnext];unfold fW;rw [Xa hm,Xp];rfl
 rintro k s h1;show Sat (gZ N l kv (k+1) s _) _;rw [gZ.eq_2,fz I,cf];exact ad (by rw [h1,Zd])
def qT (l:List Int)(c:W3):W3:=bif decide (c.Zh=8) then sK N l c else bif decide (c.Zh=10) then (Gs l c).1 else c
def uJ (l:List Int)(c:W3):List WZ:=bif decide (c.Zh=10) then (Gs l c).2 else []
theorem EO (N:Nat)(l:List Int)(c:W3):(qT N l c).Zj.length=c.Zj.length/\(qT N l c).Zi.length+(uJ l c).length<=c.Zi.length:=by
 unfold qT uJ;by_cases h8:c.Zh=8
 ·rw [W9 h8,Xa (p:=c.Zh=10) I];have:=LC N l c;simp only [cond_true,cond_false,Yc];omega
 rw [Xa h8];by_cases h10:c.Zh=10
 ·rw [W9 h10];have:=Pq l (c.Zi.headD oh) (c.Zi.drop 1);rw [Ya] at this;unfold Gs;refine ⟨J,?_⟩;show (c.Zi.take 1++fb l (c.Zi.drop 1)).length+(qb l (c.Zi.headD oh) (c.Zi.drop 1)).length<=c.Zi.length;rw [Za,Zb]
  cases hm:c.Zi with
  |nil=>rw [hm] at this;simp [fb,qb]
  |cons a r=>rw [hm] at this;simp only [X9] at this⊢;omega
 rw [Xa h10];simp
theorem RhoM.nil:RhoM [] []:=fun x=>rfl
theorem RhoM.add {kv:List (Int×Int)}{f:List Int}(hi:i<f.length)(h:RhoM kv (f.take i))(hn:f.Nodup):RhoM (Bq kv f[i] (2*(i:Int)+2)) (f.take (i+1)):=by
 intro x
 have hlen:(f.take i).length=i:=by rw [Zb];omega
 have hni:f[i]∉f.take i:=by
  intro hm;obtain ⟨j,hj,e⟩:=X8 hm;rw [Zb] at hj;rw [List.getElem_take] at e;exact Yw.1 (List.nodup_iff_pairwise_ne.1 hn) j i I hi I e
 rw [Pp,cn hi];unfold tK;rw [List.idxOf_append];by_cases e:f[i]=x
 ·rw [if_pos e, <-e,if_pos (Xe _ (by simp)),if_neg hni];simp [hlen]
 rw [if_neg e,h x];by_cases hm:x∈f.take i
 ·rw [if_pos hm,if_pos (Xd _ hm),if_pos hm];rfl
 rw [if_neg hm,if_neg (by simp only [Yi,Ys];exact fun hh=>hh.elim hm fun hh=>e hh.symm)]
structure Coll where
 next:WY
 now:List WZ
 gone:List WZ
def Kb (m:WY)(roots:List WZ)(live f:List Int):Coll:=
 ⟨⟨[],f.map fun a=>sm (tK f) f (qT N live (cp m a))⟩,roots.map (fW (tK f) f),(f.flatMap fun a=>uJ live (cp m a)).map (fW (tK f) f)⟩
structure Mild (g:WZ->WZ):Prop where
 z:g vZ=vZ
 kind: ∀v,(g v).Zh=v.Zh
 num: ∀v,v.Zh=3->g v=v
 may: ∀v,ln v=true->ln (g v)=true
section
variable {g:WZ->WZ}(h:Mild g)
include h
theorem Mild.at_ (l:List WZ)(i:Nat):rY (l.map g) i=g (rY l i):=by
 unfold rY;simp only [List.getD,X0]
 cases l[i]? with
 |none=>exact h.z.symm
 |some v=>rfl
theorem Mild.numB (v:WZ)(a b:Int):Go.Proofs.YtmcifcmlojonnaaGreatDoor.numB (g v) a b=Go.Proofs.YtmcifcmlojonnaaGreatDoor.numB v a b:=by
 unfold Go.Proofs.YtmcifcmlojonnaaGreatDoor.numB;by_cases h3:v.Zh=3
 ·rw [h.num v h3]
 rw [h.kind,Xa h3];rfl
theorem Mild.noneB (v:WZ)(k:Int):Go.Proofs.YtmcifcmlojonnaaGreatDoor.noneB (g v) k=Go.Proofs.YtmcifcmlojonnaaGreatDoor.noneB v k:=by
 unfold Go.Proofs.YtmcifcmlojonnaaGreatDoor.noneB;rw [h.kind]
theorem Mild.ent2: ∀l:List WZ,uC (l.map g)=uC l
 | []=>rfl
 | [_]=>rfl
 |k::v::r=>by
  simp only [Yg];simp only [rH];rw [h.kind,h.kind,Mild.ent2 r]
theorem Mild.ent4: ∀l:List WZ,oT (l.map g)=oT l
 | []=>rfl
 | [_]=>rfl
 | [_,_]=>rfl
 | [_,_,_]=>rfl
 |t::v::k::s::r=>by
  simp only [Yg];simp only [rG];rw [h.kind,h.kind,h.noneB,h.numB,Mild.ent4 r]
theorem Mild.slots (k sh fl:Int)(l:List WZ):ot k sh fl (l.map g)=ot k sh fl l:=by
 unfold ot;simp only [Zc,h.at_,h.kind,h.noneB]
theorem Mild.more (k:Int)(l:List WZ):sn k (l.map g)=sn k l:=by
 unfold sn;rw [<-List.map_drop,h.ent2,h.ent4];simp only [Zc,h.at_,h.kind,h.noneB,h.numB]
theorem Mild.all {l:List WZ}(hl:l.all ln=true):(l.map g).all ln=true:=by
 rw [XA] at hl⊢;intro v hv;obtain ⟨w,hw,rfl⟩:=Yn.1 hv;exact h.may w (hl w hw)
theorem Mild.right (hc:bQ c=true):bQ ⟨c.Zh,c.Zq,c.Zm,c.Zn,c.Zj.map g,c.Zi.map g⟩=true:=by
 unfold bQ at hc⊢;simp only [Ze] at hc;obtain ⟨h1,h2,h3,h4,h5⟩:=hc;simp only [h.slots,h.more,h.all h2,h.all h3,h4,h5,Bool.and_true];simp only [Ze];exact h1
end
theorem Mm (hb:bO v=true):ln v=((v.S.toList==(⟨#[]⟩:ByteArray).toList)&&decide (1<=v.N)):=by
 have hk:v.Zh=7\/v.Zh=9:=by
  unfold bO at hb;rw [Bool.or_eq_true,Y6,Y6] at hb;exact hb
 unfold ln dN;rcases hk with hk|hk<;>rw [hk]<;>cases (v.S.toList==(⟨#[]⟩:ByteArray).toList)<;>rfl
structure Ren (ρ:Int->Int) (f:List Int):Prop where
 inj: ∀a b,a∈f->b∈f->ρ a=ρ b->a=b
 pos: ∀a∈f,1<=ρ a
theorem Pg {ρ:Int->Int}{f:List Int}(hρ:Ren ρ f):Mild (fW ρ f) where
 z:=rfl
 kind v:=by unfold fW;cases bO v&&decide (v.N∈f)<;>rfl
 num v h:=by
  have:bO v=false:=by unfold bO;rw [h];rfl
  unfold fW;rw [this];rfl
 may v h:=by
  cases hb:bO v&&decide (v.N∈f) with
  |false=>unfold fW;rw [hb];exact h
  |true=>
   have a6:=(Ze _ _▸hb:bO v=true/\decide (v.N∈f)=true);have a7:=a6.1
   have e:fW ρ f v=⟨v.Zh,ρ v.N,v.S⟩:=by unfold fW;rw [hb];rfl
   have a8:bO (⟨v.Zh,ρ v.N,v.S⟩:WZ)=true:=a7;rw [e,Mm a8];rw [Mm a7,Ze] at h;rw [Ze];exact ⟨h.1,W9 (hρ.pos _ (Y8 a6.2))⟩
theorem NS {ρ:Int->Int}{f:List Int}(hρ:Ren ρ f)(h:bQ c=true):bQ (sm ρ f c)=true:=(Pg hρ).right h
theorem uQ (h:bQ c=true):c.Zj.all ln=true/\c.Zi.all ln=true/\sn c.Zh c.Zi=true:=by
 unfold bQ at h;simp only [Ze] at h;exact ⟨h.2.1,h.2.2.1,h.2.2.2.2⟩
theorem Fb (h:bQ c=true){m:List WZ}(h1:m.all ln=true)(h2:sn c.Zh m=true):bQ ⟨c.Zh,c.Zq,c.Zm,c.Zn,c.Zj,m⟩=true:=by
 unfold bQ at h⊢;simp only [Ze] at h;obtain ⟨g1,g2,g3,g4,g5⟩:=h;simp only [g2,h1,g4,h2,Bool.and_true];simp only [Ze];exact g1
theorem Gl (p:Int->Bool): ∀{l:List WZ},uC l=true->uC (jR p l)=true
 | [],_=>rfl
 | [_],h=>by cases h
 |k::v::r,h=>by
  rw [rH] at h;rw [Ze] at h;have ih:=Gl p h.2;simp only [D3];cases p k.N
  ·exact ih
  show uC (k::v::jR p r)=true;simp only [rH];rw [h.1,ih];rfl
theorem HR (lv:List Int): ∀{l:List WZ},oT l=true->oT (fb lv l)=true
 | [],_=>rfl
 | [_],h=>by cases h
 | [_,_],h=>by cases h
 | [_,_,_],h=>by cases h
 | t::v::k::s::r,h=>by
  rw [rG] at h;rw [Ze,Ze,Ze,Ze] at h;obtain ⟨⟨⟨h1,h2⟩,h3,h4⟩,h5⟩:=h;have ih:=HR lv h5;simp only [AU];cases decide (t.N∈lv)
  ·exact ih
  show oT (t::v::(bif decide (k.Zh=7)&& !decide (k.N∈lv) then oh else k)::s::fb lv r)=true;simp only [rG]
  have h6:noneB (bif decide (k.Zh=7)&& !decide (k.N∈lv) then oh else k) 7=true:=by
   cases decide (k.Zh=7)&& !decide (k.N∈lv)
   ·exact h3
   rfl
  rw [h1,h2,h6,h4,ih];rfl
theorem FY (lv:List Int){x:WZ}: ∀{l:List WZ},x∈fb lv l->x∈l\/x=oh
 | [],h=>by simp [fb] at h
 | [_],h=>by simp [fb] at h
 | [_,_],h=>by simp [fb] at h
 | [_,_,_],h=>by simp [fb] at h
 | t::v::k::s::r,h=>by
  simp only [AU] at h;rcases Yi.1 h with h|h
  ·cases hd:decide (t.N∈lv) with
   |false=>rw [hd] at h;cases h
   |true=>
    rw [hd] at h
    cases hk:decide (k.Zh=7)&& !decide (k.N∈lv) with
    |false=>rw [hk] at h;simp at h;rcases h with h|h|h|h<;>subst h<;>simp
    |true=>rw [hk] at h;simp at h;rcases h with h|h|h|h<;>subst h<;>simp
  rcases FY lv h with h|h
  ·exact .inl (by simp [h])
  exact .inr h
theorem Pj:ln oh=true:=by kernel_rfl
theorem Ok (N:Nat)(lv:List Int)(h:bQ c=true):bQ (qT N lv c)=true:=by
 obtain ⟨h1,h2,h3⟩:=uQ h;unfold qT;by_cases h8:c.Zh=8
 ·rw [tv h8,cond_true];unfold sK;cases uy N c
  ·exact h
  refine Fb h (m:=jR (fun x=>decide (x∈lv)) c.Zi) ?_ ?_
  ·rw [XA] at h2⊢
   exact fun v hv=>h2 v (Bf hv)
  rw [h8] at h3⊢;exact Gl _ h3
 rw [jk h8,cond_false];by_cases h10:c.Zh=10
 ·rw [tv h10,cond_true];rw [h10] at h3;have h3':(decide (1<=c.Zi.length)&&decide ((rY c.Zi 0).Zh=7)&&oT (c.Zi.drop 1))=true:=h3;simp only [Ze,Y6] at h3';obtain ⟨⟨g1,g2⟩,g3⟩:=h3';refine Fb h (m:=c.Zi.take 1++fb lv (c.Zi.drop 1)) ?_ ?_
  ·rw [XA] at h2⊢;intro v hv;rcases Yi.1 hv with hv|hv
   ·exact h2 v (Yp hv)
   rcases FY lv hv with hv|rfl
   ·exact h2 v (List.mem_of_mem_drop hv)
   exact Pj
  rw [h10];show (decide (1<=(c.Zi.take 1++fb lv (c.Zi.drop 1)).length)&&decide ((rY (c.Zi.take 1++fb lv (c.Zi.drop 1)) 0).Zh=7)&&oT ((c.Zi.take 1++fb lv (c.Zi.drop 1)).drop 1))=true
  obtain ⟨a,r,hr⟩: ∃a r,c.Zi=a::r:=by
   cases hm:c.Zi with
   |nil=>rw [hm] at g1;simp at g1
   |cons a r=>exact ⟨a,r,rfl⟩
  rw [hr] at g2 g3⊢;have e1:(a::r).take 1++fb lv ((a::r).drop 1)=a::fb lv r:=rfl;rw [e1];have g3':oT r=true:=g3;have g2':a.Zh=7:=g2;simp only [Ze,Y6];exact ⟨⟨by simp,g2'⟩,HR lv g3'⟩
 rw [jk h10,cond_false];exact h
end Go.Proofs.YtmcifcmlojonnaaGreatDoor
namespace Go.Proofs.YtmcifcmlojonnaaGreatDoor
variable (N:Nat){held:Bool}{f:Bool->Option Bool}{a x:Int}{p:Int->Bool}{met:List (Int×Unit)}{l row:List Int}{b0 i k:Nat}{spare:Nat->Bool}{H α β ρ σ:Type}{c:W3}{m:WY}{v:WZ}{hJ:World}
open Go.RowKit
def cK {α:Type}(g:α->Nat):List α->Nat
 | []=>0
 |a::l=>g a+cK g l
theorem Bt (g:α->Nat): ∀a b:List α,cK g (a++b)=cK g a+cK g b
 | [],b=>by simp [cK]
 |c::a,b=>by rw [XE,cK,cK,Bt g a b];omega
theorem Nm (g:α->Nat){a b:List α}(h:a.Perm b):cK g a=cK g b:=by
 induction h with
 |nil=>rfl
 |cons x _ ih=>rw [cK,cK,ih]
 |swap x y l=>rw [cK,cK,cK,cK];omega
 |trans _ _ h1 h2=>rw [h1,h2]
theorem xX (g:Int->Nat): ∀{l L:List Int},l.Nodup->(∀x∈l,x∈L)->cK g l<=cK g L
 | [],_,_,_=>YT _
 |a::l,L,hn,hs=>by
  obtain ⟨h1,h2⟩:=Yu.1 hn;have hp:=List.perm_cons_erase (hs a (by simp));rw [Nm g hp,cK,cK]
  have:=xX g (l:=l) (L:=L.erase a) h2 fun x hx=>(List.mem_erase_of_ne (fun e:x=a=>h1 (by rw [<-e];exact hx))).2 (hs x (by simp [hx]))
  omega
theorem xY (g:β->Nat)(f:α->β): ∀l:List α,cK g (l.map f)=cK (fun x=>g (f x)) l
 | []=>rfl
 |x::l=>by rw [Yg,cK,cK,xY g f l]
theorem Ig {g h:α->Nat}: ∀{l:List α},(∀x∈l,g x<=h x)->cK g l<=cK h l
 | [],_=>YM _
 |x::l,hh=>by
  rw [cK,cK];have h1:=hh x (by simp)
  have h2:=Ig (l:=l) fun y hy=>hh y (by simp [hy])
  omega
theorem yP (f:α->List β): ∀l:List α,(l.flatMap f).length=cK (fun x=>(f x).length) l
 | []=>rfl
 |x::l=>by rw [XQ,Za,cK,yP f l]
theorem Bu (g h:α->Nat): ∀l:List α,cK (fun x=>g x+h x) l=cK g l+cK h l
 | []=>rfl
 |x::l=>by rw [cK,cK,cK,Bu g h l];omega
def wC (c:W3):Nat:=1+c.Zj.length+c.Zi.length
theorem H9: ∀l:List W3,wt l=cK wC l
 | []=>rfl
 |c::l=>by rw [wt,cK,H9 l];rfl
def G3 (m:WY):List Int:=(List.range m.Zp.length).map (fun i:Nat=>2*(i:Int)+1)++(List.range m.Zr.length).map (fun i:Nat=>2*(i:Int)+2)
theorem zc (m:WY)(i:Nat)(h:i<m.Zp.length):cp m (2*(i:Int)+1)=m.Zp[i]:=by
 unfold cp kH;rw [if_neg I,if_pos I,show ((2*(i:Int)+1 - 1) / 2).toNat=i by omega,XX h];rfl
theorem xz (m:WY)(i:Nat)(h:i<m.Zr.length):cp m (2*(i:Int)+2)=m.Zr[i]:=by
 unfold cp kH;rw [if_neg I,if_neg I,show ((2*(i:Int)+2 - 2) / 2).toNat=i by omega,XX h];rfl
theorem Do (m:WY)(i:Nat):aZ m (2*(i:Int)+1)=decide (i<m.Zp.length):=by
 unfold aZ kH;rw [if_neg I,if_pos I,show ((2*(i:Int)+1 - 1) / 2).toNat=i by omega];by_cases h:i<m.Zp.length
 ·rw [XX h,W9 h];rfl
 rw [XY I,Xa h];rfl
theorem yO (m:WY)(i:Nat):aZ m (2*(i:Int)+2)=decide (i<m.Zr.length):=by
 unfold aZ kH;rw [if_neg I,if_neg I,show ((2*(i:Int)+2 - 2) / 2).toNat=i by omega];by_cases h:i<m.Zr.length
 ·rw [XX h,W9 h];rfl
 rw [XY I,Xa h];rfl
theorem Km (m:WY):(G3 m).map (cp m)=m.Zp++m.Zr:=by
 unfold G3;rw [Yf,List.map_map,List.map_map]
 congr 1
 ·refine List.ext_getElem (by simp) fun i h1 h2=> ?_
  simp only [X7,List.getElem_range,Function.comp];exact zc m i h2
 refine List.ext_getElem (by simp) fun i h1 h2=> ?_
 simp only [X7,List.getElem_range,Function.comp];exact xz m i h2
theorem jh (h:aZ m a=true):(∃i:Nat,i<m.Zp.length/\a=2*(i:Int)+1)\/ ∃i:Nat,i<m.Zr.length/\a=2*(i:Int)+2:=by
 rcases xn m a with ⟨h1,h2⟩|⟨k,h1, -⟩|⟨k,h1, -⟩
 ·unfold aZ at h;rw [h2] at h;cases h
 ·subst h1;rw [Do] at h;exact .inl ⟨k,Y8 h,J⟩
 subst h1;rw [yO] at h;exact .inr ⟨k,Y8 h,J⟩
theorem Cd (h:aZ m a=true):a∈G3 m:=by
 unfold G3;rcases jh h with ⟨i,h1,rfl⟩|⟨i,h1,rfl⟩
 ·exact Xd _ (Yn.2 ⟨i,Yr.2 h1,J⟩)
 exact Xe _ (Yn.2 ⟨i,Yr.2 h1,J⟩)
theorem OK (hn:l.Nodup)(hh:∀a∈l,aZ m a=true):cK (fun a=>wC (cp m a)) l<=wt m.Zp+wt m.Zr:=by
 have h1:=xX (fun a=>wC (cp m a)) hn fun a ha=>Cd (hh a ha)
 have h2:=xY wC (cp m) (G3 m);rw [Km, <-H9,ES] at h2;omega
theorem pn (h:aZ m a=true):cp m a∈m.Zp++m.Zr:=by
 unfold aZ at h;unfold cp
 cases hc:kH m a with
 |none=>rw [hc] at h;cases h
 |some c=>exact xi hc
end Go.Proofs.YtmcifcmlojonnaaGreatDoor