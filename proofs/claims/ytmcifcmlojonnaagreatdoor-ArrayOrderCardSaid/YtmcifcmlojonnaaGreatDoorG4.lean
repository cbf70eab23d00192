/- Merged texts: part 4. No conditions of their own. -/
import Derived.Test.YtmcifcmlojonnaaGreatDoorG3
set_option maxHeartbeats 4000000
namespace Go.Proofs.YtmcifcmlojonnaaGreatDoor
variable (N:Nat){a1 a2 a3:Int}{l:Nat}{σ:Type}{a0:WH}
theorem Wp:type_of% Tryz.underlying29:=Tryz.underlying29
theorem Wo:type_of% Tryz.underlying3:=Tryz.underlying3
variable {A1 A2 A3 A4 A5 A6 A7 A8 A9:Option Addr}{B1 B2 B3 B6 M3 M7 c1 c2 c3 c4 c5 c6 c7 c8 c9 n1 n2 n3 n4 n5 n6 n7 n8 n9:Nat}
open Go.RowKit Asn
set_option maxRecDepth 20000
def kj (a0:WI):Option Bool:=
 (wS N a0.Za).bind fun y4=>(bif y4 then (some true) else ((bif decide (a0.Za=7) then (some (decide (0<(a0.Zc.length:Int)))) else (some false)).bind fun b6=>some b6)).bind fun b5=>bif b5 then ((bif decide (1<=(a0.Zc.length:Int)) then (some (decide ((a0.Zc.length:Int)<=1025))) else (some false)).bind fun b8=>(bif b8 then ((au a0.Zc 0).bind fun a6=>(bif decide (a6.Za=1) then (some true) else ((au a0.Zc 0).bind fun a7=>some (decide (a7.Za=7)))).bind fun a8=>some a8) else (some false)).bind fun b9=>some b9) else (bif decide (a0.Za=7) then (some (decide (a0.Zi=0))) else ((bif !decide (a0.Zi=0) then (some true) else (some (!decide (a0.Ze=0)))).bind fun b0=>bif b0 then (some false) else (bif decide (a0.Za=5) then ((bif decide ((a0.Zc.length:Int)=2) then ((au a0.Zc 0).bind fun b7=>(iZ N b7 7).bind fun d0=>some d0) else (some false)).bind fun d1=>(bif d1 then ((au a0.Zc 1).bind fun d2=>(iZ N d2 7).bind fun d3=>some d3) else (some false)).bind fun d4=>some d4) else (some (decide ((a0.Zc.length:Int)=0))))))
theorem AR {N:Nat}{a0:WI}{r:Bool}(h:kj N a0=some r):Okc W8 179 [.agg #[iV a0.Za,iV a0.Zi,iV a0.Ze,iV a0.Zf,W A1 n1 c1,W A2 n2 c2]] ([aX A1 n1 c1 a0.Zc,aX A2 n2 c2 a0.Zb]) (fun u post=>u=.bool r/\post=[]):=by
 refine ce Tryz.func179 ?_;intro B3;refine sY ?_
 refine cR h (fun _ k=>J1 k) fun y4 h=> ?_
 refine xc 10 16 6 h (fun _ g5 h=> ?_) fun b5 h=> ?_
 ·refine ab ?_;refine gS 5 15 10 h ?_;intro b6 h;exact gY
 refine dr h ?_ ?_<;>intro h
 ·refine ab ?_;refine gS 5 26 21 h ?_;intro b8 h;refine ab ?_
  refine oo 15 42 27 h (fun _ g9 h=> ?_) fun b9 h=> ?_
  ·refine ab ?_;obtain ⟨e2,a6,a7,b7,h⟩:=bz h;refine ab ?_;refine r8 (se 1 J bi J (toNat_lt a6 a7) ta) J (bW g9 J) J<|ab ?_
   refine xc 7 41 34 h (fun _ d0 h=> ?_) fun e3 h=> ?_
   ·refine ab ?_;obtain ⟨e4,a8,b0,d1,h⟩:=bz h;refine ab ?_;exact r8 (se 1 J bi J (toNat_lt a8 b0) ta) J (cL d0 J) J<|gY
   exact gY
  exact eY
 refine sY ?_;refine gH J h ?_ ?_<;>intro h
 ·exact eY
 refine sY ?_;refine gS 4 56 52 h ?_;intro e5 h;refine dr h ?_ ?_<;>intro h
 ·exact eY
 refine sY ?_;refine gH J h ?_ ?_<;>intro h
 ·refine ab ?_
  refine oo 6 70 64 h (fun _ e6 h=> ?_) fun e7 h=> ?_
  ·refine ab ?_;obtain ⟨e8,d2,d3,d4,h⟩:=bz h
   refine cR h (fun _ k=>lc k) fun e9 h=> ?_
   exact gY
  refine ab ?_
  refine oo 6 77 71 h (fun _ f0 h=> ?_) fun f1 h=> ?_
  ·refine ab ?_;obtain ⟨f2,d6,e0,e1,h⟩:=bz h
   refine cR h (fun _ k=>lc k) fun f3 h=> ?_
   exact gY
  exact eY
 exact eY
def ja (N:Nat)(a0:WK)(a1 a2:Int):Option Bool:=
 (bif decide (a0.Za=3) then (some (decide (a1<=a0.N))) else (some false)).bind fun b2=>(bif b2 then (some (decide (a0.N<=a2))) else (some false)).bind fun b3=>some b3
theorem ld {N:Nat}{a0:WK}{r:Bool}(h:ja N a0 a1 a2=some r):Okc W8 202 [(aE a0),iV a1,iV a2] ([]) (fun u post=>u=.bool r/\post=[]):=by
 refine ce Tryz.func202 ?_;intro B1;refine ab ?_;refine gS 5 15 10 h ?_;intro b2 h;refine ab ?_;refine gS 5 21 16 h ?_;intro b3 h;exact eY
def jM (N:Nat){σ:Type}(fy:WW->σ->Option (Bool×σ))(a1:WW)(a2:Int):Nat->Int->σ->Option σ
 |0,_,_=>none
 |m4+1,p5,p6=>bif decide (p5<(a1.length:Int)) then (aG ((0:Int)<=p5/\p5.toNat<=a1.length/\a1.length<=a1.length) (aG (in64 (p5+(min a2 (((a1.drop p5.toNat).take (a1.length - p5.toNat)).length:Int)))) (aG (in64 (p5+(min a2 (((a1.drop p5.toNat).take (a1.length - p5.toNat)).length:Int)))) (aG ((0:Int)<=p5/\(0:Int)<=p5+(min a2 (((a1.drop p5.toNat).take (a1.length - p5.toNat)).length:Int))/\p5.toNat<=(p5+(min a2 (((a1.drop p5.toNat).take (a1.length - p5.toNat)).length:Int))).toNat/\(p5+(min a2 (((a1.drop p5.toNat).take (a1.length - p5.toNat)).length:Int))).toNat<=a1.length) ((fy ((a1.drop p5.toNat).take ((p5+(min a2 (((a1.drop p5.toNat).take (a1.length - p5.toNat)).length:Int))).toNat - p5.toNat)) p6).bind fun a6=>bif !a6.1 then (some a6.2) else (aG (in64 (p5+a2)) ((jM N fy a1 a2 m4) (p5+a2) a6.2))))))) else (some p6)
def tL (a1:WW)(a2:Int)(fy:WW->σ->Option (Bool×σ))(s0:σ):Option σ:=
 jM N fy a1 a2 N 0 s0
theorem D2 {N:Nat}{a1:WW}{fy:WW->σ->Option (Bool×σ)}{s0 r:σ}(h:tL N a1 a2 fy s0=some r){G:σ->W6}(hY:wc W8 l G (fun (x:WW) vs cs=> ∃A0 n0 c0,vs=[W A0 n0 c0]/\cs=[aX A0 n0 c0 x]) fy):Okc W8 229 [.func (.yield l) #[] #[],pV B1 0,pV B3 0] (aQ B1 22 [W A2 n2 c2]::aX A2 n2 c2 a1::aQ B3 3 [iV a2]::(G s0)) (fun u post=>u=.tuple #[]/\post=G r):=by
 refine ce Tryz.func229 ?_;refine lK (fun m s L=> ∃(p5:Int) (p6:σ),jM N fy a1 a2 m p5 p6=some r/\s=[(0,.func (.yield l) #[] #[]),(1,pV B1 0),(2,pV B3 0),(4,iV p5)]/\L=aX A2 n2 c2 a1::aQ B1 22 [W A2 n2 c2]::aQ B3 3 [iV a2]::(G p6)) N ?_;rintro m4 _ _ ⟨p5,p6,h,rfl,rfl⟩;rw [jM.eq_2] at h;refine sZ ?_;refine gH J h ?_ ?_<;>intro h
 ·refine sY ?_;refine dY [0,1,2] ?_;obtain ⟨q8,h⟩:=ae h;refine IU 0 J (l:=p5.toNat) (h:=a1.length) q8.2.1 q8.2.2 ?_;rintro A9 n9 c9 e9;refine zR 3 J (Bu 1 J e9 J t9 size28.out J (by rw [Xn q8.1];rfl) q8.2.1) ?_;refine zY [4] ?_;refine zE 5 J (Tv J J Wo Wo) ?_;refine zX [6] ?_;refine ab ?_;obtain ⟨b6,h⟩:=ae h;refine ab ?_;obtain ⟨b7,h⟩:=ae h;refine ab ?_;obtain ⟨a6,h⟩:=ae h;refine Ql 1 J (l:=p5.toNat) (h:=(p5+(min a2 (((a1.drop p5.toNat).take (a1.length - p5.toNat)).length:Int))).toNat) a6.2.2.1 a6.2.2.2 ?_;rintro a7 a8 b0 b5;refine gR (LN 2 J b5 J t9 size28.out J (by rw [Xn a6.1];rfl) (by rw [Xn a6.2.1];rfl) (by rw [Xn a6.2.1];rfl) a6.2.2.1 a6.2.2.2) ?_;obtain ⟨b9,k,h⟩:=aa h;refine gD (G8 (a:=(a1.drop p5.toNat).take ((p5+(min a2 (((a1.drop p5.toNat).take (a1.length - p5.toNat)).length:Int))).toNat - p5.toNat)) [aX a7 a8 b0 ((a1.drop p5.toNat).take ((p5+(min a2 (((a1.drop p5.toNat).take (a1.length - p5.toNat)).length:Int))).toNat - p5.toNat)),aX A9 n9 c9 ((a1.drop p5.toNat).take (a1.length - p5.toNat)),aX A2 n2 c2 a1,aQ B1 22 [W A2 n2 c2],aQ B3 3 [iV a2]] hY k J J ⟨_,_,_,J,J⟩ (Lj 0 J J)) ?_;rintro _ _ ⟨rfl,rfl⟩;refine dr h ?_ ?_<;>intro h
  ·exact eY
  refine ab ?_;obtain ⟨d0,h⟩:=ae h;exact lY
 exact eY
def lE (N:Nat)(a0:WW)(a1:Int):Option Unit:=
 bif decide (a1<1) then none else (some ())
theorem zw {N:Nat}{a0:WW}{r:Unit}(h:lE N a0 a1=some r):Okc W8 223 [W A1 n1 c1,iV a1] ([aX A1 n1 c1 a0]) (fun u post=> ∃a6 a7,u=.func (.func 229) #[] #[pV a6 0,pV a7 0]/\post=[ah a6 22 [W A1 n1 c1],ah a7 3 [iV a1]]):=by
 refine ce Tryz.func223 ?_;intro B2
 refine cn fun B3=> ?_
 refine sZ ?_;refine gH J h ?_ ?_<;>intro h
 ·exact aU h
 refine ab ?_;refine ga (iY J) ?_;exact eN
def bY (a1:Int)(x9:WW):(Unit)->Option (Option Exit×Unit)
 |()=>(au x9 0).bind fun a6=>(bif !decide (a6.Za=7) then (some true) else ((au x9 1).bind fun a7=>some (decide (a7.Za=8)))).bind fun a8=>bif a8 then (some (some .ret,())) else ((bif decide (a1=4) then ((au x9 2).bind fun b0=>(iZ N b0 7).bind fun b5=>(bif !b5 then (some true) else ((au x9 3).bind fun b6=>(ja N b6 0 9007199254740992).bind fun b7=>some (!b7))).bind fun b9=>some b9) else (some false)).bind fun b16=>bif b16 then (some (some .ret,())) else (some (none,())))
def dX (a0:WW)(a1:Int):Option Bool:=
 aG (a1≠0) (bif !decide ((a0.length:Int).tmod a1=0) then (some false) else ((lE N a0 a1).bind fun y6=>(tL N a0 a1 (cM (fun x st=>bY N a1 x st)) (none,())).bind fun a6=>qN a6.1 (some true) (some false) (fun _=>none)))
theorem rZ {N:Nat}{a0:WW}{r:Bool}(h:dX N a0 a1=some r):Okc W8 203 [W A1 n1 c1,iV a1] ([aX A1 n1 c1 a0]) (fun u post=>u=.bool r/\post=[]):=by
 refine ce Tryz.func203 ?_;intro B2
 refine cn fun B3=> ?_
 refine sZ ?_;obtain ⟨q4,h⟩:=ae h;refine ga (sm J J q4) ?_;refine gH J h ?_ ?_<;>intro h
 ·exact eY
 refine sY ?_;obtain ⟨y6,k,h⟩:=aa h;refine gD (oR (zw k)) ?_;rintro _ _ ⟨_,⟨B7,B8,rfl,rfl⟩,rfl⟩;refine ab ?_;refine gI ?_ bw (kZ 0 J);refine gI ?_ bw (kZ 1 J);refine ab ?_;obtain ⟨d6,k,h⟩:=aa h;refine HQ (R:=(fun (x:WW) vs cs=> ∃A0 n0 c0,vs=[W A0 n0 c0]/\cs=[aX A0 n0 c0 x])) (fun x st=>bY N a1 x st) (fun (st:Unit) (mz:Unit)=> [ah B2 3 [iV a1],ah B3 4 [.bool false]]) [aQ B7 22 [W A1 n1 c1],aX A1 n1 c1 a0,aQ B8 3 [iV a1]] (()) (()) J J call229.out J (by rintro _ _ _ ⟨_,_,_,rfl,rfl⟩;rfl) (fun l G hY=>(D2 k hY).mono fun _ _ hh=>hh.2) (bP [0,4,1] [] [3,2] 5 J) h ?_ ?_ ?_ ?_
 ·rintro l x9 _ je sr9 _ h _ _ ⟨e0,e1,e2,rfl,rfl⟩;replace h:bY N a1 x9 ()=some (je,sr9):=h;simp only [AO,Yt,Yu,Yv,Yn,Yo,Y3,Xs];refine sY ?_;obtain ⟨e3,a6,a7,b5,h⟩:=bz h;refine ab ?_;refine K9 (se 0 J bi J (toNat_lt a6 a7) ta) ?_
  refine xc 6 26 20 h (fun _ b6 h=> ?_) fun e4 h=> ?_
  ·refine ab ?_;obtain ⟨e5,a8,b0,b7,h⟩:=bz h;refine ab ?_;exact r8 (se 0 J bi J (toNat_lt a8 b0) ta) J (cL b6 J) J<|gY
  refine dr h ?_ ?_<;>intro h
  ·refine ab ?_;obtain ⟨rfl,rfl⟩:=YN (YL h);exact Lv ((cS [1,2] 3).trans (gb () J))
  refine ab ?_
  refine oo 13 42 29 h (fun _ e6 h=> ?_) fun b16 h=> ?_
  ·refine ab ?_;obtain ⟨e7,b9,d0,d1,h⟩:=bz h
   refine cR h (fun _ k=>lc k) fun e8 h=> ?_
   refine xc 6 41 35 h (fun _ e9 h=> ?_) fun f0 h=> ?_
   ·refine ab ?_;obtain ⟨f1,d2,d3,d4,h⟩:=bz h
    refine cR h (fun _ k=>ld k) fun f2 h=> ?_
    exact gY
   exact gY
  refine dr h ?_ ?_<;>intro h
  ·refine ab ?_;obtain ⟨rfl,rfl⟩:=YN (YL h);exact Lv ((cS [1,2] 3).trans (gb () J))
  refine ab ?_;obtain ⟨rfl,rfl⟩:=YN (YL h);exact Dr ((cS [1,2] 3).trans (gb () J))
 ·rintro _ h;exact qA ([ah B2 3 [iV a1],ah B3 4 [.bool false]]) J<|eY
 ·rintro _ h;exact qA ([ah B2 3 [iV a1],ah B3 4 [.bool false]]) J<|eY
 rintro i _ h;exact aU h
def mU (a0:Int)(a1:WW)(p5:Bool):Option Bool:=
 bif p5 then (some (decide ((a1.length:Int)=0))) else (bif decide (a0=3) then ((bif decide ((a1.length:Int)=3) then ((au a1 0).bind fun a6=>(ja N a6 0 9007199254740992).bind fun a7=>some a7) else (some false)).bind fun b9=>(bif b9 then ((au a1 1).bind fun a8=>(iZ N a8 9).bind fun b0=>some b0) else (some false)).bind fun b12=>some b12) else (bif decide (a0=4) then ((bif decide (1<=(a1.length:Int)) then (some (decide ((a1.length:Int)<=4097))) else (some false)).bind fun b16=>(bif b16 then ((au a1 0).bind fun b5=>(iZ N b5 9).bind fun b6=>some b6) else (some false)).bind fun b7=>some b7) else (bif decide (a0=6) then ((bif decide ((a1.length:Int)=2) then ((au a1 0).bind fun d0=>(ja N d0 0 3).bind fun d1=>some d1) else (some false)).bind fun d2=>(bif d2 then ((au a1 1).bind fun d3=>(iZ N d3 9).bind fun d4=>some d4) else (some false)).bind fun d6=>some d6) else (bif decide (a0=7) then ((bif decide (4<=(a1.length:Int)) then ((au a1 2).bind fun e0=>(ja N e0 0 1).bind fun e1=>some e1) else (some false)).bind fun e2=>(bif e2 then ((au a1 3).bind fun e3=>(ja N e3 0 9007199254740992).bind fun e4=>some e4) else (some false)).bind fun e5=>some e5) else (bif decide (a0=8) then ((dX N a1 2).bind fun e6=>some e6) else (bif decide (a0=10) then ((bif decide (1<=(a1.length:Int)) then ((au a1 0).bind fun e7=>some (decide (e7.Za=7))) else (some false)).bind fun e8=>(bif e8 then (aG ((0:Int)<=1/\(1:Int).toNat<=a1.length/\a1.length<=a1.length) ((dX N ((a1.drop ((1:Int).toNat)).take (a1.length - (1:Int).toNat)) 4).bind fun e9=>some e9)) else (some false)).bind fun f0=>some f0) else (bif decide (a0=9) then ((bif decide (2<=(a1.length:Int)) then ((au a1 0).bind fun f1=>(ja N f1 0 2).bind fun f2=>some f2) else (some false)).bind fun f3=>some f3) else (some true))))))))
def lg (a0:Int)(a1:WW):Option Bool:=
 bif decide (1048576<(a1.length:Int)) then (some false) else (bif decide (a0=2) then (some (decide ((a1.length:Int)<=4096))) else (bif decide (a0=1) then (mU N a0 a1 (decide (a0=1))) else (mU N a0 a1 (decide (a0=5)))))
theorem Cw {N:Nat}{a0:Int}{a1:WW}{r:Bool}(h:lg N a0 a1=some r):Okc W8 180 [iV a0,W A1 n1 c1] ([aX A1 n1 c1 a1]) (fun u post=>u=.bool r/\post=[]):=by
 refine ce Tryz.func180 ?_;refine sZ ?_;refine gH J h ?_ ?_<;>intro h
 ·exact eY
 refine sY ?_;refine gH J h ?_ ?_<;>intro h
 ·exact eY
 refine ao (fun s L=> ∃p5,mU N a0 a1 p5=some r/\s=[(1,W A1 n1 c1),(4,.bool false),(8,iV a0),(14,.bool p5)]/\L=[aX A1 n1 c1 a1]) ?_ ?_
 ·refine dr h ?_ ?_<;>intro h
  ·exact jY
  exact jY
 rintro _ _ ⟨p5,h,rfl,rfl⟩;refine gH J h ?_ ?_<;>intro h
 ·exact eY
 refine dr h ?_ ?_<;>intro h
 ·refine ab ?_
  refine oo 5 30 25 h (fun _ g9 h=> ?_) fun b9 h=> ?_
  ·refine ab ?_;obtain ⟨g1,b0,b5,b6,h⟩:=bz h
   refine cR h (fun _ k=>ld k) fun g2 h=> ?_
   exact gY
  refine ab ?_
  refine oo 5 36 31 h (fun _ g3 h=> ?_) fun b12 h=> ?_
  ·refine ab ?_;obtain ⟨g4,b7,d0,d1,h⟩:=bz h
   refine cR h (fun _ k=>lc k) fun g5 h=> ?_
   exact gY
  exact eY
 refine dr h ?_ ?_<;>intro h
 ·refine ab ?_;refine gS 4 46 42 h ?_;intro b16 h;refine ab ?_
  refine oo 5 52 47 h (fun _ g6 h=> ?_) fun g7 h=> ?_
  ·refine ab ?_;obtain ⟨g8,d2,d3,d4,h⟩:=bz h
   refine cR h (fun _ k=>lc k) fun h0 h=> ?_
   exact gY
  exact eY
 refine dr h ?_ ?_<;>intro h
 ·refine ab ?_
  refine oo 5 63 58 h (fun _ h1 h=> ?_) fun h2 h=> ?_
  ·refine ab ?_;obtain ⟨h3,d6,e0,e1,h⟩:=bz h
   refine cR h (fun _ k=>ld k) fun h4 h=> ?_
   exact gY
  refine ab ?_
  refine oo 5 69 64 h (fun _ h5 h=> ?_) fun h6 h=> ?_
  ·refine ab ?_;obtain ⟨h7,e2,e3,e4,h⟩:=bz h
   refine cR h (fun _ k=>lc k) fun h8 h=> ?_
   exact gY
  exact eY
 refine dr h ?_ ?_<;>intro h
 ·refine ab ?_
  refine oo 5 80 75 h (fun _ h9 h=> ?_) fun i0 h=> ?_
  ·refine ab ?_;obtain ⟨i1,e5,e6,e7,h⟩:=bz h
   refine cR h (fun _ k=>ld k) fun i2 h=> ?_
   exact gY
  refine ab ?_
  refine oo 5 86 81 h (fun _ i3 h=> ?_) fun i4 h=> ?_
  ·refine ab ?_;obtain ⟨i5,e8,e9,f0,h⟩:=bz h
   refine cR h (fun _ k=>ld k) fun i6 h=> ?_
   exact gY
  exact eY
 refine dr h ?_ ?_<;>intro h
 ·refine cR h (fun _ k=>rZ k) fun i7 h=> ?_
  exact eN
 refine dr h ?_ ?_<;>intro h
 ·refine ab ?_
  refine oo 6 102 96 h (fun _ f1 h=> ?_) fun i8 h=> ?_
  ·refine ab ?_;obtain ⟨i9,a7,a8,f2,h⟩:=bz h;refine ab ?_;exact r8 (se 0 J bi J (toNat_lt a7 a8) ta) J (bW f1 J) J<|gY
  refine ab ?_
  refine oo 4 107 103 h (fun _ f3 h=> ?_) fun j0 h=> ?_
  ·refine ab ?_;obtain ⟨a6,h⟩:=ae h;refine Qm 0 J (l:=(1:Int).toNat) (h:=a1.length) a6.2.1 a6.2.2 ?_;rintro j1 j2 j3 f4
   refine r8 (Bu 1 J f4 J t9 size28.out J (by rw [Xn a6.1];rfl) a6.2.1) J (bW f3 J) J<|cR h (fun _ k=>rZ k) fun j4 h=> ?_
   exact gY
  exact eY
 refine dr h ?_ ?_<;>intro h
 ·refine ab ?_
  refine oo 5 118 113 h (fun _ j5 h=> ?_) fun j6 h=> ?_
  ·refine ab ?_;obtain ⟨j7,f6,f9,g0,h⟩:=bz h
   refine cR h (fun _ k=>ld k) fun j8 h=> ?_
   exact gY
  exact eY
 exact eY
def ij (a0:WI)(a6:Bool×WK):(Unit)->Option (Option Exit×Unit)
 |()=>(wR N a6.2).bind fun a7=>bif !a7 then (some (some .ret,())) else (some (none,()))
def gM (a0:WI):Option Bool:=
 (bif decide (a0.Za<1) then (some true) else (some (decide (11<a0.Za)))).bind fun b5=>(bif b5 then (some true) else (some (decide (a0.Zi<0)))).bind fun b6=>(bif b6 then (some true) else (some (decide (a0.Ze<0)))).bind fun b7=>(bif b7 then (some true) else (some (decide (63<a0.Ze)))).bind fun b8=>(bif b8 then (some true) else ((bif !decide (a0.Zf=0) then (some (!decide (a0.Zf=1))) else (some false)).bind fun a6=>some a6)).bind fun b9=>bif b9 then (some false) else ((ur N a0).bind fun d1=>(oN N a0 (cM (fun x st=>ij N a0 x st)) (none,())).bind fun a7=>qN a7.1 ((kj N a0).bind fun a8=>(bif a8 then ((lg N a0.Za a0.Zb).bind fun b0=>some b0) else (some false)).bind fun d0=>some d0) (some false) (fun _=>none))
theorem mD {N:Nat}{a0:WI}{r:Bool}(h:gM N a0=some r):Okc W8 138 [.agg #[iV a0.Za,iV a0.Zi,iV a0.Ze,iV a0.Zf,W A1 n1 c1,W A2 n2 c2]] ([aX A1 n1 c1 a0.Zc,aX A2 n2 c2 a0.Zb]) (fun u post=>u=.bool r/\post=[]):=by
 refine ce Tryz.func138 ?_;intro B3
 refine cn fun B4=> ?_
 refine sZ ?_;refine gS 4 12 8 h ?_;intro b5 h;refine ab ?_;refine gS 4 17 13 h ?_;intro b6 h;refine ab ?_;refine gS 4 22 18 h ?_;intro b7 h;refine ab ?_;refine gS 4 27 23 h ?_;intro b8 h;refine ab ?_
 refine xc 9 37 28 h (fun _ g9 h=> ?_) fun b9 h=> ?_
 ·refine ab ?_;refine gS 4 36 32 h ?_;intro a8 h;exact gY
 refine dr h ?_ ?_<;>intro h
 ·exact eY
 refine sY ?_;obtain ⟨b0,k,h⟩:=aa h;refine gD (oR (DV k)) ?_;rintro _ _ ⟨_,⟨a6,rfl,rfl⟩,rfl⟩;refine ab ?_;refine gI ?_ bw (kZ 0 J);obtain ⟨d0,k,h⟩:=aa h;refine uw (en:=(fun x=> [.bool x.1,.agg #[iV x.2.Za,iV x.2.N,.string x.2.S]])) (fun x st=>ij N a0 x st) (fun (st:Unit) (mz:Unit)=> [aX A1 n1 c1 a0.Zc,aX A2 n2 c2 a0.Zb,ah B3 94 (iL a0 A1 n1 c1 A2 n2 c2),ah B4 4 [.bool false]]) [aQ a6 94 (iL a0 A1 n1 c1 A2 n2 c2),aX A1 n1 c1 a0.Zc,aX A2 n2 c2 a0.Zb] (()) (()) J J call199.out J (fun _=>J) (fun l G hY=>(yG k hY).mono fun _ _ hh=>hh.2) (bP [0,3,4] [] [3,4,2,1] 5 J) h ?_ ?_ ?_ ?_
 ·rintro l a7 _ je sr14 _ h;replace h:ij N a0 a7 ()=some (je,sr14):=h;simp only [AO,Yt,Yu,Yv,Yn,Yo,Y3,Xs]
  refine cn fun d1=> ?_
  refine cR h (fun _ k=>J0 k) fun d2 h=> ?_
  refine gH J h ?_ ?_<;>intro h
  ·refine ab ?_;obtain ⟨rfl,rfl⟩:=YN (YL h);exact Lv ((cS [1,2,3,4] 5).trans (gb () J))
  refine ab ?_;obtain ⟨rfl,rfl⟩:=YN (YL h);exact Dr ((cS [1,2,3,4] 5).trans (gb () J))
 ·rintro _ h
  refine qA ([aX A1 n1 c1 a0.Zc,aX A2 n2 c2 a0.Zb,ah B3 94 (iL a0 A1 n1 c1 A2 n2 c2),ah B4 4 [.bool false]]) J<|cR h (fun _ k=>AR k) fun d3 h=> ?_
  refine oo 6 53 47 h (fun _ d4 h=> ?_) fun d6 h=> ?_
  ·refine cR h (fun _ k=>Cw k) fun e0 h=> ?_
   exact gY
  exact eY
 ·rintro _ h;exact qA ([aX A1 n1 c1 a0.Zc,aX A2 n2 c2 a0.Zb,ah B3 94 (iL a0 A1 n1 c1 A2 n2 c2),ah B4 4 [.bool false]]) J<|eY
 rintro i _ h;exact aU h
def dv (N:Nat)(a0:WW):Option WW:=
 aG (bu (([]:List WK).length+a0.length)) (some (([]:List WK)++a0))
theorem jL {N:Nat}{a0 r:WW}(h:dv N a0=some r):Okc W8 83 [W A1 n1 c1] ([aX A1 n1 c1 a0]) (fun u post=> ∃A0 n0 c0,u=W A0 n0 c0/\post=[bf A0 n0 c0 r]):=by
 refine ce Tryz.func83 ?_;refine sZ ?_;refine ga (JR J t9) ?_;refine Lx J (fun g2=> ?_) (fun g2=> ?_)
 ·replace g2:(A1).isNone=true:=by simpa using g2
  refine Sc 0 J bi g2 (fun hx=> ?_);subst hx;replace h:aG (bu (([]:List WK).length+([]:List WK).length)) (some (([]:List WK)++([]:List WK)))=some r:=h
  replace h:some []=some r:=by simpa [aG] using h
  refine ab ?_;obtain rfl:=bF h;exact pI J J ((cj ax 28 _).trans (cS [0] 2)) ⟨_,_,_,J,J⟩
 refine ab ?_
 refine vo (aB (R:=ax) (vss:=[]) (xs:=[]) J (yK) J J (fun _ _ hr=>All2.nil)) fun A4 n4 c4=> ?_
 obtain ⟨q5,h⟩:=ae h
 refine vo (aR 0 1 J J bi J J t9 r9 J J q5) fun A6 n6 c6=> ?_
 exact eN
def fT (a0:WI):Option WI:=
 (dv N a0.Zc).bind fun y5=>(dv N a0.Zb).bind fun y7=>some (⟨a0.Za,a0.Zi,a0.Ze,a0.Zf,y5,y7⟩:WI)
theorem iO {N:Nat}{a0 r:WI}(h:fT N a0=some r):Okc W8 140 [.agg #[iV a0.Za,iV a0.Zi,iV a0.Ze,iV a0.Zf,W A1 n1 c1,W A2 n2 c2]] ([aX A1 n1 c1 a0.Zc,aX A2 n2 c2 a0.Zb]) (fun u post=> ∃A0 n0 c0 A1 n1 c1,u=.agg #[iV r.Za,iV r.Zi,iV r.Ze,iV r.Zf,W A0 n0 c0,W A1 n1 c1]/\post=[bf A0 n0 c0 r.Zc,bf A1 n1 c1 r.Zb]):=by
 refine ce Tryz.func140 ?_;intro B3
 refine cn fun B4=> ?_
 refine dY [0,1,3,4] ?_;obtain ⟨y5,k,h⟩:=aa h
 refine Du 2 J (oR (jL k)) fun A6 n6 c6=> ?_
 refine zY [6] ?_;obtain ⟨y7,k,h⟩:=aa h
 refine Du 5 J (oR (jL k)) fun A8 n8 c8=> ?_
 refine gN 7 J O O (am (us:=[W A6 n6 c6]) (cs':=(iL a0 A6 n6 c6 A2 n2 c2)) 3 J J J J size22.out J J J) ?_;rintro _ _ rfl;refine zY [8] ?_;refine gN 9 J O O (am (us:=[W A8 n8 c8]) (cs':=(iL a0 A6 n6 c6 A8 n8 c8)) 3 J J J J size22.out J J J) ?_;rintro _ _ rfl;exact bn O<|eY
def eV (a0:WN)(a1:WI):Option (Int×Int×WN):=
 (aL N a0).bind fun a7=>bif a7 then (some (0,1,a0)) else ((gM N a1).bind fun a8=>bif !a8 then (some (0,51,a0)) else ((fT N a1).bind fun a6=>aG (bu (a0.m_.Zh.length+([(⟨a6.Za,a6.Zi,a6.Ze,0,a6.Zc,a6.Zb⟩:WI)]:List WI).length)) (aG (in64 (2*((a0.m_.Zh++([(⟨a6.Za,a6.Zi,a6.Ze,0,a6.Zc,a6.Zb⟩:WI)]:List WI)).length:Int))) (aG (in64 ((2*((a0.m_.Zh++([(⟨a6.Za,a6.Zi,a6.Ze,0,a6.Zc,a6.Zb⟩:WI)]:List WI)).length:Int)) - 1)) (some ((2*((a0.m_.Zh++([(⟨a6.Za,a6.Zi,a6.Ze,0,a6.Zc,a6.Zb⟩:WI)]:List WI)).length:Int)) - 1,0,(⟨(⟨a0.m_.Zh++([(⟨a6.Za,a6.Zi,a6.Ze,0,a6.Zc,a6.Zb⟩:WI)]:List WI),a0.m_.Zj⟩:WO),a0.Zt,a0.Zv,a0.Zw⟩:WN)))))))
theorem Cc {N:Nat}{a0:WN}{a1:WI}{r:Int×Int×WN}(h:eV N a0 a1=some r):Okc W8 108 [pV B1 0,.agg #[iV a1.Za,iV a1.Zi,iV a1.Ze,iV a1.Zf,W A8 n8 c8,W A9 n9 c9]] ([aX A8 n8 c8 a1.Zc,aX A9 n9 c9 a1.Zb,ah B1 124 [W A2 n2 c2,W A3 n3 c3,W A4 n4 c4,W A5 n5 c5,pV B6 0],iF A2 n2 c2 a0.m_.Zh,iF A3 n3 c3 a0.m_.Zj,bf A4 n4 c4 a0.Zt,bf A5 n5 c5 a0.Zv,ah B6 213 [.map (some M7)],bE jC qL M7 a0.Zw.at_]) (fun u post=> ∃A0 n0 c0 A1 n1 c1 A2 n2 c2 A3 n3 c3 M4,u=.tuple #[iV r.1,iV r.2.1]/\post=[ah B1 124 [W A0 n0 c0,W A1 n1 c1,W A2 n2 c2,W A3 n3 c3,pV B6 0],iF A0 n0 c0 r.2.2.m_.Zh,iF A1 n1 c1 r.2.2.m_.Zj,bf A2 n2 c2 r.2.2.Zt,bf A3 n3 c3 r.2.2.Zv,ah B6 213 [.map (some M4)],bE jC qL M4 r.2.2.Zw.at_]):=by
 refine ce Tryz.func108 ?_;intro d2;refine sY ?_
 refine cR h (fun _ k=>di k) fun e5 h=> ?_
 refine gH J h ?_ ?_<;>intro h
 ·exact eY
 refine cR h (fun _ k=>mD k) fun e6 h=> ?_
 refine gH J h ?_ ?_<;>intro h
 ·exact eY
 refine IK h (fun _ k=>iO k) fun a6 b5 b6 b7 b9 d0 d1 h=> ?_
 refine aA<|gI ?_ bw (bq 0 J);refine ab ?_;refine gI ?_ bw (bq 1 J);refine gI (t:=[(0,pV B1 0),(3,pV d2 0),(4,iV 0),(5,iV 0)]) ?_ mc (ad _)
 refine iQ O 8 [0] [0,5,7] [16,17,18,19,20,21,22,23] [[],[],[1],[2],[3],[4],[],[6]] [aV (pV B1 0),
aV (pV B1 0),
aV (pV B1 0),
aV (pV B1 0),
aV (pV B1 0),
aV (W A2 n2 c2),
aV (.agg #[iV a6.Za,iV a6.Zi,iV a6.Ze,iV 0,W b5 b6 b7,W b9 d0 d1]),
aX3 (fun (a7:Option Addr) (a8 b0:Nat)=> W a7 a8 b0) (fun a7 a8 b0=> [iF a7 a8 b0 ([(⟨a6.Za,a6.Zi,a6.Ze,0,a6.Zc,a6.Zb⟩:WI)]:List WI)])] [] (ad _) (fB rfl lV) O rfl rfl ?_ ?_ ?_
 ·exact fA J (nz (aq J) J (iH J (ad _)))<|lU
 ·refine aF J ?_ ?_
  ·refine tl (aB (R:=jG) (vss:=[[iV a6.Za,iV a6.Zi,iV a6.Ze,iV 0,W b5 b6 b7,W b9 d0 d1]]) (xs:=[(⟨a6.Za,a6.Zi,a6.Ze,0,a6.Zc,a6.Zb⟩:WI)]) J (HJ _ _ _ _ _ _ _ _ _ _) J J (fun _ _ hr=> .cons (⟨_,_,_,_,_,_,J,hr 0 _ J J,hr 1 _ J J⟩) All2.nil)) J ?_;rintro _ _ ⟨e1,e2,e3,rfl,rfl⟩;exact N3 e1 e2 e3 (ad _)
  refine qR (aC (us:=[iV a6.Za,iV a6.Zi,iV a6.Ze,iV 0,W b5 b6 b7,W b9 d0 d1]) 2 J J agg94.out J) ?_;refine qR (bM 5 J J KP J) ?_;refine qE (nu J F1) ?_;refine qE (nu J F0) ?_;refine qE (dC J) ?_;refine qE (aq J) ?_;refine qE (aq J) ?_;exact dI
 intro a7 a8 b0;refine oa (t:=[(16,pV B1 0),(21,W A2 n2 c2),(23,W a7 a8 b0),(0,pV B1 0),(3,pV d2 0),(4,iV 0),(5,iV 0)]) (L':=[iF a7 a8 b0 ([(⟨a6.Za,a6.Zi,a6.Ze,0,a6.Zc,a6.Zb⟩:WI)]:List WI),aX b5 b6 b7 a6.Zc,aX b9 d0 d1 a6.Zb,ah d2 94 [iV a6.Za,iV a6.Zi,iV a6.Ze,iV 0,W b5 b6 b7,W b9 d0 d1],aX A8 n8 c8 a1.Zc,aX A9 n9 c9 a1.Zb,ah B1 124 [W A2 n2 c2,W A3 n3 c3,W A4 n4 c4,W A5 n5 c5,pV B6 0],iF A2 n2 c2 a0.m_.Zh,iF A3 n3 c3 a0.m_.Zj,bf A4 n4 c4 a0.Zt,bf A5 n5 c5 a0.Zv,ah B6 213 [.map (some M7)],bE jC qL M7 a0.Zw.at_]) ?_ mc (ad _);obtain ⟨e4,h⟩:=ae h;refine uv 8 J O (aR 7 0 J J ap J J Wj TX J J e4) J J J ?_;rintro _ _ ⟨d3,d4,d6,rfl,rfl⟩;refine CF 9 J O (dC J) J J J<|CF 10 J O (nu J F0) J J J<|CF 11 J O (nu J F1) J J J<|pL 12 J O (am (us:=[W d3 d4 d6]) (cs':=[W d3 d4 d6,W A3 n3 c3,W A4 n4 c4,W A5 n5 c5,pV B6 0]) 6 J J J J size119.out J J J) J J ?_;rintro _ _ rfl;refine Ab ?_;refine mb O<|ab ?_;obtain ⟨e0,h⟩:=ae h;refine gE (rg J J e0.1 e0.2) ?_;obtain ⟨e7,h⟩:=ae h;exact eY
theorem om {N:Nat}{a0:WN}{a1:WI}{r:Int×Int×WN}(h:eV N a0 a1=some r):Okc W8 108 [pV B1 0,.agg #[iV a1.Za,iV a1.Zi,iV a1.Ze,iV a1.Zf,W A2 n2 c2,W A3 n3 c3]] ([aX A2 n2 c2 a1.Zc,aX A3 n3 c3 a1.Zb,oDHeap B1 a0]) (fun u post=>u=.tuple #[iV r.1,iV r.2.1]/\post=[oDHeap B1 r.2.2]):=LW 2 rfl (fun _=>Cc h)
def jE (a0:WH)(a7 a8:Int)(b0:ByteArray)(b5:Int):Option (WK×WH):=
 (eV N a0.Zo (⟨1,0,b5,0,([(⟨a7,a8,b0⟩:WK)]:List WK),[]⟩:WI)).bind fun a6=>some ((⟨7,a6.1,⟨#[]⟩⟩:WK),(⟨a0.ZB,a0.Zu,(),a6.2.2,a0.Zp,a0.Zy,a0.ZE,a0.ZF,a0.ZG,a0.Zz,a0.ZA⟩:WH))
def eo (a1:Int)(a0:WH)(a6 a7:Int)(a8:ByteArray):Option (WK×WH):=
 bif decide (a1=17) then (jE N a0 a6 a7 a8 1) else (jE N a0 a6 a7 a8 17)
def jF (a1:Int)(a0:WH)(p21:Bool):Option (WK×WH):=
 bif p21 then ((dh N a0.Zo 3).bind fun a6=>eo N a1 a0 a6.Za a6.N a6.S) else ((dh N a0.Zo 0).bind fun a7=>eo N a1 a0 a7.Za a7.N a7.S)
def fY (a1:Int)(a0:WH)(p15:Bool):Option (WK×WH):=
 bif p15 then ((dh N a0.Zo 5).bind fun a6=>eo N a1 a0 a6.Za a6.N a6.S) else (bif decide (a1=4) then (jF N a1 a0 (decide (a1=4))) else (jF N a1 a0 (decide (a1=16))))
def pw (a0:WH)(a1:Int):Option (WK×WH):=
 bif decide (a1=0) then (eo N a1 a0 1 0 (⟨#[]⟩)) else (bif decide (a1=6) then (fY N a1 a0 (decide (a1=6))) else (bif decide (a1=7) then (fY N a1 a0 (decide (a1=7))) else (fY N a1 a0 (decide (a1=8)))))
theorem oB {N:Nat}{r:WK×WH}(h:pw N a0 a1=some r):Okc W8 64 [pV B1 0,iV a1] ([ah B1 81 (Ac a0 B2 B3 A4 n4 c4 A5 n5 c5 A6 n6 c6),oDHeap B2 a0.Zo,oDTable B3 a0.Zp,pG A4 n4 c4 a0.Zy,AI A5 n5 c5 a0.Zz,pG A6 n6 c6 a0.ZA]) (fun u post=> ∃A0 n0 c0 A1 n1 c1 A2 n2 c2,u=.agg #[iV r.1.Za,iV r.1.N,.string r.1.S]/\post=[ah B1 81 (Ac r.2 B2 B3 A0 n0 c0 A1 n1 c1 A2 n2 c2),oDHeap B2 r.2.Zo,oDTable B3 r.2.Zp,pG A0 n0 c0 r.2.Zy,AI A1 n1 c1 r.2.Zz,pG A2 n2 c2 r.2.ZA]):=by
 refine ce Tryz.func64 ?_;intro B7
 refine cn fun B8=> ?_
 refine ao (fun s L=> ∃a6 a7 a8,eo N a1 a0 a6 a7 a8=some r/\s=[(0,pV B1 0),(1,iV a1),(4,pV B7 0),(5,pV B8 0)]/\L=[pG A4 n4 c4 a0.Zy,AI A5 n5 c5 a0.Zz,pG A6 n6 c6 a0.ZA,ah B1 81 (Ac a0 B2 B3 A4 n4 c4 A5 n5 c5 A6 n6 c6),ah B7 28 [iV 0,iV 0,.string (⟨#[]⟩)],ah B8 28 [iV a6,iV a7,.string a8],oDHeap B2 a0.Zo,oDTable B3 a0.Zp]) ?_ ?_
 ·refine dr h ?_ ?_<;>intro h
  ·exact jY
  refine ao (fun s L=> ∃p15,fY N a1 a0 p15=some r/\s=[(0,pV B1 0),(1,iV a1),(4,pV B7 0),(5,pV B8 0),(10,iV a1),(18,.bool p15)]/\L=[pG A4 n4 c4 a0.Zy,AI A5 n5 c5 a0.Zz,pG A6 n6 c6 a0.ZA,ah B1 81 (Ac a0 B2 B3 A4 n4 c4 A5 n5 c5 A6 n6 c6),ah B7 28 [iV 0,iV 0,.string (⟨#[]⟩)],ah B8 28 [iV 1,iV 0,.string (⟨#[]⟩)],oDHeap B2 a0.Zo,oDTable B3 a0.Zp]) ?_ ?_
  ·refine dr h ?_ ?_<;>intro h
   ·exact jY
   refine dr h ?_ ?_<;>intro h
   ·exact jY
   exact jY
  rintro _ _ ⟨p15,h,rfl,rfl⟩;refine gH J h ?_ ?_<;>intro h
  ·refine cR h (fun _ k=>iG k) fun d0 h=> ?_
   exact jN
  refine ao (fun s L=> ∃p21,jF N a1 a0 p21=some r/\s=[(0,pV B1 0),(1,iV a1),(4,pV B7 0),(5,pV B8 0),(27,.bool p21)]/\L=[pG A4 n4 c4 a0.Zy,AI A5 n5 c5 a0.Zz,pG A6 n6 c6 a0.ZA,ah B1 81 (Ac a0 B2 B3 A4 n4 c4 A5 n5 c5 A6 n6 c6),ah B7 28 [iV 0,iV 0,.string (⟨#[]⟩)],ah B8 28 [iV 1,iV 0,.string (⟨#[]⟩)],oDHeap B2 a0.Zo,oDTable B3 a0.Zp]) ?_ ?_
  ·refine dr h ?_ ?_<;>intro h
   ·exact jY
   exact jY
  rintro _ _ ⟨p21,h,rfl,rfl⟩;refine gH J h ?_ ?_<;>intro h
  ·refine cR h (fun _ k=>iG k) fun d1 h=> ?_
   exact jN
  refine cR h (fun _ k=>iG k) fun d2 h=> ?_
  exact jN
 rintro _ _ ⟨a6,a7,a8,h,rfl,rfl⟩;refine ab ?_
 refine vo (aB (R:=ax) (vss:=[[iV a6,iV a7,.string a8]]) (xs:=[(⟨a6,a7,a8⟩:WK)]) J (jr _ _ _) J J (fun _ _ hr=> .cons J All2.nil)) fun b5 b6 b7=> ?_
 intro b9;refine ab ?_;refine ao (fun s L=> ∃b0,jE N a0 a6 a7 a8 b0=some r/\s=[(0,pV B1 0),(4,pV B7 0),(6,pV b9 0)]/\L=[pG A4 n4 c4 a0.Zy,AI A5 n5 c5 a0.Zz,pG A6 n6 c6 a0.ZA,ah B1 81 (Ac a0 B2 B3 A4 n4 c4 A5 n5 c5 A6 n6 c6),ah B7 28 [iV 0,iV 0,.string (⟨#[]⟩)],bf b5 b6 b7 ([(⟨a6,a7,a8⟩:WK)]:List WK),ah b9 94 [iV 1,iV 0,iV b0,iV 0,W b5 b6 b7,W none 0 0],oDHeap B2 a0.Zo,oDTable B3 a0.Zp]) ?_ ?_
 ·refine dr h ?_ ?_<;>intro h
  ·exact jY
  exact jY
 rintro _ _ ⟨b0,h,rfl,rfl⟩;refine aA<|ba O ([pG A4 n4 c4 a0.Zy,AI A5 n5 c5 a0.Zz,pG A6 n6 c6 a0.ZA,ah B1 81 (Ac a0 B2 B3 A4 n4 c4 A5 n5 c5 A6 n6 c6),ah B7 28 [iV 0,iV 0,.string (⟨#[]⟩)],ah b9 94 [iV 1,iV 0,iV b0,iV 0,W b5 b6 b7,W none 0 0],oDTable B3 a0.Zp]) (cS [0,1,2,3,4,6,8] 9) ?_;refine ab ?_;refine kC (bq 5 J) (cS [0,1,2,3,4,6,8] 9) ?_;obtain ⟨d3,k,h⟩:=aa h;refine kC (qu ax _) (cS [1,2,3,4,5,7,9] 10) ?_;refine zD 5 J (oC (om k)) ?_;rintro _ _ ⟨_,⟨rfl,rfl⟩,rfl⟩;refine ca ?_;exact eY
def gF (a0:WN)(a1:WK):Option (Int×WN):=
 (aL N a0).bind fun y9=>bif y9 then (some (0,a0)) else (aG (bu (a0.Zt.length+([a1]:List WK).length)) (aG (in64 (((a0.Zt++([a1]:List WK)).length:Int) - 1)) (some (((a0.Zt++([a1]:List WK)).length:Int) - 1,(⟨a0.m_,a0.Zt++([a1]:List WK),a0.Zv,a0.Zw⟩:WN)))))
theorem Cb {N:Nat}{a0:WN}{a1:WK}{r:Int×WN}(h:gF N a0 a1=some r):Okc W8 29 [pV B1 0,(aE a1)] ([ah B1 124 [W A2 n2 c2,W A3 n3 c3,W A4 n4 c4,W A5 n5 c5,pV B6 0],iF A2 n2 c2 a0.m_.Zh,iF A3 n3 c3 a0.m_.Zj,bf A4 n4 c4 a0.Zt,bf A5 n5 c5 a0.Zv,ah B6 213 [.map (some M7)],bE jC qL M7 a0.Zw.at_]) (fun u post=> ∃A0 n0 c0 A1 n1 c1 A2 n2 c2 A3 n3 c3 M4,u=iV r.1/\post=[ah B1 124 [W A0 n0 c0,W A1 n1 c1,W A2 n2 c2,W A3 n3 c3,pV B6 0],iF A0 n0 c0 r.2.m_.Zh,iF A1 n1 c1 r.2.m_.Zj,bf A2 n2 c2 r.2.Zt,bf A3 n3 c3 r.2.Zv,ah B6 213 [.map (some M4)],bE jC qL M4 r.2.Zw.at_]):=by
 refine ce Tryz.func29 ?_;intro B8;refine sY ?_
 refine cR h (fun _ k=>di k) fun y9 h=> ?_
 refine gH J h ?_ ?_<;>intro h
 ·exact eY
 refine ab ?_;refine aA<|gI (t:=[(0,pV B1 0),(3,pV B8 0),(4,iV 0)]) ?_ mc (ad _)
 refine iQ O 7 [0] [0,4,6] [7,8,9,10,11,12,13] [[],[],[1],[2],[3],[],[5]] [aV (pV B1 0),
aV (pV B1 0),
aV (pV B1 0),
aV (pV B1 2),
aV (W A4 n4 c4),
aV ((aE a1)),
aX3 (fun (a6:Option Addr) (a7 a8:Nat)=> W a6 a7 a8) (fun a6 a7 a8=> [bf a6 a7 a8 ([a1]:List WK)])] [] (ad _) (fB rfl lV) O rfl rfl ?_ ?_ ?_
 ·exact fA J (nz (aq J) J (iH J (ad _)))<|lU
 ·refine aF J ?_ ?_
  ·refine tl (aB (R:=ax) (vss:=[(bS a1)]) (xs:=[a1]) J (jr _ _ _) J J (fun _ _ hr=> .cons J All2.nil)) J ?_;rintro _ _ ⟨b7,b9,d0,rfl,rfl⟩;exact N3 b7 b9 d0 (ad _)
  refine qR (aC (us:=bS a1) 0 J J agg28.out J) ?_;refine qR (bM 1 J J sC J) ?_;refine qE (jD J FZ) ?_;refine qE (dC J) ?_;refine qE (aq J) ?_;refine qE (aq J) ?_;exact dI
 intro a6 a7 a8;refine oa (t:=[(7,pV B1 0),(11,W A4 n4 c4),(13,W a6 a7 a8),(0,pV B1 0),(3,pV B8 0),(4,iV 0)]) (L':=[bf a6 a7 a8 ([a1]:List WK),ah B8 28 (bS a1),ah B1 124 [W A2 n2 c2,W A3 n3 c3,W A4 n4 c4,W A5 n5 c5,pV B6 0],iF A2 n2 c2 a0.m_.Zh,iF A3 n3 c3 a0.m_.Zj,bf A4 n4 c4 a0.Zt,bf A5 n5 c5 a0.Zv,ah B6 213 [.map (some M7)],bE jC qL M7 a0.Zw.at_]) ?_ mc (ad _);obtain ⟨d1,h⟩:=ae h;refine uv 7 J O (aR 5 0 J J ap J J t9 r9 J J d1) J J J ?_;rintro _ _ ⟨b0,b5,b6,rfl,rfl⟩;refine CF 8 J O (dC J) J J J<|CF 9 J O (jD J FZ) J J J<|pL 10 J O (am (us:=[W b0 b5 b6]) (cs':=[W A2 n2 c2,W A3 n3 c3,W b0 b5 b6,W A5 n5 c5,pV B6 0]) 2 J J J J size22.out J J J) J J ?_;rintro _ _ rfl;refine mb O<|ab ?_;obtain ⟨d2,h⟩:=ae h;exact eY
theorem dV {N:Nat}{a0:WN}{a1:WK}{r:Int×WN}(h:gF N a0 a1=some r):Okc W8 29 [pV B1 0,(aE a1)] ([oDHeap B1 a0]) (fun u post=>u=iV r.1/\post=[oDHeap B1 r.2]):=LW 0 rfl (fun _=>Cb h)
def cW (a0:WH)(a1:WI):Option (WK×WH):=
 (eV N a0.Zo a1).bind fun a6=>bif !decide (a6.2.1=0) then (some ((⟨0,0,⟨#[]⟩⟩:WK),(⟨a0.ZB,a0.Zu,(),a6.2.2,a0.Zp,a0.Zy,a0.ZE,a0.ZF,a0.ZG,a0.Zz,a0.ZA⟩:WH))) else (some ((⟨9,a6.1,⟨#[]⟩⟩:WK),(⟨a0.ZB,a0.Zu,(),a6.2.2,a0.Zp,a0.Zy,a0.ZE,a0.ZF,a0.ZG,a0.Zz,a0.ZA⟩:WH)))
theorem iA {N:Nat}{a1:WI}{r:WK×WH}(h:cW N a0 a1=some r):Okc W8 65 [pV B1 0,.agg #[iV a1.Za,iV a1.Zi,iV a1.Ze,iV a1.Zf,W A7 n7 c7,W A8 n8 c8]] ([aX A7 n7 c7 a1.Zc,aX A8 n8 c8 a1.Zb,ah B1 81 (Ac a0 B2 B3 A4 n4 c4 A5 n5 c5 A6 n6 c6),oDHeap B2 a0.Zo,oDTable B3 a0.Zp,pG A4 n4 c4 a0.Zy,AI A5 n5 c5 a0.Zz,pG A6 n6 c6 a0.ZA]) (fun u post=> ∃A0 n0 c0 A1 n1 c1 A2 n2 c2,u=.agg #[iV r.1.Za,iV r.1.N,.string r.1.S]/\post=[ah B1 81 (Ac r.2 B2 B3 A0 n0 c0 A1 n1 c1 A2 n2 c2),oDHeap B2 r.2.Zo,oDTable B3 r.2.Zp,pG A0 n0 c0 r.2.Zy,AI A1 n1 c1 r.2.Zz,pG A2 n2 c2 r.2.ZA]):=by
 refine ce Tryz.func65 ?_;intro B9
 refine cn fun a6=> ?_
 refine sZ ?_;refine ga (dO J Wp) ?_;refine ge J<|ab ?_;refine aA<|ba O ([ah a6 28 [iV 0,iV 0,.string (⟨#[]⟩)],ah B9 94 (iL a1 A7 n7 c7 A8 n8 c8),aX A7 n7 c7 a1.Zc,aX A8 n8 c8 a1.Zb,ah B1 81 (Ac a0 B2 B3 A4 n4 c4 A5 n5 c5 A6 n6 c6),oDTable B3 a0.Zp,pG A4 n4 c4 a0.Zy,AI A5 n5 c5 a0.Zz,pG A6 n6 c6 a0.ZA]) (cS [0,1,2,3,4,6,7,8,9] 10) ?_;refine ab ?_;obtain ⟨a7,k,h⟩:=aa h;refine zD 5 J (oC (om k)) ?_;rintro _ _ ⟨_,⟨rfl,rfl⟩,rfl⟩;refine ca ?_;refine sY ?_;refine gH J h ?_ ?_<;>intro h
 ·exact eY
 exact eY
theorem xt {N:Nat}{a1:WI}{r:WK×WH}(h:cW N a0 a1=some r){B1 B2 B3:Nat}:Okc W8 65 [pV B1 0,.agg #[iV a1.Za,iV a1.Zi,iV a1.Ze,iV a1.Zf,W A4 n4 c4,W A5 n5 c5]] ([aX A4 n4 c4 a1.Zc,aX A5 n5 c5 a1.Zb,oDWorld B1 B2 B3 a0]) (fun u post=>u=.agg #[iV r.1.Za,iV r.1.N,.string r.1.S]/\post=[oDWorld B1 B2 B3 r.2]):=LW 2 rfl (fun _=>iA h)
def xT (N:Nat)(a6 a7 a8 b0 b5 b6 b7 b9 d0 d1:Int)(d2:List ByteArray)(d3 d4 d6:Int)(e0:List WC)(e1:List ByteArray)(e2:WN)(e3:WG):Option (Int ⊕ (WH×Int)):=
 some (.inr ((⟨(⟨a6,a7,a8⟩:WS),(⟨b0,b5,b6,b7,b9,d0,d1⟩:WF),(),e2,e3,d2,d3,d4,d6,e0,e1⟩:WH),0))
def zQ (a8 b0 b5 b6 b7 b9 d0 d1 d2 d3:Int)(d4:List ByteArray)(d6 e0 e1:Int)(e2:List WC)(e3:List ByteArray)(e4:WN)(e5:WG):Option (Int ⊕ (WH×Int)):=
 (cW N (⟨(⟨a8,b0,b5⟩:WS),(⟨b6,b7,b9,d0,d1,d2,d3⟩:WF),(),e4,e5,d4,d6,e0,e1,e2,e3⟩:WH) (⟨11,0,0,0,[],[]⟩:WI)).bind fun a6=>(gF N a6.2.Zo a6.1).bind fun a7=>xT N a6.2.ZB.ZR a6.2.ZB.ZL a6.2.ZB.ZS a6.2.Zu.ZM a6.2.Zu.ZN a6.2.Zu.ZI a6.2.Zu.ZK a6.2.Zu.Zh a6.2.Zu.ZO a6.2.Zu.ZP a6.2.Zy a6.2.ZE a6.2.ZF a6.2.ZG a6.2.Zz a6.2.ZA a7.2 a6.2.Zp
def Bn (a8 b0 b5 p13 b6 p15 b7 b9 d0 d1:Int)(d2:List ByteArray)(p21 d3 d4:Int)(d6:List WC)(e0:List ByteArray)(e1:WN)(e2:WG):Option (Int ⊕ (WH×Int)):=
 (cW N (⟨(⟨a8,b0,b5⟩:WS),(⟨p13,b6,p15,b7,b9,d0,d1⟩:WF),(),e1,e2,d2,p21,d3,d4,d6,e0⟩:WH) (⟨11,0,0,0,[],[]⟩:WI)).bind fun a6=>(gF N a6.2.Zo a6.1).bind fun a7=>zQ N a6.2.ZB.ZR a6.2.ZB.ZL a6.2.ZB.ZS a6.2.Zu.ZM a6.2.Zu.ZN a6.2.Zu.ZI a6.2.Zu.ZK a6.2.Zu.Zh a6.2.Zu.ZO a6.2.Zu.ZP a6.2.Zy a6.2.ZE a6.2.ZF a6.2.ZG a6.2.Zz a6.2.ZA a7.2 a6.2.Zp
def zS (N:Nat)(a6:Int->Int->Int->Int->Int->Int->Int->Int->Int->Int->Int->(List ByteArray)->Int->Int->Int->(List WC)->(List ByteArray)->WN->WG->Option (Int ⊕ (WH×Int)))(a7 a8 b0 b5 b6 b7 b9 d0 d1 d2 d3:Int)(d4:List ByteArray)(d6 e0 e1:Int)(e2:List WC)(e3:List ByteArray)(e4:WN)(e5:WG):Option (Int ⊕ (WH×Int)):=
 aG (in64 (a7+1)) (a6 (a7+1) a8 b0 b5 b6 b7 b9 d0 d1 d2 d3 d4 d6 e0 e1 e2 e3 e4 e5)
def rq (N:Nat):Nat->Int->Int->Int->Int->Int->Int->Int->Int->Int->Int->Int->(List ByteArray)->Int->Int->Int->(List WC)->(List ByteArray)->WN->WG->Option (Int ⊕ (WH×Int))
 |0,_,_,_,_,_,_,_,_,_,_,_,_,_,_,_,_,_,_,_=>none
 |e6+1,a7,a8,b0,b5,b6,b7,b9,d0,d1,d2,d3,d4,d6,e0,e1,e2,e3,e4,e5=>bif decide (a7<18) then ((pw N (⟨(⟨a8,b0,b5⟩:WS),(⟨b6,b7,b9,d0,d1,d2,d3⟩:WF),(),e4,e5,d4,d6,e0,e1,e2,e3⟩:WH) a7).bind fun a6=>(gF N a6.2.Zo a6.1).bind fun e7=>zS N (rq N e6) a7 a6.2.ZB.ZR a6.2.ZB.ZL a6.2.ZB.ZS a6.2.Zu.ZM a6.2.Zu.ZN a6.2.Zu.ZI a6.2.Zu.ZK a6.2.Zu.Zh a6.2.Zu.ZO a6.2.Zu.ZP a6.2.Zy a6.2.ZE a6.2.ZF a6.2.ZG a6.2.Zz a6.2.ZA e7.2 a6.2.Zp) else (Bn N a8 b0 b5 b6 b7 b9 d0 d1 d2 d3 d4 d6 e0 e1 e2 e3 e4 e5)
def px (a0:WF):Option (Int ⊕ (WH×Int)):=
 (zP N a0).bind fun y2=>bif !y2 then (some (.inl 1)) else ((AJ N).bind fun y4=>(xI N).bind fun y6=>rq N N 0 0 0 0 a0.ZM a0.ZN a0.ZI a0.ZK a0.Zh a0.ZO a0.ZP [] 0 0 0 [] [] y4 y6)
theorem H9 {N:Nat}{a0:WF}{r:(Int ⊕ (WH×Int))}(h:px N a0=some r):Okc W8 27 [(FR a0)] ([]) (fun u post=>SM (fun (r:Int)=>u=.tuple #[.pointer none,iV r]/\post=[]) (fun (r:WH×Int)=> ∃B0 B1 B2 A3 n3 c3 A4 n4 c4 A5 n5 c5,u=.tuple #[pV B0 0,iV r.2]/\post=[ah B0 81 (Ac r.1 B1 B2 A3 n3 c3 A4 n4 c4 A5 n5 c5),oDHeap B1 r.1.Zo,oDTable B2 r.1.Zp,pG A3 n3 c3 r.1.Zy,AI A4 n4 c4 r.1.Zz,pG A5 n5 c5 r.1.ZA]) r):=by
 refine ce Tryz.func27 ?_;intro B1;refine sY ?_;obtain ⟨y2,k,h⟩:=aa h;refine Gl (oR (EY k)) ?_;refine gH J h ?_ ?_<;>intro h
 ·exact eY
 refine ab ?_;refine dY [] ?_;refine ab ?_;obtain ⟨y4,k,h⟩:=aa h
 refine MR 1 J (oC (GF k)) fun B5=> ?_
 obtain ⟨y6,k,h⟩:=aa h
 refine MR 2 J (oC (EP k)) fun B7=> ?_
 refine ab ?_
 refine MR 4 J (qY J J) fun B8=> ?_
 refine ab ?_;refine ao (fun s L=> ∃g3 g4 g5 p13 g6 p15 g7 g8 g9 h0 h1 p21 h2 h3 h4 h5 h6 h7 h8 h9 i0 i1 i2 i3 i4 i5 i6,Bn N g3 g4 g5 p13 g6 p15 g7 g8 g9 h0 h1 p21 h2 h3 h4 h5 h6 h7=some r/\s=[(2,.pointer none),(3,iV 0),(4,pV B8 0)]/\L=[pG h8 h9 i0 h1,AI i1 i2 i3 h4,pG i4 i5 i6 h5,ah B8 81 [iV g3,iV g4,iV g5,iV p13,iV g6,iV p15,iV g7,iV g8,iV g9,iV h0,.nilIface,pV B5 0,pV B7 0,W h8 h9 i0,iV p21,iV h2,iV h3,W i1 i2 i3,W i4 i5 i6],oDHeap B5 h6,oDTable B7 h7]) ?_ ?_
 ·refine ab ?_;refine kq (fun m s L=> ∃g2 i7 i8 i9 j0 j1 j2 j3 j4 j5 j6 j7 j8 j9 k0 k1 k2 k3 k4 k5 k6 k7 k8 k9 l0 l1 l2 l3,rq N m g2 i7 i8 i9 j0 j1 j2 j3 j4 j5 j6 j7 j8 j9 k0 k1 k2 k3 k4=some r/\s=[(2,.pointer none),(3,iV 0),(4,pV B8 0),(14,iV g2)]/\L=[pG k5 k6 k7 j7,AI k8 k9 l0 k1,pG l1 l2 l3 k2,ah B8 81 [iV i7,iV i8,iV i9,iV j0,iV j1,iV j2,iV j3,iV j4,iV j5,iV j6,.nilIface,pV B5 0,pV B7 0,W k5 k6 k7,iV j8,iV j9,iV k0,W k8 k9 l0,W l1 l2 l3],oDHeap B5 k3,oDTable B7 k4]) N _ _ ⟨0,0,0,0,a0.ZM,a0.ZN,a0.ZI,a0.ZK,a0.Zh,a0.ZO,a0.ZP,[],0,0,0,[],[],y4,y6,none,0,0,none,0,0,none,0,0,h,J,J⟩ sA ((cj sJ 9 _).trans ((cj nF 309 _).trans ((cj sJ 9 _).trans (cS [2,1,0,3,5,4] 7)))) ?_;rintro (_|u9)
  all_goals (refine fun s L=>aM fun g2=>aM fun i7=>aM fun i8=>aM fun i9=>aM fun j0=>aM fun j1=>aM fun j2=>aM fun j3=>aM fun j4=>aM fun j5=>aM fun j6=>aM fun j7=>aM fun j8=>aM fun j9=>aM fun k0=>aM fun k1=>aM fun k2=>aM fun k3=>aM fun k4=>aM fun k5=>aM fun k6=>aM fun k7=>aM fun k8=>aM fun k9=>aM fun l0=>aM fun l1=>aM fun l2=>aM fun l3=>Lb fun h=> ?_)
  ·exact aU h
  rw [rq.eq_2] at h;refine ab ?_;refine aA<|gH J h (fun h=> ?_) (fun h=> ?_)
  ·refine ab ?_;refine ao (fun s L=> ∃l4 l5 l6 l7 l8 l9 m0 m1 m2 m3 m4 m5 m6 m7 m8 m9 n0 o0 o1 o2 p1 p2 p3 p4 p5 p6 p7,zS N (rq N u9) g2 l4 l5 l6 l7 l8 l9 m0 m1 m2 m3 m4 m5 m6 m7 m8 m9 n0 o0=some r/\s=[(2,.pointer none),(3,iV 0),(4,pV B8 0),(14,iV g2)]/\L=[pG o1 o2 p1 m4,AI p2 p3 p4 m8,pG p5 p6 p7 m9,ah B8 81 [iV l4,iV l5,iV l6,iV l7,iV l8,iV l9,iV m0,iV m1,iV m2,iV m3,.nilIface,pV B5 0,pV B7 0,W o1 o2 p1,iV m5,iV m6,iV m7,W p2 p3 p4,W p5 p6 p7],oDHeap B5 n0,oDTable B7 o0]) ?_ ?_
   ·refine ab ?_;refine ba O ([]) (cS [] 6) ?_;refine zY [0,1,2,4,5] ?_;refine pm 3 6 O ?_ ?_
    ·refine bX J (uR (bM 3 J J Fq J)) J J J ?_;rintro _ _ ⟨rfl,rfl⟩;refine ca ?_;obtain ⟨v1,b0,h⟩:=aa h;refine zD 6 J (oC (oB b0)) ?_;rintro _ _ ⟨_,⟨v2,v6,v7,w0,w1,w2,w3,w4,w5,rfl,rfl⟩,rfl⟩;refine ca ?_;refine bv ?_;obtain ⟨w6,b5,h⟩:=aa h;refine zD 7 J (oC (dV b5)) ?_;rintro _ _ ⟨_,⟨rfl,rfl⟩,rfl⟩;refine ca ?_;refine bv ?_;exact bn O<|jY
    obtain ⟨v1,b0,h⟩:=aa h;refine bX J (oC (oB b0)) J J J ?_;rintro _ _ ⟨_,⟨v2,v6,v7,w0,w1,w2,w3,w4,w5,rfl,rfl⟩,rfl⟩;refine ca ?_;refine bv ?_;refine zD 3 J (uR (bM 0 J J Fq J)) ?_;rintro _ _ ⟨rfl,rfl⟩;refine ca ?_;obtain ⟨w6,b5,h⟩:=aa h;refine zD 7 J (oC (dV b5)) ?_;rintro _ _ ⟨_,⟨rfl,rfl⟩,rfl⟩;refine ca ?_;refine bv ?_;exact bn O<|jY
   refine fun s L=>aM fun l4=>aM fun l5=>aM fun l6=>aM fun l7=>aM fun l8=>aM fun l9=>aM fun m0=>aM fun m1=>aM fun m2=>aM fun m3=>aM fun m4=>aM fun m5=>aM fun m6=>aM fun m7=>aM fun m8=>aM fun m9=>aM fun n0=>aM fun o0=>aM fun o1=>aM fun o2=>aM fun p1=>aM fun p2=>aM fun p3=>aM fun p4=>aM fun p5=>aM fun p6=>aM fun p7=>Lb fun h=>ab ?_
   obtain ⟨x8,h⟩:=ae h;exact lY
  exact jY
 refine fun s L=>aM fun g3=>aM fun g4=>aM fun g5=>aM fun p13=>aM fun g6=>aM fun p15=>aM fun g7=>aM fun g8=>aM fun g9=>aM fun h0=>aM fun h1=>aM fun p21=>aM fun h2=>aM fun h3=>aM fun h4=>aM fun h5=>aM fun h6=>aM fun h7=>aM fun h8=>aM fun h9=>aM fun i0=>aM fun i1=>aM fun i2=>aM fun i3=>aM fun i4=>aM fun i5=>aM fun i6=>Lb fun h=>ao (fun s L=> ∃p8 q0 q1 q2 q3 q4 q5 q6 q7 q8 q9 r0 r1 r2 r3 r4 r5 r6 s0 s1 s2 s3 s4 s5 s6 s7 s8,zQ N p8 q0 q1 q2 q3 q4 q5 q6 q7 q8 q9 r0 r1 r2 r3 r4 r5 r6=some r/\s=[(2,.pointer none),(3,iV 0),(4,pV B8 0)]/\L=[pG s0 s1 s2 q9,AI s3 s4 s5 r3,pG s6 s7 s8 r4,ah B8 81 [iV p8,iV q0,iV q1,iV q2,iV q3,iV q4,iV q5,iV q6,iV q7,iV q8,.nilIface,pV B5 0,pV B7 0,W s0 s1 s2,iV r0,iV r1,iV r2,W s3 s4 s5,W s6 s7 s8],oDHeap B5 r5,oDTable B7 r6]) ?_ ?_
 ·refine ba O ([]) (cS [] 6) ?_;refine zY [0,1,2,4] ?_;refine zE 5 J (nv J (bld_94_0 _).out) ?_;refine pm 3 6 O ?_ ?_
  ·refine bX J (uR (bM 3 J J Fq J)) J J J ?_;rintro _ _ ⟨rfl,rfl⟩;refine ca ?_;obtain ⟨w7,b6,h⟩:=aa h;refine kC (qu ax _) (cS [] 7) ?_;refine kC (qu ax _) (cS [] 8) ?_;refine zD 6 J (oC (iA b6)) ?_;rintro _ _ ⟨_,⟨w8,w9,x1,x2,x3,x4,x5,x6,x7,rfl,rfl⟩,rfl⟩;refine ca ?_;refine bv ?_;obtain ⟨s9,a6,h⟩:=aa h;refine zD 7 J (oC (dV a6)) ?_;rintro _ _ ⟨_,⟨rfl,rfl⟩,rfl⟩;refine ca ?_;refine bv ?_;exact bn O<|jY
  obtain ⟨w7,b6,h⟩:=aa h;refine wi (qu ax _) (cS [] 7) ?_;refine wi (qu ax _) (cS [] 8) ?_;refine bX J (oC (iA b6)) J J J ?_;rintro _ _ ⟨_,⟨w8,w9,x1,x2,x3,x4,x5,x6,x7,rfl,rfl⟩,rfl⟩;refine ca ?_;refine bv ?_;refine zD 3 J (uR (bM 0 J J Fq J)) ?_;rintro _ _ ⟨rfl,rfl⟩;refine ca ?_;obtain ⟨s9,a6,h⟩:=aa h;refine zD 7 J (oC (dV a6)) ?_;rintro _ _ ⟨_,⟨rfl,rfl⟩,rfl⟩;refine ca ?_;refine bv ?_;exact bn O<|jY
 refine fun s L=>aM fun p8=>aM fun q0=>aM fun q1=>aM fun q2=>aM fun q3=>aM fun q4=>aM fun q5=>aM fun q6=>aM fun q7=>aM fun q8=>aM fun q9=>aM fun r0=>aM fun r1=>aM fun r2=>aM fun r3=>aM fun r4=>aM fun r5=>aM fun r6=>aM fun s0=>aM fun s1=>aM fun s2=>aM fun s3=>aM fun s4=>aM fun s5=>aM fun s6=>aM fun s7=>aM fun s8=>Lb fun h=>ao (fun s L=> ∃b7 b9 d0 d1 d2 d3 d4 d6 e0 e1 e2 e3 e4 e5 e6 e7 e8 e9 f0 f1 f2 f3 f4 f6 f9 g0 g1,xT N b7 b9 d0 d1 d2 d3 d4 d6 e0 e1 e2 e3 e4 e5 e6 e7 e8 e9=some r/\s=[(2,.pointer none),(3,iV 0),(4,pV B8 0)]/\L=[pG f0 f1 f2 e2,AI f3 f4 f6 e6,pG f9 g0 g1 e7,ah B8 81 [iV b7,iV b9,iV d0,iV d1,iV d2,iV d3,iV d4,iV d6,iV e0,iV e1,.nilIface,pV B5 0,pV B7 0,W f0 f1 f2,iV e3,iV e4,iV e5,W f3 f4 f6,W f9 g0 g1],oDHeap B5 e8,oDTable B7 e9]) ?_ ?_
 ·refine ba O ([]) (cS [] 6) ?_;refine zY [0,1,2,4] ?_;refine zE 5 J (nv J (bld_94_0 _).out) ?_;refine pm 3 6 O ?_ ?_
  ·refine bX J (uR (bM 3 J J Fq J)) J J J ?_;rintro _ _ ⟨rfl,rfl⟩;refine ca ?_;obtain ⟨t1,a7,h⟩:=aa h;refine kC (qu ax _) (cS [] 7) ?_;refine kC (qu ax _) (cS [] 8) ?_;refine zD 6 J (oC (iA a7)) ?_;rintro _ _ ⟨_,⟨t2,u0,u1,u2,u3,u4,u5,u6,u7,rfl,rfl⟩,rfl⟩;refine ca ?_;refine bv ?_;obtain ⟨u8,a8,h⟩:=aa h;refine zD 7 J (oC (dV a8)) ?_;rintro _ _ ⟨_,⟨rfl,rfl⟩,rfl⟩;refine ca ?_;refine bv ?_;exact bn O<|jY
  obtain ⟨t1,a7,h⟩:=aa h;refine wi (qu ax _) (cS [] 7) ?_;refine wi (qu ax _) (cS [] 8) ?_;refine bX J (oC (iA a7)) J J J ?_;rintro _ _ ⟨_,⟨t2,u0,u1,u2,u3,u4,u5,u6,u7,rfl,rfl⟩,rfl⟩;refine ca ?_;refine bv ?_;refine zD 3 J (uR (bM 0 J J Fq J)) ?_;rintro _ _ ⟨rfl,rfl⟩;refine ca ?_;obtain ⟨u8,a8,h⟩:=aa h;refine zD 7 J (oC (dV a8)) ?_;rintro _ _ ⟨_,⟨rfl,rfl⟩,rfl⟩;refine ca ?_;refine bv ?_;exact bn O<|jY
 exact fun s L=>aM fun b7=>aM fun b9=>aM fun d0=>aM fun d1=>aM fun d2=>aM fun d3=>aM fun d4=>aM fun d6=>aM fun e0=>aM fun e1=>aM fun e2=>aM fun e3=>aM fun e4=>aM fun e5=>aM fun e6=>aM fun e7=>aM fun e8=>aM fun e9=>aM fun f0=>aM fun f1=>aM fun f2=>aM fun f3=>aM fun f4=>aM fun f6=>aM fun f9=>aM fun g0=>aM fun g1=>Lb fun h=>eY
theorem xR {N:Nat}{a0:WF}{r:(Int ⊕ (WH×Int))}(h:px N a0=some r):Okc W8 27 [(FR a0)] ([]) (fun u post=>SM (fun (r:Int)=>u=.tuple #[.pointer none,iV r]/\post=[]) (fun (r:WH×Int)=> ∃B0 B1 B2,u=.tuple #[pV B0 0,iV r.2]/\post=[oDWorld B0 B1 B2 r.1]) r):=by
 rcases r with _|_<;>exact Vi (H9 h)
def eT (a0:WH)(a1:Int):Option WK:=
 (bif decide (a1<0) then (some true) else (some (decide (18<=a1)))).bind fun b8=>bif b8 then (some (⟨0,0,⟨#[]⟩⟩:WK)) else ((dh N a0.Zo a1).bind fun a6=>some a6)
theorem vj {N:Nat}{r:WK}(h:eT N a0 a1=some r):Okc W8 67 [pV B1 0,iV a1] ([aQ B1 81 (Ac a0 B2 B3 A4 n4 c4 A5 n5 c5 A6 n6 c6),pDHeap B2 a0.Zo,pDTable B3 a0.Zp,iI sJ (W A4 n4 c4) a0.Zy,iI nF (W A5 n5 c5) a0.Zz,iI sJ (W A6 n6 c6) a0.ZA]) (fun u post=>u=(aE r)/\post=[]):=by
 refine ce Tryz.func67 ?_;intro B7;refine sY ?_;refine ga (dO J Wp) ?_;refine gS 3 14 11 h ?_;intro b8 h;refine dr h ?_ ?_<;>intro h
 ·exact eY
 refine cR h (fun _ k=>iG k) fun a6 h=> ?_
 exact eN
theorem tS {N:Nat}{r:WK}(h:eT N a0 a1=some r){B1 B2 B3:Nat}:Okc W8 67 [pV B1 0,iV a1] ([pDWorld B1 B2 B3 a0]) (fun u post=>u=(aE r)/\post=[]):=Nz 0 rfl (fun _=>vj h)
def gr (a0:WH)(a1:WI):Option (WK×Bool×WH):=
 bif decide (a0.Zu.ZK<=a0.ZB.ZL) then (some ((⟨0,0,⟨#[]⟩⟩:WK),false,a0)) else ((eV N a0.Zo a1).bind fun a6=>bif !decide (a6.2.1=0) then (some ((⟨0,0,⟨#[]⟩⟩:WK),false,(⟨a0.ZB,a0.Zu,(),a6.2.2,a0.Zp,a0.Zy,a0.ZE,a0.ZF,a0.ZG,a0.Zz,a0.ZA⟩:WH))) else (aG (in64 (a0.ZB.ZL+1)) (some ((⟨7,a6.1,⟨#[]⟩⟩:WK),true,(⟨(⟨a0.ZB.ZR,a0.ZB.ZL+1,a0.ZB.ZS⟩:WS),a0.Zu,(),a6.2.2,a0.Zp,a0.Zy,a0.ZE,a0.ZF,a0.ZG,a0.Zz,a0.ZA⟩:WH)))))
theorem zF {N:Nat}{a1:WI}{r:WK×Bool×WH}(h:gr N a0 a1=some r):Okc W8 66 [pV B1 0,.agg #[iV a1.Za,iV a1.Zi,iV a1.Ze,iV a1.Zf,W A7 n7 c7,W A8 n8 c8]] ([aX A7 n7 c7 a1.Zc,aX A8 n8 c8 a1.Zb,ah B1 81 (Ac a0 B2 B3 A4 n4 c4 A5 n5 c5 A6 n6 c6),oDHeap B2 a0.Zo,oDTable B3 a0.Zp,pG A4 n4 c4 a0.Zy,AI A5 n5 c5 a0.Zz,pG A6 n6 c6 a0.ZA]) (fun u post=> ∃A0 n0 c0 A1 n1 c1 A2 n2 c2,u=.tuple #[.agg #[iV r.1.Za,iV r.1.N,.string r.1.S],.bool r.2.1]/\post=[ah B1 81 (Ac r.2.2 B2 B3 A0 n0 c0 A1 n1 c1 A2 n2 c2),oDHeap B2 r.2.2.Zo,oDTable B3 r.2.2.Zp,pG A0 n0 c0 r.2.2.Zy,AI A1 n1 c1 r.2.2.Zz,pG A2 n2 c2 r.2.2.ZA]):=by
 refine ce Tryz.func66 ?_;intro B9
 refine cn fun a6=> ?_
 refine aA<|dY [] ?_;refine ab ?_;refine zE 1 J (dO J Wp) ?_;refine dr h ?_ ?_<;>intro h
 ·exact eY
 refine ab ?_;refine aA<|ba O ([ah a6 28 [iV 0,iV 0,.string (⟨#[]⟩)],ah B9 94 (iL a1 A7 n7 c7 A8 n8 c8),aX A7 n7 c7 a1.Zc,aX A8 n8 c8 a1.Zb,ah B1 81 (Ac a0 B2 B3 A4 n4 c4 A5 n5 c5 A6 n6 c6),oDTable B3 a0.Zp,pG A4 n4 c4 a0.Zy,AI A5 n5 c5 a0.Zz,pG A6 n6 c6 a0.ZA]) (cS [0,1,2,3,4,6,7,8,9] 10) ?_;refine ab ?_;obtain ⟨a7,k,h⟩:=aa h;refine zD 5 J (oC (om k)) ?_;rintro _ _ ⟨_,⟨rfl,rfl⟩,rfl⟩;refine ca ?_;refine sY ?_;refine gH J h ?_ ?_<;>intro h
 ·exact eY
 refine ab ?_;obtain ⟨a8,h⟩:=ae h;exact eY
theorem xr {N:Nat}{a1:WI}{r:WK×Bool×WH}(h:gr N a0 a1=some r){B1 B2 B3:Nat}:Okc W8 66 [pV B1 0,.agg #[iV a1.Za,iV a1.Zi,iV a1.Ze,iV a1.Zf,W A4 n4 c4,W A5 n5 c5]] ([aX A4 n4 c4 a1.Zc,aX A5 n5 c5 a1.Zb,oDWorld B1 B2 B3 a0]) (fun u post=>u=.tuple #[.agg #[iV r.1.Za,iV r.1.N,.string r.1.S],.bool r.2.1]/\post=[oDWorld B1 B2 B3 r.2.2]):=LW 2 rfl (fun _=>zF h)
def vd (a0:WH)(a1:WW):Option (WK×Bool×WH):=
 (eT N a0 2).bind fun y6=>(gr N a0 (⟨2,0,1,0,([y6]:List WK),a1⟩:WI)).bind fun y8=>some (y8.1,y8.2.1,y8.2.2)
theorem IP {N:Nat}{a1:WW}{r:WK×Bool×WH}(h:vd N a0 a1=some r){B1 B2 B3:Nat}:Okc W8 28 [pV B1 0,W A4 n4 c4] ([aX A4 n4 c4 a1,oDWorld B1 B2 B3 a0]) (fun u post=>u=.tuple #[.agg #[iV r.1.Za,iV r.1.N,.string r.1.S],.bool r.2.1]/\post=[oDWorld B1 B2 B3 r.2.2]):=by
 refine ce Tryz.func28 ?_;intro B5;refine sY ?_;refine ga (dO J Wp) ?_;refine ge J<|ab ?_;obtain ⟨y6,k,h⟩:=aa h;refine gV (oR (tS k)) ?_
 refine vo (aB (R:=ax) (vss:=[[iV y6.Za,iV y6.N,.string y6.S]]) (xs:=[y6]) J (jr _ _ _) J J (fun _ _ hr=> .cons J All2.nil)) fun A7 n7 c7=> ?_
 refine mX (bq 0 J) ?_;obtain ⟨y8,k,h⟩:=aa h;refine Gl (oC (xr k)) ?_;exact eN
def tz (a0:WW):Option (WK ⊕ (WH×WK×Bool)):=
 (px N (⟨0,1048576,50,100,0,0,0⟩:WF)).bind fun y3=>Ef y3 (fun y3_0=>some (.inl (⟨0,0,⟨#[]⟩⟩:WK))) (fun y3_1=>bif !decide (y3_1.2=0) then (some (.inl (⟨0,0,⟨#[]⟩⟩:WK))) else ((vd N y3_1.1 a0).bind fun y8=>some (.inr (y8.2.2,y8.1,y8.2.1))))
theorem iR {N:Nat}{a0:WW}{r:(WK ⊕ (WH×WK×Bool))}(h:tz N a0=some r):Okc W8 9 [W A1 n1 c1] ([aX A1 n1 c1 a0]) (fun u post=>SM (fun (r:WK)=>u=.tuple #[.pointer none,(aE r),.bool false]/\post=[]) (fun (r:WH×WK×Bool)=> ∃B0 B1 B2,u=.tuple #[pV B0 0,.agg #[iV r.2.1.Za,iV r.2.1.N,.string r.2.1.S],.bool r.2.2]/\post=[oDWorld B0 B1 B2 r.1]) r):=by
 refine ce Tryz.func9 ?_;intro B2;refine ab ?_;obtain ⟨y3,a6,h⟩:=aa h;rcases y3 with y3_0|y3_1
 ·replace h:=GS h;refine Gl (oC (xR a6)) ?_;refine sZ ?_;refine ga (dO J Wp) ?_;exact jx J<|eY
 replace h:=GR h;refine gD (oC (xR a6)) ?_;rintro _ _ ⟨_,⟨B4,B5,B6,rfl,rfl⟩,rfl⟩;refine sY ?_;refine ga (dO J Wp) ?_;refine gH J h ?_ ?_<;>intro h
 ·exact eY
 refine cC h (fun _ k=>IP k) fun y8 h=> ?_
 intro B9;refine ab ?_;refine aA<|ba O ([ah B9 28 [iV y8.1.Za,iV y8.1.N,.string y8.1.S],oDWorld B4 B5 B6 y8.2.2,aX A1 n1 c1 a0]) (cS [0,1,3] 4) ?_;refine ab ?_;refine zO 4 J (am (us:=[iV y8.1.Za,iV y8.1.N,.string y8.1.S]) (cs':=[iV y8.1.Za,iV y8.1.N,.string y8.1.S]) 2 J J J J size28.out J J J) ?_;rintro _ _ rfl;refine ca ?_;exact eY
def iS (N:Nat)(a0:WK):Option Bool:=
 (bif decide (a0.Za=7) then (some true) else (some (decide (a0.Za=9)))).bind fun b2=>some b2
theorem tO {N:Nat}{a0:WK}{r:Bool}(h:iS N a0=some r):Okc W8 96 [(aE a0)] ([]) (fun u post=>u=.bool r/\post=[]):=by
 refine ce Tryz.func96 ?_;intro B1;refine ab ?_;refine gS 4 10 6 h ?_;intro b2 h;exact eY
end Go.Proofs.YtmcifcmlojonnaaGreatDoor
namespace Go.Proofs.YtmcifcmlojonnaaGreatDoor
variable (N:Nat){a1 a2 a3:Int}{l:Nat}{σ:Type}{a0:WH}
variable {A1 A2 A3 A4 A5 A6 A7 A8 A9:Option Addr}{B1 B2 B3 B6 M3 M7 c1 c2 c3 c4 c5 c6 c7 c8 c9 n1 n2 n3 n4 n5 n6 n7 n8 n9:Nat}
open Go.RowKit Asn
set_option maxRecDepth 20000
def pY (N:Nat)(a1:Int)(p6:W5)(p7:Int):Option (W5×Int×Bool):=
 (bif decide (0<a1) then (some (decide (p7<(p6.length:Int)))) else (some false)).bind fun a6=>some (p6,p7,a6)
def oD (a0:WO)(a1:Int):Option (W5×Int×Bool):=
 aG (in64 (a1.tdiv 2)) (bif decide (a1.tmod 2=0) then (aG (in64 (a1.tdiv 2)) (aG (in64 ((a1.tdiv 2) - 1)) (pY N a1 a0.Zj ((a1.tdiv 2) - 1)))) else (pY N a1 a0.Zh (a1.tdiv 2)))
theorem xU {N:Nat}{a0:WO}{r:W5×Int×Bool}(h:oD N a0 a1=some r):Okc W8 164 [.agg #[W A1 n1 c1,W A2 n2 c2],iV a1] ([iE A1 n1 c1 a0.Zh,iE A2 n2 c2 a0.Zj]) (fun u post=> ∃A0 n0 c0,u=.tuple #[W A0 n0 c0,iV r.2.1,.bool r.2.2]/\post=[iE A0 n0 c0 r.1]):=by
 refine ce Tryz.func164 ?_;intro B3;refine ab ?_;obtain ⟨q4,h⟩:=ae h;refine ga (F4 J J (by decide) q4.1 q4.2) ?_;refine ao (fun s L=> ∃p6 p7 A6 n6 c6,pY N a1 p6 p7=some r/\s=[(1,iV a1),(4,W none 0 0),(5,iV 0),(6,.bool false),(7,W A6 n6 c6),(8,iV p7)]/\L=[iE A6 n6 c6 p6]) ?_ ?_
 ·refine ab ?_;refine ga (sm J J (by decide)) ?_;refine gH J h ?_ ?_<;>intro h
  ·refine ab ?_;obtain ⟨q9,h⟩:=ae h;refine gE (F4 J J (by decide) q9.1 q9.2) ?_;obtain ⟨a6,h⟩:=ae h;exact jY
  exact jY
 rintro _ _ ⟨p6,p7,A6,n6,c6,h,rfl,rfl⟩;refine ab ?_;refine gS 5 30 25 h ?_;intro a7 h;exact eY
def py (a0:WO)(a1:Int):Option Bool:=
 (oD N a0 a1).bind fun y4=>some y4.2.2
theorem sI {N:Nat}{a0:WO}{r:Bool}(h:py N a0 a1=some r):Okc W8 160 [.agg #[W A1 n1 c1,W A2 n2 c2],iV a1] ([iE A1 n1 c1 a0.Zh,iE A2 n2 c2 a0.Zj]) (fun u post=>u=.bool r/\post=[]):=by
 refine ce Tryz.func160 ?_;intro B3
 refine VM h (fun _ k=>xU k) fun y4 A5 n5 c5 h=> ?_
 exact eN
def jQ (a0:WN)(a1:Int):Option Bool:=
 (aL N a0).bind fun y8=>(bif !y8 then ((py N a0.m_ a1).bind fun a6=>some a6) else (some false)).bind fun b9=>some b9
theorem rb {N:Nat}{a0:WN}{r:Bool}(h:jQ N a0 a1=some r):Okc W8 137 [pV B1 0,iV a1] ([aQ B1 124 [W A2 n2 c2,W A3 n3 c3,W A4 n4 c4,W A5 n5 c5,pV B6 0],iE A2 n2 c2 a0.m_.Zh,iE A3 n3 c3 a0.m_.Zj,aX A4 n4 c4 a0.Zt,aX A5 n5 c5 a0.Zv,aQ B6 213 [.map (some M7)],qD jC qL M7 a0.Zw.at_]) (fun u post=>u=.bool r/\post=[]):=by
 refine ce Tryz.func137 ?_
 refine cR h (fun _ k=>di k) fun y8 h=> ?_
 refine oo 7 15 8 h (fun _ g9 h=> ?_) fun b9 h=> ?_
 ·refine cR h (fun _ k=>sI k) fun a6 h=> ?_
  exact gY
 exact eY
def ip (N:Nat)(a0:WN)(a1:Int):Option (Int ⊕ Int):=
 bif decide (a1.tmod 2=1) then (aG (in64 (a1.tdiv 2)) ((au a0.m_.Zh (a1.tdiv 2)).bind fun a6=>some (.inl (a1.tdiv 2)))) else (aG (in64 (a1.tdiv 2)) (aG (in64 ((a1.tdiv 2) - 1)) ((au a0.m_.Zj ((a1.tdiv 2) - 1)).bind fun a7=>some (.inr ((a1.tdiv 2) - 1)))))
theorem gC {N:Nat}{a0:WN}{r:(Int ⊕ Int)}(h:ip N a0 a1=some r):Okc W8 139 [pV B1 0,iV a1] ([aQ B1 124 [W A2 n2 c2,W A3 n3 c3,W A4 n4 c4,W A5 n5 c5,pV B6 0],iE A2 n2 c2 a0.m_.Zh,iE A3 n3 c3 a0.m_.Zj,aX A4 n4 c4 a0.Zt,aX A5 n5 c5 a0.Zv,aQ B6 213 [.map (some M7)],qD jC qL M7 a0.Zw.at_]) (fun u post=>SM (fun (r:Int)=>u=dD (W A2 n2 c2) r.toNat 6 0/\post=[]) (fun (r:Int)=>u=dD (W A3 n3 c3) r.toNat 6 0/\post=[]) r):=by
 refine ce Tryz.func139 ?_;refine sZ ?_;refine ga (sm J J (by decide)) ?_;refine gH J h ?_ ?_<;>intro h
 ·refine ab ?_;obtain ⟨q9,h⟩:=ae h;refine gE (F4 J J (by decide) q9.1 q9.2) ?_;obtain ⟨b9,a7,a8,b0,h⟩:=bz h;exact eY
 refine ab ?_;obtain ⟨a6,h⟩:=ae h;refine gE (F4 J J (by decide) a6.1 a6.2) ?_;obtain ⟨d0,h⟩:=ae h;refine ab ?_;obtain ⟨d1,b5,b6,b7,h⟩:=bz h;exact eY
def nq (a0:WN)(a1:Int):Option (WI×Bool):=
 (jQ N a0 a1).bind fun y9=>bif !y9 then (some ((⟨0,0,0,0,[],[]⟩:WI),false)) else ((ip N a0 a1).bind fun a6=>Ef a6 (fun y13_0=>(au a0.m_.Zh y13_0).bind fun a7=>(fT N a7).bind fun a8=>some (a8,true)) (fun y13_1=>(au a0.m_.Zj y13_1).bind fun b0=>(fT N b0).bind fun b5=>some (b5,true)))
theorem D8 {N:Nat}{a0:WN}{r:WI×Bool}(h:nq N a0 a1=some r):Okc W8 129 [pV B1 0,iV a1] ([aQ B1 124 [W A2 n2 c2,W A3 n3 c3,W A4 n4 c4,W A5 n5 c5,pV B6 0],iE A2 n2 c2 a0.m_.Zh,iE A3 n3 c3 a0.m_.Zj,aX A4 n4 c4 a0.Zt,aX A5 n5 c5 a0.Zv,aQ B6 213 [.map (some M7)],qD jC qL M7 a0.Zw.at_]) (fun u post=> ∃A0 n0 c0 A1 n1 c1,u=.tuple #[.agg #[iV r.1.Za,iV r.1.Zi,iV r.1.Ze,iV r.1.Zf,W A0 n0 c0,W A1 n1 c1],.bool r.2]/\post=[bf A0 n0 c0 r.1.Zc,bf A1 n1 c1 r.1.Zb]):=by
 refine ce Tryz.func129 ?_;intro B8;refine sY ?_
 refine cR h (fun _ k=>rb k) fun y9 h=> ?_
 refine gH J h ?_ ?_<;>intro h
 ·refine ab ?_;obtain rfl:=bF h;exact kB (rs:=[.cell 4 94,.tmp 5]) (vs:=[.agg #[iV 0,iV 0,iV 0,iV 0,W none 0 0,W none 0 0],.bool false]) J (.cons (du 0 J J agg94.out) (.cons (dS J) .nil)) J ((cj ax 28 _).trans ((cj ax 28 _).trans (cS [1,0] 10))) ⟨_,_,_,_,_,_,J,J⟩
 refine ab ?_;obtain ⟨d1,a6,h⟩:=aa h;rcases d1 with y13_0|y13_1
 ·replace h:=GS h;refine gD (oR (gC a6)) ?_;rintro _ _ ⟨_,⟨rfl,rfl⟩,rfl⟩;obtain ⟨b9,a7,a8,b0,h⟩:=bz h;refine gR (mM 2 J bi J (toNat_lt a7 a8))<|Kb 2 J b0 (uc b9) ?_;rintro _ _ ⟨d2,d3,d4,d6,e0,e1,rfl,rfl⟩
  refine gR (Bq (us:=(iL b9 d2 d3 d4 d6 e0 e1)) 0 J J agg94.out J)<|IK h (fun _ k=>iO k) fun e8 e9 f0 f1 f2 f3 f4 h=> ?_
  exact eN
 replace h:=GR h;refine gD (oR (gC a6)) ?_;rintro _ _ ⟨_,⟨rfl,rfl⟩,rfl⟩;obtain ⟨d0,b5,b6,b7,h⟩:=bz h;refine gR (mM 3 J bi J (toNat_lt b5 b6))<|Kb 3 J b7 (uc d0) ?_;rintro _ _ ⟨e2,e3,e4,e5,e6,e7,rfl,rfl⟩
 refine gR (Bq (us:=(iL d0 e2 e3 e4 e5 e6 e7)) 0 J J agg94.out J)<|IK h (fun _ k=>iO k) fun f6 f9 g0 g1 g2 g3 g4 h=> ?_
 exact eN
theorem uV {N:Nat}{a0:WN}{r:WI×Bool}(h:nq N a0 a1=some r):Okc W8 129 [pV B1 0,iV a1] ([pDHeap B1 a0]) (fun u post=> ∃A0 n0 c0 A1 n1 c1,u=.tuple #[.agg #[iV r.1.Za,iV r.1.Zi,iV r.1.Ze,iV r.1.Zf,W A0 n0 c0,W A1 n1 c1],.bool r.2]/\post=[bf A0 n0 c0 r.1.Zc,bf A1 n1 c1 r.1.Zb]):=Nz 0 rfl (fun _=>D8 h)
def rN (N:Nat)(p15 a6 a7 a8:Int)(b0 b5:WW):Option WI:=
 some (⟨p15,a6,a7,a8,b0,b5⟩:WI)
def bR (a0:WH)(a1:WK):Option WI:=
 (iS N a1).bind fun y9=>bif !y9 then (some (⟨0,0,0,0,[],[]⟩:WI)) else ((nq N a0.Zo a1.N).bind fun a6=>rN N a6.1.Za a6.1.Zi a6.1.Ze a6.1.Zf a6.1.Zc a6.1.Zb)
theorem zH {N:Nat}{a1:WK}{r:WI}(h:bR N a0 a1=some r):Okc W8 84 [pV B1 0,(aE a1)] ([aQ B1 81 (Ac a0 B2 B3 A4 n4 c4 A5 n5 c5 A6 n6 c6),pDHeap B2 a0.Zo,pDTable B3 a0.Zp,iI sJ (W A4 n4 c4) a0.Zy,iI nF (W A5 n5 c5) a0.Zz,iI sJ (W A6 n6 c6) a0.ZA]) (fun u post=> ∃A0 n0 c0 A1 n1 c1,u=.agg #[iV r.Za,iV r.Zi,iV r.Ze,iV r.Zf,W A0 n0 c0,W A1 n1 c1]/\post=[bf A0 n0 c0 r.Zc,bf A1 n1 c1 r.Zb]):=by
 refine ce Tryz.func84 ?_;intro B7
 refine cn fun B8=> ?_
 refine sZ ?_;refine ga (dO J Wp) ?_
 refine cR h (fun _ k=>tO k) fun y9 h=> ?_
 refine gH J h ?_ ?_<;>intro h
 ·refine ab ?_;obtain rfl:=bF h;exact kB (rs:=[.cell 4 94]) (vs:=[.agg #[iV 0,iV 0,iV 0,iV 0,W none 0 0,W none 0 0]]) J (.cons (du 0 J J agg94.out) .nil) J ((cj ax 28 _).trans ((cj ax 28 _).trans (cS [1,0] 10))) ⟨_,_,_,_,_,_,J,J⟩
 refine ab ?_;refine ao (fun s L=> ∃p15 b0 b5 b6 b7 b9 d0 d1 d2 d3 d4 d6 e0,rN N p15 b0 b5 b6 b7 b9=some r/\s=[(4,pV B8 0),(5,pV d0 0)]/\L=[bf d1 d2 d3 b7,bf d4 d6 e0 b9,ah d0 94 [iV p15,iV b0,iV b5,iV b6,W d1 d2 d3,W d4 d6 e0],ah B8 94 [iV 0,iV 0,iV 0,iV 0,W none 0 0,W none 0 0]]) ?_ ?_
 ·refine ba O _ (ad _)<|zY [0,1,2,3,4,5] ?_;refine pm 6 10 O ?_ ?_
  ·obtain ⟨e1,k,h⟩:=aa h;refine bX J (oR (uV k)) J J J ?_;rintro _ _ ⟨_,⟨e2,e3,e4,a6,a7,a8,rfl,rfl⟩,rfl⟩;refine ca ?_;refine zY [7,8,9] ?_
   refine MR 10 J (bJ zero94.out J) fun e9=> ?_
   refine zO 11 J (am (us:=(iL e1.1 e2 e3 e4 a6 a7 a8)) (cs':=(iL e1.1 e2 e3 e4 a6 a7 a8)) 0 J J J J size94.out J J J) ?_;rintro _ _ rfl;refine ca ?_;refine zX [12] ?_;exact jY
  refine bX J (bJ zero94.out J) J J J ?_;rintro _ _ ⟨f0,rfl,rfl⟩;refine ca ?_;obtain ⟨e5,k,h⟩:=aa h
  refine VQ 6 J (oR (uV k)) fun a6 a7 a8 e6 e7 e8=> ?_
  refine zY [7,8,9] ?_;refine zO 11 J (am (us:=(iL e5.1 a6 a7 a8 e6 e7 e8)) (cs':=(iL e5.1 a6 a7 a8 e6 e7 e8)) 2 J J J J size94.out J J J) ?_;rintro _ _ rfl;refine ca ?_;refine zX [12] ?_;exact jY
 exact fun s L=>aM fun p15=>aM fun b0=>aM fun b5=>aM fun b6=>aM fun b7=>aM fun b9=>aM fun d0=>aM fun d1=>aM fun d2=>aM fun d3=>aM fun d4=>aM fun d6=>aM fun e0=>Lb fun h=>eY
theorem xv {r:WI}: ∀v post,((fun (u:Value) (post:W6)=> ∃A0 n0 c0 A1 n1 c1,u=.agg #[iV r.Za,iV r.Zi,iV r.Ze,iV r.Zf,W A0 n0 c0,W A1 n1 c1]/\post=[bf A0 n0 c0 r.Zc,bf A1 n1 c1 r.Zb])) v post-> ∀c∈post,im c:=by
 rintro _ _ ⟨_,_,_,_,_,_,rfl,rfl⟩;exact t5 qp (t5 qp (aw))
theorem jz {N:Nat}{a1:WK}{r:WI}(h:bR N a0 a1=some r){B1 B2 B3:Nat}:Okc W8 84 [pV B1 0,(aE a1)] ([pDWorld B1 B2 B3 a0]) (fun u post=> ∃A0 n0 c0 A1 n1 c1,u=.agg #[iV r.Za,iV r.Zi,iV r.Ze,iV r.Zf,W A0 n0 c0,W A1 n1 c1]/\post=[bf A0 n0 c0 r.Zc,bf A1 n1 c1 r.Zb]):=Nz 0 rfl (fun _=>zH h)
theorem vI {r:WI}: ∀v post,((fun (u:Value) (post:W6)=> ∃A0 n0 c0 A1 n1 c1,u=.agg #[iV r.Za,iV r.Zi,iV r.Ze,iV r.Zf,W A0 n0 c0,W A1 n1 c1]/\post=[bf A0 n0 c0 r.Zc,bf A1 n1 c1 r.Zb])) v post-> ∀c∈post,im c:=xv
def cD (a0:WH)(a1:WK):Option (WI×Bool):=
 bif !decide (a1.Za=7) then (some ((⟨0,0,0,0,[],[]⟩:WI),false)) else ((bR N a0 a1).bind fun y9=>some (y9,decide (y9.Za=2)))
theorem fg {N:Nat}{a1:WK}{r:WI×Bool}(h:cD N a0 a1=some r){B1 B2 B3:Nat}:Okc W8 41 [pV B1 0,(aE a1)] ([pDWorld B1 B2 B3 a0]) (fun u post=> ∃A0 n0 c0 A1 n1 c1,u=.tuple #[.agg #[iV r.1.Za,iV r.1.Zi,iV r.1.Ze,iV r.1.Zf,W A0 n0 c0,W A1 n1 c1],.bool r.2]/\post=[bf A0 n0 c0 r.1.Zc,bf A1 n1 c1 r.1.Zb]):=by
 refine ce Tryz.func41 ?_;intro B4
 refine cn fun B5=> ?_
 refine sZ ?_;refine ga (dO J Wp) ?_;refine gH J h ?_ ?_<;>intro h
 ·refine ab ?_;obtain rfl:=bF h;exact kB (rs:=[.cell 4 94,.tmp 5]) (vs:=[.agg #[iV 0,iV 0,iV 0,iV 0,W none 0 0,W none 0 0],.bool false]) J (.cons (du 0 J J agg94.out) (.cons (dS J) .nil)) J ((cj ax 28 _).trans ((cj ax 28 _).trans (cS [1,0] 5))) ⟨_,_,_,_,_,_,J,J⟩
 refine IK h (fun _ k=>jz k) fun y9 a6 a7 a8 b0 b5 b6 h=> ?_
 intro b7;refine ab ?_;refine aA<|ba O ([ah b7 94 (iL y9 a6 a7 a8 b0 b5 b6),bf a6 a7 a8 y9.Zc,bf b0 b5 b6 y9.Zb,ah B4 28 (bS a1),pDWorld B1 B2 B3 a0]) (cS [0,1,2,4,5] 6) ?_;refine ab ?_;refine zO 4 J (am (us:=(iL y9 a6 a7 a8 b0 b5 b6)) (cs':=(iL y9 a6 a7 a8 b0 b5 b6)) 3 J J J J size94.out J J J) ?_;rintro _ _ rfl;refine ca ?_;exact eY
def eZ (N:Nat){σ:Type}(fy:(Int×WK)->σ->Option (Bool×σ))(a1:WI):Nat->Int->σ->Option σ
 |0,_,_=>none
 |m4+1,p5,p6=>bif decide (p5<(a1.Zb.length:Int)) then ((au a1.Zb p5).bind fun x8=>bif !decide (x8=(⟨8,0,(⟨#[]⟩:ByteArray)⟩:WK)) then ((fy (p5,x8) p6).bind fun a6=>bif !a6.1 then (some a6.2) else (aG (in64 (p5+1)) ((eZ N fy a1 m4) (p5+1) a6.2))) else (aG (in64 (p5+1)) ((eZ N fy a1 m4) (p5+1) p6))) else (some p6)
def sF (a1:WI)(fy:(Int×WK)->σ->Option (Bool×σ))(s0:σ):Option σ:=
 eZ N fy a1 N 0 s0
theorem yO {N:Nat}{a1:WI}{fy:(Int×WK)->σ->Option (Bool×σ)}{s0 r:σ}(h:sF N a1 fy s0=some r){G:σ->W6}(hY:tk W8 l G (fun x=> [iV x.1,.agg #[iV x.2.Za,iV x.2.N,.string x.2.S]]) fy):Okc W8 85 [.func (.yield l) #[] #[],pV B1 0] (aQ B1 94 (iL a1 A2 n2 c2 A3 n3 c3)::aX A2 n2 c2 a1.Zc::aX A3 n3 c3 a1.Zb::ug::(G s0)) (fun u post=>u=.tuple #[]/\post=G r):=by
 refine ce Tryz.func85 ?_;refine lK (fun m s L=> ∃(p5:Int) (p6:σ),eZ N fy a1 m p5 p6=some r/\s=[(0,.func (.yield l) #[] #[]),(6,W A3 n3 c3),(7,iV (a1.Zb.length:Int)),(8,iV p5)]/\L=aX A3 n3 c3 a1.Zb::ug::(G p6)) N ?_;rintro m4 _ _ ⟨p5,p6,h,rfl,rfl⟩;rw [eZ.eq_2] at h;refine ab ?_;refine aA<|gH J h (fun h=> ?_) (fun h=> ?_)
 ·refine sY ?_;obtain ⟨x8,a7,a8,b0,h⟩:=bz h
  refine cn fun B9=> ?_
  refine ga (Di (x:=x8) (y:=(⟨8,0,(⟨#[]⟩:ByteArray)⟩:WK)) J J) ?_;refine fX 16 J (fun a6=> ?_) (fun a6=> ?_)
  ·replace h:=cN a6 h;refine ab ?_;obtain ⟨b5,k,h⟩:=aa h;refine CH (vM (a:=(p5,x8)) [ah B9 28 [iV x8.Za,iV x8.N,.string x8.S],aX A3 n3 c3 a1.Zb,ug] hY k J J) J (bW a6 J) J ?_;rintro _ _ ⟨rfl,rfl⟩;refine dr h ?_ ?_<;>intro h
   ·exact eY
   refine ab ?_;obtain ⟨b6,h⟩:=ae h;exact lY
  replace h:=cO a6 h;refine ab ?_;refine ge J<|ab ?_;obtain ⟨b7,h⟩:=ae h;exact lY
 exact eY
def rl (N:Nat)(a0:WI):Option Unit:=
 some ()
theorem CA {N:Nat}{a0:WI}{r:Unit}(h:rl N a0=some r):Okc W8 42 [.agg #[iV a0.Za,iV a0.Zi,iV a0.Ze,iV a0.Zf,W A1 n1 c1,W A2 n2 c2]] ([aX A1 n1 c1 a0.Zc,aX A2 n2 c2 a0.Zb,ug]) (fun u post=> ∃a6,u=.func (.func 85) #[] #[pV a6 0]/\post=[ah a6 94 (iL a0 A1 n1 c1 A2 n2 c2)]):=by
 refine ce Tryz.func42 ?_;intro B3;refine ab ?_;refine ga (iY J) ?_;exact eN
def bZ (N:Nat):Option WP:=
 some (⟨1,0,(⟨#[108,101,110,103,116,104]⟩:ByteArray)⟩:WP)
theorem js {N:Nat}{r:WP}(h:bZ N=some r):Okc W8 43 [] ([]) (fun u post=>u=(eW r)/\post=[]):=by
 refine ce Tryz.func43 ?_;intro B1;exact eY
def gL (a0:WH)(a1:WK):Option (Unit ⊕ WD):=
 bif !decide (a1.Za=7) then (some (.inl ())) else ((bR N a0 a1).bind fun y6=>(bif decide ((y6.Zc.length:Int)=0) then (some true) else ((au y6.Zc 0).bind fun a6=>(bif !decide (a6.Za=1) then ((au y6.Zc 0).bind fun a7=>some (!decide (a7.Za=7))) else (some false)).bind fun b12=>some b12)).bind fun a8=>bif a8 then (some (.inl ())) else (some (.inr (⟨y6,a0,a1⟩:WD))))
theorem db {N:Nat}{a1:WK}{r:(Unit ⊕ WD)}(h:gL N a0 a1=some r){B1 B2 B3:Nat}:Okc W8 78 [pV B1 0,(aE a1)] ([pDWorld B1 B2 B3 a0]) (fun u post=>SM (fun (r:Unit)=>u=.tuple #[.pointer none,.bool false]/\post=[]) (fun (r:WD)=> ∃B0 A1 n1 c1 A2 n2 c2,u=.tuple #[pV B0 0,.bool true]/\post=[ah B0 135 [iV r.Zn.Za,iV r.Zn.Zi,iV r.Zn.Ze,iV r.Zn.Zf,W A1 n1 c1,W A2 n2 c2,pV B1 0,iV r.at_.Za,iV r.at_.N,.string r.at_.S],bf A1 n1 c1 r.Zn.Zc,bf A2 n2 c2 r.Zn.Zb]) r):=by
 refine CZ Tryz.func78 J J ?_;simp only [qM];refine Y ?_
 refine gB (qY J J) fun B4=>Y ?_
 refine aA<|Y ?_;refine gE (dO J Wp)<|Y ?_;refine gH J h ?_ ?_<;>intro h
 ·refine Y ?_;obtain rfl:=bF h;exact PF J J J (cS [] 2) ⟨J,J⟩
 refine Y ?_;refine aA<|ba O _ (ad _)<|yY [0,1,3,4] ?_;obtain ⟨y6,k,h⟩:=aa h;refine zD 2 J (aJ (jz k) J (t5 (dN (i:=1) J J) aw) vI) ?_;rintro _ _ ⟨_,⟨A7,n7,c7,A8,n8,c8,rfl,rfl⟩,rfl⟩;refine nC (cS [2,3] 4) ?_;refine zE 5 J (nv J (bld_135_0_1_2 _ _ _ _ _ _ _ _ _ _ _ _ _ _).out) ?_;refine zD 6 J (qY J J) ?_;rintro _ _ ⟨B9,rfl,rfl⟩;refine nC (cS [3,4] 5) ?_;refine zE 7 J (ci J) ?_;refine bn O<|qF<|aA<|Y ?_;refine gR (lO 1 J ap J t9)<|Y ?_
 refine JJ 21 49 28 h (fun _ b7 h=> ?_) (fun _ b7 h=> ?_) fun d2 h=> ?_
 ·refine Y ?_;obtain rfl:=bF h;exact bA sA (cS [0,1,2,3,4] 5)
 ·refine Y ?_;obtain ⟨d0,a6,h⟩:=aa h;obtain ⟨a8,b0,a6⟩:=kY a6;refine r8 (cT 1 J ap J J t9 size28.out a8 b0) J (cL b7 J) J<|r8 (se 1 J ap J (toNat_lt a8 b0) ta) J (cL b7 J) J<|r8 (mg (u:=iV d0.Za) 1 J ap J a6 rR (fun _ _ _ h=>by rw [show _=_ from h];rfl)) J (cL b7 J) J<|Y ?_
  refine JJ 10 48 38 h (fun _ b9 h=> ?_) (fun _ b9 h=> ?_) fun b12 h=> ?_
  ·refine Y ?_;obtain ⟨d1,a7,h⟩:=aa h;obtain ⟨b5,b6,a7⟩:=kY a7;refine r8 (cT 1 J ap J J t9 size28.out b5 b6) J (bW b9 J) J<|r8 (se 1 J ap J (toNat_lt b5 b6) ta) J (bW b9 J) J<|r8 (mg (u:=iV d1.Za) 1 J ap J a7 rR (fun _ _ _ h=>by rw [show _=_ from h];rfl)) J (bW b9 J) J<|Y ?_;obtain rfl:=bF h;exact bA sA (cS [0,1,2,3,4] 5)
  ·refine Y ?_;obtain rfl:=bF h;exact bA sA (cS [0,1,2,3,4] 5)
  refine Y ?_;obtain rfl:=bF h;exact bA sA (cS [0,1,2,3,4] 5)
 refine Y ?_;refine gH J h ?_ ?_<;>intro h
 ·refine Y ?_;obtain rfl:=bF h;exact PF J J J (cS [] 5) ⟨J,J⟩
 refine Y ?_;obtain rfl:=bF h;exact PF J J J (cS [0,1,2] 5) ⟨_,_,_,_,_,_,_,J,J⟩
def cV (N:Nat)(a0:WH):Option Unit:=
 some ()
theorem xo {N:Nat}{r:Unit}(h:cV N a0=some r):Okc W8 86 [pV B1 0] ([aQ B1 81 (Ac a0 B2 B3 A4 n4 c4 A5 n5 c5 A6 n6 c6),pDHeap B2 a0.Zo,pDTable B3 a0.Zp,iI sJ (W A4 n4 c4) a0.Zy,iI nF (W A5 n5 c5) a0.Zz,iI sJ (W A6 n6 c6) a0.ZA]) (fun u post=>u=pV B3 0/\post=[]):=by
 refine ce Tryz.func86 ?_;refine sZ ?_;refine ga (dO J Wp) ?_;exact ge J<|eY
theorem eS {N:Nat}{r:Unit}(h:cV N a0=some r){B1 B2 B3:Nat}:Okc W8 86 [pV B1 0] ([pDWorld B1 B2 B3 a0]) (fun u post=>u=pV B3 0/\post=[]):=Nz 0 rfl (fun _=>xo h)
def ft (N:Nat)(a0:WG)(a1:Int):Option Bool:=
 (bif decide (0<=a1) then (some (decide (a1<(a0.Zp.length:Int)))) else (some false)).bind fun b4=>some b4
theorem pg {N:Nat}{a0:WG}{r:Bool}(h:ft N a0 a1=some r):Okc W8 175 [pV B1 0,iV a1] ([aQ B1 170 [W A2 n2 c2,.map (some M3)],iI bC (W A2 n2 c2) a0.Zp,qD eC we M3 a0.ZD]) (fun u post=>u=.bool r/\post=[]):=by
 refine ce Tryz.func175 ?_;refine ga (vY J Tryz.underlying77) ?_;refine gS 8 19 11 h ?_;intro b4 h;exact eY
def nB (a0:WG)(a1:Int):Option (WQ×Bool):=
 (ft N a0 a1).bind fun y5=>bif !y5 then (some ((⟨0,(⟨0,0,⟨#[]⟩⟩:WP),0,0⟩:WQ),false)) else ((au a0.Zp a1).bind fun x7=>some (x7,true))
theorem Bf {N:Nat}{a0:WG}{r:WQ×Bool}(h:nB N a0 a1=some r):Okc W8 186 [pV B1 0,iV a1] ([aQ B1 170 [W A2 n2 c2,.map (some M3)],iI bC (W A2 n2 c2) a0.Zp,qD eC we M3 a0.ZD]) (fun u post=>u=.tuple #[(Rk r.1),.bool r.2]/\post=[]):=by
 refine ce Tryz.func186 ?_;intro B4;refine sY ?_
 refine cR h (fun _ k=>pg k) fun y5 h=> ?_
 refine gH J h ?_ ?_<;>intro h
 ·exact eY
 refine ab ?_;obtain ⟨x7,a6,a7,a8,h⟩:=bz h;exact eY
def fu (a0:WG)(a1:Int):Option Int:=
 (nB N a0 a1).bind fun y4=>some y4.1.ZC
theorem ph {N:Nat}{a0:WG}{r:Int}(h:fu N a0 a1=some r):Okc W8 148 [pV B1 0,iV a1] ([aQ B1 170 [W A2 n2 c2,.map (some M3)],iI bC (W A2 n2 c2) a0.Zp,qD eC we M3 a0.ZD]) (fun u post=>u=iV r/\post=[]):=by
 refine ce Tryz.func148 ?_
 refine cR h (fun _ k=>Bf k) fun y4 h=> ?_
 intro B5;exact eY
theorem xG {N:Nat}{a0:WG}{r:Int}(h:fu N a0 a1=some r):Okc W8 148 [pV B1 0,iV a1] ([pDTable B1 a0]) (fun u post=>u=iV r/\post=[]):=Nz 0 rfl (fun _=>ph h)
def tM (N:Nat)(p8:List WQ):Option (List WQ):=
 some p8
def kE (N:Nat)(a0:WG):Nat->Int->(List WQ)->Int->Option (List WQ)
 |0,_,_,_=>none
 |a8+1,b0,a7,p13=>bif decide (0<=p13) then ((au a0.Zp b0).bind fun a6=>(au a7 p13).bind fun b6=>(au (List.set a7 p13.toNat (⟨a6.Up,(⟨a6.Zg.Za,a6.Zg.N,a6.Zg.S⟩:WP),a6.Zd,a6.ZC⟩:WQ)) p13).bind fun b5=>aG (in64 (p13 - 1)) ((kE N a0 a8) b5.Up (List.set a7 p13.toNat (⟨a6.Up,(⟨a6.Zg.Za,a6.Zg.N,a6.Zg.S⟩:WP),a6.Zd,a6.ZC⟩:WQ)) (p13 - 1))) else (tM N a7)
def fq (a0:WG)(a1:Int):Option (List WQ):=
 (fu N a0 a1).bind fun y4=>aG (0<=y4/\y4<=1000000) (aG (in64 (((List.replicate y4.toNat (⟨0,(⟨0,0,⟨#[]⟩⟩:WP),0,0⟩:WQ)).length:Int) - 1)) (kE N a0 N a1 (List.replicate y4.toNat (⟨0,(⟨0,0,⟨#[]⟩⟩:WP),0,0⟩:WQ)) (((List.replicate y4.toNat (⟨0,(⟨0,0,⟨#[]⟩⟩:WP),0,0⟩:WQ)).length:Int) - 1)))
theorem lF {N:Nat}{a0:WG}{r:List WQ}(h:fq N a0 a1=some r):Okc W8 130 [pV B1 0,iV a1] ([aQ B1 170 [W A2 n2 c2,.map (some M3)],iI bC (W A2 n2 c2) a0.Zp,qD eC we M3 a0.ZD]) (fun u post=> ∃A0 n0 c0,u=W A0 n0 c0/\post=[bc bC 166 (W A0 n0 c0) r]):=by
 refine ce Tryz.func130 ?_;obtain ⟨y4,k,h⟩:=aa h;refine gV (oR (ph k)) ?_;obtain ⟨q5,h⟩:=ae h
 refine vo (QM (R:=bC) (zl:=[iV 0,iV 0,iV 0,.string (⟨#[]⟩),iV 0,iV 0]) (x0:=(⟨0,(⟨0,0,⟨#[]⟩⟩:WP),0,0⟩:WQ)) J J Wl J J J J J (by decide) (fun _ _=>J) q5) fun A6 n6 c6=> ?_
 refine ao (fun s L=> ∃p8 A8 n8 c8,tM N p8=some r/\s=[(4,W none 0 0),(5,W A8 n8 c8)]/\L=[bc bC 166 (W A8 n8 c8) p8]) ?_ ?_
 ·refine ab ?_;obtain ⟨q9,h⟩:=ae h;refine ab ?_;refine lK (fun m s L=> ∃(b6:Int) (a7:List WQ) (p13:Int) (a8:Option Addr) (b0 b5:Nat),kE N a0 m b6 a7 p13=some r/\s=[(0,pV B1 0),(1,iV b6),(4,W none 0 0),(5,W a8 b0 b5),(6,iV p13)]/\L=[bc bC 166 (W a8 b0 b5) a7,iI bC (W A2 n2 c2) a0.Zp,qD eC we M3 a0.ZD,aQ B1 170 [W A2 n2 c2,.map (some M3)]]) N ?_;rintro d3 _ _ ⟨b6,a7,p13,a8,b0,b5,h,rfl,rfl⟩;rw [kE.eq_2] at h;refine sZ ?_;refine gH J h ?_ ?_<;>intro h
  ·refine sY ?_;obtain ⟨a6,d4,d6,e0,h⟩:=bz h;refine ab ?_;obtain ⟨e3,b7,b9,d0,h⟩:=bz h;refine ab ?_;refine Hr (cg (us:=Et a6) (z:=(⟨a6.Up,(⟨a6.Zg.Za,a6.Zg.N,a6.Zg.S⟩:WP),a6.Zd,a6.ZC⟩:WQ)) 0 J J J J size166.out J (toNat_lt b7 b9) J (fun S w vs xk hk hr ho=>by obtain rfl:=YL (hk.symm.trans d0);rw [show _=_ from hr];rfl)) ?_;obtain ⟨e1,d1,d2,e2,h⟩:=bz h;refine ab ?_;refine K9 (se 0 J ap J (toNat_lt d1 d2) FY) ?_;obtain ⟨e4,h⟩:=ae h;refine ab ?_;exact ⟨d3,_,_,WZ _,⟨e1.Up,List.set a7 p13.toNat (⟨a6.Up,(⟨a6.Zg.Za,a6.Zg.N,a6.Zg.S⟩:WP),a6.Zd,a6.ZC⟩:WQ),p13 - 1,a8,b0,b5,h,J,J⟩,sA,cS [0,1,2,3] 4⟩
  exact jY
 rintro _ _ ⟨p8,A8,n8,c8,h,rfl,rfl⟩;exact eY
def rM (N:Nat)(p5:W4):Option W4:=
 some p5
def jW (N:Nat)(y6:((List WQ))):Nat->W4->Int->Option W4
 |0,_,_=>none
 |m8+1,p9,a6=>bif decide (a6<(y6.length:Int)) then ((au y6 a6).bind fun a7=>aG (bu (p9.length+([a7.Zd]:List Int).length)) (aG (in64 (a6+1)) ((jW N y6 m8) (p9++([a7.Zd]:List Int)) (a6+1)))) else (rM N p9)
def fL (a0:WG)(a1:Int):Option W4:=
 (fq N a0 a1).bind fun y6=>jW N y6 N [] 0
theorem xH {N:Nat}{a0:WG}{r:W4}(h:fL N a0 a1=some r):Okc W8 87 [pV B1 0,iV a1] ([aQ B1 170 [W A2 n2 c2,.map (some M3)],iI bC (W A2 n2 c2) a0.Zp,qD eC we M3 a0.ZD]) (fun u post=> ∃A0 n0 c0,u=W A0 n0 c0/\post=[uA A0 n0 c0 r]):=by
 refine ce Tryz.func87 ?_;refine ao (fun s L=> ∃p5 A5 n5 c5,rM N p5=some r/\s=[(4,W none 0 0),(5,W A5 n5 c5)]/\L=[uA A5 n5 c5 p5]) ?_ ?_
 ·refine ab ?_;obtain ⟨y6,k,h⟩:=aa h
  refine vo (oR (lF k)) fun A7 n7 c7=> ?_
  refine kq (fun m s L=> ∃p9 a6 A9 n9 c9,jW N y6 m p9 a6=some r/\s=[(4,W none 0 0),(5,W A9 n9 c9),(10,W A7 n7 c7),(11,iV (y6.length:Int)),(12,iV a6)]/\L=[uA A9 n9 c9 p9,bc bC 166 (W A7 n7 c7) y6]) N _ _ ⟨[],0,none,0,0,h,J,J⟩ sA ((cj (nE .i64) 3 _).trans (cS [0,1] 5)) ?_;rintro (_|m8) _ _ ⟨p9,a6,A9,n9,c9,h,rfl,rfl⟩
  ·exact aU h
  rw [jW.eq_2] at h;refine ab ?_;refine aA<|gH J h (fun h=> ?_) (fun h=> ?_)
  ·refine sY ?_;obtain ⟨a7,a8,b0,b5,h⟩:=bz h
   refine cn fun b7=> ?_
   refine gD (aB (R:=(nE .i64)) (vss:=[[iV a7.Zd]]) (xs:=[a7.Zd]) J (rj _) J J (fun _ _ hr=> .cons J All2.nil)) ?_;rintro _ _ ⟨b9,d0,d1,rfl,rfl⟩;obtain ⟨b6,h⟩:=ae h
   refine vo (aR 2 0 J J ap J J Wk Se J J b6) fun d2 d3 d4=> ?_
   obtain ⟨d6,h⟩:=ae h;exact lY
  exact jY
 rintro _ _ ⟨p5,A5,n5,c5,h,rfl,rfl⟩;exact eY
theorem wl {N:Nat}{a0:WG}{r:W4}(h:fL N a0 a1=some r):Okc W8 87 [pV B1 0,iV a1] ([pDTable B1 a0]) (fun u post=> ∃A0 n0 c0,u=W A0 n0 c0/\post=[uA A0 n0 c0 r]):=Nz 0 rfl (fun _=>xH h)
def sv (N:Nat)(p5:WV):Option WV:=
 some p5
def kG (N:Nat)(y6:((List WQ))):Nat->WV->Int->Option WV
 |0,_,_=>none
 |m8+1,p9,a6=>bif decide (a6<(y6.length:Int)) then ((au y6 a6).bind fun a7=>aG (bu (p9.length+([a7.Zg]:List WP).length)) (aG (in64 (a6+1)) ((kG N y6 m8) (p9++([a7.Zg]:List WP)) (a6+1)))) else (sv N p9)
def gn (a0:WG)(a1:Int):Option WV:=
 (fq N a0 a1).bind fun y6=>kG N y6 N [] 0
theorem zy {N:Nat}{a0:WG}{r:WV}(h:gn N a0 a1=some r):Okc W8 88 [pV B1 0,iV a1] ([aQ B1 170 [W A2 n2 c2,.map (some M3)],iI bC (W A2 n2 c2) a0.Zp,qD eC we M3 a0.ZD]) (fun u post=> ∃A0 n0 c0,u=W A0 n0 c0/\post=[nZ A0 n0 c0 r]):=by
 refine ce Tryz.func88 ?_;refine ao (fun s L=> ∃p5 A5 n5 c5,sv N p5=some r/\s=[(4,W none 0 0),(5,W A5 n5 c5)]/\L=[nZ A5 n5 c5 p5]) ?_ ?_
 ·refine ab ?_;obtain ⟨y6,k,h⟩:=aa h
  refine vo (oR (lF k)) fun A7 n7 c7=> ?_
  refine kq (fun m s L=> ∃p9 a6 A9 n9 c9,kG N y6 m p9 a6=some r/\s=[(4,W none 0 0),(5,W A9 n9 c9),(10,W A7 n7 c7),(11,iV (y6.length:Int)),(12,iV a6)]/\L=[nZ A9 n9 c9 p9,bc bC 166 (W A7 n7 c7) y6]) N _ _ ⟨[],0,none,0,0,h,J,J⟩ sA ((cj sy 39 _).trans (cS [0,1] 5)) ?_;rintro (_|m8) _ _ ⟨p9,a6,A9,n9,c9,h,rfl,rfl⟩
  ·exact aU h
  rw [kG.eq_2] at h;refine ab ?_;refine aA<|gH J h (fun h=> ?_) (fun h=> ?_)
  ·refine sY ?_;obtain ⟨a7,a8,b0,b5,h⟩:=bz h
   refine cn fun b7=> ?_
   refine gD (aB (R:=sy) (vss:=[(ls a7.Zg)]) (xs:=[a7.Zg]) J (yI _ _ _) J J (fun _ _ hr=> .cons J All2.nil)) ?_;rintro _ _ ⟨b9,d0,d1,rfl,rfl⟩;obtain ⟨b6,h⟩:=ae h
   refine vo (aR 2 0 J J ap J J EM Oo J J b6) fun d2 d3 d4=> ?_
   obtain ⟨d6,h⟩:=ae h;exact lY
  exact jY
 rintro _ _ ⟨p5,A5,n5,c5,h,rfl,rfl⟩;exact eY
theorem xl {N:Nat}{a0:WG}{r:WV}(h:gn N a0 a1=some r):Okc W8 88 [pV B1 0,iV a1] ([pDTable B1 a0]) (fun u post=> ∃A0 n0 c0,u=W A0 n0 c0/\post=[nZ A0 n0 c0 r]):=Nz 0 rfl (fun _=>zy h)
def mF (N:Nat)(a2:WP)(a3 a6 a7:Int)(a8:ByteArray)(b0 p21:Int)(b5:ByteArray):Option WJ:=
 some (⟨a2,a3,(⟨0,0,⟨#[]⟩⟩:WK),(⟨a6,a7,a8⟩:WK),(⟨b0,p21,b5⟩:WK)⟩:WJ)
def fN (a0:WD)(a1:Int)(a2:WP)(a3:Int):Option WJ:=
 aG (in64 (a1+1)) (bif decide ((a0.Zn.Zc.length:Int)<=a1+1) then (some (⟨a2,a3,(⟨0,0,⟨#[]⟩⟩:WK),(⟨0,0,⟨#[]⟩⟩:WK),(⟨0,0,⟨#[]⟩⟩:WK)⟩:WJ)) else (aG (in64 (a1+1)) ((au a0.Zn.Zc (a1+1)).bind fun b0=>bif decide (ai .i64 a3 8=0) then (some (⟨a2,a3,b0,(⟨0,0,⟨#[]⟩⟩:WK),(⟨0,0,⟨#[]⟩⟩:WK)⟩:WJ)) else ((bR N a0.w_ b0).bind fun a6=>bif decide ((a6.Zc.length:Int)=2) then ((au a6.Zc 0).bind fun a7=>(au a6.Zc 1).bind fun a8=>mF N a2 a3 a7.Za a7.N a7.S a8.Za a8.N a8.S) else (mF N a2 a3 0 0 (⟨#[]⟩) 0 0 (⟨#[]⟩))))))
theorem rS {N:Nat}{a0:WD}{a2:WP}{r:WJ}(h:fN N a0 a1 a2 a3=some r){B4 B5 B6:Nat}:Okc W8 89 [pV B1 0,iV a1,(eW a2),iV a3] ([aQ B1 135 [iV a0.Zn.Za,iV a0.Zn.Zi,iV a0.Zn.Ze,iV a0.Zn.Zf,W A2 n2 c2,W A3 n3 c3,pV B4 0,iV a0.at_.Za,iV a0.at_.N,.string a0.at_.S],aX A2 n2 c2 a0.Zn.Zc,aX A3 n3 c3 a0.Zn.Zb,pDWorld B4 B5 B6 a0.w_]) (fun u post=>u=(cG r)/\post=[]):=by
 refine ce Tryz.func89 ?_;intro B7
 refine cn fun B8=> ?_
 intro B9;refine sY ?_;obtain ⟨g3,h⟩:=ae h;refine dr h ?_ ?_<;>intro h
 ·exact eY
 refine ab ?_;obtain ⟨g4,h⟩:=ae h;refine ab ?_;obtain ⟨a7,e4,e5,e6,h⟩:=bz h
 refine cn fun d3=> ?_
 refine sZ ?_;refine ga (aI J J) ?_;refine gH J h ?_ ?_<;>intro h
 ·exact eY
 refine ab ?_;refine ao (fun s L=> ∃d4 d6 e0 e1 p21 e2,mF N a2 a3 d4 d6 e0 e1 p21 e2=some r/\s=[(8,pV B8 0),(9,pV B9 0)]/\L=[ah B8 50 [iV 0,iV 0,.string (⟨#[]⟩),iV 0,iV 0,iV 0,.string (⟨#[]⟩),iV 0,iV 0,.string (⟨#[]⟩),iV 0,iV 0,.string (⟨#[]⟩)],ah B9 50 [iV a2.Za,iV a2.N,.string a2.S,iV a3,iV 0,iV 0,.string (⟨#[]⟩),iV d4,iV d6,.string e0,iV e1,iV p21,.string e2]]) ?_ ?_
 ·refine aA ?_;obtain ⟨a6,e3,h⟩:=aa h;refine gI (t:=[(0,pV B1 0),(8,pV B8 0),(9,pV B9 0),(10,pV d3 0)]) ?_ mc (ad _)
  refine iQ O 7 [] [5,6] [40,41,42,43,44,45,11] [[],[0],[1],[2],[],[3,4],[]] [aV (pV B1 0),
aV (pV B1 0),
aV (pV B1 6),
aV (pV B4 0),
aV (.agg #[iV a7.Za,iV a7.N,.string a7.S]),
aX6 (fun (a8:Option Addr) (b0 b5:Nat) (b6:Option Addr) (b7 b9:Nat)=> .agg #[iV a6.Za,iV a6.Zi,iV a6.Ze,iV a6.Zf,W a8 b0 b5,W b6 b7 b9]) (fun a8 b0 b5 b6 b7 b9=> [bf a8 b0 b5 a6.Zc,bf b6 b7 b9 a6.Zb]),
aX1 (fun (d1:Nat)=>pV d1 0) (fun d1=> [ah d1 94 [iV 0,iV 0,iV 0,iV 0,W none 0 0,W none 0 0]])] [] (ad _) (lV) O rfl rfl ?_ ?_ ?_
  ·exact lU
  ·refine aF J ?_ ?_
   ·refine tl (bJ zero94.out J) J ?_;rintro _ _ ⟨e7,rfl,rfl⟩;exact N4 e7 (ad _)
   refine aF J ?_ ?_
   ·refine tl (oR (jz e3)) J ?_;rintro _ _ ⟨_,⟨e8,e9,f0,f1,f2,f3,rfl,rfl⟩,rfl⟩;exact Vw e8 e9 f0 f1 f2 f3 (ad _)
   refine qR (aC (us:=[iV a7.Za,iV a7.N,.string a7.S]) 0 J J agg28.out J) ?_;refine qR (Br 4 J J So J) ?_;refine qE (jD J JP) ?_;refine qE (dC J) ?_;refine qE (aq J) ?_;exact dI
  intro a8 b0 b5 b6 b7 b9 d1;refine oa (t:=[(45,.agg #[iV a6.Za,iV a6.Zi,iV a6.Ze,iV a6.Zf,W a8 b0 b5,W b6 b7 b9]),(11,pV d1 0),(0,pV B1 0),(8,pV B8 0),(9,pV B9 0),(10,pV d3 0)]) (L':=[bf a8 b0 b5 a6.Zc,bf b6 b7 b9 a6.Zb,ah d1 94 [iV 0,iV 0,iV 0,iV 0,W none 0 0,W none 0 0],ah d3 28 [iV a7.Za,iV a7.N,.string a7.S],ah B9 50 [iV a2.Za,iV a2.N,.string a2.S,iV a3,iV 0,iV 0,.string (⟨#[]⟩),iV 0,iV 0,.string (⟨#[]⟩),iV 0,iV 0,.string (⟨#[]⟩)],ah B8 50 [iV 0,iV 0,.string (⟨#[]⟩),iV 0,iV 0,iV 0,.string (⟨#[]⟩),iV 0,iV 0,.string (⟨#[]⟩),iV 0,iV 0,.string (⟨#[]⟩)],ah B7 39 (ls a2),aQ B1 135 [iV a0.Zn.Za,iV a0.Zn.Zi,iV a0.Zn.Ze,iV a0.Zn.Zf,W A2 n2 c2,W A3 n3 c3,pV B4 0,iV a0.at_.Za,iV a0.at_.N,.string a0.at_.S],aX A2 n2 c2 a0.Zn.Zc,aX A3 n3 c3 a0.Zn.Zb,pDWorld B4 B5 B6 a0.w_]) ?_ mc (ad _);refine pL 7 J O (am (us:=(iL a6 a8 b0 b5 b6 b7 b9)) (cs':=(iL a6 a8 b0 b5 b6 b7 b9)) 2 J J J J size94.out J J J) J J ?_;rintro _ _ rfl;refine Ab ?_;refine mb O<|dr h (fun h=> ?_) (fun h=> ?_)
  ·refine ba O ([bf a8 b0 b5 a6.Zc,bf b6 b7 b9 a6.Zb,ah d1 94 (iL a6 a8 b0 b5 b6 b7 b9),ah d3 28 [iV a7.Za,iV a7.N,.string a7.S],ah B8 50 [iV 0,iV 0,.string (⟨#[]⟩),iV 0,iV 0,iV 0,.string (⟨#[]⟩),iV 0,iV 0,.string (⟨#[]⟩),iV 0,iV 0,.string (⟨#[]⟩)],ah B7 39 (ls a2),aQ B1 135 [iV a0.Zn.Za,iV a0.Zn.Zi,iV a0.Zn.Ze,iV a0.Zn.Zf,W A2 n2 c2,W A3 n3 c3,pV B4 0,iV a0.at_.Za,iV a0.at_.N,.string a0.at_.S],aX A2 n2 c2 a0.Zn.Zc,aX A3 n3 c3 a0.Zn.Zb,pDWorld B4 B5 B6 a0.w_]) (cS [0,1,2,3,5,6,7,8,9,10] 11) ?_;refine ab ?_;obtain ⟨d0,f4,f6,f9,h⟩:=bz h;refine ab ?_;obtain ⟨d2,g0,g1,g2,h⟩:=bz h;refine ab ?_;refine zO 9 J (am (us:=[iV d0.Za,iV d0.N,.string d0.S]) (cs':=[iV a2.Za,iV a2.N,.string a2.S,iV a3,iV 0,iV 0,.string (⟨#[]⟩),iV d0.Za,iV d0.N,.string d0.S,iV 0,iV 0,.string (⟨#[]⟩)]) 4 J J J J size28.out J J J) ?_;rintro _ _ rfl;refine ca ?_;refine ab ?_;refine zO 11 J (am (us:=[iV d2.Za,iV d2.N,.string d2.S]) (cs':=[iV a2.Za,iV a2.N,.string a2.S,iV a3,iV 0,iV 0,.string (⟨#[]⟩),iV d0.Za,iV d0.N,.string d0.S,iV d2.Za,iV d2.N,.string d2.S]) 4 J J J J size28.out J J J) ?_;rintro _ _ rfl;refine ca ?_;exact jY
  exact jY
 rintro _ _ ⟨d4,d6,e0,e1,p21,e2,h,rfl,rfl⟩;exact eY
def vN (N:Nat)(a6:List WJ):Option (List WJ):=
 some a6
def nL (N:Nat)(a7:WV)(b0:W4)(y5_1:WD)(a0:WH):Nat->(List WJ)->Int->Option (List WJ)
 |0,_,_=>none
 |b6+1,a8,a6=>bif decide (a6<(a7.length:Int)) then ((au a7 a6).bind fun b7=>(au b0 a6).bind fun b9=>(fN N (⟨y5_1.Zn,a0,y5_1.at_⟩:WD) a6 b7 b9).bind fun b5=>aG ((a8.length+([b5]:List WJ).length)<=549755813888) (aG (in64 (a6+1)) ((nL N a7 b0 y5_1 a0 b6) (a8++([b5]:List WJ)) (a6+1)))) else (vN N a8)
def jn (a0:WH)(a1:WK):Option (List WJ):=
 (gL N a0 a1).bind fun y5=>Ef y5 (fun y5_0=>some []) (fun y5_1=>(cV N a0).bind fun a8=>(fL N a0.Zp y5_1.Zn.Zi).bind fun a6=>(cV N a0).bind fun b0=>(gn N a0.Zp y5_1.Zn.Zi).bind fun a7=>nL N a7 a6 y5_1 a0 N [] 0)
theorem oW {N:Nat}{a1:WK}{r:List WJ}(h:jn N a0 a1=some r){B1 B2 B3:Nat}:Okc W8 44 [pV B1 0,(aE a1)] ([pDWorld B1 B2 B3 a0]) (fun u post=> ∃A0 n0 c0,u=W A0 n0 c0/\post=[bc ir 50 (W A0 n0 c0) r]):=by
 refine ce Tryz.func44 ?_;intro B4;refine ab ?_;obtain ⟨y5,e9,h⟩:=aa h;rcases y5 with y5_0|y5_1
 ·replace h:=GS h;refine gD (oR (db e9)) ?_;rintro _ _ ⟨_,⟨rfl,rfl⟩,rfl⟩;refine sY ?_;refine jx J<|ab ?_;obtain rfl:=bF h;exact pI J J ((cj ir 50 _).trans (cS [0] 3)) ⟨_,_,_,J,J⟩
 replace h:=GR h;refine gD (oR (db e9)) ?_;rintro _ _ ⟨_,⟨B7,A8,n8,c8,A9,n9,c9,rfl,rfl⟩,rfl⟩;refine sY ?_;refine ge J<|ab ?_;refine dY [0,2,3,4,5,6] ?_;obtain ⟨f6,k,h⟩:=aa h;refine zD 1 J (oR (eS k)) ?_;rintro _ _ ⟨_,⟨rfl,rfl⟩,rfl⟩;refine ⟨_,ad _,ad _,?_⟩;obtain ⟨d6,k,h⟩:=aa h
 refine Du 7 J (oR (wl k)) fun b6 b7 b9=> ?_
 refine zX [8] ?_;refine ab ?_;refine ao (fun s L=> ∃e0 e1 e2 e3,vN N e0=some r/\s=[(4,W none 0 0),(7,W e1 e2 e3)]/\L=[bc ir 50 (W e1 e2 e3) e0]) ?_ ?_
 ·refine dY [0,2,3,4,5,6,9] ?_;obtain ⟨f9,k,h⟩:=aa h;refine zD 1 J (oR (eS k)) ?_;rintro _ _ ⟨_,⟨rfl,rfl⟩,rfl⟩;refine ⟨_,ad _,ad _,?_⟩;obtain ⟨d0,k,h⟩:=aa h
  refine Du 7 J (oR (xl k)) fun d1 d2 d3=> ?_
  refine zD 8 J (uR (lO 0 J ap J EM)) ?_;rintro _ _ ⟨rfl,rfl⟩;refine ca ?_;refine bn O<|ab ?_;refine kq (fun m s L=> ∃d4 a7 a8 b0 b5,nL N d0 d6 y5_1 a0 m d4 a7=some r/\s=[(4,W none 0 0),(5,pV B7 0),(7,W a8 b0 b5),(8,W b6 b7 b9),(34,W d1 d2 d3),(35,iV (d0.length:Int)),(36,iV a7)]/\L=[bc ir 50 (W a8 b0 b5) d4,uA b6 b7 b9 d6,nZ d1 d2 d3 d0,bf A8 n8 c8 y5_1.Zn.Zc,bf A9 n9 c9 y5_1.Zn.Zb,ah B7 135 [iV y5_1.Zn.Za,iV y5_1.Zn.Zi,iV y5_1.Zn.Ze,iV y5_1.Zn.Zf,W A8 n8 c8,W A9 n9 c9,pV B1 0,iV y5_1.at_.Za,iV y5_1.at_.N,.string y5_1.at_.S],pDWorld B1 B2 B3 a0]) N _ _ ⟨[],0,none,0,0,h,J,J⟩ sA ((cj ir 50 _).trans (cS [0,2,1,4,5,3,7] 8)) ?_;rintro (_|g0) _ _ ⟨d4,a7,a8,b0,b5,h,rfl,rfl⟩
  ·exact aU h
  rw [nL.eq_2] at h;refine ab ?_;refine aA<|gH J h (fun h=> ?_) (fun h=> ?_)
  ·refine sY ?_;obtain ⟨a6,f1,f2,f3,h⟩:=bz h
   refine cn fun e4=> ?_
   obtain ⟨e5,e6,e7,e8,h⟩:=bz h;refine gI (t:=[(4,W none 0 0),(5,pV B7 0),(7,W a8 b0 b5),(8,W b6 b7 b9),(9,iV a7),(10,pV e4 0),(34,W d1 d2 d3),(35,iV (d0.length:Int)),(36,iV a7)]) ?_ mc (ad _)
   refine iQ O 8 [0] [0,1,2,3,7] [41,42,43,44,45,46,47,48] [[],[],[],[],[],[],[4,5],[6]] [aV (W a8 b0 b5),
aV (pV B7 0),
aV (iV a7),
aV (.agg #[iV a6.Za,iV a6.N,.string a6.S]),
aV (W b6 b7 b9),
aV (iV a7),
aV (dD (W b6 b7 b9) a7.toNat 1 0),
aV (iV e5)] [] (ad _) (fB rfl lV) O rfl rfl ?_ ?_ ?_
   ·exact fA J (nz (aq J) J (iH J (ad _)))<|lU
   ·refine aF J (yQ (mg (u:=iV e5) 2 J ap J e8 rR (fun _ _ _ h=>by rw [show _=_ from h];rfl)) J (iH J (ad _)))<|qR (cT 2 J ap J J Wk size3.out e6 e7) ?_;refine qE (aq J) ?_;refine qE (aq J) ?_;refine qR (aC (us:=[iV a6.Za,iV a6.N,.string a6.S]) 0 J J agg39.out J) ?_;refine qE (aq J) ?_;refine qE (aq J) ?_;refine qE (aq J) ?_;exact dI
   refine oa (t:=[(41,W a8 b0 b5),(42,pV B7 0),(43,iV a7),(44,.agg #[iV a6.Za,iV a6.N,.string a6.S]),(48,iV e5),(4,W none 0 0),(5,pV B7 0),(7,W a8 b0 b5),(8,W b6 b7 b9),(9,iV a7),(10,pV e4 0),(34,W d1 d2 d3),(35,iV (d0.length:Int)),(36,iV a7)]) (L':=[ah e4 39 [iV a6.Za,iV a6.N,.string a6.S],bc ir 50 (W a8 b0 b5) d4,uA b6 b7 b9 d6,nZ d1 d2 d3 d0,bf A8 n8 c8 y5_1.Zn.Zc,bf A9 n9 c9 y5_1.Zn.Zb,ah B7 135 [iV y5_1.Zn.Za,iV y5_1.Zn.Zi,iV y5_1.Zn.Ze,iV y5_1.Zn.Zf,W A8 n8 c8,W A9 n9 c9,pV B1 0,iV y5_1.at_.Za,iV y5_1.at_.N,.string y5_1.at_.S],pDWorld B1 B2 B3 a0]) ?_ mc (ad _);obtain ⟨f0,k,h⟩:=aa h;refine uv 8 J O (oR (rS k)) J J J ?_;rintro _ _ ⟨_,⟨rfl,rfl⟩,rfl⟩;refine uv 9 J O (aB (R:=ir) (vss:=[(cm f0)]) (xs:=[f0]) J (Ge _ _ _ _ _ _ _ _ _ _ _ _ _) J J (fun _ _ hr=> .cons J All2.nil)) J J J ?_;rintro _ _ ⟨g1,g2,g3,rfl,rfl⟩;obtain ⟨f4,h⟩:=ae h;refine uv 10 J O (ud 2 0 J J ap J J Ex Qo J J J f4) J J J ?_;rintro _ _ ⟨g4,g5,g6,rfl,rfl⟩;refine CF 11 J O (ci J) J J J<|mb O<|ab ?_;obtain ⟨g7,h⟩:=ae h;exact lY
  exact jY
 rintro _ _ ⟨e0,e1,e2,e3,h,rfl,rfl⟩;exact eY
def sW (N:Nat)(p7:Int):Option (Int×Bool):=
 bif decide (4294967294<p7) then (some (0,false)) else (some (p7,true))
def nO (N:Nat)(a0:ByteArray):Nat->Int->Int->Option (Int×Bool)
 |0,_,_=>none
 |m8+1,p9,a6=>bif decide (a6<(a0.size:Int)) then ((FQ a0 a6).bind fun a8=>(bif decide (a8<48) then (some true) else ((FQ a0 a6).bind fun b0=>some (decide (57<b0)))).bind fun b5=>bif b5 then (some (0,false)) else (aG (in64 (10*p9)) ((FQ a0 a6).bind fun a7=>aG (in64 ((10*p9)+(IntKind.i64.wrap (IntKind.u8.wrap (a7 - 48))))) (aG (in64 (a6+1)) ((nO N a0 m8) ((10*p9)+(IntKind.i64.wrap (IntKind.u8.wrap (a7 - 48)))) (a6+1)))))) else (sW N p9)
def iX (a0:ByteArray):Option (Int×Bool):=
 (bif a0.toList==(⟨#[]⟩:ByteArray).toList then (some true) else (some (decide (10<(a0.size:Int))))).bind fun b1=>(bif b1 then (some true) else ((FQ a0 0).bind fun x3=>(bif decide (x3=48) then (some (decide (1<(a0.size:Int)))) else (some false)).bind fun b4=>some b4)).bind fun b2=>bif b2 then (some (0,false)) else (nO N a0 N 0 0)
theorem Iq {N:Nat}{a0:ByteArray}{r:Int×Bool}(h:iX N a0=some r):Okc W8 92 [.string a0] ([]) (fun u post=>u=.tuple #[iV r.1,.bool r.2]/\post=[]):=by
 refine ce Tryz.func92 ?_;refine sZ ?_;refine ga (rV J J) ?_
 refine xc 4 12 8 h (fun _ g1 h=> ?_) fun b1 h=> ?_
 ·refine ab ?_;exact fb (qq J Wm) J (cL g1 J) J<|gY
 refine ab ?_
 refine xc 9 22 13 h (fun _ g2 h=> ?_) fun b2 h=> ?_
 ·refine ab ?_;obtain ⟨x3,b6,h⟩:=aa h;refine fb (tv J J Wm b6) J (cL g2 J) J<|ab ?_
  refine oo 4 21 17 h (fun _ g4 h=> ?_) fun b4 h=> ?_
  ·refine ab ?_;exact fb (qq J Wm) J (bW g4 J) J<|gY
  exact gY
 refine dr h ?_ ?_<;>intro h
 ·exact eY
 refine ab ?_;refine ao (fun s L=> ∃p7,sW N p7=some r/\s=[(2,iV 0),(3,.bool false),(4,iV p7)]/\L=[]) ?_ ?_
 ·refine ab ?_;refine ga (qq J Wm) ?_;refine lK (fun m s L=> ∃(p9:Int) (a6:Int),nO N a0 m p9 a6=some r/\s=[(0,.string a0),(2,iV 0),(3,.bool false),(4,iV p9),(24,iV (a0.size:Int)),(25,iV a6)]/\L=[]) N ?_;rintro m8 _ _ ⟨p9,a6,h,rfl,rfl⟩;rw [nO.eq_2] at h;refine ab ?_;refine aA<|gH J h (fun h=> ?_) (fun h=> ?_)
  ·refine sY ?_;refine sZ ?_;obtain ⟨b9,a7,h⟩:=aa h;refine ga (tv J J Wm a7) ?_
   refine xc 5 37 32 h (fun _ b7 h=> ?_) fun d0 h=> ?_
   ·refine ab ?_;obtain ⟨d1,a8,h⟩:=aa h;exact fb (tv J J Wm a8) J (cL b7 J) J<|gY
   refine dr h ?_ ?_<;>intro h
   ·exact eY
   refine ab ?_;obtain ⟨b5,h⟩:=ae h;refine ga (rg J J b5.1 b5.2) ?_;obtain ⟨d2,b0,h⟩:=aa h;refine gE (tv J J Wm b0)<|gE (RV J J)<|gE (xe J J Wo) ?_;obtain ⟨d3,h⟩:=ae h;refine ab ?_;obtain ⟨d4,h⟩:=ae h;exact lY
  exact jY
 rintro _ _ ⟨p7,h,rfl,rfl⟩;refine sZ ?_;refine gH J h ?_ ?_<;>intro h
 ·exact eY
 exact eY
def aZ (a0:WP):Option Bool:=
 bif decide (a0.Za=0) then ((bif a0.S.toList==(⟨#[]⟩:ByteArray).toList then (some (decide (0<=a0.N))) else (some false)).bind fun b3=>(bif b3 then (some (decide (a0.N<=4294967294))) else (some false)).bind fun b4=>some b4) else (bif decide (a0.Za=1) then ((iX N a0.S).bind fun y6=>(bif decide (a0.N=0) then (some (decide ((a0.S.size:Int)<=65536))) else (some false)).bind fun b7=>(bif b7 then (some (!y6.2)) else (some false)).bind fun b8=>some b8) else (bif decide (a0.Za=2) then ((bif a0.S.toList==(⟨#[]⟩:ByteArray).toList then (some (decide (1<=a0.N))) else (some false)).bind fun a6=>some a6) else (some false)))
theorem nM {N:Nat}{a0:WP}{r:Bool}(h:aZ N a0=some r):Okc W8 47 [(eW a0)] ([]) (fun u post=>u=.bool r/\post=[]):=by
 refine ce Tryz.func47 ?_;intro B1;refine sY ?_;refine gH J h ?_ ?_<;>intro h
 ·refine ab ?_;refine ga (rV J J) ?_;refine gS 4 16 12 h ?_;intro b3 h;refine ab ?_;refine gS 4 21 17 h ?_;intro b4 h;exact eY
 refine dr h ?_ ?_<;>intro h
 ·refine cR h (fun _ k=>Iq k) fun y6 h=> ?_
  refine oo 5 38 33 h (fun _ g7 h=> ?_) fun b7 h=> ?_
  ·refine ab ?_;exact fb (qq J Wm) J (bW g7 J) J<|gY
  refine ab ?_;refine gS 3 42 39 h ?_;intro b8 h;exact eY
 refine dr h ?_ ?_<;>intro h
 ·refine ab ?_;refine ga (rV J J) ?_;refine gS 4 52 48 h ?_;intro a6 h;exact eY
 exact eY
def va (N:Nat)(a0:Int):Option Bool:=
 some (!decide (a0=a0))
theorem Cu {N:Nat}{a0:Int}{r:Bool}(h:va N a0=some r):Okc W8 174 [iV a0] ([]) (fun u post=>u=.bool r/\post=[]):=by
 refine ce Tryz.func174 ?_;exact eN
def oM (a0 a1:Int):Option Int:=
 (va N a0).bind fun y1=>(va N a1).bind fun y2=>bif y1 then (bif y2 then (some 0) else (some (-1))) else (bif y2 then (some 1) else (bif decide (a0<a1) then (some (-1)) else (bif decide (a1<a0) then (some 1) else (some 0))))
theorem yF {N:Nat}{a0 r:Int}(h:oM N a0 a1=some r):Okc W8 132 [iV a0,iV a1] ([]) (fun u post=>u=iV r/\post=[]):=by
 refine ce Tryz.func132 ?_
 refine cR h (fun _ k=>Cu k) fun y1 h=> ?_
 refine cR h (fun _ k=>Cu k) fun y2 h=> ?_
 refine sZ ?_;refine gH J h ?_ ?_<;>intro h
 ·refine sZ ?_;refine gH J h ?_ ?_<;>intro h
  ·exact eY
  exact eY
 refine sY ?_;refine gH J h ?_ ?_<;>intro h
 ·exact eY
 refine sY ?_;refine gH J h ?_ ?_<;>intro h
 ·exact eY
 refine sY ?_;refine gH J h ?_ ?_<;>intro h
 ·exact eY
 exact eY
def nm (a0 a1:WP):Option Int:=
 (bif decide (a0.Za=0) then (some (decide (a1.Za=0))) else (some false)).bind fun b3=>bif b3 then ((oM N a0.N a1.N).bind fun y5=>some y5) else ((oM N a0.Za a1.Za).bind fun y6=>some y6)
theorem sU {N:Nat}{a0 a1:WP}{r:Int}(h:nm N a0 a1=some r):Okc W8 91 [(eW a0),(eW a1)] ([]) (fun u post=>u=iV r/\post=[]):=by
 refine ce Tryz.func91 ?_;intro B1
 refine cn fun B2=> ?_
 refine sZ ?_;refine gS 4 12 8 h ?_;intro b3 h;refine dr h ?_ ?_<;>intro h
 ·refine cR h (fun _ k=>yF k) fun y5 h=> ?_
  exact eN
 refine cR h (fun _ k=>yF k) fun y6 h=> ?_
 exact eN
theorem qn {r:Int}: ∀v post,((fun (u:Value) (post:W6)=>u=iV r/\post=[])) v post-> ∀c∈post,im c:=by
 rintro _ _ ⟨rfl,rfl⟩;exact aw
def cK (N:Nat)(a6:WV->Int->Option WV)(a1 a2 p5:Int)(p8:WV):Option WV:=
 aG (in64 (p5+1)) (a6 p8 (p5+1))
def bT (N:Nat)(b5:WV->Int->Option WV)(a1 a2 p5:Int):Nat->WV->Int->Option WV
 |0,_,_=>none
 |m9+1,a7,a6=>(bif decide (a1<a6) then ((au a7 a6).bind fun b6=>aG (in64 (a6 - 1)) ((au a7 (a6 - 1)).bind fun b7=>(nm N b6 b7).bind fun b9=>some (decide (b9<0)))) else (some false)).bind fun b12=>bif b12 then (aG (in64 (a6 - 1)) (aG (in64 (a6 - 1)) ((au a7 (a6 - 1)).bind fun a8=>(au a7 a6).bind fun b0=>(au a7 a6).bind fun d0=>(au (List.set a7 a6.toNat (⟨a8.Za,a8.N,a8.S⟩:WP)) (a6 - 1)).bind fun d1=>aG (in64 (a6 - 1)) ((bT N b5 a1 a2 p5 m9) (List.set (List.set a7 a6.toNat (⟨a8.Za,a8.N,a8.S⟩:WP)) ((a6 - 1).toNat) (⟨b0.Za,b0.N,b0.S⟩:WP)) (a6 - 1))))) else (cK N b5 a1 a2 p5 a7)
def bB (N:Nat)(a1 a2:Int):Nat->WV->Int->Option WV
 |0,_,_=>none
 |m3+1,p4,p5=>bif decide (p5<a2) then (bT N (bB N a1 a2 m3) a1 a2 p5 N p4 p5) else (some p4)
def bD (a0:WV)(a1 a2:Int):Option WV:=
 aG (in64 (a1+1)) (bB N a1 a2 N a0 (a1+1))
theorem dQ {N:Nat}{a0 r:WV}(h:bD N a0 a1 a2=some r):Okc W8 172 [W A1 n1 c1,iV a1,iV a2,.func (.func 91) #[] #[]] ([nZ A1 n1 c1 a0]) (fun u post=>u=.tuple #[]/\post=[nZ A1 n1 c1 r]):=by
 refine ce Tryz.func172 ?_;obtain ⟨q2,h⟩:=ae h;refine ab ?_;refine lK (fun m s L=> ∃(p4:WV) (p5:Int),bB N a1 a2 m p4 p5=some r/\s=[(0,W A1 n1 c1),(1,iV a1),(2,iV a2),(3,.func (.func 91) #[] #[]),(8,iV p5)]/\L=[nZ A1 n1 c1 p4]) N ?_;rintro m3 _ _ ⟨p4,p5,h,rfl,rfl⟩;rw [bB.eq_2] at h;refine sZ ?_;refine gH J h ?_ ?_<;>intro h
 ·refine ab ?_;refine ao (fun s L=> ∃p8,cK N (bB N a1 a2 m3) a1 a2 p5 p8=some r/\s=[(0,W A1 n1 c1),(1,iV a1),(2,iV a2),(3,.func (.func 91) #[] #[]),(8,iV p5)]/\L=[nZ A1 n1 c1 p8]) ?_ ?_
  ·refine ab ?_;refine lK (fun m s L=> ∃(b9:WV) (a6:Int),bT N (bB N a1 a2 m3) a1 a2 p5 m b9 a6=some r/\s=[(0,W A1 n1 c1),(1,iV a1),(2,iV a2),(3,.func (.func 91) #[] #[]),(8,iV p5),(9,iV a6)]/\L=[nZ A1 n1 c1 b9]) N ?_;rintro m9 _ _ ⟨b9,a6,h,rfl,rfl⟩;rw [bT.eq_2] at h;refine aA<|dY [0,1,2,3] ?_
   refine yJ [4,5,6,7,8,9,10,11,12,13,14,15,16] 0 21 34 h (fun _ d1 h rest=> ?_) (fun _ d1 h rest=> ?_) fun b12 h=> ?_
   ·refine yY [4,5,6] ?_;obtain ⟨f2,e6,e7,e8,h⟩:=bz h;refine yY [7,8,9,10] ?_;obtain ⟨e4,h⟩:=ae h;refine dH 11 J O (wP J J e4.1 e4.2) (bW d1 J) J ?_;obtain ⟨f3,e9,f0,f1,h⟩:=bz h;refine yY [12,13] ?_;obtain ⟨f4,k,h⟩:=aa h;refine ny 14 J O (kU (sU k) J J J (aw) qn) J (bW d1 J) J ?_;rintro _ _ ⟨_,⟨rfl,rfl⟩,rfl⟩;refine ⟨_,ad _,ad _,?_⟩;refine yY [15,16] ?_;exact yS rest h
   ·refine yY [4,5,6,7,8,9,10,11,12,13,14,15,16] ?_;exact yS rest h
   refine bn O<|dr h (fun h=> ?_) (fun h=> ?_)
   ·refine sY ?_;obtain ⟨d0,h⟩:=ae h;obtain ⟨e5,h⟩:=ae h;obtain ⟨a7,d2,d3,d4,h⟩:=bz h;obtain ⟨a8,d6,e0,e1,h⟩:=bz h;refine gI (t:=[(0,W A1 n1 c1),(1,iV a1),(2,iV a2),(3,.func (.func 91) #[] #[]),(8,iV p5),(9,iV a6)]) ?_ mc (ad _)
    refine iQ O 14 [2,3,4] [0,1,2,4,9,13] [37,38,39,40,41,42,43,44,45,46,47,48,49,50] [[],[],[],[],[3],[],[],[6],[5,7],[8],[],[],[10,11],[12]] [aV (W A1 n1 c1),
 aV (iV a6),
 aV (W A1 n1 c1),
 aV (iV a6),
 aV (iV (a6 - 1)),
 aV (W A1 n1 c1),
 aV (iV a6),
 aV (iV (a6 - 1)),
 aV (dD (W A1 n1 c1) ((a6 - 1).toNat) 3 0),
 aV (.agg #[iV a7.Za,iV a7.N,.string a7.S]),
 aV (W A1 n1 c1),
 aV (iV a6),
 aV (dD (W A1 n1 c1) a6.toNat 3 0),
 aV (.agg #[iV a8.Za,iV a8.N,.string a8.S])] [] (ad _) (fB rfl (fB rfl (fB rfl lV))) O rfl rfl ?_ ?_ ?_
    ·exact fA J (nz (aq J) J (iH J (ad _)))<|fA J (nz (aq J) J (iH J (ad _)))<|fA J (nz (wP J J d0.1 d0.2) J (iH J (ad _)))<|lU
    ·refine aF J (yQ (eU (us:=[iV a8.Za,iV a8.N,.string a8.S]) 0 J ap J e1 agg39.out (fun _ _ _ h=>by rw [show _=_ from h];rfl)) J (iH J (ad _)))<|qR (cT 0 J ap J J EM size39.out d6 e0) ?_;refine qE (aq J) ?_;refine qE (aq J) ?_;refine aF J (yQ (eU (us:=[iV a7.Za,iV a7.N,.string a7.S]) 0 J ap J d4 agg39.out (fun _ _ _ h=>by rw [show _=_ from h];rfl)) J (iH J (ad _)))<|qR (cT 0 J ap J J EM size39.out d2 d3) ?_;refine qE (wP J J e5.1 e5.2) ?_;refine qE (aq J) ?_;refine qE (aq J) ?_;refine qE (wP J J d0.1 d0.2) ?_;refine qE (aq J) ?_;refine qE (aq J) ?_;refine qE (aq J) ?_;refine qE (aq J) ?_;exact dI
    refine oa (t:=[(37,W A1 n1 c1),(38,iV a6),(39,W A1 n1 c1),(41,iV (a6 - 1)),(46,.agg #[iV a7.Za,iV a7.N,.string a7.S]),(50,.agg #[iV a8.Za,iV a8.N,.string a8.S]),(0,W A1 n1 c1),(1,iV a1),(2,iV a2),(3,.func (.func 91) #[] #[]),(8,iV p5),(9,iV a6)]) (L':=[nZ A1 n1 c1 b9]) ?_ mc (ad _);obtain ⟨f6,b0,b5,e2,h⟩:=bz h;refine J9 14 J O (cT 0 J ap J J EM size39.out b0 b5) J J J<|pL 15 J O (cg (us:=[iV a7.Za,iV a7.N,.string a7.S]) (z:=(⟨a7.Za,a7.N,a7.S⟩:WP)) 0 J J J J size39.out J (toNat_lt b0 b5) J (fun S w vs xk hk hr ho=>by obtain rfl:=YL (hk.symm.trans e2);rw [show _=_ from hr];rfl)) J J ?_;rintro _ _ rfl;obtain ⟨f9,b6,b7,e3,h⟩:=bz h;refine J9 16 J O (cT 0 J ap J J EM size39.out b6 b7) J J J<|pL 17 J O (cg (us:=[iV a8.Za,iV a8.N,.string a8.S]) (z:=(⟨a8.Za,a8.N,a8.S⟩:WP)) 0 J J J J size39.out J (toNat_lt b6 b7) J (fun S w vs xk hk hr ho=>by obtain rfl:=YL (hk.symm.trans e3);rw [show _=_ from hr];rfl)) J J ?_;rintro _ _ rfl;refine mb O<|ab ?_;obtain ⟨g0,h⟩:=ae h;exact lY
   exact jY
  rintro _ _ ⟨p8,h,rfl,rfl⟩;refine ab ?_;obtain ⟨g1,h⟩:=ae h;exact lY
 exact eY
def cz (N:Nat)(a1 a2 a3:Int):Nat->WV->Int->Option WV
 |0,_,_=>none
 |m2+1,p3,p4=>bif decide (p4<a3) then (aG (in64 (a1+p4)) (aG (in64 (a2+p4)) (aG (in64 (a2+p4)) ((au p3 (a2+p4)).bind fun x9=>aG (in64 (a1+p4)) ((au p3 (a1+p4)).bind fun a6=>(au p3 (a1+p4)).bind fun a7=>(au (List.set p3 ((a1+p4).toNat) (⟨x9.Za,x9.N,x9.S⟩:WP)) (a2+p4)).bind fun a8=>aG (in64 (p4+1)) ((cz N a1 a2 a3 m2) (List.set (List.set p3 ((a1+p4).toNat) (⟨x9.Za,x9.N,x9.S⟩:WP)) ((a2+p4).toNat) (⟨a6.Za,a6.N,a6.S⟩:WP)) (p4+1))))))) else (some p3)
def cE (a0:WV)(a1 a2 a3:Int):Option WV:=
 cz N a1 a2 a3 N a0 0
theorem fm {N:Nat}{a0 r:WV}(h:cE N a0 a1 a2 a3=some r):Okc W8 222 [W A1 n1 c1,iV a1,iV a2,iV a3,.func (.func 91) #[] #[]] ([nZ A1 n1 c1 a0]) (fun u post=>u=.tuple #[]/\post=[nZ A1 n1 c1 r]):=by
 refine ce Tryz.func222 ?_;refine lK (fun m s L=> ∃(p3:WV) (p4:Int),cz N a1 a2 a3 m p3 p4=some r/\s=[(0,W A1 n1 c1),(1,iV a1),(2,iV a2),(3,iV a3),(10,iV p4)]/\L=[nZ A1 n1 c1 p3]) N ?_;rintro m2 _ _ ⟨p3,p4,h,rfl,rfl⟩;rw [cz.eq_2] at h;refine sZ ?_;refine gH J h ?_ ?_<;>intro h
 ·refine sY ?_;obtain ⟨q6,h⟩:=ae h;obtain ⟨q7,h⟩:=ae h;obtain ⟨q8,h⟩:=ae h;obtain ⟨x9,d3,d4,d6,h⟩:=bz h;obtain ⟨d2,h⟩:=ae h;obtain ⟨a6,b6,b7,b9,h⟩:=bz h;refine gI (t:=[(0,W A1 n1 c1),(1,iV a1),(2,iV a2),(3,iV a3),(10,iV p4)]) ?_ mc (ad _)
  refine iQ O 20 [4,5,6,7] [0,3,4,7,13,19] [16,17,18,19,20,21,22,23,24,25,26,27,28,29,30,31,32,33,34,35] [[],[],[],[1,2],[],[],[],[5,6],[],[],[],[9,10],[8,11],[12],[],[],[],[15,16],[14,17],[18]] [aV (W A1 n1 c1),
 aV (iV a1),
 aV (iV p4),
 aV (iV (a1+p4)),
 aV (W A1 n1 c1),
 aV (iV a2),
 aV (iV p4),
 aV (iV (a2+p4)),
 aV (W A1 n1 c1),
 aV (iV a2),
 aV (iV p4),
 aV (iV (a2+p4)),
 aV (dD (W A1 n1 c1) ((a2+p4).toNat) 3 0),
 aV (.agg #[iV x9.Za,iV x9.N,.string x9.S]),
 aV (W A1 n1 c1),
 aV (iV a1),
 aV (iV p4),
 aV (iV (a1+p4)),
 aV (dD (W A1 n1 c1) ((a1+p4).toNat) 3 0),
 aV (.agg #[iV a6.Za,iV a6.N,.string a6.S])] [] (ad _) (fB rfl (fB rfl (fB rfl (fB rfl lV)))) O rfl rfl ?_ ?_ ?_
  ·exact fA J (nz (aq J) J (iH J (ad _)))<|fA J (nz (aq J) J (iH J (ad _)))<|fA J (nz (aq J) J (iH J (ad _)))<|fA J (nz (iN J J q7.1 q7.2) J (iH J (ad _)))<|lU
  ·refine aF J (yQ (eU (us:=[iV a6.Za,iV a6.N,.string a6.S]) 0 J ap J b9 agg39.out (fun _ _ _ h=>by rw [show _=_ from h];rfl)) J (iH J (ad _)))<|qR (cT 0 J ap J J EM size39.out b6 b7) ?_;refine qE (iN J J d2.1 d2.2) ?_;refine qE (aq J) ?_;refine qE (aq J) ?_;refine qE (aq J) ?_;refine aF J (yQ (eU (us:=[iV x9.Za,iV x9.N,.string x9.S]) 0 J ap J d6 agg39.out (fun _ _ _ h=>by rw [show _=_ from h];rfl)) J (iH J (ad _)))<|qR (cT 0 J ap J J EM size39.out d3 d4) ?_;refine qE (iN J J q8.1 q8.2) ?_;refine qE (aq J) ?_;refine qE (aq J) ?_;refine qE (aq J) ?_;refine qE (iN J J q7.1 q7.2) ?_;refine qE (aq J) ?_;refine qE (aq J) ?_;refine qE (aq J) ?_;refine qE (iN J J q6.1 q6.2) ?_;refine qE (aq J) ?_;refine qE (aq J) ?_;refine qE (aq J) ?_;exact dI
  refine oa (t:=[(16,W A1 n1 c1),(19,iV (a1+p4)),(20,W A1 n1 c1),(23,iV (a2+p4)),(29,.agg #[iV x9.Za,iV x9.N,.string x9.S]),(35,.agg #[iV a6.Za,iV a6.N,.string a6.S]),(0,W A1 n1 c1),(1,iV a1),(2,iV a2),(3,iV a3),(10,iV p4)]) (L':=[nZ A1 n1 c1 p3]) ?_ mc (ad _);obtain ⟨e0,a7,a8,d0,h⟩:=bz h;refine J9 20 J O (cT 0 J ap J J EM size39.out a7 a8) J J J<|pL 21 J O (cg (us:=[iV x9.Za,iV x9.N,.string x9.S]) (z:=(⟨x9.Za,x9.N,x9.S⟩:WP)) 0 J J J J size39.out J (toNat_lt a7 a8) J (fun S w vs xk hk hr ho=>by obtain rfl:=YL (hk.symm.trans d0);rw [show _=_ from hr];rfl)) J J ?_;rintro _ _ rfl;obtain ⟨e1,b0,b5,d1,h⟩:=bz h;refine J9 22 J O (cT 0 J ap J J EM size39.out b0 b5) J J J<|pL 23 J O (cg (us:=[iV a6.Za,iV a6.N,.string a6.S]) (z:=(⟨a6.Za,a6.N,a6.S⟩:WP)) 0 J J J J size39.out J (toNat_lt b0 b5) J (fun S w vs xk hk hr ho=>by obtain rfl:=YL (hk.symm.trans d1);rw [show _=_ from hr];rfl)) J J ?_;rintro _ _ rfl;refine mb O<|ab ?_;obtain ⟨e2,h⟩:=ae h;exact lY
 exact eY
end Go.Proofs.YtmcifcmlojonnaaGreatDoor