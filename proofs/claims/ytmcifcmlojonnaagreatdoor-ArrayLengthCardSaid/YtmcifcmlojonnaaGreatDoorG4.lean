/- Merged texts: part 4. No conditions of their own. -/
import Derived.Test.YtmcifcmlojonnaaGreatDoorG3
set_option maxHeartbeats 4000000
namespace Go.Proofs.YtmcifcmlojonnaaGreatDoor
variable (N:Nat){a1 a2 a3:Int}{l:Nat}{σ:Type}{a0:WM}
theorem Ws:type_of% Tryz.underlying29:=Tryz.underlying29
theorem Wp:type_of% Tryz.underlying3:=Tryz.underlying3
variable {A1 A2 A3 A4 A5 A6 A7 A8 A9:Option Addr}{B1 B2 B3 B6 M3 M7 c1 c2 c3 c4 c5 c6 c7 c8 c9 n1 n2 n3 n4 n5 n6 n7 n8 n9:Nat}
open Go.RowKit Asn
set_option maxRecDepth 20000
def ku (a0:WI):Option Bool:=
 (wI N a0.Za).bind fun y4=>(bif y4 then (some true) else ((bif decide (a0.Za=7) then (some (decide (0<(a0.Zc.length:Int)))) else (some false)).bind fun b6=>some b6)).bind fun b5=>bif b5 then ((bif decide (1<=(a0.Zc.length:Int)) then (some (decide ((a0.Zc.length:Int)<=1025))) else (some false)).bind fun b8=>(bif b8 then ((aq a0.Zc 0).bind fun a6=>(bif decide (a6.Za=1) then (some true) else ((aq a0.Zc 0).bind fun a7=>some (decide (a7.Za=7)))).bind fun a8=>some a8) else (some false)).bind fun b9=>some b9) else (bif decide (a0.Za=7) then (some (decide (a0.Zi=0))) else ((bif !decide (a0.Zi=0) then (some true) else (some (!decide (a0.Ze=0)))).bind fun b0=>bif b0 then (some false) else (bif decide (a0.Za=5) then ((bif decide ((a0.Zc.length:Int)=2) then ((aq a0.Zc 0).bind fun b7=>(jf N b7 7).bind fun d0=>some d0) else (some false)).bind fun d1=>(bif d1 then ((aq a0.Zc 1).bind fun d2=>(jf N d2 7).bind fun d3=>some d3) else (some false)).bind fun d4=>some d4) else (some (decide ((a0.Zc.length:Int)=0))))))
theorem AK {N:Nat}{a0:WI}{r:Bool}(h:ku N a0=some r):Okc Xa 179 [.agg #[iV a0.Za,iV a0.Zi,iV a0.Ze,iV a0.Zg,W A1 n1 c1,W A2 n2 c2]] ([aY A1 n1 c1 a0.Zc,aY A2 n2 c2 a0.Zb]) (fun u post=>u=.bool r/\post=[]):=by
 refine ce Tryz.func179 ?_;intro B3;refine sY ?_
 refine cR h (fun _ k=>JW k) fun y4 h=> ?_
 refine wT 10 16 6 h (fun _ g5 h=> ?_) fun b5 h=> ?_
 ·refine ab ?_;refine gS 5 15 10 h ?_;intro b6 h;exact gY
 refine dv h ?_ ?_<;>intro h
 ·refine ab ?_;refine gS 5 26 21 h ?_;intro b8 h;refine ab ?_
  refine ou 15 42 27 h (fun _ g9 h=> ?_) fun b9 h=> ?_
  ·refine ab ?_;obtain ⟨e2,a6,a7,b7,h⟩:=bz h;refine ab ?_;refine sc (sg 1 J bj J (toNat_lt a6 a7) sW) J (ca g9 J) J ?_;refine ab ?_
   refine wT 7 41 34 h (fun _ d0 h=> ?_) fun e3 h=> ?_
   ·refine ab ?_;obtain ⟨e4,a8,b0,d1,h⟩:=bz h;refine ab ?_;refine sc (sg 1 J bj J (toNat_lt a8 b0) sW) J (dw d0 J) J ?_;exact gY
   exact gY
  exact eY
 refine sY ?_;refine gH J h ?_ ?_<;>intro h
 ·exact eY
 refine sY ?_;refine gS 4 56 52 h ?_;intro e5 h;refine dv h ?_ ?_<;>intro h
 ·exact eY
 refine sY ?_;refine gH J h ?_ ?_<;>intro h
 ·refine ab ?_
  refine ou 6 70 64 h (fun _ e6 h=> ?_) fun e7 h=> ?_
  ·refine ab ?_;obtain ⟨e8,d2,d3,d4,h⟩:=bz h
   refine cR h (fun _ k=>ls k) fun e9 h=> ?_
   exact gY
  refine ab ?_
  refine ou 6 77 71 h (fun _ f0 h=> ?_) fun f1 h=> ?_
  ·refine ab ?_;obtain ⟨f2,d6,e0,e1,h⟩:=bz h
   refine cR h (fun _ k=>ls k) fun f3 h=> ?_
   exact gY
  exact eY
 exact eY
def jg (N:Nat)(a0:WV)(a1 a2:Int):Option Bool:=
 (bif decide (a0.Za=3) then (some (decide (a1<=a0.N))) else (some false)).bind fun b2=>(bif b2 then (some (decide (a0.N<=a2))) else (some false)).bind fun b3=>some b3
theorem lu {N:Nat}{a0:WV}{r:Bool}(h:jg N a0 a1 a2=some r):Okc Xa 202 [(aE a0),iV a1,iV a2] ([]) (fun u post=>u=.bool r/\post=[]):=by
 refine ce Tryz.func202 ?_;intro B1;refine ab ?_;refine gS 5 15 10 h ?_;intro b2 h;refine ab ?_;refine gS 5 21 16 h ?_;intro b3 h;exact eY
def jU (N:Nat){σ:Type}(fy:WW->σ->Option (Bool×σ))(a1:WW)(a2:Int):Nat->Int->σ->Option σ
 |0,_,_=>none
 |m4+1,p5,p6=>bif decide (p5<(a1.length:Int)) then (aL ((0:Int)<=p5/\p5.toNat<=a1.length/\a1.length<=a1.length) (aL (in64 (p5+(min a2 (((a1.drop p5.toNat).take (a1.length - p5.toNat)).length:Int)))) (aL (in64 (p5+(min a2 (((a1.drop p5.toNat).take (a1.length - p5.toNat)).length:Int)))) (aL ((0:Int)<=p5/\(0:Int)<=p5+(min a2 (((a1.drop p5.toNat).take (a1.length - p5.toNat)).length:Int))/\p5.toNat<=(p5+(min a2 (((a1.drop p5.toNat).take (a1.length - p5.toNat)).length:Int))).toNat/\(p5+(min a2 (((a1.drop p5.toNat).take (a1.length - p5.toNat)).length:Int))).toNat<=a1.length) ((fy ((a1.drop p5.toNat).take ((p5+(min a2 (((a1.drop p5.toNat).take (a1.length - p5.toNat)).length:Int))).toNat - p5.toNat)) p6).bind fun a6=>bif !a6.1 then (some a6.2) else (aL (in64 (p5+a2)) ((jU N fy a1 a2 m4) (p5+a2) a6.2))))))) else (some p6)
def tG (a1:WW)(a2:Int)(fy:WW->σ->Option (Bool×σ))(s0:σ):Option σ:=
 jU N fy a1 a2 N 0 s0
theorem DK {N:Nat}{a1:WW}{fy:WW->σ->Option (Bool×σ)}{s0 r:σ}(h:tG N a1 a2 fy s0=some r){G:σ->W8}(hY:vT Xa l G (fun (x:WW) vs cs=> ∃A0 n0 c0,vs=[W A0 n0 c0]/\cs=[aY A0 n0 c0 x]) fy):Okc Xa 229 [.func (.yield l) #[] #[],pV B1 0,pV B3 0] (aW B1 22 [W A2 n2 c2]::aY A2 n2 c2 a1::aW B3 3 [iV a2]::(G s0)) (fun u post=>u=.tuple #[]/\post=G r):=by
 refine ce Tryz.func229 ?_;refine lK (fun m s L=> ∃(p5:Int) (p6:σ),jU N fy a1 a2 m p5 p6=some r/\s=[(0,.func (.yield l) #[] #[]),(1,pV B1 0),(2,pV B3 0),(4,iV p5)]/\L=aY A2 n2 c2 a1::aW B1 22 [W A2 n2 c2]::aW B3 3 [iV a2]::(G p6)) N ?_;rintro m4 _ _ ⟨p5,p6,h,rfl,rfl⟩;rw [jU.eq_2] at h;refine sZ ?_;refine gH J h ?_ ?_<;>intro h
 ·refine sY ?_;refine dY [0,1,2] ?_;obtain ⟨q8,h⟩:=ae h;refine II 0 J (l:=p5.toNat) (h:=a1.length) q8.2.1 q8.2.2 ?_;rintro A9 n9 c9 e9;refine zR 3 J (Bi 1 J e9 J t9 size28.out J (by rw [Xp q8.1];rfl) q8.2.1) ?_;refine zY [4] ?_;refine zE 5 J (Tu J J Wp Wp) ?_;refine zX [6] ?_;refine ab ?_;obtain ⟨b6,h⟩:=ae h;refine ab ?_;obtain ⟨b7,h⟩:=ae h;refine ab ?_;obtain ⟨a6,h⟩:=ae h;refine Qk 1 J (l:=p5.toNat) (h:=(p5+(min a2 (((a1.drop p5.toNat).take (a1.length - p5.toNat)).length:Int))).toNat) a6.2.2.1 a6.2.2.2 ?_;rintro a7 a8 b0 b5;refine gR (LJ 2 J b5 J t9 size28.out J (by rw [Xp a6.1];rfl) (by rw [Xp a6.2.1];rfl) (by rw [Xp a6.2.1];rfl) a6.2.2.1 a6.2.2.2) ?_;obtain ⟨b9,k,h⟩:=aa h;refine gD (GR (a:=(a1.drop p5.toNat).take ((p5+(min a2 (((a1.drop p5.toNat).take (a1.length - p5.toNat)).length:Int))).toNat - p5.toNat)) [aY a7 a8 b0 ((a1.drop p5.toNat).take ((p5+(min a2 (((a1.drop p5.toNat).take (a1.length - p5.toNat)).length:Int))).toNat - p5.toNat)),aY A9 n9 c9 ((a1.drop p5.toNat).take (a1.length - p5.toNat)),aY A2 n2 c2 a1,aW B1 22 [W A2 n2 c2],aW B3 3 [iV a2]] hY k J J ⟨_,_,_,J,J⟩ (Lh 0 J J)) ?_;rintro _ _ ⟨rfl,rfl⟩;refine dv h ?_ ?_<;>intro h
  ·exact eY
  refine ab ?_;obtain ⟨d0,h⟩:=ae h;exact lY
 exact eY
def lO (N:Nat)(a0:WW)(a1:Int):Option Unit:=
 bif decide (a1<1) then none else (some ())
theorem zq {N:Nat}{a0:WW}{r:Unit}(h:lO N a0 a1=some r):Okc Xa 223 [W A1 n1 c1,iV a1] ([aY A1 n1 c1 a0]) (fun u post=> ∃a6 a7,u=.func (.func 229) #[] #[pV a6 0,pV a7 0]/\post=[ah a6 22 [W A1 n1 c1],ah a7 3 [iV a1]]):=by
 refine ce Tryz.func223 ?_;intro B2
 refine cl fun B3=> ?_
 refine sZ ?_;refine gH J h ?_ ?_<;>intro h
 ·exact aJ h
 refine ab ?_;refine fY (jd J) ?_;exact eN
def bV (a1:Int)(x9:WW):(Unit)->Option (Option Exit×Unit)
 |()=>(aq x9 0).bind fun a6=>(bif !decide (a6.Za=7) then (some true) else ((aq x9 1).bind fun a7=>some (decide (a7.Za=8)))).bind fun a8=>bif a8 then (some (some .ret,())) else ((bif decide (a1=4) then ((aq x9 2).bind fun b0=>(jf N b0 7).bind fun b5=>(bif !b5 then (some true) else ((aq x9 3).bind fun b6=>(jg N b6 0 9007199254740992).bind fun b7=>some (!b7))).bind fun b9=>some b9) else (some false)).bind fun b16=>bif b16 then (some (some .ret,())) else (some (none,())))
def dT (a0:WW)(a1:Int):Option Bool:=
 aL (a1≠0) (bif !decide ((a0.length:Int).tmod a1=0) then (some false) else ((lO N a0 a1).bind fun y6=>(tG N a0 a1 (cN (fun x st=>bV N a1 x st)) (none,())).bind fun a6=>qT a6.1 (some true) (some false) (fun _=>none)))
theorem r9 {N:Nat}{a0:WW}{r:Bool}(h:dT N a0 a1=some r):Okc Xa 203 [W A1 n1 c1,iV a1] ([aY A1 n1 c1 a0]) (fun u post=>u=.bool r/\post=[]):=by
 refine ce Tryz.func203 ?_;intro B2
 refine cl fun B3=> ?_
 refine sZ ?_;obtain ⟨q4,h⟩:=ae h;refine fY (sn J J q4) ?_;refine gH J h ?_ ?_<;>intro h
 ·exact eY
 refine sY ?_;obtain ⟨y6,k,h⟩:=aa h;refine gD (oR (zq k)) ?_;rintro _ _ ⟨_,⟨B7,B8,rfl,rfl⟩,rfl⟩;refine ab ?_;refine gw ?_ bQ (lr 0 J);refine gw ?_ bQ (lr 1 J);refine ab ?_;obtain ⟨d6,k,h⟩:=aa h;refine Hz (R:=(fun (x:WW) vs cs=> ∃A0 n0 c0,vs=[W A0 n0 c0]/\cs=[aY A0 n0 c0 x])) (fun x st=>bV N a1 x st) (fun (st:Unit) (mz:Unit)=> [ah B2 3 [iV a1],ah B3 4 [.bool false]]) [aW B7 22 [W A1 n1 c1],aY A1 n1 c1 a0,aW B8 3 [iV a1]] (()) (()) J J call229.out J (by rintro _ _ _ ⟨_,_,_,rfl,rfl⟩;rfl) (fun l G hY=>(DK k hY).mono fun _ _ hh=>hh.2) (bH [0,4,1] [] [3,2] 5 J) h ?_ ?_ ?_ ?_
 ·rintro l x9 _ je sr9 _ h _ _ ⟨e0,e1,e2,rfl,rfl⟩;replace h:bV N a1 x9 ()=some (je,sr9):=h;simp only [AH,Yu,Yv,Yw,Yo,Yp,Y4,Xu];refine sY ?_;obtain ⟨e3,a6,a7,b5,h⟩:=bz h;refine ab ?_;refine K7 (sg 0 J bj J (toNat_lt a6 a7) sW) ?_
  refine wT 6 26 20 h (fun _ b6 h=> ?_) fun e4 h=> ?_
  ·refine ab ?_;obtain ⟨e5,a8,b0,b7,h⟩:=bz h;refine ab ?_;refine sc (sg 0 J bj J (toNat_lt a8 b0) sW) J (dw b6 J) J ?_;exact gY
  refine dv h ?_ ?_<;>intro h
  ·refine ab ?_;obtain ⟨rfl,rfl⟩:=YO (YM h);exact Lr ((cS [1,2] 3).trans (fZ () J))
  refine ab ?_
  refine ou 13 42 29 h (fun _ e6 h=> ?_) fun b16 h=> ?_
  ·refine ab ?_;obtain ⟨e7,b9,d0,d1,h⟩:=bz h
   refine cR h (fun _ k=>ls k) fun e8 h=> ?_
   refine wT 6 41 35 h (fun _ e9 h=> ?_) fun f0 h=> ?_
   ·refine ab ?_;obtain ⟨f1,d2,d3,d4,h⟩:=bz h
    refine cR h (fun _ k=>lu k) fun f2 h=> ?_
    exact gY
   exact gY
  refine dv h ?_ ?_<;>intro h
  ·refine ab ?_;obtain ⟨rfl,rfl⟩:=YO (YM h);exact Lr ((cS [1,2] 3).trans (fZ () J))
  refine ab ?_;obtain ⟨rfl,rfl⟩:=YO (YM h);exact Da ((cS [1,2] 3).trans (fZ () J))
 ·rintro _ h;refine qG ([ah B2 3 [iV a1],ah B3 4 [.bool false]]) J ?_;exact eY
 ·rintro _ h;refine qG ([ah B2 3 [iV a1],ah B3 4 [.bool false]]) J ?_;exact eY
 rintro i _ h;exact aJ h
def na (a0:Int)(a1:WW)(p5:Bool):Option Bool:=
 bif p5 then (some (decide ((a1.length:Int)=0))) else (bif decide (a0=3) then ((bif decide ((a1.length:Int)=3) then ((aq a1 0).bind fun a6=>(jg N a6 0 9007199254740992).bind fun a7=>some a7) else (some false)).bind fun b9=>(bif b9 then ((aq a1 1).bind fun a8=>(jf N a8 9).bind fun b0=>some b0) else (some false)).bind fun b12=>some b12) else (bif decide (a0=4) then ((bif decide (1<=(a1.length:Int)) then (some (decide ((a1.length:Int)<=4097))) else (some false)).bind fun b16=>(bif b16 then ((aq a1 0).bind fun b5=>(jf N b5 9).bind fun b6=>some b6) else (some false)).bind fun b7=>some b7) else (bif decide (a0=6) then ((bif decide ((a1.length:Int)=2) then ((aq a1 0).bind fun d0=>(jg N d0 0 3).bind fun d1=>some d1) else (some false)).bind fun d2=>(bif d2 then ((aq a1 1).bind fun d3=>(jf N d3 9).bind fun d4=>some d4) else (some false)).bind fun d6=>some d6) else (bif decide (a0=7) then ((bif decide (4<=(a1.length:Int)) then ((aq a1 2).bind fun e0=>(jg N e0 0 1).bind fun e1=>some e1) else (some false)).bind fun e2=>(bif e2 then ((aq a1 3).bind fun e3=>(jg N e3 0 9007199254740992).bind fun e4=>some e4) else (some false)).bind fun e5=>some e5) else (bif decide (a0=8) then ((dT N a1 2).bind fun e6=>some e6) else (bif decide (a0=10) then ((bif decide (1<=(a1.length:Int)) then ((aq a1 0).bind fun e7=>some (decide (e7.Za=7))) else (some false)).bind fun e8=>(bif e8 then (aL ((0:Int)<=1/\(1:Int).toNat<=a1.length/\a1.length<=a1.length) ((dT N ((a1.drop ((1:Int).toNat)).take (a1.length - (1:Int).toNat)) 4).bind fun e9=>some e9)) else (some false)).bind fun f0=>some f0) else (bif decide (a0=9) then ((bif decide (2<=(a1.length:Int)) then ((aq a1 0).bind fun f1=>(jg N f1 0 2).bind fun f2=>some f2) else (some false)).bind fun f3=>some f3) else (some true))))))))
def lw (a0:Int)(a1:WW):Option Bool:=
 bif decide (1048576<(a1.length:Int)) then (some false) else (bif decide (a0=2) then (some (decide ((a1.length:Int)<=4096))) else (bif decide (a0=1) then (na N a0 a1 (decide (a0=1))) else (na N a0 a1 (decide (a0=5)))))
theorem Cf {N:Nat}{a0:Int}{a1:WW}{r:Bool}(h:lw N a0 a1=some r):Okc Xa 180 [iV a0,W A1 n1 c1] ([aY A1 n1 c1 a1]) (fun u post=>u=.bool r/\post=[]):=by
 refine ce Tryz.func180 ?_;refine sZ ?_;refine gH J h ?_ ?_<;>intro h
 ·exact eY
 refine sY ?_;refine gH J h ?_ ?_<;>intro h
 ·exact eY
 refine am (fun s L=> ∃p5,na N a0 a1 p5=some r/\s=[(1,W A1 n1 c1),(4,.bool false),(8,iV a0),(14,.bool p5)]/\L=[aY A1 n1 c1 a1]) ?_ ?_
 ·refine dv h ?_ ?_<;>intro h
  ·exact jY
  exact jY
 rintro _ _ ⟨p5,h,rfl,rfl⟩;refine gH J h ?_ ?_<;>intro h
 ·exact eY
 refine dv h ?_ ?_<;>intro h
 ·refine ab ?_
  refine ou 5 30 25 h (fun _ g9 h=> ?_) fun b9 h=> ?_
  ·refine ab ?_;obtain ⟨g1,b0,b5,b6,h⟩:=bz h
   refine cR h (fun _ k=>lu k) fun g2 h=> ?_
   exact gY
  refine ab ?_
  refine ou 5 36 31 h (fun _ g3 h=> ?_) fun b12 h=> ?_
  ·refine ab ?_;obtain ⟨g4,b7,d0,d1,h⟩:=bz h
   refine cR h (fun _ k=>ls k) fun g5 h=> ?_
   exact gY
  exact eY
 refine dv h ?_ ?_<;>intro h
 ·refine ab ?_;refine gS 4 46 42 h ?_;intro b16 h;refine ab ?_
  refine ou 5 52 47 h (fun _ g6 h=> ?_) fun g7 h=> ?_
  ·refine ab ?_;obtain ⟨g8,d2,d3,d4,h⟩:=bz h
   refine cR h (fun _ k=>ls k) fun h0 h=> ?_
   exact gY
  exact eY
 refine dv h ?_ ?_<;>intro h
 ·refine ab ?_
  refine ou 5 63 58 h (fun _ h1 h=> ?_) fun h2 h=> ?_
  ·refine ab ?_;obtain ⟨h3,d6,e0,e1,h⟩:=bz h
   refine cR h (fun _ k=>lu k) fun h4 h=> ?_
   exact gY
  refine ab ?_
  refine ou 5 69 64 h (fun _ h5 h=> ?_) fun h6 h=> ?_
  ·refine ab ?_;obtain ⟨h7,e2,e3,e4,h⟩:=bz h
   refine cR h (fun _ k=>ls k) fun h8 h=> ?_
   exact gY
  exact eY
 refine dv h ?_ ?_<;>intro h
 ·refine ab ?_
  refine ou 5 80 75 h (fun _ h9 h=> ?_) fun i0 h=> ?_
  ·refine ab ?_;obtain ⟨i1,e5,e6,e7,h⟩:=bz h
   refine cR h (fun _ k=>lu k) fun i2 h=> ?_
   exact gY
  refine ab ?_
  refine ou 5 86 81 h (fun _ i3 h=> ?_) fun i4 h=> ?_
  ·refine ab ?_;obtain ⟨i5,e8,e9,f0,h⟩:=bz h
   refine cR h (fun _ k=>lu k) fun i6 h=> ?_
   exact gY
  exact eY
 refine dv h ?_ ?_<;>intro h
 ·refine cR h (fun _ k=>r9 k) fun i7 h=> ?_
  exact eN
 refine dv h ?_ ?_<;>intro h
 ·refine ab ?_
  refine ou 6 102 96 h (fun _ f1 h=> ?_) fun i8 h=> ?_
  ·refine ab ?_;obtain ⟨i9,a7,a8,f2,h⟩:=bz h;refine ab ?_;refine sc (sg 0 J bj J (toNat_lt a7 a8) sW) J (ca f1 J) J ?_;exact gY
  refine ab ?_
  refine ou 4 107 103 h (fun _ f3 h=> ?_) fun j0 h=> ?_
  ·refine ab ?_;obtain ⟨a6,h⟩:=ae h;refine Ql 0 J (l:=(1:Int).toNat) (h:=a1.length) a6.2.1 a6.2.2 ?_;rintro j1 j2 j3 f4;refine sc (Bi 1 J f4 J t9 size28.out J (by rw [Xp a6.1];rfl) a6.2.1) J (ca f3 J) J ?_
   refine cR h (fun _ k=>r9 k) fun j4 h=> ?_
   exact gY
  exact eY
 refine dv h ?_ ?_<;>intro h
 ·refine ab ?_
  refine ou 5 118 113 h (fun _ j5 h=> ?_) fun j6 h=> ?_
  ·refine ab ?_;obtain ⟨j7,f6,f9,g0,h⟩:=bz h
   refine cR h (fun _ k=>lu k) fun j8 h=> ?_
   exact gY
  exact eY
 exact eY
def ie (a0:WI)(a6:Bool×WV):(Unit)->Option (Option Exit×Unit)
 |()=>(wH N a6.2).bind fun a7=>bif !a7 then (some (some .ret,())) else (some (none,()))
def gG (a0:WI):Option Bool:=
 (bif decide (a0.Za<1) then (some true) else (some (decide (11<a0.Za)))).bind fun b5=>(bif b5 then (some true) else (some (decide (a0.Zi<0)))).bind fun b6=>(bif b6 then (some true) else (some (decide (a0.Ze<0)))).bind fun b7=>(bif b7 then (some true) else (some (decide (63<a0.Ze)))).bind fun b8=>(bif b8 then (some true) else ((bif !decide (a0.Zg=0) then (some (!decide (a0.Zg=1))) else (some false)).bind fun a6=>some a6)).bind fun b9=>bif b9 then (some false) else ((uh N a0).bind fun d1=>(oP N a0 (cN (fun x st=>ie N a0 x st)) (none,())).bind fun a7=>qT a7.1 ((ku N a0).bind fun a8=>(bif a8 then ((lw N a0.Za a0.Zb).bind fun b0=>some b0) else (some false)).bind fun d0=>some d0) (some false) (fun _=>none))
theorem mI {N:Nat}{a0:WI}{r:Bool}(h:gG N a0=some r):Okc Xa 138 [.agg #[iV a0.Za,iV a0.Zi,iV a0.Ze,iV a0.Zg,W A1 n1 c1,W A2 n2 c2]] ([aY A1 n1 c1 a0.Zc,aY A2 n2 c2 a0.Zb]) (fun u post=>u=.bool r/\post=[]):=by
 refine ce Tryz.func138 ?_;intro B3
 refine cl fun B4=> ?_
 refine sZ ?_;refine gS 4 12 8 h ?_;intro b5 h;refine ab ?_;refine gS 4 17 13 h ?_;intro b6 h;refine ab ?_;refine gS 4 22 18 h ?_;intro b7 h;refine ab ?_;refine gS 4 27 23 h ?_;intro b8 h;refine ab ?_
 refine wT 9 37 28 h (fun _ g9 h=> ?_) fun b9 h=> ?_
 ·refine ab ?_;refine gS 4 36 32 h ?_;intro a8 h;exact gY
 refine dv h ?_ ?_<;>intro h
 ·exact eY
 refine sY ?_;obtain ⟨b0,k,h⟩:=aa h;refine gD (oR (DD k)) ?_;rintro _ _ ⟨_,⟨a6,rfl,rfl⟩,rfl⟩;refine ab ?_;refine gw ?_ bQ (lr 0 J);obtain ⟨d0,k,h⟩:=aa h;refine ul (en:=(fun x=> [.bool x.1,.agg #[iV x.2.Za,iV x.2.N,.string x.2.S]])) (fun x st=>ie N a0 x st) (fun (st:Unit) (mz:Unit)=> [aY A1 n1 c1 a0.Zc,aY A2 n2 c2 a0.Zb,ah B3 94 (iS a0 A1 n1 c1 A2 n2 c2),ah B4 4 [.bool false]]) [aW a6 94 (iS a0 A1 n1 c1 A2 n2 c2),aY A1 n1 c1 a0.Zc,aY A2 n2 c2 a0.Zb] (()) (()) J J call199.out J (fun _=>J) (fun l G hY=>(yu k hY).mono fun _ _ hh=>hh.2) (bH [0,3,4] [] [3,4,2,1] 5 J) h ?_ ?_ ?_ ?_
 ·rintro l a7 _ je sr14 _ h;replace h:ie N a0 a7 ()=some (je,sr14):=h;simp only [AH,Yu,Yv,Yw,Yo,Yp,Y4,Xu]
  refine cl fun d1=> ?_
  refine cR h (fun _ k=>JV k) fun d2 h=> ?_
  refine gH J h ?_ ?_<;>intro h
  ·refine ab ?_;obtain ⟨rfl,rfl⟩:=YO (YM h);exact Lr ((cS [1,2,3,4] 5).trans (fZ () J))
  refine ab ?_;obtain ⟨rfl,rfl⟩:=YO (YM h);exact Da ((cS [1,2,3,4] 5).trans (fZ () J))
 ·rintro _ h;refine qG ([aY A1 n1 c1 a0.Zc,aY A2 n2 c2 a0.Zb,ah B3 94 (iS a0 A1 n1 c1 A2 n2 c2),ah B4 4 [.bool false]]) J ?_
  refine cR h (fun _ k=>AK k) fun d3 h=> ?_
  refine ou 6 53 47 h (fun _ d4 h=> ?_) fun d6 h=> ?_
  ·refine cR h (fun _ k=>Cf k) fun e0 h=> ?_
   exact gY
  exact eY
 ·rintro _ h;refine qG ([aY A1 n1 c1 a0.Zc,aY A2 n2 c2 a0.Zb,ah B3 94 (iS a0 A1 n1 c1 A2 n2 c2),ah B4 4 [.bool false]]) J ?_;exact eY
 rintro i _ h;exact aJ h
def dz (N:Nat)(a0:WW):Option WW:=
 aL (cF (([]:List WV).length+a0.length)) (some (([]:List WV)++a0))
theorem jT {N:Nat}{a0 r:WW}(h:dz N a0=some r):Okc Xa 83 [W A1 n1 c1] ([aY A1 n1 c1 a0]) (fun u post=> ∃A0 n0 c0,u=W A0 n0 c0/\post=[bf A0 n0 c0 r]):=by
 refine ce Tryz.func83 ?_;refine sZ ?_;refine fY (JL J t9) ?_;refine Lt J (fun g2=> ?_) (fun g2=> ?_)
 ·replace g2:(A1).isNone=true:=by simpa using g2
  refine Se 0 J bj g2 (fun hx=> ?_);subst hx;replace h:aL (cF (([]:List WV).length+([]:List WV).length)) (some (([]:List WV)++([]:List WV)))=some r:=h
  replace h:some []=some r:=by simpa [aL] using h
  refine ab ?_;obtain rfl:=bD h;exact od J J ((ci ay 28 _).trans (cS [0] 2)) ⟨_,_,_,J,J⟩
 refine ab ?_
 refine vc (aB (R:=ay) (vss:=[]) (xs:=[]) J (yx) J J (fun _ _ hr=>All2.nil)) fun A4 n4 c4=> ?_
 obtain ⟨q5,h⟩:=ae h
 refine vc (aX 0 1 J J bj J J t9 sd J J q5) fun A6 n6 c6=> ?_
 exact eN
def fS (a0:WI):Option WI:=
 (dz N a0.Zc).bind fun y5=>(dz N a0.Zb).bind fun y7=>some (⟨a0.Za,a0.Zi,a0.Ze,a0.Zg,y5,y7⟩:WI)
theorem iU {N:Nat}{a0 r:WI}(h:fS N a0=some r):Okc Xa 140 [.agg #[iV a0.Za,iV a0.Zi,iV a0.Ze,iV a0.Zg,W A1 n1 c1,W A2 n2 c2]] ([aY A1 n1 c1 a0.Zc,aY A2 n2 c2 a0.Zb]) (fun u post=> ∃A0 n0 c0 A1 n1 c1,u=.agg #[iV r.Za,iV r.Zi,iV r.Ze,iV r.Zg,W A0 n0 c0,W A1 n1 c1]/\post=[bf A0 n0 c0 r.Zc,bf A1 n1 c1 r.Zb]):=by
 refine ce Tryz.func140 ?_;intro B3
 refine cl fun B4=> ?_
 refine dY [0,1,3,4] ?_;obtain ⟨y5,k,h⟩:=aa h
 refine Dc 2 J (oR (jT k)) fun A6 n6 c6=> ?_
 refine zY [6] ?_;obtain ⟨y7,k,h⟩:=aa h
 refine Dc 5 J (oR (jT k)) fun A8 n8 c8=> ?_
 refine gI 7 J O O (aj (us:=[W A6 n6 c6]) (cs':=(iS a0 A6 n6 c6 A2 n2 c2)) 3 J J J J size22.out J J J) ?_;rintro _ _ rfl;refine zY [8] ?_;refine gI 9 J O O (aj (us:=[W A8 n8 c8]) (cs':=(iS a0 A6 n6 c6 A8 n8 c8)) 3 J J J J size22.out J J J) ?_;rintro _ _ rfl;refine bq O ?_;exact eY
def eS (a0:WD)(a1:WI):Option (Int×Int×WD):=
 (aM N a0).bind fun a7=>bif a7 then (some (0,1,a0)) else ((gG N a1).bind fun a8=>bif !a8 then (some (0,51,a0)) else ((fS N a1).bind fun a6=>aL (cF (a0.m_.Zh.length+([(⟨a6.Za,a6.Zi,a6.Ze,0,a6.Zc,a6.Zb⟩:WI)]:List WI).length)) (aL (in64 (2*((a0.m_.Zh++([(⟨a6.Za,a6.Zi,a6.Ze,0,a6.Zc,a6.Zb⟩:WI)]:List WI)).length:Int))) (aL (in64 ((2*((a0.m_.Zh++([(⟨a6.Za,a6.Zi,a6.Ze,0,a6.Zc,a6.Zb⟩:WI)]:List WI)).length:Int)) - 1)) (some ((2*((a0.m_.Zh++([(⟨a6.Za,a6.Zi,a6.Ze,0,a6.Zc,a6.Zb⟩:WI)]:List WI)).length:Int)) - 1,0,(⟨(⟨a0.m_.Zh++([(⟨a6.Za,a6.Zi,a6.Ze,0,a6.Zc,a6.Zb⟩:WI)]:List WI),a0.m_.Zj⟩:WK),a0.Zt,a0.Zv,a0.Zw⟩:WD)))))))
theorem BP {N:Nat}{a0:WD}{a1:WI}{r:Int×Int×WD}(h:eS N a0 a1=some r):Okc Xa 108 [pV B1 0,.agg #[iV a1.Za,iV a1.Zi,iV a1.Ze,iV a1.Zg,W A8 n8 c8,W A9 n9 c9]] ([aY A8 n8 c8 a1.Zc,aY A9 n9 c9 a1.Zb,ah B1 124 [W A2 n2 c2,W A3 n3 c3,W A4 n4 c4,W A5 n5 c5,pV B6 0],iJ A2 n2 c2 a0.m_.Zh,iJ A3 n3 c3 a0.m_.Zj,bf A4 n4 c4 a0.Zt,bf A5 n5 c5 a0.Zv,ah B6 213 [.map (some M7)],bB jK qP M7 a0.Zw.at_]) (fun u post=> ∃A0 n0 c0 A1 n1 c1 A2 n2 c2 A3 n3 c3 M4,u=.tuple #[iV r.1,iV r.2.1]/\post=[ah B1 124 [W A0 n0 c0,W A1 n1 c1,W A2 n2 c2,W A3 n3 c3,pV B6 0],iJ A0 n0 c0 r.2.2.m_.Zh,iJ A1 n1 c1 r.2.2.m_.Zj,bf A2 n2 c2 r.2.2.Zt,bf A3 n3 c3 r.2.2.Zv,ah B6 213 [.map (some M4)],bB jK qP M4 r.2.2.Zw.at_]):=by
 refine ce Tryz.func108 ?_;intro d2;refine sY ?_
 refine cR h (fun _ k=>dj k) fun e5 h=> ?_
 refine gH J h ?_ ?_<;>intro h
 ·exact eY
 refine cR h (fun _ k=>mI k) fun e6 h=> ?_
 refine gH J h ?_ ?_<;>intro h
 ·exact eY
 refine Ix h (fun _ k=>iU k) fun a6 b5 b6 b7 b9 d0 d1 h=> ?_
 refine aA ?_;refine gw ?_ bQ (bv 0 J);refine ab ?_;refine gw ?_ bQ (bv 1 J);refine gw (t:=[(0,pV B1 0),(3,pV d2 0),(4,iV 0),(5,iV 0)]) ?_ mh (ad _)
 refine iW O 8 [0] [0,5,7] [16,17,18,19,20,21,22,23] [[],[],[1],[2],[3],[4],[],[6]] [aV (pV B1 0),
aV (pV B1 0),
aV (pV B1 0),
aV (pV B1 0),
aV (pV B1 0),
aV (W A2 n2 c2),
aV (.agg #[iV a6.Za,iV a6.Zi,iV a6.Ze,iV 0,W b5 b6 b7,W b9 d0 d1]),
aX3 (fun (a7:Option Addr) (a8 b0:Nat)=> W a7 a8 b0) (fun a7 a8 b0=> [iJ a7 a8 b0 ([(⟨a6.Za,a6.Zi,a6.Ze,0,a6.Zc,a6.Zb⟩:WI)]:List WI)])] [] (ad _) (fA rfl mc) O rfl rfl ?_ ?_ ?_
 ·refine fz J ?_ ?_
  ·exact nD (ap J) J (iL J (ad _))
  exact mb
 ·refine aF J ?_ ?_
  ·refine th (aB (R:=jO) (vss:=[[iV a6.Za,iV a6.Zi,iV a6.Ze,iV 0,W b5 b6 b7,W b9 d0 d1]]) (xs:=[(⟨a6.Za,a6.Zi,a6.Ze,0,a6.Zc,a6.Zb⟩:WI)]) J (Hs _ _ _ _ _ _ _ _ _ _) J J (fun _ _ hr=> .cons (⟨_,_,_,_,_,_,J,hr 0 _ J J,hr 1 _ J J⟩) All2.nil)) J ?_;rintro _ _ ⟨e1,e2,e3,rfl,rfl⟩;exact NZ e1 e2 e3 (ad _)
  refine qR (ax (us:=[iV a6.Za,iV a6.Zi,iV a6.Ze,iV 0,W b5 b6 b7,W b9 d0 d1]) 2 J J agg94.out J) ?_;refine qR (ck 5 J J KL J) ?_;refine qE (qx J FM) ?_;refine qE (qx J FL) ?_;refine qE (dE J) ?_;refine qE (ap J) ?_;refine qE (ap J) ?_;exact dH
 intro a7 a8 b0;refine oe (t:=[(16,pV B1 0),(21,W A2 n2 c2),(23,W a7 a8 b0),(0,pV B1 0),(3,pV d2 0),(4,iV 0),(5,iV 0)]) (L':=[iJ a7 a8 b0 ([(⟨a6.Za,a6.Zi,a6.Ze,0,a6.Zc,a6.Zb⟩:WI)]:List WI),aY b5 b6 b7 a6.Zc,aY b9 d0 d1 a6.Zb,ah d2 94 [iV a6.Za,iV a6.Zi,iV a6.Ze,iV 0,W b5 b6 b7,W b9 d0 d1],aY A8 n8 c8 a1.Zc,aY A9 n9 c9 a1.Zb,ah B1 124 [W A2 n2 c2,W A3 n3 c3,W A4 n4 c4,W A5 n5 c5,pV B6 0],iJ A2 n2 c2 a0.m_.Zh,iJ A3 n3 c3 a0.m_.Zj,bf A4 n4 c4 a0.Zt,bf A5 n5 c5 a0.Zv,ah B6 213 [.map (some M7)],bB jK qP M7 a0.Zw.at_]) ?_ mh (ad _);obtain ⟨e4,h⟩:=ae h;refine uk 8 J O (aX 7 0 J J ao J J Wk TW J J e4) J J J ?_;rintro _ _ ⟨d3,d4,d6,rfl,rfl⟩;refine Cn 9 J O (dE J) J J J ?_;refine Cn 10 J O (qx J FL) J J J ?_;refine Cn 11 J O (qx J FM) J J J ?_;refine pO 12 J O (aj (us:=[W d3 d4 d6]) (cs':=[W d3 d4 d6,W A3 n3 c3,W A4 n4 c4,W A5 n5 c5,pV B6 0]) 6 J J J J size119.out J J J) J J ?_;rintro _ _ rfl;refine zW ?_;refine mg O ?_;refine ab ?_;obtain ⟨e0,h⟩:=ae h;refine gE (rp J J e0.1 e0.2) ?_;obtain ⟨e7,h⟩:=ae h;exact eY
theorem ot {N:Nat}{a0:WD}{a1:WI}{r:Int×Int×WD}(h:eS N a0 a1=some r):Okc Xa 108 [pV B1 0,.agg #[iV a1.Za,iV a1.Zi,iV a1.Ze,iV a1.Zg,W A2 n2 c2,W A3 n3 c3]] ([aY A2 n2 c2 a1.Zc,aY A3 n3 c3 a1.Zb,oDHeap B1 a0]) (fun u post=>u=.tuple #[iV r.1,iV r.2.1]/\post=[oDHeap B1 r.2.2]):=LS 2 rfl (fun _=>BP h)
def jL (a0:WM)(a7 a8:Int)(b0:ByteArray)(b5:Int):Option (WV×WM):=
 (eS N a0.Zo (⟨1,0,b5,0,([(⟨a7,a8,b0⟩:WV)]:List WV),[]⟩:WI)).bind fun a6=>some ((⟨7,a6.1,⟨#[]⟩⟩:WV),(⟨a0.ZB,a0.Zu,(),a6.2.2,a0.Zp,a0.Zy,a0.ZE,a0.ZF,a0.ZG,a0.Zz,a0.ZA⟩:WM))
def d9 (a1:Int)(a0:WM)(a6 a7:Int)(a8:ByteArray):Option (WV×WM):=
 bif decide (a1=17) then (jL N a0 a6 a7 a8 1) else (jL N a0 a6 a7 a8 17)
def jM (a1:Int)(a0:WM)(p21:Bool):Option (WV×WM):=
 bif p21 then ((di N a0.Zo 3).bind fun a6=>d9 N a1 a0 a6.Za a6.N a6.S) else ((di N a0.Zo 0).bind fun a7=>d9 N a1 a0 a7.Za a7.N a7.S)
def fW (a1:Int)(a0:WM)(p15:Bool):Option (WV×WM):=
 bif p15 then ((di N a0.Zo 5).bind fun a6=>d9 N a1 a0 a6.Za a6.N a6.S) else (bif decide (a1=4) then (jM N a1 a0 (decide (a1=4))) else (jM N a1 a0 (decide (a1=16))))
def pA (a0:WM)(a1:Int):Option (WV×WM):=
 bif decide (a1=0) then (d9 N a1 a0 1 0 (⟨#[]⟩)) else (bif decide (a1=6) then (fW N a1 a0 (decide (a1=6))) else (bif decide (a1=7) then (fW N a1 a0 (decide (a1=7))) else (fW N a1 a0 (decide (a1=8)))))
theorem oF {N:Nat}{r:WV×WM}(h:pA N a0 a1=some r):Okc Xa 64 [pV B1 0,iV a1] ([ah B1 81 (zZ a0 B2 B3 A4 n4 c4 A5 n5 c5 A6 n6 c6),oDHeap B2 a0.Zo,oDTable B3 a0.Zp,pJ A4 n4 c4 a0.Zy,AB A5 n5 c5 a0.Zz,pJ A6 n6 c6 a0.ZA]) (fun u post=> ∃A0 n0 c0 A1 n1 c1 A2 n2 c2,u=.agg #[iV r.1.Za,iV r.1.N,.string r.1.S]/\post=[ah B1 81 (zZ r.2 B2 B3 A0 n0 c0 A1 n1 c1 A2 n2 c2),oDHeap B2 r.2.Zo,oDTable B3 r.2.Zp,pJ A0 n0 c0 r.2.Zy,AB A1 n1 c1 r.2.Zz,pJ A2 n2 c2 r.2.ZA]):=by
 refine ce Tryz.func64 ?_;intro B7
 refine cl fun B8=> ?_
 refine am (fun s L=> ∃a6 a7 a8,d9 N a1 a0 a6 a7 a8=some r/\s=[(0,pV B1 0),(1,iV a1),(4,pV B7 0),(5,pV B8 0)]/\L=[pJ A4 n4 c4 a0.Zy,AB A5 n5 c5 a0.Zz,pJ A6 n6 c6 a0.ZA,ah B1 81 (zZ a0 B2 B3 A4 n4 c4 A5 n5 c5 A6 n6 c6),ah B7 28 [iV 0,iV 0,.string (⟨#[]⟩)],ah B8 28 [iV a6,iV a7,.string a8],oDHeap B2 a0.Zo,oDTable B3 a0.Zp]) ?_ ?_
 ·refine dv h ?_ ?_<;>intro h
  ·exact jY
  refine am (fun s L=> ∃p15,fW N a1 a0 p15=some r/\s=[(0,pV B1 0),(1,iV a1),(4,pV B7 0),(5,pV B8 0),(10,iV a1),(18,.bool p15)]/\L=[pJ A4 n4 c4 a0.Zy,AB A5 n5 c5 a0.Zz,pJ A6 n6 c6 a0.ZA,ah B1 81 (zZ a0 B2 B3 A4 n4 c4 A5 n5 c5 A6 n6 c6),ah B7 28 [iV 0,iV 0,.string (⟨#[]⟩)],ah B8 28 [iV 1,iV 0,.string (⟨#[]⟩)],oDHeap B2 a0.Zo,oDTable B3 a0.Zp]) ?_ ?_
  ·refine dv h ?_ ?_<;>intro h
   ·exact jY
   refine dv h ?_ ?_<;>intro h
   ·exact jY
   exact jY
  rintro _ _ ⟨p15,h,rfl,rfl⟩;refine gH J h ?_ ?_<;>intro h
  ·refine cR h (fun _ k=>iK k) fun d0 h=> ?_
   exact jN
  refine am (fun s L=> ∃p21,jM N a1 a0 p21=some r/\s=[(0,pV B1 0),(1,iV a1),(4,pV B7 0),(5,pV B8 0),(27,.bool p21)]/\L=[pJ A4 n4 c4 a0.Zy,AB A5 n5 c5 a0.Zz,pJ A6 n6 c6 a0.ZA,ah B1 81 (zZ a0 B2 B3 A4 n4 c4 A5 n5 c5 A6 n6 c6),ah B7 28 [iV 0,iV 0,.string (⟨#[]⟩)],ah B8 28 [iV 1,iV 0,.string (⟨#[]⟩)],oDHeap B2 a0.Zo,oDTable B3 a0.Zp]) ?_ ?_
  ·refine dv h ?_ ?_<;>intro h
   ·exact jY
   exact jY
  rintro _ _ ⟨p21,h,rfl,rfl⟩;refine gH J h ?_ ?_<;>intro h
  ·refine cR h (fun _ k=>iK k) fun d1 h=> ?_
   exact jN
  refine cR h (fun _ k=>iK k) fun d2 h=> ?_
  exact jN
 rintro _ _ ⟨a6,a7,a8,h,rfl,rfl⟩;refine ab ?_
 refine vc (aB (R:=ay) (vss:=[[iV a6,iV a7,.string a8]]) (xs:=[(⟨a6,a7,a8⟩:WV)]) J (jA _ _ _) J J (fun _ _ hr=> .cons J All2.nil)) fun b5 b6 b7=> ?_
 intro b9;refine ab ?_;refine am (fun s L=> ∃b0,jL N a0 a6 a7 a8 b0=some r/\s=[(0,pV B1 0),(4,pV B7 0),(6,pV b9 0)]/\L=[pJ A4 n4 c4 a0.Zy,AB A5 n5 c5 a0.Zz,pJ A6 n6 c6 a0.ZA,ah B1 81 (zZ a0 B2 B3 A4 n4 c4 A5 n5 c5 A6 n6 c6),ah B7 28 [iV 0,iV 0,.string (⟨#[]⟩)],bf b5 b6 b7 ([(⟨a6,a7,a8⟩:WV)]:List WV),ah b9 94 [iV 1,iV 0,iV b0,iV 0,W b5 b6 b7,W none 0 0],oDHeap B2 a0.Zo,oDTable B3 a0.Zp]) ?_ ?_
 ·refine dv h ?_ ?_<;>intro h
  ·exact jY
  exact jY
 rintro _ _ ⟨b0,h,rfl,rfl⟩;refine aA ?_;refine bh O ([pJ A4 n4 c4 a0.Zy,AB A5 n5 c5 a0.Zz,pJ A6 n6 c6 a0.ZA,ah B1 81 (zZ a0 B2 B3 A4 n4 c4 A5 n5 c5 A6 n6 c6),ah B7 28 [iV 0,iV 0,.string (⟨#[]⟩)],ah b9 94 [iV 1,iV 0,iV b0,iV 0,W b5 b6 b7,W none 0 0],oDTable B3 a0.Zp]) (cS [0,1,2,3,4,6,8] 9) ?_;refine ab ?_;refine kJ (bv 5 J) (cS [0,1,2,3,4,6,8] 9) ?_;obtain ⟨d3,k,h⟩:=aa h;refine kJ (qA ay _) (cS [1,2,3,4,5,7,9] 10) ?_;refine zD 5 J (oC (ot k)) ?_;rintro _ _ ⟨_,⟨rfl,rfl⟩,rfl⟩;refine bY ?_;exact eY
def gu (a0:WD)(a1:WV):Option (Int×WD):=
 (aM N a0).bind fun y9=>bif y9 then (some (0,a0)) else (aL (cF (a0.Zt.length+([a1]:List WV).length)) (aL (in64 (((a0.Zt++([a1]:List WV)).length:Int) - 1)) (some (((a0.Zt++([a1]:List WV)).length:Int) - 1,(⟨a0.m_,a0.Zt++([a1]:List WV),a0.Zv,a0.Zw⟩:WD)))))
theorem BO {N:Nat}{a0:WD}{a1:WV}{r:Int×WD}(h:gu N a0 a1=some r):Okc Xa 29 [pV B1 0,(aE a1)] ([ah B1 124 [W A2 n2 c2,W A3 n3 c3,W A4 n4 c4,W A5 n5 c5,pV B6 0],iJ A2 n2 c2 a0.m_.Zh,iJ A3 n3 c3 a0.m_.Zj,bf A4 n4 c4 a0.Zt,bf A5 n5 c5 a0.Zv,ah B6 213 [.map (some M7)],bB jK qP M7 a0.Zw.at_]) (fun u post=> ∃A0 n0 c0 A1 n1 c1 A2 n2 c2 A3 n3 c3 M4,u=iV r.1/\post=[ah B1 124 [W A0 n0 c0,W A1 n1 c1,W A2 n2 c2,W A3 n3 c3,pV B6 0],iJ A0 n0 c0 r.2.m_.Zh,iJ A1 n1 c1 r.2.m_.Zj,bf A2 n2 c2 r.2.Zt,bf A3 n3 c3 r.2.Zv,ah B6 213 [.map (some M4)],bB jK qP M4 r.2.Zw.at_]):=by
 refine ce Tryz.func29 ?_;intro B8;refine sY ?_
 refine cR h (fun _ k=>dj k) fun y9 h=> ?_
 refine gH J h ?_ ?_<;>intro h
 ·exact eY
 refine ab ?_;refine aA ?_;refine gw (t:=[(0,pV B1 0),(3,pV B8 0),(4,iV 0)]) ?_ mh (ad _)
 refine iW O 7 [0] [0,4,6] [7,8,9,10,11,12,13] [[],[],[1],[2],[3],[],[5]] [aV (pV B1 0),
aV (pV B1 0),
aV (pV B1 0),
aV (pV B1 2),
aV (W A4 n4 c4),
aV ((aE a1)),
aX3 (fun (a6:Option Addr) (a7 a8:Nat)=> W a6 a7 a8) (fun a6 a7 a8=> [bf a6 a7 a8 ([a1]:List WV)])] [] (ad _) (fA rfl mc) O rfl rfl ?_ ?_ ?_
 ·refine fz J ?_ ?_
  ·exact nD (ap J) J (iL J (ad _))
  exact mb
 ·refine aF J ?_ ?_
  ·refine th (aB (R:=ay) (vss:=[(bP a1)]) (xs:=[a1]) J (jA _ _ _) J J (fun _ _ hr=> .cons J All2.nil)) J ?_;rintro _ _ ⟨b7,b9,d0,rfl,rfl⟩;exact NZ b7 b9 d0 (ad _)
  refine qR (ax (us:=bP a1) 0 J J agg28.out J) ?_;refine qR (ck 1 J J sC J) ?_;refine qE (kH J FK) ?_;refine qE (dE J) ?_;refine qE (ap J) ?_;refine qE (ap J) ?_;exact dH
 intro a6 a7 a8;refine oe (t:=[(7,pV B1 0),(11,W A4 n4 c4),(13,W a6 a7 a8),(0,pV B1 0),(3,pV B8 0),(4,iV 0)]) (L':=[bf a6 a7 a8 ([a1]:List WV),ah B8 28 (bP a1),ah B1 124 [W A2 n2 c2,W A3 n3 c3,W A4 n4 c4,W A5 n5 c5,pV B6 0],iJ A2 n2 c2 a0.m_.Zh,iJ A3 n3 c3 a0.m_.Zj,bf A4 n4 c4 a0.Zt,bf A5 n5 c5 a0.Zv,ah B6 213 [.map (some M7)],bB jK qP M7 a0.Zw.at_]) ?_ mh (ad _);obtain ⟨d1,h⟩:=ae h;refine uk 7 J O (aX 5 0 J J ao J J t9 sd J J d1) J J J ?_;rintro _ _ ⟨b0,b5,b6,rfl,rfl⟩;refine Cn 8 J O (dE J) J J J ?_;refine Cn 9 J O (kH J FK) J J J ?_;refine pO 10 J O (aj (us:=[W b0 b5 b6]) (cs':=[W A2 n2 c2,W A3 n3 c3,W b0 b5 b6,W A5 n5 c5,pV B6 0]) 2 J J J J size22.out J J J) J J ?_;rintro _ _ rfl;refine mg O ?_;refine ab ?_;obtain ⟨d2,h⟩:=ae h;exact eY
theorem dS {N:Nat}{a0:WD}{a1:WV}{r:Int×WD}(h:gu N a0 a1=some r):Okc Xa 29 [pV B1 0,(aE a1)] ([oDHeap B1 a0]) (fun u post=>u=iV r.1/\post=[oDHeap B1 r.2]):=LS 0 rfl (fun _=>BO h)
def cW (a0:WM)(a1:WI):Option (WV×WM):=
 (eS N a0.Zo a1).bind fun a6=>bif !decide (a6.2.1=0) then (some ((⟨0,0,⟨#[]⟩⟩:WV),(⟨a0.ZB,a0.Zu,(),a6.2.2,a0.Zp,a0.Zy,a0.ZE,a0.ZF,a0.ZG,a0.Zz,a0.ZA⟩:WM))) else (some ((⟨9,a6.1,⟨#[]⟩⟩:WV),(⟨a0.ZB,a0.Zu,(),a6.2.2,a0.Zp,a0.Zy,a0.ZE,a0.ZF,a0.ZG,a0.Zz,a0.ZA⟩:WM)))
theorem iE {N:Nat}{a1:WI}{r:WV×WM}(h:cW N a0 a1=some r):Okc Xa 65 [pV B1 0,.agg #[iV a1.Za,iV a1.Zi,iV a1.Ze,iV a1.Zg,W A7 n7 c7,W A8 n8 c8]] ([aY A7 n7 c7 a1.Zc,aY A8 n8 c8 a1.Zb,ah B1 81 (zZ a0 B2 B3 A4 n4 c4 A5 n5 c5 A6 n6 c6),oDHeap B2 a0.Zo,oDTable B3 a0.Zp,pJ A4 n4 c4 a0.Zy,AB A5 n5 c5 a0.Zz,pJ A6 n6 c6 a0.ZA]) (fun u post=> ∃A0 n0 c0 A1 n1 c1 A2 n2 c2,u=.agg #[iV r.1.Za,iV r.1.N,.string r.1.S]/\post=[ah B1 81 (zZ r.2 B2 B3 A0 n0 c0 A1 n1 c1 A2 n2 c2),oDHeap B2 r.2.Zo,oDTable B3 r.2.Zp,pJ A0 n0 c0 r.2.Zy,AB A1 n1 c1 r.2.Zz,pJ A2 n2 c2 r.2.ZA]):=by
 refine ce Tryz.func65 ?_;intro B9
 refine cl fun a6=> ?_
 refine sZ ?_;refine fY (dL J Ws) ?_;refine fG J ?_;refine ab ?_;refine aA ?_;refine bh O ([ah a6 28 [iV 0,iV 0,.string (⟨#[]⟩)],ah B9 94 (iS a1 A7 n7 c7 A8 n8 c8),aY A7 n7 c7 a1.Zc,aY A8 n8 c8 a1.Zb,ah B1 81 (zZ a0 B2 B3 A4 n4 c4 A5 n5 c5 A6 n6 c6),oDTable B3 a0.Zp,pJ A4 n4 c4 a0.Zy,AB A5 n5 c5 a0.Zz,pJ A6 n6 c6 a0.ZA]) (cS [0,1,2,3,4,6,7,8,9] 10) ?_;refine ab ?_;obtain ⟨a7,k,h⟩:=aa h;refine zD 5 J (oC (ot k)) ?_;rintro _ _ ⟨_,⟨rfl,rfl⟩,rfl⟩;refine bY ?_;refine sY ?_;refine gH J h ?_ ?_<;>intro h
 ·exact eY
 exact eY
theorem xi {N:Nat}{a1:WI}{r:WV×WM}(h:cW N a0 a1=some r){B1 B2 B3:Nat}:Okc Xa 65 [pV B1 0,.agg #[iV a1.Za,iV a1.Zi,iV a1.Ze,iV a1.Zg,W A4 n4 c4,W A5 n5 c5]] ([aY A4 n4 c4 a1.Zc,aY A5 n5 c5 a1.Zb,oDWorld B1 B2 B3 a0]) (fun u post=>u=.agg #[iV r.1.Za,iV r.1.N,.string r.1.S]/\post=[oDWorld B1 B2 B3 r.2]):=LS 2 rfl (fun _=>iE h)
def xI (N:Nat)(a6 a7 a8 b0 b5 b6 b7 b9 d0 d1:Int)(d2:List ByteArray)(d3 d4 d6:Int)(e0:List WH)(e1:List ByteArray)(e2:WD)(e3:WQ):Option (Int ⊕ (WM×Int)):=
 some (.inr ((⟨(⟨a6,a7,a8⟩:WJ),(⟨b0,b5,b6,b7,b9,d0,d1⟩:WP),(),e2,e3,d2,d3,d4,d6,e0,e1⟩:WM),0))
def zK (a8 b0 b5 b6 b7 b9 d0 d1 d2 d3:Int)(d4:List ByteArray)(d6 e0 e1:Int)(e2:List WH)(e3:List ByteArray)(e4:WD)(e5:WQ):Option (Int ⊕ (WM×Int)):=
 (cW N (⟨(⟨a8,b0,b5⟩:WJ),(⟨b6,b7,b9,d0,d1,d2,d3⟩:WP),(),e4,e5,d4,d6,e0,e1,e2,e3⟩:WM) (⟨11,0,0,0,[],[]⟩:WI)).bind fun a6=>(gu N a6.2.Zo a6.1).bind fun a7=>xI N a6.2.ZB.ZR a6.2.ZB.ZL a6.2.ZB.ZS a6.2.Zu.ZM a6.2.Zu.ZN a6.2.Zu.ZH a6.2.Zu.ZK a6.2.Zu.Zh a6.2.Zu.ZO a6.2.Zu.ZP a6.2.Zy a6.2.ZE a6.2.ZF a6.2.ZG a6.2.Zz a6.2.ZA a7.2 a6.2.Zp
def Bc (a8 b0 b5 p13 b6 p15 b7 b9 d0 d1:Int)(d2:List ByteArray)(p21 d3 d4:Int)(d6:List WH)(e0:List ByteArray)(e1:WD)(e2:WQ):Option (Int ⊕ (WM×Int)):=
 (cW N (⟨(⟨a8,b0,b5⟩:WJ),(⟨p13,b6,p15,b7,b9,d0,d1⟩:WP),(),e1,e2,d2,p21,d3,d4,d6,e0⟩:WM) (⟨11,0,0,0,[],[]⟩:WI)).bind fun a6=>(gu N a6.2.Zo a6.1).bind fun a7=>zK N a6.2.ZB.ZR a6.2.ZB.ZL a6.2.ZB.ZS a6.2.Zu.ZM a6.2.Zu.ZN a6.2.Zu.ZH a6.2.Zu.ZK a6.2.Zu.Zh a6.2.Zu.ZO a6.2.Zu.ZP a6.2.Zy a6.2.ZE a6.2.ZF a6.2.ZG a6.2.Zz a6.2.ZA a7.2 a6.2.Zp
def zL (N:Nat)(a6:Int->Int->Int->Int->Int->Int->Int->Int->Int->Int->Int->(List ByteArray)->Int->Int->Int->(List WH)->(List ByteArray)->WD->WQ->Option (Int ⊕ (WM×Int)))(a7 a8 b0 b5 b6 b7 b9 d0 d1 d2 d3:Int)(d4:List ByteArray)(d6 e0 e1:Int)(e2:List WH)(e3:List ByteArray)(e4:WD)(e5:WQ):Option (Int ⊕ (WM×Int)):=
 aL (in64 (a7+1)) (a6 (a7+1) a8 b0 b5 b6 b7 b9 d0 d1 d2 d3 d4 d6 e0 e1 e2 e3 e4 e5)
def rz (N:Nat):Nat->Int->Int->Int->Int->Int->Int->Int->Int->Int->Int->Int->(List ByteArray)->Int->Int->Int->(List WH)->(List ByteArray)->WD->WQ->Option (Int ⊕ (WM×Int))
 |0,_,_,_,_,_,_,_,_,_,_,_,_,_,_,_,_,_,_,_=>none
 |e6+1,a7,a8,b0,b5,b6,b7,b9,d0,d1,d2,d3,d4,d6,e0,e1,e2,e3,e4,e5=>bif decide (a7<18) then ((pA N (⟨(⟨a8,b0,b5⟩:WJ),(⟨b6,b7,b9,d0,d1,d2,d3⟩:WP),(),e4,e5,d4,d6,e0,e1,e2,e3⟩:WM) a7).bind fun a6=>(gu N a6.2.Zo a6.1).bind fun e7=>zL N (rz N e6) a7 a6.2.ZB.ZR a6.2.ZB.ZL a6.2.ZB.ZS a6.2.Zu.ZM a6.2.Zu.ZN a6.2.Zu.ZH a6.2.Zu.ZK a6.2.Zu.Zh a6.2.Zu.ZO a6.2.Zu.ZP a6.2.Zy a6.2.ZE a6.2.ZF a6.2.ZG a6.2.Zz a6.2.ZA e7.2 a6.2.Zp) else (Bc N a8 b0 b5 b6 b7 b9 d0 d1 d2 d3 d4 d6 e0 e1 e2 e3 e4 e5)
def pB (a0:WP):Option (Int ⊕ (WM×Int)):=
 (zJ N a0).bind fun y2=>bif !y2 then (some (.inl 1)) else ((AC N).bind fun y4=>(xz N).bind fun y6=>rz N N 0 0 0 0 a0.ZM a0.ZN a0.ZH a0.ZK a0.Zh a0.ZO a0.ZP [] 0 0 0 [] [] y4 y6)
theorem HU {N:Nat}{a0:WP}{r:(Int ⊕ (WM×Int))}(h:pB N a0=some r):Okc Xa 27 [(FC a0)] ([]) (fun u post=>SM (fun (r:Int)=>u=.tuple #[.pointer none,iV r]/\post=[]) (fun (r:WM×Int)=> ∃B0 B1 B2 A3 n3 c3 A4 n4 c4 A5 n5 c5,u=.tuple #[pV B0 0,iV r.2]/\post=[ah B0 81 (zZ r.1 B1 B2 A3 n3 c3 A4 n4 c4 A5 n5 c5),oDHeap B1 r.1.Zo,oDTable B2 r.1.Zp,pJ A3 n3 c3 r.1.Zy,AB A4 n4 c4 r.1.Zz,pJ A5 n5 c5 r.1.ZA]) r):=by
 refine ce Tryz.func27 ?_;intro B1;refine sY ?_;obtain ⟨y2,k,h⟩:=aa h;refine F6 (oR (EH k)) ?_;refine gH J h ?_ ?_<;>intro h
 ·exact eY
 refine ab ?_;refine dY [] ?_;refine ab ?_;obtain ⟨y4,k,h⟩:=aa h
 refine MN 1 J (oC (Gp k)) fun B5=> ?_
 obtain ⟨y6,k,h⟩:=aa h
 refine MN 2 J (oC (Ew k)) fun B7=> ?_
 refine ab ?_
 refine MN 4 J (rf J J) fun B8=> ?_
 refine ab ?_;refine am (fun s L=> ∃g3 g4 g5 p13 g6 p15 g7 g8 g9 h0 h1 p21 h2 h3 h4 h5 h6 h7 h8 h9 i0 i1 i2 i3 i4 i5 i6,Bc N g3 g4 g5 p13 g6 p15 g7 g8 g9 h0 h1 p21 h2 h3 h4 h5 h6 h7=some r/\s=[(2,.pointer none),(3,iV 0),(4,pV B8 0)]/\L=[pJ h8 h9 i0 h1,AB i1 i2 i3 h4,pJ i4 i5 i6 h5,ah B8 81 [iV g3,iV g4,iV g5,iV p13,iV g6,iV p15,iV g7,iV g8,iV g9,iV h0,.nilIface,pV B5 0,pV B7 0,W h8 h9 i0,iV p21,iV h2,iV h3,W i1 i2 i3,W i4 i5 i6],oDHeap B5 h6,oDTable B7 h7]) ?_ ?_
 ·refine ab ?_;refine iX (fun m s L=> ∃g2 i7 i8 i9 j0 j1 j2 j3 j4 j5 j6 j7 j8 j9 k0 k1 k2 k3 k4 k5 k6 k7 k8 k9 l0 l1 l2 l3,rz N m g2 i7 i8 i9 j0 j1 j2 j3 j4 j5 j6 j7 j8 j9 k0 k1 k2 k3 k4=some r/\s=[(2,.pointer none),(3,iV 0),(4,pV B8 0),(14,iV g2)]/\L=[pJ k5 k6 k7 j7,AB k8 k9 l0 k1,pJ l1 l2 l3 k2,ah B8 81 [iV i7,iV i8,iV i9,iV j0,iV j1,iV j2,iV j3,iV j4,iV j5,iV j6,.nilIface,pV B5 0,pV B7 0,W k5 k6 k7,iV j8,iV j9,iV k0,W k8 k9 l0,W l1 l2 l3],oDHeap B5 k3,oDTable B7 k4]) N _ _ ⟨0,0,0,0,a0.ZM,a0.ZN,a0.ZH,a0.ZK,a0.Zh,a0.ZO,a0.ZP,[],0,0,0,[],[],y4,y6,none,0,0,none,0,0,none,0,0,h,J,J⟩ sA ((ci sJ 9 _).trans ((ci nI 309 _).trans ((ci sJ 9 _).trans (cS [2,1,0,3,5,4] 7)))) ?_;rintro (_|u9)
  all_goals (refine fun s L=>aQ fun g2=>aQ fun i7=>aQ fun i8=>aQ fun i9=>aQ fun j0=>aQ fun j1=>aQ fun j2=>aQ fun j3=>aQ fun j4=>aQ fun j5=>aQ fun j6=>aQ fun j7=>aQ fun j8=>aQ fun j9=>aQ fun k0=>aQ fun k1=>aQ fun k2=>aQ fun k3=>aQ fun k4=>aQ fun k5=>aQ fun k6=>aQ fun k7=>aQ fun k8=>aQ fun k9=>aQ fun l0=>aQ fun l1=>aQ fun l2=>aQ fun l3=>K9 fun h=> ?_)
  ·exact aJ h
  rw [rz.eq_2] at h;refine ab ?_;refine aA ?_;refine gH J h ?_ ?_<;>intro h
  ·refine ab ?_;refine am (fun s L=> ∃l4 l5 l6 l7 l8 l9 m0 m1 m2 m3 m4 m5 m6 m7 m8 m9 n0 o0 o1 o2 p1 p2 p3 p4 p5 p6 p7,zL N (rz N u9) g2 l4 l5 l6 l7 l8 l9 m0 m1 m2 m3 m4 m5 m6 m7 m8 m9 n0 o0=some r/\s=[(2,.pointer none),(3,iV 0),(4,pV B8 0),(14,iV g2)]/\L=[pJ o1 o2 p1 m4,AB p2 p3 p4 m8,pJ p5 p6 p7 m9,ah B8 81 [iV l4,iV l5,iV l6,iV l7,iV l8,iV l9,iV m0,iV m1,iV m2,iV m3,.nilIface,pV B5 0,pV B7 0,W o1 o2 p1,iV m5,iV m6,iV m7,W p2 p3 p4,W p5 p6 p7],oDHeap B5 n0,oDTable B7 o0]) ?_ ?_
   ·refine ab ?_;refine bh O ([]) (cS [] 6) ?_;refine zY [0,1,2,4,5] ?_;refine oA 3 6 O ?_ ?_
    ·refine bL J (vE (ck 3 J J Fa J)) J J J ?_;rintro _ _ ⟨rfl,rfl⟩;refine bY ?_;obtain ⟨v1,b0,h⟩:=aa h;refine zD 6 J (oC (oF b0)) ?_;rintro _ _ ⟨_,⟨v2,v6,v7,w0,w1,w2,w3,w4,w5,rfl,rfl⟩,rfl⟩;refine bY ?_;refine bu ?_;obtain ⟨w6,b5,h⟩:=aa h;refine zD 7 J (oC (dS b5)) ?_;rintro _ _ ⟨_,⟨rfl,rfl⟩,rfl⟩;refine bY ?_;refine bu ?_;refine bq O ?_;exact jY
    obtain ⟨v1,b0,h⟩:=aa h;refine bL J (oC (oF b0)) J J J ?_;rintro _ _ ⟨_,⟨v2,v6,v7,w0,w1,w2,w3,w4,w5,rfl,rfl⟩,rfl⟩;refine bY ?_;refine bu ?_;refine zD 3 J (vE (ck 0 J J Fa J)) ?_;rintro _ _ ⟨rfl,rfl⟩;refine bY ?_;obtain ⟨w6,b5,h⟩:=aa h;refine zD 7 J (oC (dS b5)) ?_;rintro _ _ ⟨_,⟨rfl,rfl⟩,rfl⟩;refine bY ?_;refine bu ?_;refine bq O ?_;exact jY
   refine fun s L=>aQ fun l4=>aQ fun l5=>aQ fun l6=>aQ fun l7=>aQ fun l8=>aQ fun l9=>aQ fun m0=>aQ fun m1=>aQ fun m2=>aQ fun m3=>aQ fun m4=>aQ fun m5=>aQ fun m6=>aQ fun m7=>aQ fun m8=>aQ fun m9=>aQ fun n0=>aQ fun o0=>aQ fun o1=>aQ fun o2=>aQ fun p1=>aQ fun p2=>aQ fun p3=>aQ fun p4=>aQ fun p5=>aQ fun p6=>aQ fun p7=>K9 fun h=> ?_
   refine ab ?_;obtain ⟨x8,h⟩:=ae h;exact lY
  exact jY
 refine fun s L=>aQ fun g3=>aQ fun g4=>aQ fun g5=>aQ fun p13=>aQ fun g6=>aQ fun p15=>aQ fun g7=>aQ fun g8=>aQ fun g9=>aQ fun h0=>aQ fun h1=>aQ fun p21=>aQ fun h2=>aQ fun h3=>aQ fun h4=>aQ fun h5=>aQ fun h6=>aQ fun h7=>aQ fun h8=>aQ fun h9=>aQ fun i0=>aQ fun i1=>aQ fun i2=>aQ fun i3=>aQ fun i4=>aQ fun i5=>aQ fun i6=>K9 fun h=> ?_
 refine am (fun s L=> ∃p8 q0 q1 q2 q3 q4 q5 q6 q7 q8 q9 r0 r1 r2 r3 r4 r5 r6 s0 s1 s2 s3 s4 s5 s6 s7 s8,zK N p8 q0 q1 q2 q3 q4 q5 q6 q7 q8 q9 r0 r1 r2 r3 r4 r5 r6=some r/\s=[(2,.pointer none),(3,iV 0),(4,pV B8 0)]/\L=[pJ s0 s1 s2 q9,AB s3 s4 s5 r3,pJ s6 s7 s8 r4,ah B8 81 [iV p8,iV q0,iV q1,iV q2,iV q3,iV q4,iV q5,iV q6,iV q7,iV q8,.nilIface,pV B5 0,pV B7 0,W s0 s1 s2,iV r0,iV r1,iV r2,W s3 s4 s5,W s6 s7 s8],oDHeap B5 r5,oDTable B7 r6]) ?_ ?_
 ·refine bh O ([]) (cS [] 6) ?_;refine zY [0,1,2,4] ?_;refine zE 5 J (nB J (bld_94_0 _).out) ?_;refine oA 3 6 O ?_ ?_
  ·refine bL J (vE (ck 3 J J Fa J)) J J J ?_;rintro _ _ ⟨rfl,rfl⟩;refine bY ?_;obtain ⟨w7,b6,h⟩:=aa h;refine kJ (qA ay _) (cS [] 7) ?_;refine kJ (qA ay _) (cS [] 8) ?_;refine zD 6 J (oC (iE b6)) ?_;rintro _ _ ⟨_,⟨w8,w9,x1,x2,x3,x4,x5,x6,x7,rfl,rfl⟩,rfl⟩;refine bY ?_;refine bu ?_;obtain ⟨s9,a6,h⟩:=aa h;refine zD 7 J (oC (dS a6)) ?_;rintro _ _ ⟨_,⟨rfl,rfl⟩,rfl⟩;refine bY ?_;refine bu ?_;refine bq O ?_;exact jY
  obtain ⟨w7,b6,h⟩:=aa h;refine vY (qA ay _) (cS [] 7) ?_;refine vY (qA ay _) (cS [] 8) ?_;refine bL J (oC (iE b6)) J J J ?_;rintro _ _ ⟨_,⟨w8,w9,x1,x2,x3,x4,x5,x6,x7,rfl,rfl⟩,rfl⟩;refine bY ?_;refine bu ?_;refine zD 3 J (vE (ck 0 J J Fa J)) ?_;rintro _ _ ⟨rfl,rfl⟩;refine bY ?_;obtain ⟨s9,a6,h⟩:=aa h;refine zD 7 J (oC (dS a6)) ?_;rintro _ _ ⟨_,⟨rfl,rfl⟩,rfl⟩;refine bY ?_;refine bu ?_;refine bq O ?_;exact jY
 refine fun s L=>aQ fun p8=>aQ fun q0=>aQ fun q1=>aQ fun q2=>aQ fun q3=>aQ fun q4=>aQ fun q5=>aQ fun q6=>aQ fun q7=>aQ fun q8=>aQ fun q9=>aQ fun r0=>aQ fun r1=>aQ fun r2=>aQ fun r3=>aQ fun r4=>aQ fun r5=>aQ fun r6=>aQ fun s0=>aQ fun s1=>aQ fun s2=>aQ fun s3=>aQ fun s4=>aQ fun s5=>aQ fun s6=>aQ fun s7=>aQ fun s8=>K9 fun h=> ?_
 refine am (fun s L=> ∃b7 b9 d0 d1 d2 d3 d4 d6 e0 e1 e2 e3 e4 e5 e6 e7 e8 e9 f0 f1 f2 f3 f4 f6 f9 g0 g1,xI N b7 b9 d0 d1 d2 d3 d4 d6 e0 e1 e2 e3 e4 e5 e6 e7 e8 e9=some r/\s=[(2,.pointer none),(3,iV 0),(4,pV B8 0)]/\L=[pJ f0 f1 f2 e2,AB f3 f4 f6 e6,pJ f9 g0 g1 e7,ah B8 81 [iV b7,iV b9,iV d0,iV d1,iV d2,iV d3,iV d4,iV d6,iV e0,iV e1,.nilIface,pV B5 0,pV B7 0,W f0 f1 f2,iV e3,iV e4,iV e5,W f3 f4 f6,W f9 g0 g1],oDHeap B5 e8,oDTable B7 e9]) ?_ ?_
 ·refine bh O ([]) (cS [] 6) ?_;refine zY [0,1,2,4] ?_;refine zE 5 J (nB J (bld_94_0 _).out) ?_;refine oA 3 6 O ?_ ?_
  ·refine bL J (vE (ck 3 J J Fa J)) J J J ?_;rintro _ _ ⟨rfl,rfl⟩;refine bY ?_;obtain ⟨t1,a7,h⟩:=aa h;refine kJ (qA ay _) (cS [] 7) ?_;refine kJ (qA ay _) (cS [] 8) ?_;refine zD 6 J (oC (iE a7)) ?_;rintro _ _ ⟨_,⟨t2,u0,u1,u2,u3,u4,u5,u6,u7,rfl,rfl⟩,rfl⟩;refine bY ?_;refine bu ?_;obtain ⟨u8,a8,h⟩:=aa h;refine zD 7 J (oC (dS a8)) ?_;rintro _ _ ⟨_,⟨rfl,rfl⟩,rfl⟩;refine bY ?_;refine bu ?_;refine bq O ?_;exact jY
  obtain ⟨t1,a7,h⟩:=aa h;refine vY (qA ay _) (cS [] 7) ?_;refine vY (qA ay _) (cS [] 8) ?_;refine bL J (oC (iE a7)) J J J ?_;rintro _ _ ⟨_,⟨t2,u0,u1,u2,u3,u4,u5,u6,u7,rfl,rfl⟩,rfl⟩;refine bY ?_;refine bu ?_;refine zD 3 J (vE (ck 0 J J Fa J)) ?_;rintro _ _ ⟨rfl,rfl⟩;refine bY ?_;obtain ⟨u8,a8,h⟩:=aa h;refine zD 7 J (oC (dS a8)) ?_;rintro _ _ ⟨_,⟨rfl,rfl⟩,rfl⟩;refine bY ?_;refine bu ?_;refine bq O ?_;exact jY
 refine fun s L=>aQ fun b7=>aQ fun b9=>aQ fun d0=>aQ fun d1=>aQ fun d2=>aQ fun d3=>aQ fun d4=>aQ fun d6=>aQ fun e0=>aQ fun e1=>aQ fun e2=>aQ fun e3=>aQ fun e4=>aQ fun e5=>aQ fun e6=>aQ fun e7=>aQ fun e8=>aQ fun e9=>aQ fun f0=>aQ fun f1=>aQ fun f2=>aQ fun f3=>aQ fun f4=>aQ fun f6=>aQ fun f9=>aQ fun g0=>aQ fun g1=>K9 fun h=> ?_
 exact eY
theorem xH {N:Nat}{a0:WP}{r:(Int ⊕ (WM×Int))}(h:pB N a0=some r):Okc Xa 27 [(FC a0)] ([]) (fun u post=>SM (fun (r:Int)=>u=.tuple #[.pointer none,iV r]/\post=[]) (fun (r:WM×Int)=> ∃B0 B1 B2,u=.tuple #[pV B0 0,iV r.2]/\post=[oDWorld B0 B1 B2 r.1]) r):=by
 rcases r with _|_<;>exact Vi (HU h)
def eQ (a0:WM)(a1:Int):Option WV:=
 (bif decide (a1<0) then (some true) else (some (decide (18<=a1)))).bind fun b8=>bif b8 then (some (⟨0,0,⟨#[]⟩⟩:WV)) else ((di N a0.Zo a1).bind fun a6=>some a6)
theorem uY {N:Nat}{r:WV}(h:eQ N a0 a1=some r):Okc Xa 67 [pV B1 0,iV a1] ([aW B1 81 (zZ a0 B2 B3 A4 n4 c4 A5 n5 c5 A6 n6 c6),pDHeap B2 a0.Zo,pDTable B3 a0.Zp,gK sJ (W A4 n4 c4) a0.Zy,gK nI (W A5 n5 c5) a0.Zz,gK sJ (W A6 n6 c6) a0.ZA]) (fun u post=>u=(aE r)/\post=[]):=by
 refine ce Tryz.func67 ?_;intro B7;refine sY ?_;refine fY (dL J Ws) ?_;refine gS 3 14 11 h ?_;intro b8 h;refine dv h ?_ ?_<;>intro h
 ·exact eY
 refine cR h (fun _ k=>iK k) fun a6 h=> ?_
 exact eN
theorem tJ {N:Nat}{r:WV}(h:eQ N a0 a1=some r){B1 B2 B3:Nat}:Okc Xa 67 [pV B1 0,iV a1] ([pDWorld B1 B2 B3 a0]) (fun u post=>u=(aE r)/\post=[]):=Nr 0 rfl (fun _=>uY h)
def gn (a0:WM)(a1:WI):Option (WV×Bool×WM):=
 bif decide (a0.Zu.ZK<=a0.ZB.ZL) then (some ((⟨0,0,⟨#[]⟩⟩:WV),false,a0)) else ((eS N a0.Zo a1).bind fun a6=>bif !decide (a6.2.1=0) then (some ((⟨0,0,⟨#[]⟩⟩:WV),false,(⟨a0.ZB,a0.Zu,(),a6.2.2,a0.Zp,a0.Zy,a0.ZE,a0.ZF,a0.ZG,a0.Zz,a0.ZA⟩:WM))) else (aL (in64 (a0.ZB.ZL+1)) (some ((⟨7,a6.1,⟨#[]⟩⟩:WV),true,(⟨(⟨a0.ZB.ZR,a0.ZB.ZL+1,a0.ZB.ZS⟩:WJ),a0.Zu,(),a6.2.2,a0.Zp,a0.Zy,a0.ZE,a0.ZF,a0.ZG,a0.Zz,a0.ZA⟩:WM)))))
theorem zy {N:Nat}{a1:WI}{r:WV×Bool×WM}(h:gn N a0 a1=some r):Okc Xa 66 [pV B1 0,.agg #[iV a1.Za,iV a1.Zi,iV a1.Ze,iV a1.Zg,W A7 n7 c7,W A8 n8 c8]] ([aY A7 n7 c7 a1.Zc,aY A8 n8 c8 a1.Zb,ah B1 81 (zZ a0 B2 B3 A4 n4 c4 A5 n5 c5 A6 n6 c6),oDHeap B2 a0.Zo,oDTable B3 a0.Zp,pJ A4 n4 c4 a0.Zy,AB A5 n5 c5 a0.Zz,pJ A6 n6 c6 a0.ZA]) (fun u post=> ∃A0 n0 c0 A1 n1 c1 A2 n2 c2,u=.tuple #[.agg #[iV r.1.Za,iV r.1.N,.string r.1.S],.bool r.2.1]/\post=[ah B1 81 (zZ r.2.2 B2 B3 A0 n0 c0 A1 n1 c1 A2 n2 c2),oDHeap B2 r.2.2.Zo,oDTable B3 r.2.2.Zp,pJ A0 n0 c0 r.2.2.Zy,AB A1 n1 c1 r.2.2.Zz,pJ A2 n2 c2 r.2.2.ZA]):=by
 refine ce Tryz.func66 ?_;intro B9
 refine cl fun a6=> ?_
 refine aA ?_;refine dY [] ?_;refine ab ?_;refine zE 1 J (dL J Ws) ?_;refine dv h ?_ ?_<;>intro h
 ·exact eY
 refine ab ?_;refine aA ?_;refine bh O ([ah a6 28 [iV 0,iV 0,.string (⟨#[]⟩)],ah B9 94 (iS a1 A7 n7 c7 A8 n8 c8),aY A7 n7 c7 a1.Zc,aY A8 n8 c8 a1.Zb,ah B1 81 (zZ a0 B2 B3 A4 n4 c4 A5 n5 c5 A6 n6 c6),oDTable B3 a0.Zp,pJ A4 n4 c4 a0.Zy,AB A5 n5 c5 a0.Zz,pJ A6 n6 c6 a0.ZA]) (cS [0,1,2,3,4,6,7,8,9] 10) ?_;refine ab ?_;obtain ⟨a7,k,h⟩:=aa h;refine zD 5 J (oC (ot k)) ?_;rintro _ _ ⟨_,⟨rfl,rfl⟩,rfl⟩;refine bY ?_;refine sY ?_;refine gH J h ?_ ?_<;>intro h
 ·exact eY
 refine ab ?_;obtain ⟨a8,h⟩:=ae h;exact eY
theorem xh {N:Nat}{a1:WI}{r:WV×Bool×WM}(h:gn N a0 a1=some r){B1 B2 B3:Nat}:Okc Xa 66 [pV B1 0,.agg #[iV a1.Za,iV a1.Zi,iV a1.Ze,iV a1.Zg,W A4 n4 c4,W A5 n5 c5]] ([aY A4 n4 c4 a1.Zc,aY A5 n5 c5 a1.Zb,oDWorld B1 B2 B3 a0]) (fun u post=>u=.tuple #[.agg #[iV r.1.Za,iV r.1.N,.string r.1.S],.bool r.2.1]/\post=[oDWorld B1 B2 B3 r.2.2]):=LS 2 rfl (fun _=>zy h)
def uT (a0:WM)(a1:WW):Option (WV×Bool×WM):=
 (eQ N a0 2).bind fun y6=>(gn N a0 (⟨2,0,1,0,([y6]:List WV),a1⟩:WI)).bind fun y8=>some (y8.1,y8.2.1,y8.2.2)
theorem IC {N:Nat}{a1:WW}{r:WV×Bool×WM}(h:uT N a0 a1=some r){B1 B2 B3:Nat}:Okc Xa 28 [pV B1 0,W A4 n4 c4] ([aY A4 n4 c4 a1,oDWorld B1 B2 B3 a0]) (fun u post=>u=.tuple #[.agg #[iV r.1.Za,iV r.1.N,.string r.1.S],.bool r.2.1]/\post=[oDWorld B1 B2 B3 r.2.2]):=by
 refine ce Tryz.func28 ?_;intro B5;refine sY ?_;refine fY (dL J Ws) ?_;refine fG J ?_;refine ab ?_;obtain ⟨y6,k,h⟩:=aa h;refine gV (oR (tJ k)) ?_
 refine vc (aB (R:=ay) (vss:=[[iV y6.Za,iV y6.N,.string y6.S]]) (xs:=[y6]) J (jA _ _ _) J J (fun _ _ hr=> .cons J All2.nil)) fun A7 n7 c7=> ?_
 refine mO (bv 0 J) ?_;obtain ⟨y8,k,h⟩:=aa h;refine F6 (oC (xh k)) ?_;exact eN
def tv (a0:WW):Option (WV ⊕ (WM×WV×Bool)):=
 (pB N (⟨0,1048576,50,100,0,0,0⟩:WP)).bind fun y3=>DY y3 (fun y3_0=>some (.inl (⟨0,0,⟨#[]⟩⟩:WV))) (fun y3_1=>bif !decide (y3_1.2=0) then (some (.inl (⟨0,0,⟨#[]⟩⟩:WV))) else ((uT N y3_1.1 a0).bind fun y8=>some (.inr (y8.2.2,y8.1,y8.2.1))))
theorem iY {N:Nat}{a0:WW}{r:(WV ⊕ (WM×WV×Bool))}(h:tv N a0=some r):Okc Xa 9 [W A1 n1 c1] ([aY A1 n1 c1 a0]) (fun u post=>SM (fun (r:WV)=>u=.tuple #[.pointer none,(aE r),.bool false]/\post=[]) (fun (r:WM×WV×Bool)=> ∃B0 B1 B2,u=.tuple #[pV B0 0,.agg #[iV r.2.1.Za,iV r.2.1.N,.string r.2.1.S],.bool r.2.2]/\post=[oDWorld B0 B1 B2 r.1]) r):=by
 refine ce Tryz.func9 ?_;intro B2;refine ab ?_;obtain ⟨y3,a6,h⟩:=aa h;rcases y3 with y3_0|y3_1
 ·replace h:=GD h;refine F6 (oC (xH a6)) ?_;refine sZ ?_;refine fY (dL J Ws) ?_;refine iN J ?_;exact eY
 replace h:=GC h;refine gD (oC (xH a6)) ?_;rintro _ _ ⟨_,⟨B4,B5,B6,rfl,rfl⟩,rfl⟩;refine sY ?_;refine fY (dL J Ws) ?_;refine gH J h ?_ ?_<;>intro h
 ·exact eY
 refine cC h (fun _ k=>IC k) fun y8 h=> ?_
 intro B9;refine ab ?_;refine aA ?_;refine bh O ([ah B9 28 [iV y8.1.Za,iV y8.1.N,.string y8.1.S],oDWorld B4 B5 B6 y8.2.2,aY A1 n1 c1 a0]) (cS [0,1,3] 4) ?_;refine ab ?_;refine zO 4 J (aj (us:=[iV y8.1.Za,iV y8.1.N,.string y8.1.S]) (cs':=[iV y8.1.Za,iV y8.1.N,.string y8.1.S]) 2 J J J J size28.out J J J) ?_;rintro _ _ rfl;refine bY ?_;exact eY
def iZ (N:Nat)(a0:WV):Option Bool:=
 (bif decide (a0.Za=7) then (some true) else (some (decide (a0.Za=9)))).bind fun b2=>some b2
theorem tI {N:Nat}{a0:WV}{r:Bool}(h:iZ N a0=some r):Okc Xa 96 [(aE a0)] ([]) (fun u post=>u=.bool r/\post=[]):=by
 refine ce Tryz.func96 ?_;intro B1;refine ab ?_;refine gS 4 10 6 h ?_;intro b2 h;exact eY
end Go.Proofs.YtmcifcmlojonnaaGreatDoor
namespace Go.Proofs.YtmcifcmlojonnaaGreatDoor
variable (N:Nat){a1 a2 a3:Int}{l:Nat}{σ:Type}{a0:WM}
variable {A1 A2 A3 A4 A5 A6 A7 A8 A9:Option Addr}{B1 B2 B3 B6 M3 M7 c1 c2 c3 c4 c5 c6 c7 c8 c9 n1 n2 n3 n4 n5 n6 n7 n8 n9:Nat}
open Go.RowKit Asn
set_option maxRecDepth 20000
def pZ (N:Nat)(a1:Int)(p6:W6)(p7:Int):Option (W6×Int×Bool):=
 (bif decide (0<a1) then (some (decide (p7<(p6.length:Int)))) else (some false)).bind fun a6=>some (p6,p7,a6)
def oG (a0:WK)(a1:Int):Option (W6×Int×Bool):=
 aL (in64 (a1.tdiv 2)) (bif decide (a1.tmod 2=0) then (aL (in64 (a1.tdiv 2)) (aL (in64 ((a1.tdiv 2) - 1)) (pZ N a1 a0.Zj ((a1.tdiv 2) - 1)))) else (pZ N a1 a0.Zh (a1.tdiv 2)))
theorem xJ {N:Nat}{a0:WK}{r:W6×Int×Bool}(h:oG N a0 a1=some r):Okc Xa 164 [.agg #[W A1 n1 c1,W A2 n2 c2],iV a1] ([iI A1 n1 c1 a0.Zh,iI A2 n2 c2 a0.Zj]) (fun u post=> ∃A0 n0 c0,u=.tuple #[W A0 n0 c0,iV r.2.1,.bool r.2.2]/\post=[iI A0 n0 c0 r.1]):=by
 refine ce Tryz.func164 ?_;intro B3;refine ab ?_;obtain ⟨q4,h⟩:=ae h;refine fY (FP J J (by decide) q4.1 q4.2) ?_;refine am (fun s L=> ∃p6 p7 A6 n6 c6,pZ N a1 p6 p7=some r/\s=[(1,iV a1),(4,W none 0 0),(5,iV 0),(6,.bool false),(7,W A6 n6 c6),(8,iV p7)]/\L=[iI A6 n6 c6 p6]) ?_ ?_
 ·refine ab ?_;refine fY (sn J J (by decide)) ?_;refine gH J h ?_ ?_<;>intro h
  ·refine ab ?_;obtain ⟨q9,h⟩:=ae h;refine gE (FP J J (by decide) q9.1 q9.2) ?_;obtain ⟨a6,h⟩:=ae h;exact jY
  exact jY
 rintro _ _ ⟨p6,p7,A6,n6,c6,h,rfl,rfl⟩;refine ab ?_;refine gS 5 30 25 h ?_;intro a7 h;exact eY
def pC (a0:WK)(a1:Int):Option Bool:=
 (oG N a0 a1).bind fun y4=>some y4.2.2
theorem sI {N:Nat}{a0:WK}{r:Bool}(h:pC N a0 a1=some r):Okc Xa 160 [.agg #[W A1 n1 c1,W A2 n2 c2],iV a1] ([iI A1 n1 c1 a0.Zh,iI A2 n2 c2 a0.Zj]) (fun u post=>u=.bool r/\post=[]):=by
 refine ce Tryz.func160 ?_;intro B3
 refine VL h (fun _ k=>xJ k) fun y4 A5 n5 c5 h=> ?_
 exact eN
def jX (a0:WD)(a1:Int):Option Bool:=
 (aM N a0).bind fun y8=>(bif !y8 then ((pC N a0.m_ a1).bind fun a6=>some a6) else (some false)).bind fun b9=>some b9
theorem ri {N:Nat}{a0:WD}{r:Bool}(h:jX N a0 a1=some r):Okc Xa 137 [pV B1 0,iV a1] ([aW B1 124 [W A2 n2 c2,W A3 n3 c3,W A4 n4 c4,W A5 n5 c5,pV B6 0],iI A2 n2 c2 a0.m_.Zh,iI A3 n3 c3 a0.m_.Zj,aY A4 n4 c4 a0.Zt,aY A5 n5 c5 a0.Zv,aW B6 213 [.map (some M7)],qJ jK qP M7 a0.Zw.at_]) (fun u post=>u=.bool r/\post=[]):=by
 refine ce Tryz.func137 ?_
 refine cR h (fun _ k=>dj k) fun y8 h=> ?_
 refine ou 7 15 8 h (fun _ g9 h=> ?_) fun b9 h=> ?_
 ·refine cR h (fun _ k=>sI k) fun a6 h=> ?_
  exact gY
 exact eY
def il (N:Nat)(a0:WD)(a1:Int):Option (Int ⊕ Int):=
 bif decide (a1.tmod 2=1) then (aL (in64 (a1.tdiv 2)) ((aq a0.m_.Zh (a1.tdiv 2)).bind fun a6=>some (.inl (a1.tdiv 2)))) else (aL (in64 (a1.tdiv 2)) (aL (in64 ((a1.tdiv 2) - 1)) ((aq a0.m_.Zj ((a1.tdiv 2) - 1)).bind fun a7=>some (.inr ((a1.tdiv 2) - 1)))))
theorem gt {N:Nat}{a0:WD}{r:(Int ⊕ Int)}(h:il N a0 a1=some r):Okc Xa 139 [pV B1 0,iV a1] ([aW B1 124 [W A2 n2 c2,W A3 n3 c3,W A4 n4 c4,W A5 n5 c5,pV B6 0],iI A2 n2 c2 a0.m_.Zh,iI A3 n3 c3 a0.m_.Zj,aY A4 n4 c4 a0.Zt,aY A5 n5 c5 a0.Zv,aW B6 213 [.map (some M7)],qJ jK qP M7 a0.Zw.at_]) (fun u post=>SM (fun (r:Int)=>u=dF (W A2 n2 c2) r.toNat 6 0/\post=[]) (fun (r:Int)=>u=dF (W A3 n3 c3) r.toNat 6 0/\post=[]) r):=by
 refine ce Tryz.func139 ?_;refine sZ ?_;refine fY (sn J J (by decide)) ?_;refine gH J h ?_ ?_<;>intro h
 ·refine ab ?_;obtain ⟨q9,h⟩:=ae h;refine gE (FP J J (by decide) q9.1 q9.2) ?_;obtain ⟨b9,a7,a8,b0,h⟩:=bz h;exact eY
 refine ab ?_;obtain ⟨a6,h⟩:=ae h;refine gE (FP J J (by decide) a6.1 a6.2) ?_;obtain ⟨d0,h⟩:=ae h;refine ab ?_;obtain ⟨d1,b5,b6,b7,h⟩:=bz h;exact eY
def ny (a0:WD)(a1:Int):Option (WI×Bool):=
 (jX N a0 a1).bind fun y9=>bif !y9 then (some ((⟨0,0,0,0,[],[]⟩:WI),false)) else ((il N a0 a1).bind fun a6=>DY a6 (fun y13_0=>(aq a0.m_.Zh y13_0).bind fun a7=>(fS N a7).bind fun a8=>some (a8,true)) (fun y13_1=>(aq a0.m_.Zj y13_1).bind fun b0=>(fS N b0).bind fun b5=>some (b5,true)))
theorem DQ {N:Nat}{a0:WD}{r:WI×Bool}(h:ny N a0 a1=some r):Okc Xa 129 [pV B1 0,iV a1] ([aW B1 124 [W A2 n2 c2,W A3 n3 c3,W A4 n4 c4,W A5 n5 c5,pV B6 0],iI A2 n2 c2 a0.m_.Zh,iI A3 n3 c3 a0.m_.Zj,aY A4 n4 c4 a0.Zt,aY A5 n5 c5 a0.Zv,aW B6 213 [.map (some M7)],qJ jK qP M7 a0.Zw.at_]) (fun u post=> ∃A0 n0 c0 A1 n1 c1,u=.tuple #[.agg #[iV r.1.Za,iV r.1.Zi,iV r.1.Ze,iV r.1.Zg,W A0 n0 c0,W A1 n1 c1],.bool r.2]/\post=[bf A0 n0 c0 r.1.Zc,bf A1 n1 c1 r.1.Zb]):=by
 refine ce Tryz.func129 ?_;intro B8;refine sY ?_
 refine cR h (fun _ k=>ri k) fun y9 h=> ?_
 refine gH J h ?_ ?_<;>intro h
 ·refine ab ?_;obtain rfl:=bD h;exact kI (rs:=[.cell 4 94,.tmp 5]) (vs:=[.agg #[iV 0,iV 0,iV 0,iV 0,W none 0 0,W none 0 0],.bool false]) J (.cons (dy 0 J J agg94.out) (.cons (dP J) .nil)) J ((ci ay 28 _).trans ((ci ay 28 _).trans (cS [1,0] 10))) ⟨_,_,_,_,_,_,J,J⟩
 refine ab ?_;obtain ⟨d1,a6,h⟩:=aa h;rcases d1 with y13_0|y13_1
 ·replace h:=GD h;refine gD (oR (gt a6)) ?_;rintro _ _ ⟨_,⟨rfl,rfl⟩,rfl⟩;obtain ⟨b9,a7,a8,b0,h⟩:=bz h;refine gR (mT 2 J bj J (toNat_lt a7 a8)) ?_;refine J6 2 J b0 (tV b9) ?_;rintro _ _ ⟨d2,d3,d4,d6,e0,e1,rfl,rfl⟩;refine gR (Bf (us:=(iS b9 d2 d3 d4 d6 e0 e1)) 0 J J agg94.out J) ?_
  refine Ix h (fun _ k=>iU k) fun e8 e9 f0 f1 f2 f3 f4 h=> ?_
  exact eN
 replace h:=GC h;refine gD (oR (gt a6)) ?_;rintro _ _ ⟨_,⟨rfl,rfl⟩,rfl⟩;obtain ⟨d0,b5,b6,b7,h⟩:=bz h;refine gR (mT 3 J bj J (toNat_lt b5 b6)) ?_;refine J6 3 J b7 (tV d0) ?_;rintro _ _ ⟨e2,e3,e4,e5,e6,e7,rfl,rfl⟩;refine gR (Bf (us:=(iS d0 e2 e3 e4 e5 e6 e7)) 0 J J agg94.out J) ?_
 refine Ix h (fun _ k=>iU k) fun f6 f9 g0 g1 g2 g3 g4 h=> ?_
 exact eN
theorem uL {N:Nat}{a0:WD}{r:WI×Bool}(h:ny N a0 a1=some r):Okc Xa 129 [pV B1 0,iV a1] ([pDHeap B1 a0]) (fun u post=> ∃A0 n0 c0 A1 n1 c1,u=.tuple #[.agg #[iV r.1.Za,iV r.1.Zi,iV r.1.Ze,iV r.1.Zg,W A0 n0 c0,W A1 n1 c1],.bool r.2]/\post=[bf A0 n0 c0 r.1.Zc,bf A1 n1 c1 r.1.Zb]):=Nr 0 rfl (fun _=>DQ h)
def rS (N:Nat)(p15 a6 a7 a8:Int)(b0 b5:WW):Option WI:=
 some (⟨p15,a6,a7,a8,b0,b5⟩:WI)
def bO (a0:WM)(a1:WV):Option WI:=
 (iZ N a1).bind fun y9=>bif !y9 then (some (⟨0,0,0,0,[],[]⟩:WI)) else ((ny N a0.Zo a1.N).bind fun a6=>rS N a6.1.Za a6.1.Zi a6.1.Ze a6.1.Zg a6.1.Zc a6.1.Zb)
theorem zA {N:Nat}{a1:WV}{r:WI}(h:bO N a0 a1=some r):Okc Xa 84 [pV B1 0,(aE a1)] ([aW B1 81 (zZ a0 B2 B3 A4 n4 c4 A5 n5 c5 A6 n6 c6),pDHeap B2 a0.Zo,pDTable B3 a0.Zp,gK sJ (W A4 n4 c4) a0.Zy,gK nI (W A5 n5 c5) a0.Zz,gK sJ (W A6 n6 c6) a0.ZA]) (fun u post=> ∃A0 n0 c0 A1 n1 c1,u=.agg #[iV r.Za,iV r.Zi,iV r.Ze,iV r.Zg,W A0 n0 c0,W A1 n1 c1]/\post=[bf A0 n0 c0 r.Zc,bf A1 n1 c1 r.Zb]):=by
 refine ce Tryz.func84 ?_;intro B7
 refine cl fun B8=> ?_
 refine sZ ?_;refine fY (dL J Ws) ?_
 refine cR h (fun _ k=>tI k) fun y9 h=> ?_
 refine gH J h ?_ ?_<;>intro h
 ·refine ab ?_;obtain rfl:=bD h;exact kI (rs:=[.cell 4 94]) (vs:=[.agg #[iV 0,iV 0,iV 0,iV 0,W none 0 0,W none 0 0]]) J (.cons (dy 0 J J agg94.out) .nil) J ((ci ay 28 _).trans ((ci ay 28 _).trans (cS [1,0] 10))) ⟨_,_,_,_,_,_,J,J⟩
 refine ab ?_;refine am (fun s L=> ∃p15 b0 b5 b6 b7 b9 d0 d1 d2 d3 d4 d6 e0,rS N p15 b0 b5 b6 b7 b9=some r/\s=[(4,pV B8 0),(5,pV d0 0)]/\L=[bf d1 d2 d3 b7,bf d4 d6 e0 b9,ah d0 94 [iV p15,iV b0,iV b5,iV b6,W d1 d2 d3,W d4 d6 e0],ah B8 94 [iV 0,iV 0,iV 0,iV 0,W none 0 0,W none 0 0]]) ?_ ?_
 ·refine bh O _ (ad _) ?_;refine zY [0,1,2,3,4,5] ?_;refine oA 6 10 O ?_ ?_
  ·obtain ⟨e1,k,h⟩:=aa h;refine bL J (oR (uL k)) J J J ?_;rintro _ _ ⟨_,⟨e2,e3,e4,a6,a7,a8,rfl,rfl⟩,rfl⟩;refine bY ?_;refine zY [7,8,9] ?_
   refine MN 10 J (bw zero94.out J) fun e9=> ?_
   refine zO 11 J (aj (us:=(iS e1.1 e2 e3 e4 a6 a7 a8)) (cs':=(iS e1.1 e2 e3 e4 a6 a7 a8)) 0 J J J J size94.out J J J) ?_;rintro _ _ rfl;refine bY ?_;refine zX [12] ?_;exact jY
  refine bL J (bw zero94.out J) J J J ?_;rintro _ _ ⟨f0,rfl,rfl⟩;refine bY ?_;obtain ⟨e5,k,h⟩:=aa h
  refine VP 6 J (oR (uL k)) fun a6 a7 a8 e6 e7 e8=> ?_
  refine zY [7,8,9] ?_;refine zO 11 J (aj (us:=(iS e5.1 a6 a7 a8 e6 e7 e8)) (cs':=(iS e5.1 a6 a7 a8 e6 e7 e8)) 2 J J J J size94.out J J J) ?_;rintro _ _ rfl;refine bY ?_;refine zX [12] ?_;exact jY
 refine fun s L=>aQ fun p15=>aQ fun b0=>aQ fun b5=>aQ fun b6=>aQ fun b7=>aQ fun b9=>aQ fun d0=>aQ fun d1=>aQ fun d2=>aQ fun d3=>aQ fun d4=>aQ fun d6=>aQ fun e0=>K9 fun h=> ?_
 exact eY
theorem xl {r:WI}: ∀v post,((fun (u:Value) (post:W8)=> ∃A0 n0 c0 A1 n1 c1,u=.agg #[iV r.Za,iV r.Zi,iV r.Ze,iV r.Zg,W A0 n0 c0,W A1 n1 c1]/\post=[bf A0 n0 c0 r.Zc,bf A1 n1 c1 r.Zb])) v post-> ∀c∈post,ij c:=by
 rintro _ _ ⟨_,_,_,_,_,_,rfl,rfl⟩;exact t5 qv (t5 qv (au))
theorem jH {N:Nat}{a1:WV}{r:WI}(h:bO N a0 a1=some r){B1 B2 B3:Nat}:Okc Xa 84 [pV B1 0,(aE a1)] ([pDWorld B1 B2 B3 a0]) (fun u post=> ∃A0 n0 c0 A1 n1 c1,u=.agg #[iV r.Za,iV r.Zi,iV r.Ze,iV r.Zg,W A0 n0 c0,W A1 n1 c1]/\post=[bf A0 n0 c0 r.Zc,bf A1 n1 c1 r.Zb]):=Nr 0 rfl (fun _=>zA h)
theorem vt {r:WI}: ∀v post,((fun (u:Value) (post:W8)=> ∃A0 n0 c0 A1 n1 c1,u=.agg #[iV r.Za,iV r.Zi,iV r.Ze,iV r.Zg,W A0 n0 c0,W A1 n1 c1]/\post=[bf A0 n0 c0 r.Zc,bf A1 n1 c1 r.Zb])) v post-> ∀c∈post,ij c:=xl
def cB (a0:WM)(a1:WV):Option (WI×Bool):=
 bif !decide (a1.Za=7) then (some ((⟨0,0,0,0,[],[]⟩:WI),false)) else ((bO N a0 a1).bind fun y9=>some (y9,decide (y9.Za=2)))
theorem fi {N:Nat}{a1:WV}{r:WI×Bool}(h:cB N a0 a1=some r){B1 B2 B3:Nat}:Okc Xa 41 [pV B1 0,(aE a1)] ([pDWorld B1 B2 B3 a0]) (fun u post=> ∃A0 n0 c0 A1 n1 c1,u=.tuple #[.agg #[iV r.1.Za,iV r.1.Zi,iV r.1.Ze,iV r.1.Zg,W A0 n0 c0,W A1 n1 c1],.bool r.2]/\post=[bf A0 n0 c0 r.1.Zc,bf A1 n1 c1 r.1.Zb]):=by
 refine ce Tryz.func41 ?_;intro B4
 refine cl fun B5=> ?_
 refine sZ ?_;refine fY (dL J Ws) ?_;refine gH J h ?_ ?_<;>intro h
 ·refine ab ?_;obtain rfl:=bD h;exact kI (rs:=[.cell 4 94,.tmp 5]) (vs:=[.agg #[iV 0,iV 0,iV 0,iV 0,W none 0 0,W none 0 0],.bool false]) J (.cons (dy 0 J J agg94.out) (.cons (dP J) .nil)) J ((ci ay 28 _).trans ((ci ay 28 _).trans (cS [1,0] 5))) ⟨_,_,_,_,_,_,J,J⟩
 refine Ix h (fun _ k=>jH k) fun y9 a6 a7 a8 b0 b5 b6 h=> ?_
 intro b7;refine ab ?_;refine aA ?_;refine bh O ([ah b7 94 (iS y9 a6 a7 a8 b0 b5 b6),bf a6 a7 a8 y9.Zc,bf b0 b5 b6 y9.Zb,ah B4 28 (bP a1),pDWorld B1 B2 B3 a0]) (cS [0,1,2,4,5] 6) ?_;refine ab ?_;refine zO 4 J (aj (us:=(iS y9 a6 a7 a8 b0 b5 b6)) (cs':=(iS y9 a6 a7 a8 b0 b5 b6)) 3 J J J J size94.out J J J) ?_;rintro _ _ rfl;refine bY ?_;exact eY
def eV (N:Nat){σ:Type}(fy:(Int×WV)->σ->Option (Bool×σ))(a1:WI):Nat->Int->σ->Option σ
 |0,_,_=>none
 |m4+1,p5,p6=>bif decide (p5<(a1.Zb.length:Int)) then ((aq a1.Zb p5).bind fun x8=>bif !decide (x8=(⟨8,0,(⟨#[]⟩:ByteArray)⟩:WV)) then ((fy (p5,x8) p6).bind fun a6=>bif !a6.1 then (some a6.2) else (aL (in64 (p5+1)) ((eV N fy a1 m4) (p5+1) a6.2))) else (aL (in64 (p5+1)) ((eV N fy a1 m4) (p5+1) p6))) else (some p6)
def sE (a1:WI)(fy:(Int×WV)->σ->Option (Bool×σ))(s0:σ):Option σ:=
 eV N fy a1 N 0 s0
theorem yA {N:Nat}{a1:WI}{fy:(Int×WV)->σ->Option (Bool×σ)}{s0 r:σ}(h:sE N a1 fy s0=some r){G:σ->W8}(hY:tg Xa l G (fun x=> [iV x.1,.agg #[iV x.2.Za,iV x.2.N,.string x.2.S]]) fy):Okc Xa 85 [.func (.yield l) #[] #[],pV B1 0] (aW B1 94 (iS a1 A2 n2 c2 A3 n3 c3)::aY A2 n2 c2 a1.Zc::aY A3 n3 c3 a1.Zb::rE::(G s0)) (fun u post=>u=.tuple #[]/\post=G r):=by
 refine ce Tryz.func85 ?_;refine lK (fun m s L=> ∃(p5:Int) (p6:σ),eV N fy a1 m p5 p6=some r/\s=[(0,.func (.yield l) #[] #[]),(6,W A3 n3 c3),(7,iV (a1.Zb.length:Int)),(8,iV p5)]/\L=aY A3 n3 c3 a1.Zb::rE::(G p6)) N ?_;rintro m4 _ _ ⟨p5,p6,h,rfl,rfl⟩;rw [eV.eq_2] at h;refine ab ?_;refine aA ?_;refine gH J h ?_ ?_<;>intro h
 ·refine sY ?_;obtain ⟨x8,a7,a8,b0,h⟩:=bz h
  refine cl fun B9=> ?_
  refine fY (C3 (x:=x8) (y:=(⟨8,0,(⟨#[]⟩:ByteArray)⟩:WV)) J J) ?_;refine eC 16 J (fun a6=> ?_) (fun a6=> ?_)
  ·replace h:=cG a6 h;refine ab ?_;obtain ⟨b5,k,h⟩:=aa h;refine Cp (vD (a:=(p5,x8)) [ah B9 28 [iV x8.Za,iV x8.N,.string x8.S],aY A3 n3 c3 a1.Zb,rE] hY k J J) J (ca a6 J) J ?_;rintro _ _ ⟨rfl,rfl⟩;refine dv h ?_ ?_<;>intro h
   ·exact eY
   refine ab ?_;obtain ⟨b6,h⟩:=ae h;exact lY
  replace h:=cH a6 h;refine ab ?_;refine fG J ?_;refine ab ?_;obtain ⟨b7,h⟩:=ae h;exact lY
 exact eY
def rv (N:Nat)(a0:WI):Option Unit:=
 some ()
theorem Cj {N:Nat}{a0:WI}{r:Unit}(h:rv N a0=some r):Okc Xa 42 [.agg #[iV a0.Za,iV a0.Zi,iV a0.Ze,iV a0.Zg,W A1 n1 c1,W A2 n2 c2]] ([aY A1 n1 c1 a0.Zc,aY A2 n2 c2 a0.Zb,rE]) (fun u post=> ∃a6,u=.func (.func 85) #[] #[pV a6 0]/\post=[ah a6 94 (iS a0 A1 n1 c1 A2 n2 c2)]):=by
 refine ce Tryz.func42 ?_;intro B3;refine ab ?_;refine fY (jd J) ?_;exact eN
def bX (N:Nat):Option WL:=
 some (⟨1,0,(⟨#[108,101,110,103,116,104]⟩:ByteArray)⟩:WL)
theorem jB {N:Nat}{r:WL}(h:bX N=some r):Okc Xa 43 [] ([]) (fun u post=>u=(eT r)/\post=[]):=by
 refine ce Tryz.func43 ?_;intro B1;exact eY
def gF (a0:WM)(a1:WV):Option (Unit ⊕ WN):=
 bif !decide (a1.Za=7) then (some (.inl ())) else ((bO N a0 a1).bind fun y6=>(bif decide ((y6.Zc.length:Int)=0) then (some true) else ((aq y6.Zc 0).bind fun a6=>(bif !decide (a6.Za=1) then ((aq y6.Zc 0).bind fun a7=>some (!decide (a7.Za=7))) else (some false)).bind fun b12=>some b12)).bind fun a8=>bif a8 then (some (.inl ())) else (some (.inr (⟨y6,a0,a1⟩:WN))))
theorem db {N:Nat}{a1:WV}{r:(Unit ⊕ WN)}(h:gF N a0 a1=some r){B1 B2 B3:Nat}:Okc Xa 78 [pV B1 0,(aE a1)] ([pDWorld B1 B2 B3 a0]) (fun u post=>SM (fun (r:Unit)=>u=.tuple #[.pointer none,.bool false]/\post=[]) (fun (r:WN)=> ∃B0 A1 n1 c1 A2 n2 c2,u=.tuple #[pV B0 0,.bool true]/\post=[ah B0 135 [iV r.Zn.Za,iV r.Zn.Zi,iV r.Zn.Ze,iV r.Zn.Zg,W A1 n1 c1,W A2 n2 c2,pV B1 0,iV r.at_.Za,iV r.at_.N,.string r.at_.S],bf A1 n1 c1 r.Zn.Zc,bf A2 n2 c2 r.Zn.Zb]) r):=by
 refine CJ Tryz.func78 J J ?_;simp only [qQ];refine Y ?_
 refine gB (rf J J) fun B4=> ?_
 refine Y ?_;refine aA ?_;refine Y ?_;refine gE (dL J Ws) ?_;refine Y ?_;refine gH J h ?_ ?_<;>intro h
 ·refine Y ?_;obtain rfl:=bD h;exact PG J J J (cS [] 2) ⟨J,J⟩
 refine Y ?_;refine aA ?_;refine bh O _ (ad _) ?_;refine yY [0,1,3,4] ?_;obtain ⟨y6,k,h⟩:=aa h;refine zD 2 J (aH (jH k) J (t5 (dc (i:=1) J J) au) vt) ?_;rintro _ _ ⟨_,⟨A7,n7,c7,A8,n8,c8,rfl,rfl⟩,rfl⟩;refine mj (cS [2,3] 4) ?_;refine zE 5 J (nB J (bld_135_0_1_2 _ _ _ _ _ _ _ _ _ _ _ _ _ _).out) ?_;refine zD 6 J (rf J J) ?_;rintro _ _ ⟨B9,rfl,rfl⟩;refine mj (cS [3,4] 5) ?_;refine zE 7 J (cm J) ?_;refine bq O ?_;refine qk ?_;refine aA ?_;refine Y ?_;refine gR (lj 1 J ao J t9) ?_;refine Y ?_
 refine JA 21 49 28 h (fun _ b7 h=> ?_) (fun _ b7 h=> ?_) fun d2 h=> ?_
 ·refine Y ?_;obtain rfl:=bD h;exact aU sA (cS [0,1,2,3,4] 5)
 ·refine Y ?_;obtain ⟨d0,a6,h⟩:=aa h;obtain ⟨a8,b0,a6⟩:=jZ a6;refine sc (cM 1 J ao J J t9 size28.out a8 b0) J (dw b7 J) J ?_;refine sc (sg 1 J ao J (toNat_lt a8 b0) sW) J (dw b7 J) J ?_;refine sc (mq (u:=iV d0.Za) 1 J ao J a6 va (fun _ _ _ h=>by rw [show _=_ from h];rfl)) J (dw b7 J) J ?_;refine Y ?_
  refine JA 10 48 38 h (fun _ b9 h=> ?_) (fun _ b9 h=> ?_) fun b12 h=> ?_
  ·refine Y ?_;obtain ⟨d1,a7,h⟩:=aa h;obtain ⟨b5,b6,a7⟩:=jZ a7;refine sc (cM 1 J ao J J t9 size28.out b5 b6) J (ca b9 J) J ?_;refine sc (sg 1 J ao J (toNat_lt b5 b6) sW) J (ca b9 J) J ?_;refine sc (mq (u:=iV d1.Za) 1 J ao J a7 va (fun _ _ _ h=>by rw [show _=_ from h];rfl)) J (ca b9 J) J ?_;refine Y ?_;obtain rfl:=bD h;exact aU sA (cS [0,1,2,3,4] 5)
  ·refine Y ?_;obtain rfl:=bD h;exact aU sA (cS [0,1,2,3,4] 5)
  refine Y ?_;obtain rfl:=bD h;exact aU sA (cS [0,1,2,3,4] 5)
 refine Y ?_;refine gH J h ?_ ?_<;>intro h
 ·refine Y ?_;obtain rfl:=bD h;exact PG J J J (cS [] 5) ⟨J,J⟩
 refine Y ?_;obtain rfl:=bD h;exact PG J J J (cS [0,1,2] 5) ⟨_,_,_,_,_,_,_,J,J⟩
def cV (N:Nat)(a0:WM):Option Unit:=
 some ()
theorem xe {N:Nat}{r:Unit}(h:cV N a0=some r):Okc Xa 86 [pV B1 0] ([aW B1 81 (zZ a0 B2 B3 A4 n4 c4 A5 n5 c5 A6 n6 c6),pDHeap B2 a0.Zo,pDTable B3 a0.Zp,gK sJ (W A4 n4 c4) a0.Zy,gK nI (W A5 n5 c5) a0.Zz,gK sJ (W A6 n6 c6) a0.ZA]) (fun u post=>u=pV B3 0/\post=[]):=by
 refine ce Tryz.func86 ?_;refine sZ ?_;refine fY (dL J Ws) ?_;refine fG J ?_;exact eY
theorem eP {N:Nat}{r:Unit}(h:cV N a0=some r){B1 B2 B3:Nat}:Okc Xa 86 [pV B1 0] ([pDWorld B1 B2 B3 a0]) (fun u post=>u=pV B3 0/\post=[]):=Nr 0 rfl (fun _=>xe h)
def ft (N:Nat)(a0:WQ)(a1:Int):Option Bool:=
 (bif decide (0<=a1) then (some (decide (a1<(a0.Zp.length:Int)))) else (some false)).bind fun b4=>some b4
theorem pm {N:Nat}{a0:WQ}{r:Bool}(h:ft N a0 a1=some r):Okc Xa 175 [pV B1 0,iV a1] ([aW B1 170 [W A2 n2 c2,.map (some M3)],gK bC (W A2 n2 c2) a0.Zp,qJ eo vV M3 a0.ZD]) (fun u post=>u=.bool r/\post=[]):=by
 refine ce Tryz.func175 ?_;refine fY (vQ J Tryz.underlying77) ?_;refine gS 8 19 11 h ?_;intro b4 h;exact eY
def nF (a0:WQ)(a1:Int):Option (WE×Bool):=
 (ft N a0 a1).bind fun y5=>bif !y5 then (some ((⟨0,(⟨0,0,⟨#[]⟩⟩:WL),0,0⟩:WE),false)) else ((aq a0.Zp a1).bind fun x7=>some (x7,true))
theorem AU {N:Nat}{a0:WQ}{r:WE×Bool}(h:nF N a0 a1=some r):Okc Xa 186 [pV B1 0,iV a1] ([aW B1 170 [W A2 n2 c2,.map (some M3)],gK bC (W A2 n2 c2) a0.Zp,qJ eo vV M3 a0.ZD]) (fun u post=>u=.tuple #[(Rp r.1),.bool r.2]/\post=[]):=by
 refine ce Tryz.func186 ?_;intro B4;refine sY ?_
 refine cR h (fun _ k=>pm k) fun y5 h=> ?_
 refine gH J h ?_ ?_<;>intro h
 ·exact eY
 refine ab ?_;obtain ⟨x7,a6,a7,a8,h⟩:=bz h;exact eY
def fu (a0:WQ)(a1:Int):Option Int:=
 (nF N a0 a1).bind fun y4=>some y4.1.ZC
theorem pn {N:Nat}{a0:WQ}{r:Int}(h:fu N a0 a1=some r):Okc Xa 148 [pV B1 0,iV a1] ([aW B1 170 [W A2 n2 c2,.map (some M3)],gK bC (W A2 n2 c2) a0.Zp,qJ eo vV M3 a0.ZD]) (fun u post=>u=iV r/\post=[]):=by
 refine ce Tryz.func148 ?_
 refine cR h (fun _ k=>AU k) fun y4 h=> ?_
 intro B5;exact eY
theorem xx {N:Nat}{a0:WQ}{r:Int}(h:fu N a0 a1=some r):Okc Xa 148 [pV B1 0,iV a1] ([pDTable B1 a0]) (fun u post=>u=iV r/\post=[]):=Nr 0 rfl (fun _=>pn h)
def tH (N:Nat)(p8:List WE):Option (List WE):=
 some p8
def kP (N:Nat)(a0:WQ):Nat->Int->(List WE)->Int->Option (List WE)
 |0,_,_,_=>none
 |a8+1,b0,a7,p13=>bif decide (0<=p13) then ((aq a0.Zp b0).bind fun a6=>(aq a7 p13).bind fun b6=>(aq (List.set a7 p13.toNat (⟨a6.Up,(⟨a6.Zf.Za,a6.Zf.N,a6.Zf.S⟩:WL),a6.Zd,a6.ZC⟩:WE)) p13).bind fun b5=>aL (in64 (p13 - 1)) ((kP N a0 a8) b5.Up (List.set a7 p13.toNat (⟨a6.Up,(⟨a6.Zf.Za,a6.Zf.N,a6.Zf.S⟩:WL),a6.Zd,a6.ZC⟩:WE)) (p13 - 1))) else (tH N a7)
def fq (a0:WQ)(a1:Int):Option (List WE):=
 (fu N a0 a1).bind fun y4=>aL (0<=y4/\y4<=1000000) (aL (in64 (((List.replicate y4.toNat (⟨0,(⟨0,0,⟨#[]⟩⟩:WL),0,0⟩:WE)).length:Int) - 1)) (kP N a0 N a1 (List.replicate y4.toNat (⟨0,(⟨0,0,⟨#[]⟩⟩:WL),0,0⟩:WE)) (((List.replicate y4.toNat (⟨0,(⟨0,0,⟨#[]⟩⟩:WL),0,0⟩:WE)).length:Int) - 1)))
theorem lP {N:Nat}{a0:WQ}{r:List WE}(h:fq N a0 a1=some r):Okc Xa 130 [pV B1 0,iV a1] ([aW B1 170 [W A2 n2 c2,.map (some M3)],gK bC (W A2 n2 c2) a0.Zp,qJ eo vV M3 a0.ZD]) (fun u post=> ∃A0 n0 c0,u=W A0 n0 c0/\post=[bd bC 166 (W A0 n0 c0) r]):=by
 refine ce Tryz.func130 ?_;obtain ⟨y4,k,h⟩:=aa h;refine gV (oR (pn k)) ?_;obtain ⟨q5,h⟩:=ae h
 refine vc (QR (R:=bC) (zl:=[iV 0,iV 0,iV 0,.string (⟨#[]⟩),iV 0,iV 0]) (x0:=(⟨0,(⟨0,0,⟨#[]⟩⟩:WL),0,0⟩:WE)) J J Wm J J J J J (by decide) (fun _ _=>J) q5) fun A6 n6 c6=> ?_
 refine am (fun s L=> ∃p8 A8 n8 c8,tH N p8=some r/\s=[(4,W none 0 0),(5,W A8 n8 c8)]/\L=[bd bC 166 (W A8 n8 c8) p8]) ?_ ?_
 ·refine ab ?_;obtain ⟨q9,h⟩:=ae h;refine ab ?_;refine lK (fun m s L=> ∃(b6:Int) (a7:List WE) (p13:Int) (a8:Option Addr) (b0 b5:Nat),kP N a0 m b6 a7 p13=some r/\s=[(0,pV B1 0),(1,iV b6),(4,W none 0 0),(5,W a8 b0 b5),(6,iV p13)]/\L=[bd bC 166 (W a8 b0 b5) a7,gK bC (W A2 n2 c2) a0.Zp,qJ eo vV M3 a0.ZD,aW B1 170 [W A2 n2 c2,.map (some M3)]]) N ?_;rintro d3 _ _ ⟨b6,a7,p13,a8,b0,b5,h,rfl,rfl⟩;rw [kP.eq_2] at h;refine sZ ?_;refine gH J h ?_ ?_<;>intro h
  ·refine sY ?_;obtain ⟨a6,d4,d6,e0,h⟩:=bz h;refine ab ?_;obtain ⟨e3,b7,b9,d0,h⟩:=bz h;refine ab ?_;refine G8 (cg (us:=D9 a6) (z:=(⟨a6.Up,(⟨a6.Zf.Za,a6.Zf.N,a6.Zf.S⟩:WL),a6.Zd,a6.ZC⟩:WE)) 0 J J J J size166.out J (toNat_lt b7 b9) J (fun S w vs xk hk hr ho=>by obtain rfl:=YM (hk.symm.trans d0);rw [show _=_ from hr];rfl)) ?_;obtain ⟨e1,d1,d2,e2,h⟩:=bz h;refine ab ?_;refine K7 (sg 0 J ao J (toNat_lt d1 d2) FJ) ?_;obtain ⟨e4,h⟩:=ae h;refine ab ?_;exact ⟨d3,_,_,W0 _,⟨e1.Up,List.set a7 p13.toNat (⟨a6.Up,(⟨a6.Zf.Za,a6.Zf.N,a6.Zf.S⟩:WL),a6.Zd,a6.ZC⟩:WE),p13 - 1,a8,b0,b5,h,J,J⟩,sA,cS [0,1,2,3] 4⟩
  exact jY
 rintro _ _ ⟨p8,A8,n8,c8,h,rfl,rfl⟩;exact eY
def rR (N:Nat)(p5:W5):Option W5:=
 some p5
def kj (N:Nat)(y6:((List WE))):Nat->W5->Int->Option W5
 |0,_,_=>none
 |m8+1,p9,a6=>bif decide (a6<(y6.length:Int)) then ((aq y6 a6).bind fun a7=>aL (cF (p9.length+([a7.Zd]:List Int).length)) (aL (in64 (a6+1)) ((kj N y6 m8) (p9++([a7.Zd]:List Int)) (a6+1)))) else (rR N p9)
def fK (a0:WQ)(a1:Int):Option W5:=
 (fq N a0 a1).bind fun y6=>kj N y6 N [] 0
theorem xy {N:Nat}{a0:WQ}{r:W5}(h:fK N a0 a1=some r):Okc Xa 87 [pV B1 0,iV a1] ([aW B1 170 [W A2 n2 c2,.map (some M3)],gK bC (W A2 n2 c2) a0.Zp,qJ eo vV M3 a0.ZD]) (fun u post=> ∃A0 n0 c0,u=W A0 n0 c0/\post=[ur A0 n0 c0 r]):=by
 refine ce Tryz.func87 ?_;refine am (fun s L=> ∃p5 A5 n5 c5,rR N p5=some r/\s=[(4,W none 0 0),(5,W A5 n5 c5)]/\L=[ur A5 n5 c5 p5]) ?_ ?_
 ·refine ab ?_;obtain ⟨y6,k,h⟩:=aa h
  refine vc (oR (lP k)) fun A7 n7 c7=> ?_
  refine iX (fun m s L=> ∃p9 a6 A9 n9 c9,kj N y6 m p9 a6=some r/\s=[(4,W none 0 0),(5,W A9 n9 c9),(10,W A7 n7 c7),(11,iV (y6.length:Int)),(12,iV a6)]/\L=[ur A9 n9 c9 p9,bd bC 166 (W A7 n7 c7) y6]) N _ _ ⟨[],0,none,0,0,h,J,J⟩ sA ((ci (nH .i64) 3 _).trans (cS [0,1] 5)) ?_;rintro (_|m8) _ _ ⟨p9,a6,A9,n9,c9,h,rfl,rfl⟩
  ·exact aJ h
  rw [kj.eq_2] at h;refine ab ?_;refine aA ?_;refine gH J h ?_ ?_<;>intro h
  ·refine sY ?_;obtain ⟨a7,a8,b0,b5,h⟩:=bz h
   refine cl fun b7=> ?_
   refine gD (aB (R:=(nH .i64)) (vss:=[[iV a7.Zd]]) (xs:=[a7.Zd]) J (ru _) J J (fun _ _ hr=> .cons J All2.nil)) ?_;rintro _ _ ⟨b9,d0,d1,rfl,rfl⟩;obtain ⟨b6,h⟩:=ae h
   refine vc (aX 2 0 J J ao J J Wl Sg J J b6) fun d2 d3 d4=> ?_
   obtain ⟨d6,h⟩:=ae h;exact lY
  exact jY
 rintro _ _ ⟨p5,A5,n5,c5,h,rfl,rfl⟩;exact eY
theorem wc {N:Nat}{a0:WQ}{r:W5}(h:fK N a0 a1=some r):Okc Xa 87 [pV B1 0,iV a1] ([pDTable B1 a0]) (fun u post=> ∃A0 n0 c0,u=W A0 n0 c0/\post=[ur A0 n0 c0 r]):=Nr 0 rfl (fun _=>xy h)
def sw (N:Nat)(p5:WX):Option WX:=
 some p5
def kR (N:Nat)(y6:((List WE))):Nat->WX->Int->Option WX
 |0,_,_=>none
 |m8+1,p9,a6=>bif decide (a6<(y6.length:Int)) then ((aq y6 a6).bind fun a7=>aL (cF (p9.length+([a7.Zf]:List WL).length)) (aL (in64 (a6+1)) ((kR N y6 m8) (p9++([a7.Zf]:List WL)) (a6+1)))) else (sw N p9)
def gk (a0:WQ)(a1:Int):Option WX:=
 (fq N a0 a1).bind fun y6=>kR N y6 N [] 0
theorem zt {N:Nat}{a0:WQ}{r:WX}(h:gk N a0 a1=some r):Okc Xa 88 [pV B1 0,iV a1] ([aW B1 170 [W A2 n2 c2,.map (some M3)],gK bC (W A2 n2 c2) a0.Zp,qJ eo vV M3 a0.ZD]) (fun u post=> ∃A0 n0 c0,u=W A0 n0 c0/\post=[nE A0 n0 c0 r]):=by
 refine ce Tryz.func88 ?_;refine am (fun s L=> ∃p5 A5 n5 c5,sw N p5=some r/\s=[(4,W none 0 0),(5,W A5 n5 c5)]/\L=[nE A5 n5 c5 p5]) ?_ ?_
 ·refine ab ?_;obtain ⟨y6,k,h⟩:=aa h
  refine vc (oR (lP k)) fun A7 n7 c7=> ?_
  refine iX (fun m s L=> ∃p9 a6 A9 n9 c9,kR N y6 m p9 a6=some r/\s=[(4,W none 0 0),(5,W A9 n9 c9),(10,W A7 n7 c7),(11,iV (y6.length:Int)),(12,iV a6)]/\L=[nE A9 n9 c9 p9,bd bC 166 (W A7 n7 c7) y6]) N _ _ ⟨[],0,none,0,0,h,J,J⟩ sA ((ci nY 39 _).trans (cS [0,1] 5)) ?_;rintro (_|m8) _ _ ⟨p9,a6,A9,n9,c9,h,rfl,rfl⟩
  ·exact aJ h
  rw [kR.eq_2] at h;refine ab ?_;refine aA ?_;refine gH J h ?_ ?_<;>intro h
  ·refine sY ?_;obtain ⟨a7,a8,b0,b5,h⟩:=bz h
   refine cl fun b7=> ?_
   refine gD (aB (R:=nY) (vss:=[(lH a7.Zf)]) (xs:=[a7.Zf]) J (yw _ _ _) J J (fun _ _ hr=> .cons J All2.nil)) ?_;rintro _ _ ⟨b9,d0,d1,rfl,rfl⟩;obtain ⟨b6,h⟩:=ae h
   refine vc (aX 2 0 J J ao J J Wj Ok J J b6) fun d2 d3 d4=> ?_
   obtain ⟨d6,h⟩:=ae h;exact lY
  exact jY
 rintro _ _ ⟨p5,A5,n5,c5,h,rfl,rfl⟩;exact eY
theorem xb {N:Nat}{a0:WQ}{r:WX}(h:gk N a0 a1=some r):Okc Xa 88 [pV B1 0,iV a1] ([pDTable B1 a0]) (fun u post=> ∃A0 n0 c0,u=W A0 n0 c0/\post=[nE A0 n0 c0 r]):=Nr 0 rfl (fun _=>zt h)
def mK (N:Nat)(a2:WL)(a3 a6 a7:Int)(a8:ByteArray)(b0 p21:Int)(b5:ByteArray):Option WU:=
 some (⟨a2,a3,(⟨0,0,⟨#[]⟩⟩:WV),(⟨a6,a7,a8⟩:WV),(⟨b0,p21,b5⟩:WV)⟩:WU)
def fM (a0:WN)(a1:Int)(a2:WL)(a3:Int):Option WU:=
 aL (in64 (a1+1)) (bif decide ((a0.Zn.Zc.length:Int)<=a1+1) then (some (⟨a2,a3,(⟨0,0,⟨#[]⟩⟩:WV),(⟨0,0,⟨#[]⟩⟩:WV),(⟨0,0,⟨#[]⟩⟩:WV)⟩:WU)) else (aL (in64 (a1+1)) ((aq a0.Zn.Zc (a1+1)).bind fun b0=>bif decide (ai .i64 a3 8=0) then (some (⟨a2,a3,b0,(⟨0,0,⟨#[]⟩⟩:WV),(⟨0,0,⟨#[]⟩⟩:WV)⟩:WU)) else ((bO N a0.w_ b0).bind fun a6=>bif decide ((a6.Zc.length:Int)=2) then ((aq a6.Zc 0).bind fun a7=>(aq a6.Zc 1).bind fun a8=>mK N a2 a3 a7.Za a7.N a7.S a8.Za a8.N a8.S) else (mK N a2 a3 0 0 (⟨#[]⟩) 0 0 (⟨#[]⟩))))))
theorem rW {N:Nat}{a0:WN}{a2:WL}{r:WU}(h:fM N a0 a1 a2 a3=some r){B4 B5 B6:Nat}:Okc Xa 89 [pV B1 0,iV a1,(eT a2),iV a3] ([aW B1 135 [iV a0.Zn.Za,iV a0.Zn.Zi,iV a0.Zn.Ze,iV a0.Zn.Zg,W A2 n2 c2,W A3 n3 c3,pV B4 0,iV a0.at_.Za,iV a0.at_.N,.string a0.at_.S],aY A2 n2 c2 a0.Zn.Zc,aY A3 n3 c3 a0.Zn.Zb,pDWorld B4 B5 B6 a0.w_]) (fun u post=>u=(cc r)/\post=[]):=by
 refine ce Tryz.func89 ?_;intro B7
 refine cl fun B8=> ?_
 intro B9;refine sY ?_;obtain ⟨g3,h⟩:=ae h;refine dv h ?_ ?_<;>intro h
 ·exact eY
 refine ab ?_;obtain ⟨g4,h⟩:=ae h;refine ab ?_;obtain ⟨a7,e4,e5,e6,h⟩:=bz h
 refine cl fun d3=> ?_
 refine sZ ?_;refine fY (aI J J) ?_;refine gH J h ?_ ?_<;>intro h
 ·exact eY
 refine ab ?_;refine am (fun s L=> ∃d4 d6 e0 e1 p21 e2,mK N a2 a3 d4 d6 e0 e1 p21 e2=some r/\s=[(8,pV B8 0),(9,pV B9 0)]/\L=[ah B8 50 [iV 0,iV 0,.string (⟨#[]⟩),iV 0,iV 0,iV 0,.string (⟨#[]⟩),iV 0,iV 0,.string (⟨#[]⟩),iV 0,iV 0,.string (⟨#[]⟩)],ah B9 50 [iV a2.Za,iV a2.N,.string a2.S,iV a3,iV 0,iV 0,.string (⟨#[]⟩),iV d4,iV d6,.string e0,iV e1,iV p21,.string e2]]) ?_ ?_
 ·refine aA ?_;obtain ⟨a6,e3,h⟩:=aa h;refine gw (t:=[(0,pV B1 0),(8,pV B8 0),(9,pV B9 0),(10,pV d3 0)]) ?_ mh (ad _)
  refine iW O 7 [] [5,6] [40,41,42,43,44,45,11] [[],[0],[1],[2],[],[3,4],[]] [aV (pV B1 0),
aV (pV B1 0),
aV (pV B1 6),
aV (pV B4 0),
aV (.agg #[iV a7.Za,iV a7.N,.string a7.S]),
aX6 (fun (a8:Option Addr) (b0 b5:Nat) (b6:Option Addr) (b7 b9:Nat)=> .agg #[iV a6.Za,iV a6.Zi,iV a6.Ze,iV a6.Zg,W a8 b0 b5,W b6 b7 b9]) (fun a8 b0 b5 b6 b7 b9=> [bf a8 b0 b5 a6.Zc,bf b6 b7 b9 a6.Zb]),
aX1 (fun (d1:Nat)=>pV d1 0) (fun d1=> [ah d1 94 [iV 0,iV 0,iV 0,iV 0,W none 0 0,W none 0 0]])] [] (ad _) (mc) O rfl rfl ?_ ?_ ?_
  ·exact mb
  ·refine aF J ?_ ?_
   ·refine th (bw zero94.out J) J ?_;rintro _ _ ⟨e7,rfl,rfl⟩;exact N0 e7 (ad _)
   refine aF J ?_ ?_
   ·refine th (oR (jH e3)) J ?_;rintro _ _ ⟨_,⟨e8,e9,f0,f1,f2,f3,rfl,rfl⟩,rfl⟩;exact Vw e8 e9 f0 f1 f2 f3 (ad _)
   refine qR (ax (us:=[iV a7.Za,iV a7.N,.string a7.S]) 0 J J agg28.out J) ?_;refine qR (Bg 4 J J Sq J) ?_;refine qE (kH J JI) ?_;refine qE (dE J) ?_;refine qE (ap J) ?_;exact dH
  intro a8 b0 b5 b6 b7 b9 d1;refine oe (t:=[(45,.agg #[iV a6.Za,iV a6.Zi,iV a6.Ze,iV a6.Zg,W a8 b0 b5,W b6 b7 b9]),(11,pV d1 0),(0,pV B1 0),(8,pV B8 0),(9,pV B9 0),(10,pV d3 0)]) (L':=[bf a8 b0 b5 a6.Zc,bf b6 b7 b9 a6.Zb,ah d1 94 [iV 0,iV 0,iV 0,iV 0,W none 0 0,W none 0 0],ah d3 28 [iV a7.Za,iV a7.N,.string a7.S],ah B9 50 [iV a2.Za,iV a2.N,.string a2.S,iV a3,iV 0,iV 0,.string (⟨#[]⟩),iV 0,iV 0,.string (⟨#[]⟩),iV 0,iV 0,.string (⟨#[]⟩)],ah B8 50 [iV 0,iV 0,.string (⟨#[]⟩),iV 0,iV 0,iV 0,.string (⟨#[]⟩),iV 0,iV 0,.string (⟨#[]⟩),iV 0,iV 0,.string (⟨#[]⟩)],ah B7 39 (lH a2),aW B1 135 [iV a0.Zn.Za,iV a0.Zn.Zi,iV a0.Zn.Ze,iV a0.Zn.Zg,W A2 n2 c2,W A3 n3 c3,pV B4 0,iV a0.at_.Za,iV a0.at_.N,.string a0.at_.S],aY A2 n2 c2 a0.Zn.Zc,aY A3 n3 c3 a0.Zn.Zb,pDWorld B4 B5 B6 a0.w_]) ?_ mh (ad _);refine pO 7 J O (aj (us:=(iS a6 a8 b0 b5 b6 b7 b9)) (cs':=(iS a6 a8 b0 b5 b6 b7 b9)) 2 J J J J size94.out J J J) J J ?_;rintro _ _ rfl;refine zW ?_;refine mg O ?_;refine dv h ?_ ?_<;>intro h
  ·refine bh O ([bf a8 b0 b5 a6.Zc,bf b6 b7 b9 a6.Zb,ah d1 94 (iS a6 a8 b0 b5 b6 b7 b9),ah d3 28 [iV a7.Za,iV a7.N,.string a7.S],ah B8 50 [iV 0,iV 0,.string (⟨#[]⟩),iV 0,iV 0,iV 0,.string (⟨#[]⟩),iV 0,iV 0,.string (⟨#[]⟩),iV 0,iV 0,.string (⟨#[]⟩)],ah B7 39 (lH a2),aW B1 135 [iV a0.Zn.Za,iV a0.Zn.Zi,iV a0.Zn.Ze,iV a0.Zn.Zg,W A2 n2 c2,W A3 n3 c3,pV B4 0,iV a0.at_.Za,iV a0.at_.N,.string a0.at_.S],aY A2 n2 c2 a0.Zn.Zc,aY A3 n3 c3 a0.Zn.Zb,pDWorld B4 B5 B6 a0.w_]) (cS [0,1,2,3,5,6,7,8,9,10] 11) ?_;refine ab ?_;obtain ⟨d0,f4,f6,f9,h⟩:=bz h;refine ab ?_;obtain ⟨d2,g0,g1,g2,h⟩:=bz h;refine ab ?_;refine zO 9 J (aj (us:=[iV d0.Za,iV d0.N,.string d0.S]) (cs':=[iV a2.Za,iV a2.N,.string a2.S,iV a3,iV 0,iV 0,.string (⟨#[]⟩),iV d0.Za,iV d0.N,.string d0.S,iV 0,iV 0,.string (⟨#[]⟩)]) 4 J J J J size28.out J J J) ?_;rintro _ _ rfl;refine bY ?_;refine ab ?_;refine zO 11 J (aj (us:=[iV d2.Za,iV d2.N,.string d2.S]) (cs':=[iV a2.Za,iV a2.N,.string a2.S,iV a3,iV 0,iV 0,.string (⟨#[]⟩),iV d0.Za,iV d0.N,.string d0.S,iV d2.Za,iV d2.N,.string d2.S]) 4 J J J J size28.out J J J) ?_;rintro _ _ rfl;refine bY ?_;exact jY
  exact jY
 rintro _ _ ⟨d4,d6,e0,e1,p21,e2,h,rfl,rfl⟩;exact eY
def vF (N:Nat)(a6:W7):Option W7:=
 some a6
def nL (N:Nat)(a7:WX)(b0:W5)(y5_1:WN)(a0:WM):Nat->W7->Int->Option W7
 |0,_,_=>none
 |b6+1,a8,a6=>bif decide (a6<(a7.length:Int)) then ((aq a7 a6).bind fun b7=>(aq b0 a6).bind fun b9=>(fM N (⟨y5_1.Zn,a0,y5_1.at_⟩:WN) a6 b7 b9).bind fun b5=>aL ((a8.length+([b5]:List WU).length)<=549755813888) (aL (in64 (a6+1)) ((nL N a7 b0 y5_1 a0 b6) (a8++([b5]:List WU)) (a6+1)))) else (vF N a8)
def ju (a0:WM)(a1:WV):Option W7:=
 (gF N a0 a1).bind fun y5=>DY y5 (fun y5_0=>some []) (fun y5_1=>(cV N a0).bind fun a8=>(fK N a0.Zp y5_1.Zn.Zi).bind fun a6=>(cV N a0).bind fun b0=>(gk N a0.Zp y5_1.Zn.Zi).bind fun a7=>nL N a7 a6 y5_1 a0 N [] 0)
theorem o3 {N:Nat}{a1:WV}{r:W7}(h:ju N a0 a1=some r){B1 B2 B3:Nat}:Okc Xa 44 [pV B1 0,(aE a1)] ([pDWorld B1 B2 B3 a0]) (fun u post=> ∃A0 n0 c0,u=W A0 n0 c0/\post=[bd iq 50 (W A0 n0 c0) r]):=by
 refine ce Tryz.func44 ?_;intro B4;refine ab ?_;obtain ⟨y5,e9,h⟩:=aa h;rcases y5 with y5_0|y5_1
 ·replace h:=GD h;refine gD (oR (db e9)) ?_;rintro _ _ ⟨_,⟨rfl,rfl⟩,rfl⟩;refine sY ?_;refine iN J ?_;refine ab ?_;obtain rfl:=bD h;exact od J J ((ci iq 50 _).trans (cS [0] 3)) ⟨_,_,_,J,J⟩
 replace h:=GC h;refine gD (oR (db e9)) ?_;rintro _ _ ⟨_,⟨B7,A8,n8,c8,A9,n9,c9,rfl,rfl⟩,rfl⟩;refine sY ?_;refine fG J ?_;refine ab ?_;refine dY [0,2,3,4,5,6] ?_;obtain ⟨f6,k,h⟩:=aa h;refine zD 1 J (oR (eP k)) ?_;rintro _ _ ⟨_,⟨rfl,rfl⟩,rfl⟩;refine ⟨_,ad _,ad _,?_⟩;obtain ⟨d6,k,h⟩:=aa h
 refine Dc 7 J (oR (wc k)) fun b6 b7 b9=> ?_
 refine zX [8] ?_;refine ab ?_;refine am (fun s L=> ∃e0 e1 e2 e3,vF N e0=some r/\s=[(4,W none 0 0),(7,W e1 e2 e3)]/\L=[bd iq 50 (W e1 e2 e3) e0]) ?_ ?_
 ·refine dY [0,2,3,4,5,6,9] ?_;obtain ⟨f9,k,h⟩:=aa h;refine zD 1 J (oR (eP k)) ?_;rintro _ _ ⟨_,⟨rfl,rfl⟩,rfl⟩;refine ⟨_,ad _,ad _,?_⟩;obtain ⟨d0,k,h⟩:=aa h
  refine Dc 7 J (oR (xb k)) fun d1 d2 d3=> ?_
  refine zD 8 J (vE (lj 0 J ao J Wj)) ?_;rintro _ _ ⟨rfl,rfl⟩;refine bY ?_;refine bq O ?_;refine ab ?_;refine iX (fun m s L=> ∃d4 a7 a8 b0 b5,nL N d0 d6 y5_1 a0 m d4 a7=some r/\s=[(4,W none 0 0),(5,pV B7 0),(7,W a8 b0 b5),(8,W b6 b7 b9),(34,W d1 d2 d3),(35,iV (d0.length:Int)),(36,iV a7)]/\L=[bd iq 50 (W a8 b0 b5) d4,ur b6 b7 b9 d6,nE d1 d2 d3 d0,bf A8 n8 c8 y5_1.Zn.Zc,bf A9 n9 c9 y5_1.Zn.Zb,ah B7 135 [iV y5_1.Zn.Za,iV y5_1.Zn.Zi,iV y5_1.Zn.Ze,iV y5_1.Zn.Zg,W A8 n8 c8,W A9 n9 c9,pV B1 0,iV y5_1.at_.Za,iV y5_1.at_.N,.string y5_1.at_.S],pDWorld B1 B2 B3 a0]) N _ _ ⟨[],0,none,0,0,h,J,J⟩ sA ((ci iq 50 _).trans (cS [0,2,1,4,5,3,7] 8)) ?_;rintro (_|g0) _ _ ⟨d4,a7,a8,b0,b5,h,rfl,rfl⟩
  ·exact aJ h
  rw [nL.eq_2] at h;refine ab ?_;refine aA ?_;refine gH J h ?_ ?_<;>intro h
  ·refine sY ?_;obtain ⟨a6,f1,f2,f3,h⟩:=bz h
   refine cl fun e4=> ?_
   obtain ⟨e5,e6,e7,e8,h⟩:=bz h;refine gw (t:=[(4,W none 0 0),(5,pV B7 0),(7,W a8 b0 b5),(8,W b6 b7 b9),(9,iV a7),(10,pV e4 0),(34,W d1 d2 d3),(35,iV (d0.length:Int)),(36,iV a7)]) ?_ mh (ad _)
   refine iW O 8 [0] [0,1,2,3,7] [41,42,43,44,45,46,47,48] [[],[],[],[],[],[],[4,5],[6]] [aV (W a8 b0 b5),
aV (pV B7 0),
aV (iV a7),
aV (.agg #[iV a6.Za,iV a6.N,.string a6.S]),
aV (W b6 b7 b9),
aV (iV a7),
aV (dF (W b6 b7 b9) a7.toNat 1 0),
aV (iV e5)] [] (ad _) (fA rfl mc) O rfl rfl ?_ ?_ ?_
   ·refine fz J ?_ ?_
    ·exact nD (ap J) J (iL J (ad _))
    exact mb
   ·refine aF J ?_ ?_
    ·exact yE (mq (u:=iV e5) 2 J ao J e8 va (fun _ _ _ h=>by rw [show _=_ from h];rfl)) J (iL J (ad _))
    refine qR (cM 2 J ao J J Wl size3.out e6 e7) ?_;refine qE (ap J) ?_;refine qE (ap J) ?_;refine qR (ax (us:=[iV a6.Za,iV a6.N,.string a6.S]) 0 J J agg39.out J) ?_;refine qE (ap J) ?_;refine qE (ap J) ?_;refine qE (ap J) ?_;exact dH
   refine oe (t:=[(41,W a8 b0 b5),(42,pV B7 0),(43,iV a7),(44,.agg #[iV a6.Za,iV a6.N,.string a6.S]),(48,iV e5),(4,W none 0 0),(5,pV B7 0),(7,W a8 b0 b5),(8,W b6 b7 b9),(9,iV a7),(10,pV e4 0),(34,W d1 d2 d3),(35,iV (d0.length:Int)),(36,iV a7)]) (L':=[ah e4 39 [iV a6.Za,iV a6.N,.string a6.S],bd iq 50 (W a8 b0 b5) d4,ur b6 b7 b9 d6,nE d1 d2 d3 d0,bf A8 n8 c8 y5_1.Zn.Zc,bf A9 n9 c9 y5_1.Zn.Zb,ah B7 135 [iV y5_1.Zn.Za,iV y5_1.Zn.Zi,iV y5_1.Zn.Ze,iV y5_1.Zn.Zg,W A8 n8 c8,W A9 n9 c9,pV B1 0,iV y5_1.at_.Za,iV y5_1.at_.N,.string y5_1.at_.S],pDWorld B1 B2 B3 a0]) ?_ mh (ad _);obtain ⟨f0,k,h⟩:=aa h;refine uk 8 J O (oR (rW k)) J J J ?_;rintro _ _ ⟨_,⟨rfl,rfl⟩,rfl⟩;refine uk 9 J O (aB (R:=iq) (vss:=[(bW f0)]) (xs:=[f0]) J (FZ _ _ _ _ _ _ _ _ _ _ _ _ _) J J (fun _ _ hr=> .cons J All2.nil)) J J J ?_;rintro _ _ ⟨g1,g2,g3,rfl,rfl⟩;obtain ⟨f4,h⟩:=ae h;refine uk 10 J O (t6 2 0 J J ao J J EM Qn J J J f4) J J J ?_;rintro _ _ ⟨g4,g5,g6,rfl,rfl⟩;refine Cn 11 J O (cm J) J J J ?_;refine mg O ?_;refine ab ?_;obtain ⟨g7,h⟩:=ae h;exact lY
  exact jY
 rintro _ _ ⟨e0,e1,e2,e3,h,rfl,rfl⟩;exact eY
def sT (N:Nat)(p7:Int):Option (Int×Bool):=
 bif decide (4294967294<p7) then (some (0,false)) else (some (p7,true))
def nO (N:Nat)(a0:ByteArray):Nat->Int->Int->Option (Int×Bool)
 |0,_,_=>none
 |m8+1,p9,a6=>bif decide (a6<(a0.size:Int)) then ((FB a0 a6).bind fun a8=>(bif decide (a8<48) then (some true) else ((FB a0 a6).bind fun b0=>some (decide (57<b0)))).bind fun b5=>bif b5 then (some (0,false)) else (aL (in64 (10*p9)) ((FB a0 a6).bind fun a7=>aL (in64 ((10*p9)+(IntKind.i64.wrap (IntKind.u8.wrap (a7 - 48))))) (aL (in64 (a6+1)) ((nO N a0 m8) ((10*p9)+(IntKind.i64.wrap (IntKind.u8.wrap (a7 - 48)))) (a6+1)))))) else (sT N p9)
def jc (a0:ByteArray):Option (Int×Bool):=
 (bif a0.toList==(⟨#[]⟩:ByteArray).toList then (some true) else (some (decide (10<(a0.size:Int))))).bind fun b1=>(bif b1 then (some true) else ((FB a0 0).bind fun x3=>(bif decide (x3=48) then (some (decide (1<(a0.size:Int)))) else (some false)).bind fun b4=>some b4)).bind fun b2=>bif b2 then (some (0,false)) else (nO N a0 N 0 0)
theorem Ib {N:Nat}{a0:ByteArray}{r:Int×Bool}(h:jc N a0=some r):Okc Xa 92 [.string a0] ([]) (fun u post=>u=.tuple #[iV r.1,.bool r.2]/\post=[]):=by
 refine ce Tryz.func92 ?_;refine sZ ?_;refine fY (rZ J J) ?_
 refine wT 4 12 8 h (fun _ g1 h=> ?_) fun b1 h=> ?_
 ·refine ab ?_;refine eW (qw J Wn) J (dw g1 J) J ?_;exact gY
 refine ab ?_
 refine wT 9 22 13 h (fun _ g2 h=> ?_) fun b2 h=> ?_
 ·refine ab ?_;obtain ⟨x3,b6,h⟩:=aa h;refine eW (tr J J Wn b6) J (dw g2 J) J ?_;refine ab ?_
  refine ou 4 21 17 h (fun _ g4 h=> ?_) fun b4 h=> ?_
  ·refine ab ?_;refine eW (qw J Wn) J (ca g4 J) J ?_;exact gY
  exact gY
 refine dv h ?_ ?_<;>intro h
 ·exact eY
 refine ab ?_;refine am (fun s L=> ∃p7,sT N p7=some r/\s=[(2,iV 0),(3,.bool false),(4,iV p7)]/\L=[]) ?_ ?_
 ·refine ab ?_;refine fY (qw J Wn) ?_;refine lK (fun m s L=> ∃(p9:Int) (a6:Int),nO N a0 m p9 a6=some r/\s=[(0,.string a0),(2,iV 0),(3,.bool false),(4,iV p9),(24,iV (a0.size:Int)),(25,iV a6)]/\L=[]) N ?_;rintro m8 _ _ ⟨p9,a6,h,rfl,rfl⟩;rw [nO.eq_2] at h;refine ab ?_;refine aA ?_;refine gH J h ?_ ?_<;>intro h
  ·refine sY ?_;refine sZ ?_;obtain ⟨b9,a7,h⟩:=aa h;refine fY (tr J J Wn a7) ?_
   refine wT 5 37 32 h (fun _ b7 h=> ?_) fun d0 h=> ?_
   ·refine ab ?_;obtain ⟨d1,a8,h⟩:=aa h;refine eW (tr J J Wn a8) J (dw b7 J) J ?_;exact gY
   refine dv h ?_ ?_<;>intro h
   ·exact eY
   refine ab ?_;obtain ⟨b5,h⟩:=ae h;refine fY (rp J J b5.1 b5.2) ?_;obtain ⟨d2,b0,h⟩:=aa h;refine gE (tr J J Wn b0) ?_;refine gE (RY J J) ?_;refine gE (wV J J Wp) ?_;obtain ⟨d3,h⟩:=ae h;refine ab ?_;obtain ⟨d4,h⟩:=ae h;exact lY
  exact jY
 rintro _ _ ⟨p7,h,rfl,rfl⟩;refine sZ ?_;refine gH J h ?_ ?_<;>intro h
 ·exact eY
 exact eY
def bc (a0:WL):Option Bool:=
 bif decide (a0.Za=0) then ((bif a0.S.toList==(⟨#[]⟩:ByteArray).toList then (some (decide (0<=a0.N))) else (some false)).bind fun b3=>(bif b3 then (some (decide (a0.N<=4294967294))) else (some false)).bind fun b4=>some b4) else (bif decide (a0.Za=1) then ((jc N a0.S).bind fun y6=>(bif decide (a0.N=0) then (some (decide ((a0.S.size:Int)<=65536))) else (some false)).bind fun b7=>(bif b7 then (some (!y6.2)) else (some false)).bind fun b8=>some b8) else (bif decide (a0.Za=2) then ((bif a0.S.toList==(⟨#[]⟩:ByteArray).toList then (some (decide (1<=a0.N))) else (some false)).bind fun a6=>some a6) else (some false)))
theorem nM {N:Nat}{a0:WL}{r:Bool}(h:bc N a0=some r):Okc Xa 47 [(eT a0)] ([]) (fun u post=>u=.bool r/\post=[]):=by
 refine ce Tryz.func47 ?_;intro B1;refine sY ?_;refine gH J h ?_ ?_<;>intro h
 ·refine ab ?_;refine fY (rZ J J) ?_;refine gS 4 16 12 h ?_;intro b3 h;refine ab ?_;refine gS 4 21 17 h ?_;intro b4 h;exact eY
 refine dv h ?_ ?_<;>intro h
 ·refine cR h (fun _ k=>Ib k) fun y6 h=> ?_
  refine ou 5 38 33 h (fun _ g7 h=> ?_) fun b7 h=> ?_
  ·refine ab ?_;refine eW (qw J Wn) J (ca g7 J) J ?_;exact gY
  refine ab ?_;refine gS 3 42 39 h ?_;intro b8 h;exact eY
 refine dv h ?_ ?_<;>intro h
 ·refine ab ?_;refine fY (rZ J J) ?_;refine gS 4 52 48 h ?_;intro a6 h;exact eY
 exact eY
def uQ (N:Nat)(a0:Int):Option Bool:=
 some (!decide (a0=a0))
theorem Ce {N:Nat}{a0:Int}{r:Bool}(h:uQ N a0=some r):Okc Xa 174 [iV a0] ([]) (fun u post=>u=.bool r/\post=[]):=by
 refine ce Tryz.func174 ?_;exact eN
def oO (a0 a1:Int):Option Int:=
 (uQ N a0).bind fun y1=>(uQ N a1).bind fun y2=>bif y1 then (bif y2 then (some 0) else (some (-1))) else (bif y2 then (some 1) else (bif decide (a0<a1) then (some (-1)) else (bif decide (a1<a0) then (some 1) else (some 0))))
theorem yt {N:Nat}{a0 r:Int}(h:oO N a0 a1=some r):Okc Xa 132 [iV a0,iV a1] ([]) (fun u post=>u=iV r/\post=[]):=by
 refine ce Tryz.func132 ?_
 refine cR h (fun _ k=>Ce k) fun y1 h=> ?_
 refine cR h (fun _ k=>Ce k) fun y2 h=> ?_
 refine sZ ?_;refine gH J h ?_ ?_<;>intro h
 ·refine sZ ?_;refine gH J h ?_ ?_<;>intro h
  ·exact eY
  exact eY
 refine sY ?_;refine gH J h ?_ ?_<;>intro h
 ·exact eY
 refine sY ?_;refine gH J h ?_ ?_<;>intro h
 ·exact eY
 refine sY ?_;refine gH J h ?_ ?_<;>intro h
 ·exact eY
 exact eY
def nv (a0 a1:WL):Option Int:=
 (bif decide (a0.Za=0) then (some (decide (a1.Za=0))) else (some false)).bind fun b3=>bif b3 then ((oO N a0.N a1.N).bind fun y5=>some y5) else ((oO N a0.Za a1.Za).bind fun y6=>some y6)
theorem sR {N:Nat}{a0 a1:WL}{r:Int}(h:nv N a0 a1=some r):Okc Xa 91 [(eT a0),(eT a1)] ([]) (fun u post=>u=iV r/\post=[]):=by
 refine ce Tryz.func91 ?_;intro B1
 refine cl fun B2=> ?_
 refine sZ ?_;refine gS 4 12 8 h ?_;intro b3 h;refine dv h ?_ ?_<;>intro h
 ·refine cR h (fun _ k=>yt k) fun y5 h=> ?_
  exact eN
 refine cR h (fun _ k=>yt k) fun y6 h=> ?_
 exact eN
theorem qt {r:Int}: ∀v post,((fun (u:Value) (post:W8)=>u=iV r/\post=[])) v post-> ∀c∈post,ij c:=by
 rintro _ _ ⟨rfl,rfl⟩;exact au
def cL (N:Nat)(a6:WX->Int->Option WX)(a1 a2 p5:Int)(p8:WX):Option WX:=
 aL (in64 (p5+1)) (a6 p8 (p5+1))
def bR (N:Nat)(b5:WX->Int->Option WX)(a1 a2 p5:Int):Nat->WX->Int->Option WX
 |0,_,_=>none
 |m9+1,a7,a6=>(bif decide (a1<a6) then ((aq a7 a6).bind fun b6=>aL (in64 (a6 - 1)) ((aq a7 (a6 - 1)).bind fun b7=>(nv N b6 b7).bind fun b9=>some (decide (b9<0)))) else (some false)).bind fun b12=>bif b12 then (aL (in64 (a6 - 1)) (aL (in64 (a6 - 1)) ((aq a7 (a6 - 1)).bind fun a8=>(aq a7 a6).bind fun b0=>(aq a7 a6).bind fun d0=>(aq (List.set a7 a6.toNat (⟨a8.Za,a8.N,a8.S⟩:WL)) (a6 - 1)).bind fun d1=>aL (in64 (a6 - 1)) ((bR N b5 a1 a2 p5 m9) (List.set (List.set a7 a6.toNat (⟨a8.Za,a8.N,a8.S⟩:WL)) ((a6 - 1).toNat) (⟨b0.Za,b0.N,b0.S⟩:WL)) (a6 - 1))))) else (cL N b5 a1 a2 p5 a7)
def bA (N:Nat)(a1 a2:Int):Nat->WX->Int->Option WX
 |0,_,_=>none
 |m3+1,p4,p5=>bif decide (p5<a2) then (bR N (bA N a1 a2 m3) a1 a2 p5 N p4 p5) else (some p4)
def bE (a0:WX)(a1 a2:Int):Option WX:=
 aL (in64 (a1+1)) (bA N a1 a2 N a0 (a1+1))
theorem dN {N:Nat}{a0 r:WX}(h:bE N a0 a1 a2=some r):Okc Xa 172 [W A1 n1 c1,iV a1,iV a2,.func (.func 91) #[] #[]] ([nE A1 n1 c1 a0]) (fun u post=>u=.tuple #[]/\post=[nE A1 n1 c1 r]):=by
 refine ce Tryz.func172 ?_;obtain ⟨q2,h⟩:=ae h;refine ab ?_;refine lK (fun m s L=> ∃(p4:WX) (p5:Int),bA N a1 a2 m p4 p5=some r/\s=[(0,W A1 n1 c1),(1,iV a1),(2,iV a2),(3,.func (.func 91) #[] #[]),(8,iV p5)]/\L=[nE A1 n1 c1 p4]) N ?_;rintro m3 _ _ ⟨p4,p5,h,rfl,rfl⟩;rw [bA.eq_2] at h;refine sZ ?_;refine gH J h ?_ ?_<;>intro h
 ·refine ab ?_;refine am (fun s L=> ∃p8,cL N (bA N a1 a2 m3) a1 a2 p5 p8=some r/\s=[(0,W A1 n1 c1),(1,iV a1),(2,iV a2),(3,.func (.func 91) #[] #[]),(8,iV p5)]/\L=[nE A1 n1 c1 p8]) ?_ ?_
  ·refine ab ?_;refine lK (fun m s L=> ∃(b9:WX) (a6:Int),bR N (bA N a1 a2 m3) a1 a2 p5 m b9 a6=some r/\s=[(0,W A1 n1 c1),(1,iV a1),(2,iV a2),(3,.func (.func 91) #[] #[]),(8,iV p5),(9,iV a6)]/\L=[nE A1 n1 c1 b9]) N ?_;rintro m9 _ _ ⟨b9,a6,h,rfl,rfl⟩;rw [bR.eq_2] at h;refine aA ?_;refine dY [0,1,2,3] ?_
   refine yJ [4,5,6,7,8,9,10,11,12,13,14,15,16] 0 21 34 h (fun _ d1 h rest=> ?_) (fun _ d1 h rest=> ?_) fun b12 h=> ?_
   ·refine yY [4,5,6] ?_;obtain ⟨f2,e6,e7,e8,h⟩:=bz h;refine yY [7,8,9,10] ?_;obtain ⟨e4,h⟩:=ae h;refine io 11 J O (wD J J e4.1 e4.2) (ca d1 J) J ?_;obtain ⟨f3,e9,f0,f1,h⟩:=bz h;refine yY [12,13] ?_;obtain ⟨f4,k,h⟩:=aa h;refine pt 14 J O (lm (sR k) J J J (au) qt) J (ca d1 J) J ?_;rintro _ _ ⟨_,⟨rfl,rfl⟩,rfl⟩;refine ⟨_,ad _,ad _,?_⟩;refine yY [15,16] ?_;exact yS rest h
   ·refine yY [4,5,6,7,8,9,10,11,12,13,14,15,16] ?_;exact yS rest h
   refine bq O ?_;refine dv h ?_ ?_<;>intro h
   ·refine sY ?_;obtain ⟨d0,h⟩:=ae h;obtain ⟨e5,h⟩:=ae h;obtain ⟨a7,d2,d3,d4,h⟩:=bz h;obtain ⟨a8,d6,e0,e1,h⟩:=bz h;refine gw (t:=[(0,W A1 n1 c1),(1,iV a1),(2,iV a2),(3,.func (.func 91) #[] #[]),(8,iV p5),(9,iV a6)]) ?_ mh (ad _)
    refine iW O 14 [2,3,4] [0,1,2,4,9,13] [37,38,39,40,41,42,43,44,45,46,47,48,49,50] [[],[],[],[],[3],[],[],[6],[5,7],[8],[],[],[10,11],[12]] [aV (W A1 n1 c1),
 aV (iV a6),
 aV (W A1 n1 c1),
 aV (iV a6),
 aV (iV (a6 - 1)),
 aV (W A1 n1 c1),
 aV (iV a6),
 aV (iV (a6 - 1)),
 aV (dF (W A1 n1 c1) ((a6 - 1).toNat) 3 0),
 aV (.agg #[iV a7.Za,iV a7.N,.string a7.S]),
 aV (W A1 n1 c1),
 aV (iV a6),
 aV (dF (W A1 n1 c1) a6.toNat 3 0),
 aV (.agg #[iV a8.Za,iV a8.N,.string a8.S])] [] (ad _) (fA rfl (fA rfl (fA rfl mc))) O rfl rfl ?_ ?_ ?_
    ·refine fz J ?_ ?_
     ·exact nD (ap J) J (iL J (ad _))
     refine fz J ?_ ?_
     ·exact nD (ap J) J (iL J (ad _))
     refine fz J ?_ ?_
     ·exact nD (wD J J d0.1 d0.2) J (iL J (ad _))
     exact mb
    ·refine aF J ?_ ?_
     ·exact yE (ee (us:=[iV a8.Za,iV a8.N,.string a8.S]) 0 J ao J e1 agg39.out (fun _ _ _ h=>by rw [show _=_ from h];rfl)) J (iL J (ad _))
     refine qR (cM 0 J ao J J Wj size39.out d6 e0) ?_;refine qE (ap J) ?_;refine qE (ap J) ?_;refine aF J ?_ ?_
     ·exact yE (ee (us:=[iV a7.Za,iV a7.N,.string a7.S]) 0 J ao J d4 agg39.out (fun _ _ _ h=>by rw [show _=_ from h];rfl)) J (iL J (ad _))
     refine qR (cM 0 J ao J J Wj size39.out d2 d3) ?_;refine qE (wD J J e5.1 e5.2) ?_;refine qE (ap J) ?_;refine qE (ap J) ?_;refine qE (wD J J d0.1 d0.2) ?_;refine qE (ap J) ?_;refine qE (ap J) ?_;refine qE (ap J) ?_;refine qE (ap J) ?_;exact dH
    refine oe (t:=[(37,W A1 n1 c1),(38,iV a6),(39,W A1 n1 c1),(41,iV (a6 - 1)),(46,.agg #[iV a7.Za,iV a7.N,.string a7.S]),(50,.agg #[iV a8.Za,iV a8.N,.string a8.S]),(0,W A1 n1 c1),(1,iV a1),(2,iV a2),(3,.func (.func 91) #[] #[]),(8,iV p5),(9,iV a6)]) (L':=[nE A1 n1 c1 b9]) ?_ mh (ad _);obtain ⟨f6,b0,b5,e2,h⟩:=bz h;refine J4 14 J O (cM 0 J ao J J Wj size39.out b0 b5) J J J ?_;refine pO 15 J O (cg (us:=[iV a7.Za,iV a7.N,.string a7.S]) (z:=(⟨a7.Za,a7.N,a7.S⟩:WL)) 0 J J J J size39.out J (toNat_lt b0 b5) J (fun S w vs xk hk hr ho=>by obtain rfl:=YM (hk.symm.trans e2);rw [show _=_ from hr];rfl)) J J ?_;rintro _ _ rfl;obtain ⟨f9,b6,b7,e3,h⟩:=bz h;refine J4 16 J O (cM 0 J ao J J Wj size39.out b6 b7) J J J ?_;refine pO 17 J O (cg (us:=[iV a8.Za,iV a8.N,.string a8.S]) (z:=(⟨a8.Za,a8.N,a8.S⟩:WL)) 0 J J J J size39.out J (toNat_lt b6 b7) J (fun S w vs xk hk hr ho=>by obtain rfl:=YM (hk.symm.trans e3);rw [show _=_ from hr];rfl)) J J ?_;rintro _ _ rfl;refine mg O ?_;refine ab ?_;obtain ⟨g0,h⟩:=ae h;exact lY
   exact jY
  rintro _ _ ⟨p8,h,rfl,rfl⟩;refine ab ?_;obtain ⟨g1,h⟩:=ae h;exact lY
 exact eY
def cy (N:Nat)(a1 a2 a3:Int):Nat->WX->Int->Option WX
 |0,_,_=>none
 |m2+1,p3,p4=>bif decide (p4<a3) then (aL (in64 (a1+p4)) (aL (in64 (a2+p4)) (aL (in64 (a2+p4)) ((aq p3 (a2+p4)).bind fun x9=>aL (in64 (a1+p4)) ((aq p3 (a1+p4)).bind fun a6=>(aq p3 (a1+p4)).bind fun a7=>(aq (List.set p3 ((a1+p4).toNat) (⟨x9.Za,x9.N,x9.S⟩:WL)) (a2+p4)).bind fun a8=>aL (in64 (p4+1)) ((cy N a1 a2 a3 m2) (List.set (List.set p3 ((a1+p4).toNat) (⟨x9.Za,x9.N,x9.S⟩:WL)) ((a2+p4).toNat) (⟨a6.Za,a6.N,a6.S⟩:WL)) (p4+1))))))) else (some p3)
def cD (a0:WX)(a1 a2 a3:Int):Option WX:=
 cy N a1 a2 a3 N a0 0
theorem fm {N:Nat}{a0 r:WX}(h:cD N a0 a1 a2 a3=some r):Okc Xa 222 [W A1 n1 c1,iV a1,iV a2,iV a3,.func (.func 91) #[] #[]] ([nE A1 n1 c1 a0]) (fun u post=>u=.tuple #[]/\post=[nE A1 n1 c1 r]):=by
 refine ce Tryz.func222 ?_;refine lK (fun m s L=> ∃(p3:WX) (p4:Int),cy N a1 a2 a3 m p3 p4=some r/\s=[(0,W A1 n1 c1),(1,iV a1),(2,iV a2),(3,iV a3),(10,iV p4)]/\L=[nE A1 n1 c1 p3]) N ?_;rintro m2 _ _ ⟨p3,p4,h,rfl,rfl⟩;rw [cy.eq_2] at h;refine sZ ?_;refine gH J h ?_ ?_<;>intro h
 ·refine sY ?_;obtain ⟨q6,h⟩:=ae h;obtain ⟨q7,h⟩:=ae h;obtain ⟨q8,h⟩:=ae h;obtain ⟨x9,d3,d4,d6,h⟩:=bz h;obtain ⟨d2,h⟩:=ae h;obtain ⟨a6,b6,b7,b9,h⟩:=bz h;refine gw (t:=[(0,W A1 n1 c1),(1,iV a1),(2,iV a2),(3,iV a3),(10,iV p4)]) ?_ mh (ad _)
  refine iW O 20 [4,5,6,7] [0,3,4,7,13,19] [16,17,18,19,20,21,22,23,24,25,26,27,28,29,30,31,32,33,34,35] [[],[],[],[1,2],[],[],[],[5,6],[],[],[],[9,10],[8,11],[12],[],[],[],[15,16],[14,17],[18]] [aV (W A1 n1 c1),
 aV (iV a1),
 aV (iV p4),
 aV (iV (a1+p4)),
 aV (W A1 n1 c1),
 aV (iV a2),
 aV (iV p4),
 aV (iV (a2+p4)),
 aV (W A1 n1 c1),
 aV (iV a2),
 aV (iV p4),
 aV (iV (a2+p4)),
 aV (dF (W A1 n1 c1) ((a2+p4).toNat) 3 0),
 aV (.agg #[iV x9.Za,iV x9.N,.string x9.S]),
 aV (W A1 n1 c1),
 aV (iV a1),
 aV (iV p4),
 aV (iV (a1+p4)),
 aV (dF (W A1 n1 c1) ((a1+p4).toNat) 3 0),
 aV (.agg #[iV a6.Za,iV a6.N,.string a6.S])] [] (ad _) (fA rfl (fA rfl (fA rfl (fA rfl mc)))) O rfl rfl ?_ ?_ ?_
  ·refine fz J ?_ ?_
   ·exact nD (ap J) J (iL J (ad _))
   refine fz J ?_ ?_
   ·exact nD (ap J) J (iL J (ad _))
   refine fz J ?_ ?_
   ·exact nD (ap J) J (iL J (ad _))
   refine fz J ?_ ?_
   ·exact nD (iz J J q7.1 q7.2) J (iL J (ad _))
   exact mb
  ·refine aF J ?_ ?_
   ·exact yE (ee (us:=[iV a6.Za,iV a6.N,.string a6.S]) 0 J ao J b9 agg39.out (fun _ _ _ h=>by rw [show _=_ from h];rfl)) J (iL J (ad _))
   refine qR (cM 0 J ao J J Wj size39.out b6 b7) ?_;refine qE (iz J J d2.1 d2.2) ?_;refine qE (ap J) ?_;refine qE (ap J) ?_;refine qE (ap J) ?_;refine aF J ?_ ?_
   ·exact yE (ee (us:=[iV x9.Za,iV x9.N,.string x9.S]) 0 J ao J d6 agg39.out (fun _ _ _ h=>by rw [show _=_ from h];rfl)) J (iL J (ad _))
   refine qR (cM 0 J ao J J Wj size39.out d3 d4) ?_;refine qE (iz J J q8.1 q8.2) ?_;refine qE (ap J) ?_;refine qE (ap J) ?_;refine qE (ap J) ?_;refine qE (iz J J q7.1 q7.2) ?_;refine qE (ap J) ?_;refine qE (ap J) ?_;refine qE (ap J) ?_;refine qE (iz J J q6.1 q6.2) ?_;refine qE (ap J) ?_;refine qE (ap J) ?_;refine qE (ap J) ?_;exact dH
  refine oe (t:=[(16,W A1 n1 c1),(19,iV (a1+p4)),(20,W A1 n1 c1),(23,iV (a2+p4)),(29,.agg #[iV x9.Za,iV x9.N,.string x9.S]),(35,.agg #[iV a6.Za,iV a6.N,.string a6.S]),(0,W A1 n1 c1),(1,iV a1),(2,iV a2),(3,iV a3),(10,iV p4)]) (L':=[nE A1 n1 c1 p3]) ?_ mh (ad _);obtain ⟨e0,a7,a8,d0,h⟩:=bz h;refine J4 20 J O (cM 0 J ao J J Wj size39.out a7 a8) J J J ?_;refine pO 21 J O (cg (us:=[iV x9.Za,iV x9.N,.string x9.S]) (z:=(⟨x9.Za,x9.N,x9.S⟩:WL)) 0 J J J J size39.out J (toNat_lt a7 a8) J (fun S w vs xk hk hr ho=>by obtain rfl:=YM (hk.symm.trans d0);rw [show _=_ from hr];rfl)) J J ?_;rintro _ _ rfl;obtain ⟨e1,b0,b5,d1,h⟩:=bz h;refine J4 22 J O (cM 0 J ao J J Wj size39.out b0 b5) J J J ?_;refine pO 23 J O (cg (us:=[iV a6.Za,iV a6.N,.string a6.S]) (z:=(⟨a6.Za,a6.N,a6.S⟩:WL)) 0 J J J J size39.out J (toNat_lt b0 b5) J (fun S w vs xk hk hr ho=>by obtain rfl:=YM (hk.symm.trans d1);rw [show _=_ from hr];rfl)) J J ?_;rintro _ _ rfl;refine mg O ?_;refine ab ?_;obtain ⟨e2,h⟩:=ae h;exact lY
 exact eY
end Go.Proofs.YtmcifcmlojonnaaGreatDoor