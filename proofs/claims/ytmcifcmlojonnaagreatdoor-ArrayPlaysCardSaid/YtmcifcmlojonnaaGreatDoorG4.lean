/- Merged texts: part 4. No conditions of their own. -/
import Derived.Test.YtmcifcmlojonnaaGreatDoorG3
set_option maxHeartbeats 4000000
namespace Go.Proofs.YtmcifcmlojonnaaGreatDoor
variable (N:Nat){a1 a2 a3:Int}{l:Nat}{σ:Type}{a0:WP}
theorem WC:type_of% Tryz.underlying29:=Tryz.underlying29
theorem WB:type_of% Tryz.underlying3:=Tryz.underlying3
variable {A1 A2 A3 A4 A5 A6 A7 A8 A9:Option Addr}{B1 B2 B3 B6 M3 M7 c1 c2 c3 c4 c5 c6 c7 c8 c9 n1 n2 n3 n4 n5 n6 n7 n8 n9:Nat}
open Go.RowKit Asn
set_option maxRecDepth 20000
def kz (a0:W3):Option Bool:=
 (xh N a0.Zh).bind fun y4=>(bif y4 then (some true) else ((bif decide (a0.Zh=7) then (some (decide (0<(a0.Zj.length:Int)))) else (some false)).bind fun b6=>some b6)).bind fun b5=>bif b5 then ((bif decide (1<=(a0.Zj.length:Int)) then (some (decide ((a0.Zj.length:Int)<=1025))) else (some false)).bind fun b8=>(bif b8 then ((aq a0.Zj 0).bind fun a6=>(bif decide (a6.Zh=1) then (some true) else ((aq a0.Zj 0).bind fun a7=>some (decide (a7.Zh=7)))).bind fun a8=>some a8) else (some false)).bind fun b9=>some b9) else (bif decide (a0.Zh=7) then (some (decide (a0.Zq=0))) else ((bif !decide (a0.Zq=0) then (some true) else (some (!decide (a0.Zm=0)))).bind fun b0=>bif b0 then (some false) else (bif decide (a0.Zh=5) then ((bif decide ((a0.Zj.length:Int)=2) then ((aq a0.Zj 0).bind fun b7=>(jb N b7 7).bind fun d0=>some d0) else (some false)).bind fun d1=>(bif d1 then ((aq a0.Zj 1).bind fun d2=>(jb N d2 7).bind fun d3=>some d3) else (some false)).bind fun d4=>some d4) else (some (decide ((a0.Zj.length:Int)=0))))))
theorem Bg {N:Nat}{a0:W3}{r:Bool}(h:kz N a0=some r):Okc Xk 179 [.agg #[iV a0.Zh,iV a0.Zq,iV a0.Zm,iV a0.Zn,W A1 n1 c1,W A2 n2 c2]] ([aQ A1 n1 c1 a0.Zj,aQ A2 n2 c2 a0.Zi]) (fun u post=>u=.bool r/\post=[]):=by
 refine ce Tryz.func179 ?_;intro B3;refine sY ?_
 refine cR h (fun _ k=>Kh k) fun y4 h=> ?_
 refine xv 10 16 6 h (fun _ g5 h=> ?_) fun b5 h=> ?_
 ·refine ab ?_;refine gS 5 15 10 h ?_;intro b6 h;exact gY
 refine dk h ?_ ?_<;>intro h
 ·refine ab ?_;refine gS 5 26 21 h ?_;intro b8 h;refine ab ?_
  refine oz 15 42 27 h (fun _ g9 h=> ?_) fun b9 h=> ?_
  ·refine ab ?_;obtain ⟨e2,a6,a7,b7,h⟩:=ba h;refine ab ?_;refine sv (nu 1 J aE J (toNat_lt a6 a7) rT) J (bW g9 J) J<|ab ?_
   refine xv 7 41 34 h (fun _ d0 h=> ?_) fun e3 h=> ?_
   ·refine ab ?_;obtain ⟨e4,a8,b0,d1,h⟩:=ba h;refine ab ?_;exact sv (nu 1 J aE J (toNat_lt a8 b0) rT) J (cG d0 J) J<|gY
   exact gY
  exact eY
 refine sY ?_;refine gH J h ?_ ?_<;>intro h
 ·exact eY
 refine sY ?_;refine gS 4 56 52 h ?_;intro e5 h;refine dk h ?_ ?_<;>intro h
 ·exact eY
 refine sY ?_;refine gH J h ?_ ?_<;>intro h
 ·refine ab ?_
  refine oz 6 70 64 h (fun _ e6 h=> ?_) fun e7 h=> ?_
  ·refine ab ?_;obtain ⟨e8,d2,d3,d4,h⟩:=ba h
   refine cR h (fun _ k=>ls k) fun e9 h=> ?_
   exact gY
  refine ab ?_
  refine oz 6 77 71 h (fun _ f0 h=> ?_) fun f1 h=> ?_
  ·refine ab ?_;obtain ⟨f2,d6,e0,e1,h⟩:=ba h
   refine cR h (fun _ k=>ls k) fun f3 h=> ?_
   exact gY
  exact eY
 exact eY
def jc (N:Nat)(a0:WZ)(a1 a2:Int):Option Bool:=
 (bif decide (a0.Zh=3) then (some (decide (a1<=a0.N))) else (some false)).bind fun b2=>(bif b2 then (some (decide (a0.N<=a2))) else (some false)).bind fun b3=>some b3
theorem lu {N:Nat}{a0:WZ}{r:Bool}(h:jc N a0 a1 a2=some r):Okc Xk 202 [(aF a0),iV a1,iV a2] ([]) (fun u post=>u=.bool r/\post=[]):=by
 refine ce Tryz.func202 ?_;intro B1;refine ab ?_;refine gS 5 15 10 h ?_;intro b2 h;refine ab ?_;refine gS 5 21 16 h ?_;intro b3 h;exact eY
def jU (N:Nat){σ:Type}(fy:W8->σ->Option (Bool×σ))(a1:W8)(a2:Int):Nat->Int->σ->Option σ
 |0,_,_=>none
 |m4+1,p5,p6=>bif decide (p5<(a1.length:Int)) then (aI ((0:Int)<=p5/\p5.toNat<=a1.length/\a1.length<=a1.length) (aI (in64 (p5+(min a2 (((a1.drop p5.toNat).take (a1.length - p5.toNat)).length:Int)))) (aI (in64 (p5+(min a2 (((a1.drop p5.toNat).take (a1.length - p5.toNat)).length:Int)))) (aI ((0:Int)<=p5/\(0:Int)<=p5+(min a2 (((a1.drop p5.toNat).take (a1.length - p5.toNat)).length:Int))/\p5.toNat<=(p5+(min a2 (((a1.drop p5.toNat).take (a1.length - p5.toNat)).length:Int))).toNat/\(p5+(min a2 (((a1.drop p5.toNat).take (a1.length - p5.toNat)).length:Int))).toNat<=a1.length) ((fy ((a1.drop p5.toNat).take ((p5+(min a2 (((a1.drop p5.toNat).take (a1.length - p5.toNat)).length:Int))).toNat - p5.toNat)) p6).bind fun a6=>bif !a6.1 then (some a6.2) else (aI (in64 (p5+a2)) ((jU N fy a1 a2 m4) (p5+a2) a6.2))))))) else (some p6)
def ue (a1:W8)(a2:Int)(fy:W8->σ->Option (Bool×σ))(s0:σ):Option σ:=
 jU N fy a1 a2 N 0 s0
theorem Ec {N:Nat}{a1:W8}{fy:W8->σ->Option (Bool×σ)}{s0 r:σ}(h:ue N a1 a2 fy s0=some r){G:σ->Xi}(hY:ww Xk l G (fun (x:W8) vs cs=> ∃A0 n0 c0,vs=[W A0 n0 c0]/\cs=[aQ A0 n0 c0 x]) fy):Okc Xk 229 [.func (.yield l) #[] #[],pV B1 0,pV B3 0] (aW B1 22 [W A2 n2 c2]::aQ A2 n2 c2 a1::aW B3 3 [iV a2]::(G s0)) (fun u post=>u=.tuple #[]/\post=G r):=by
 refine ce Tryz.func229 ?_;refine lK (fun m s L=> ∃(p5:Int) (p6:σ),jU N fy a1 a2 m p5 p6=some r/\s=[(0,.func (.yield l) #[] #[]),(1,pV B1 0),(2,pV B3 0),(4,iV p5)]/\L=aQ A2 n2 c2 a1::aW B1 22 [W A2 n2 c2]::aW B3 3 [iV a2]::(G p6)) N ?_;rintro m4 _ _ ⟨p5,p6,h,rfl,rfl⟩;rw [jU.eq_2] at h;refine sZ ?_;refine gH J h ?_ ?_<;>intro h
 ·refine sY ?_;refine dY [0,1,2] ?_;obtain ⟨q8,h⟩:=ac h;refine DC 0 J (l:=p5.toNat) (h:=a1.length) q8.2.1 q8.2.2 ?_;rintro A9 n9 c9 e9;refine zR 3 J (wI 1 J e9 J t9 size28.out J (by rw [Xz q8.1];rfl) q8.2.1) ?_;refine zY [4] ?_;refine zE 5 J (TC J J WB WB) ?_;refine zX [6] ?_;refine ab ?_;obtain ⟨b6,h⟩:=ac h;refine ab ?_;obtain ⟨b7,h⟩:=ac h;refine ab ?_;obtain ⟨a6,h⟩:=ac h;refine Qw 1 J (l:=p5.toNat) (h:=(p5+(min a2 (((a1.drop p5.toNat).take (a1.length - p5.toNat)).length:Int))).toNat) a6.2.2.1 a6.2.2.2 ?_;rintro a7 a8 b0 b5;refine gR (Mb 2 J b5 J t9 size28.out J (by rw [Xz a6.1];rfl) (by rw [Xz a6.2.1];rfl) (by rw [Xz a6.2.1];rfl) a6.2.2.1 a6.2.2.2) ?_;obtain ⟨b9,k,h⟩:=aa h;refine gD (Hq (a:=(a1.drop p5.toNat).take ((p5+(min a2 (((a1.drop p5.toNat).take (a1.length - p5.toNat)).length:Int))).toNat - p5.toNat)) [aQ a7 a8 b0 ((a1.drop p5.toNat).take ((p5+(min a2 (((a1.drop p5.toNat).take (a1.length - p5.toNat)).length:Int))).toNat - p5.toNat)),aQ A9 n9 c9 ((a1.drop p5.toNat).take (a1.length - p5.toNat)),aQ A2 n2 c2 a1,aW B1 22 [W A2 n2 c2],aW B3 3 [iV a2]] hY k J J ⟨_,_,_,J,J⟩ (Lv 0 J J)) ?_;rintro _ _ ⟨rfl,rfl⟩;refine dk h ?_ ?_<;>intro h
  ·exact eY
  refine ab ?_;obtain ⟨d0,h⟩:=ac h;exact lY
 exact eY
def lP (N:Nat)(a0:W8)(a1:Int):Option Unit:=
 bif decide (a1<1) then none else (some ())
theorem zQ {N:Nat}{a0:W8}{r:Unit}(h:lP N a0 a1=some r):Okc Xk 223 [W A1 n1 c1,iV a1] ([aQ A1 n1 c1 a0]) (fun u post=> ∃a6 a7,u=.func (.func 229) #[] #[pV a6 0,pV a7 0]/\post=[ah a6 22 [W A1 n1 c1],ah a7 3 [iV a1]]):=by
 refine ce Tryz.func223 ?_;intro B2
 refine cl fun B3=> ?_
 refine sZ ?_;refine gH J h ?_ ?_<;>intro h
 ·exact aL h
 refine ab ?_;refine fS (ja J) ?_;exact eN
def cc (a1:Int)(x9:W8):(Unit)->Option (Option Exit×Unit)
 |()=>(aq x9 0).bind fun a6=>(bif !decide (a6.Zh=7) then (some true) else ((aq x9 1).bind fun a7=>some (decide (a7.Zh=8)))).bind fun a8=>bif a8 then (some (some .ret,())) else ((bif decide (a1=4) then ((aq x9 2).bind fun b0=>(jb N b0 7).bind fun b5=>(bif !b5 then (some true) else ((aq x9 3).bind fun b6=>(jc N b6 0 9007199254740992).bind fun b7=>some (!b7))).bind fun b9=>some b9) else (some false)).bind fun b16=>bif b16 then (some (some .ret,())) else (some (none,())))
def dV (a0:W8)(a1:Int):Option Bool:=
 aI (a1≠0) (bif !decide ((a0.length:Int).tmod a1=0) then (some false) else ((lP N a0 a1).bind fun y6=>(ue N a0 a1 (cM (fun x st=>cc N a1 x st)) (none,())).bind fun a6=>rc a6.1 (some true) (some false) (fun _=>none)))
theorem su {N:Nat}{a0:W8}{r:Bool}(h:dV N a0 a1=some r):Okc Xk 203 [W A1 n1 c1,iV a1] ([aQ A1 n1 c1 a0]) (fun u post=>u=.bool r/\post=[]):=by
 refine ce Tryz.func203 ?_;intro B2
 refine cl fun B3=> ?_
 refine sZ ?_;obtain ⟨q4,h⟩:=ac h;refine fS (sJ J J q4) ?_;refine gH J h ?_ ?_<;>intro h
 ·exact eY
 refine sY ?_;obtain ⟨y6,k,h⟩:=aa h;refine gD (oR (zQ k)) ?_;rintro _ _ ⟨_,⟨B7,B8,rfl,rfl⟩,rfl⟩;refine ab ?_;refine gw ?_ bK (lr 0 J);refine gw ?_ bK (lr 1 J);refine ab ?_;obtain ⟨d6,k,h⟩:=aa h;refine H7 (R:=(fun (x:W8) vs cs=> ∃A0 n0 c0,vs=[W A0 n0 c0]/\cs=[aQ A0 n0 c0 x])) (fun x st=>cc N a1 x st) (fun (st:Unit) (mz:Unit)=> [ah B2 3 [iV a1],ah B3 4 [.bool false]]) [aW B7 22 [W A1 n1 c1],aQ A1 n1 c1 a0,aW B8 3 [iV a1]] (()) (()) J J call229.out J (by rintro _ _ _ ⟨_,_,_,rfl,rfl⟩;rfl) (fun l G hY=>(Ec k hY).mono fun _ _ hh=>hh.2) (bI [0,4,1] [] [3,2] 5 J) h ?_ ?_ ?_ ?_
 ·rintro l x9 _ je sr9 _ h _ _ ⟨e0,e1,e2,rfl,rfl⟩;replace h:cc N a1 x9 ()=some (je,sr9):=h;simp only [Bd,YF,YG,YH,Yz,YA,Zf,XE];refine sY ?_;obtain ⟨e3,a6,a7,b5,h⟩:=ba h;refine ab ?_;refine JX (nu 0 J aE J (toNat_lt a6 a7) rT) ?_
  refine xv 6 26 20 h (fun _ b6 h=> ?_) fun e4 h=> ?_
  ·refine ab ?_;obtain ⟨e5,a8,b0,b7,h⟩:=ba h;refine ab ?_;exact sv (nu 0 J aE J (toNat_lt a8 b0) rT) J (cG b6 J) J<|gY
  refine dk h ?_ ?_<;>intro h
  ·refine ab ?_;obtain ⟨rfl,rfl⟩:=YZ (YX h);exact LJ ((cS [1,2] 3).trans (fX () J))
  refine ab ?_
  refine oz 13 42 29 h (fun _ e6 h=> ?_) fun b16 h=> ?_
  ·refine ab ?_;obtain ⟨e7,b9,d0,d1,h⟩:=ba h
   refine cR h (fun _ k=>ls k) fun e8 h=> ?_
   refine xv 6 41 35 h (fun _ e9 h=> ?_) fun f0 h=> ?_
   ·refine ab ?_;obtain ⟨f1,d2,d3,d4,h⟩:=ba h
    refine cR h (fun _ k=>lu k) fun f2 h=> ?_
    exact gY
   exact gY
  refine dk h ?_ ?_<;>intro h
  ·refine ab ?_;obtain ⟨rfl,rfl⟩:=YZ (YX h);exact LJ ((cS [1,2] 3).trans (fX () J))
  refine ab ?_;obtain ⟨rfl,rfl⟩:=YZ (YX h);exact DD ((cS [1,2] 3).trans (fX () J))
 ·rintro _ h;exact qP ([ah B2 3 [iV a1],ah B3 4 [.bool false]]) J<|eY
 ·rintro _ h;exact qP ([ah B2 3 [iV a1],ah B3 4 [.bool false]]) J<|eY
 rintro i _ h;exact aL h
def nc (a0:Int)(a1:W8)(p5:Bool):Option Bool:=
 bif p5 then (some (decide ((a1.length:Int)=0))) else (bif decide (a0=3) then ((bif decide ((a1.length:Int)=3) then ((aq a1 0).bind fun a6=>(jc N a6 0 9007199254740992).bind fun a7=>some a7) else (some false)).bind fun b9=>(bif b9 then ((aq a1 1).bind fun a8=>(jb N a8 9).bind fun b0=>some b0) else (some false)).bind fun b12=>some b12) else (bif decide (a0=4) then ((bif decide (1<=(a1.length:Int)) then (some (decide ((a1.length:Int)<=4097))) else (some false)).bind fun b16=>(bif b16 then ((aq a1 0).bind fun b5=>(jb N b5 9).bind fun b6=>some b6) else (some false)).bind fun b7=>some b7) else (bif decide (a0=6) then ((bif decide ((a1.length:Int)=2) then ((aq a1 0).bind fun d0=>(jc N d0 0 3).bind fun d1=>some d1) else (some false)).bind fun d2=>(bif d2 then ((aq a1 1).bind fun d3=>(jb N d3 9).bind fun d4=>some d4) else (some false)).bind fun d6=>some d6) else (bif decide (a0=7) then ((bif decide (4<=(a1.length:Int)) then ((aq a1 2).bind fun e0=>(jc N e0 0 1).bind fun e1=>some e1) else (some false)).bind fun e2=>(bif e2 then ((aq a1 3).bind fun e3=>(jc N e3 0 9007199254740992).bind fun e4=>some e4) else (some false)).bind fun e5=>some e5) else (bif decide (a0=8) then ((dV N a1 2).bind fun e6=>some e6) else (bif decide (a0=10) then ((bif decide (1<=(a1.length:Int)) then ((aq a1 0).bind fun e7=>some (decide (e7.Zh=7))) else (some false)).bind fun e8=>(bif e8 then (aI ((0:Int)<=1/\(1:Int).toNat<=a1.length/\a1.length<=a1.length) ((dV N ((a1.drop ((1:Int).toNat)).take (a1.length - (1:Int).toNat)) 4).bind fun e9=>some e9)) else (some false)).bind fun f0=>some f0) else (bif decide (a0=9) then ((bif decide (2<=(a1.length:Int)) then ((aq a1 0).bind fun f1=>(jc N f1 0 2).bind fun f2=>some f2) else (some false)).bind fun f3=>some f3) else (some true))))))))
def lw (a0:Int)(a1:W8):Option Bool:=
 bif decide (1048576<(a1.length:Int)) then (some false) else (bif decide (a0=2) then (some (decide ((a1.length:Int)<=4096))) else (bif decide (a0=1) then (nc N a0 a1 (decide (a0=1))) else (nc N a0 a1 (decide (a0=5)))))
theorem CJ {N:Nat}{a0:Int}{a1:W8}{r:Bool}(h:lw N a0 a1=some r):Okc Xk 180 [iV a0,W A1 n1 c1] ([aQ A1 n1 c1 a1]) (fun u post=>u=.bool r/\post=[]):=by
 refine ce Tryz.func180 ?_;refine sZ ?_;refine gH J h ?_ ?_<;>intro h
 ·exact eY
 refine sY ?_;refine gH J h ?_ ?_<;>intro h
 ·exact eY
 refine ak (fun s L=> ∃p5,nc N a0 a1 p5=some r/\s=[(1,W A1 n1 c1),(4,.bool false),(8,iV a0),(14,.bool p5)]/\L=[aQ A1 n1 c1 a1]) ?_ ?_
 ·refine dk h ?_ ?_<;>intro h
  ·exact jY
  exact jY
 rintro _ _ ⟨p5,h,rfl,rfl⟩;refine gH J h ?_ ?_<;>intro h
 ·exact eY
 refine dk h ?_ ?_<;>intro h
 ·refine ab ?_
  refine oz 5 30 25 h (fun _ g9 h=> ?_) fun b9 h=> ?_
  ·refine ab ?_;obtain ⟨g1,b0,b5,b6,h⟩:=ba h
   refine cR h (fun _ k=>lu k) fun g2 h=> ?_
   exact gY
  refine ab ?_
  refine oz 5 36 31 h (fun _ g3 h=> ?_) fun b12 h=> ?_
  ·refine ab ?_;obtain ⟨g4,b7,d0,d1,h⟩:=ba h
   refine cR h (fun _ k=>ls k) fun g5 h=> ?_
   exact gY
  exact eY
 refine dk h ?_ ?_<;>intro h
 ·refine ab ?_;refine gS 4 46 42 h ?_;intro b16 h;refine ab ?_
  refine oz 5 52 47 h (fun _ g6 h=> ?_) fun g7 h=> ?_
  ·refine ab ?_;obtain ⟨g8,d2,d3,d4,h⟩:=ba h
   refine cR h (fun _ k=>ls k) fun h0 h=> ?_
   exact gY
  exact eY
 refine dk h ?_ ?_<;>intro h
 ·refine ab ?_
  refine oz 5 63 58 h (fun _ h1 h=> ?_) fun h2 h=> ?_
  ·refine ab ?_;obtain ⟨h3,d6,e0,e1,h⟩:=ba h
   refine cR h (fun _ k=>lu k) fun h4 h=> ?_
   exact gY
  refine ab ?_
  refine oz 5 69 64 h (fun _ h5 h=> ?_) fun h6 h=> ?_
  ·refine ab ?_;obtain ⟨h7,e2,e3,e4,h⟩:=ba h
   refine cR h (fun _ k=>ls k) fun h8 h=> ?_
   exact gY
  exact eY
 refine dk h ?_ ?_<;>intro h
 ·refine ab ?_
  refine oz 5 80 75 h (fun _ h9 h=> ?_) fun i0 h=> ?_
  ·refine ab ?_;obtain ⟨i1,e5,e6,e7,h⟩:=ba h
   refine cR h (fun _ k=>lu k) fun i2 h=> ?_
   exact gY
  refine ab ?_
  refine oz 5 86 81 h (fun _ i3 h=> ?_) fun i4 h=> ?_
  ·refine ab ?_;obtain ⟨i5,e8,e9,f0,h⟩:=ba h
   refine cR h (fun _ k=>lu k) fun i6 h=> ?_
   exact gY
  exact eY
 refine dk h ?_ ?_<;>intro h
 ·refine cR h (fun _ k=>su k) fun i7 h=> ?_
  exact eN
 refine dk h ?_ ?_<;>intro h
 ·refine ab ?_
  refine oz 6 102 96 h (fun _ f1 h=> ?_) fun i8 h=> ?_
  ·refine ab ?_;obtain ⟨i9,a7,a8,f2,h⟩:=ba h;refine ab ?_;exact sv (nu 0 J aE J (toNat_lt a7 a8) rT) J (bW f1 J) J<|gY
  refine ab ?_
  refine oz 4 107 103 h (fun _ f3 h=> ?_) fun j0 h=> ?_
  ·refine ab ?_;obtain ⟨a6,h⟩:=ac h;refine Nd 0 J (l:=(1:Int).toNat) (h:=a1.length) a6.2.1 a6.2.2 ?_;rintro j1 j2 j3 f4
   refine sv (wI 1 J f4 J t9 size28.out J (by rw [Xz a6.1];rfl) a6.2.1) J (bW f3 J) J<|cR h (fun _ k=>su k) fun j4 h=> ?_
   exact gY
  exact eY
 refine dk h ?_ ?_<;>intro h
 ·refine ab ?_
  refine oz 5 118 113 h (fun _ j5 h=> ?_) fun j6 h=> ?_
  ·refine ab ?_;obtain ⟨j7,f6,f9,g0,h⟩:=ba h
   refine cR h (fun _ k=>lu k) fun j8 h=> ?_
   exact gY
  exact eY
 exact eY
def ie (a0:W3)(a6:Bool×WZ):(Unit)->Option (Option Exit×Unit)
 |()=>(xg N a6.2).bind fun a7=>bif !a7 then (some (some .ret,())) else (some (none,()))
def gG (a0:W3):Option Bool:=
 (bif decide (a0.Zh<1) then (some true) else (some (decide (11<a0.Zh)))).bind fun b5=>(bif b5 then (some true) else (some (decide (a0.Zq<0)))).bind fun b6=>(bif b6 then (some true) else (some (decide (a0.Zm<0)))).bind fun b7=>(bif b7 then (some true) else (some (decide (63<a0.Zm)))).bind fun b8=>(bif b8 then (some true) else ((bif !decide (a0.Zn=0) then (some (!decide (a0.Zn=1))) else (some false)).bind fun a6=>some a6)).bind fun b9=>bif b9 then (some false) else ((uE N a0).bind fun d1=>(oW N a0 (cM (fun x st=>ie N a0 x st)) (none,())).bind fun a7=>rc a7.1 ((kz N a0).bind fun a8=>(bif a8 then ((lw N a0.Zh a0.Zi).bind fun b0=>some b0) else (some false)).bind fun d0=>some d0) (some false) (fun _=>none))
theorem mJ {N:Nat}{a0:W3}{r:Bool}(h:gG N a0=some r):Okc Xk 138 [.agg #[iV a0.Zh,iV a0.Zq,iV a0.Zm,iV a0.Zn,W A1 n1 c1,W A2 n2 c2]] ([aQ A1 n1 c1 a0.Zj,aQ A2 n2 c2 a0.Zi]) (fun u post=>u=.bool r/\post=[]):=by
 refine ce Tryz.func138 ?_;intro B3
 refine cl fun B4=> ?_
 refine sZ ?_;refine gS 4 12 8 h ?_;intro b5 h;refine ab ?_;refine gS 4 17 13 h ?_;intro b6 h;refine ab ?_;refine gS 4 22 18 h ?_;intro b7 h;refine ab ?_;refine gS 4 27 23 h ?_;intro b8 h;refine ab ?_
 refine xv 9 37 28 h (fun _ g9 h=> ?_) fun b9 h=> ?_
 ·refine ab ?_;refine gS 4 36 32 h ?_;intro a8 h;exact gY
 refine dk h ?_ ?_<;>intro h
 ·exact eY
 refine sY ?_;obtain ⟨b0,k,h⟩:=aa h;refine gD (oR (D5 k)) ?_;rintro _ _ ⟨_,⟨a6,rfl,rfl⟩,rfl⟩;refine ab ?_;refine gw ?_ bK (lr 0 J);obtain ⟨d0,k,h⟩:=aa h;refine uI (en:=(fun x=> [.bool x.1,.agg #[iV x.2.Zh,iV x.2.N,.string x.2.S]])) (fun x st=>ie N a0 x st) (fun (st:Unit) (mz:Unit)=> [aQ A1 n1 c1 a0.Zj,aQ A2 n2 c2 a0.Zi,ah B3 94 (iM a0 A1 n1 c1 A2 n2 c2),ah B4 4 [.bool false]]) [aW a6 94 (iM a0 A1 n1 c1 A2 n2 c2),aQ A1 n1 c1 a0.Zj,aQ A2 n2 c2 a0.Zi] (()) (()) J J call199.out J (fun _=>J) (fun l G hY=>(yZ k hY).mono fun _ _ hh=>hh.2) (bI [0,3,4] [] [3,4,2,1] 5 J) h ?_ ?_ ?_ ?_
 ·rintro l a7 _ je sr14 _ h;replace h:ie N a0 a7 ()=some (je,sr14):=h;simp only [Bd,YF,YG,YH,Yz,YA,Zf,XE]
  refine cl fun d1=> ?_
  refine cR h (fun _ k=>Kg k) fun d2 h=> ?_
  refine gH J h ?_ ?_<;>intro h
  ·refine ab ?_;obtain ⟨rfl,rfl⟩:=YZ (YX h);exact LJ ((cS [1,2,3,4] 5).trans (fX () J))
  refine ab ?_;obtain ⟨rfl,rfl⟩:=YZ (YX h);exact DD ((cS [1,2,3,4] 5).trans (fX () J))
 ·rintro _ h
  refine qP ([aQ A1 n1 c1 a0.Zj,aQ A2 n2 c2 a0.Zi,ah B3 94 (iM a0 A1 n1 c1 A2 n2 c2),ah B4 4 [.bool false]]) J<|cR h (fun _ k=>Bg k) fun d3 h=> ?_
  refine oz 6 53 47 h (fun _ d4 h=> ?_) fun d6 h=> ?_
  ·refine cR h (fun _ k=>CJ k) fun e0 h=> ?_
   exact gY
  exact eY
 ·rintro _ h;exact qP ([aQ A1 n1 c1 a0.Zj,aQ A2 n2 c2 a0.Zi,ah B3 94 (iM a0 A1 n1 c1 A2 n2 c2),ah B4 4 [.bool false]]) J<|eY
 rintro i _ h;exact aL h
def dz (N:Nat)(a0:W8):Option W8:=
 aI (bm (([]:List WZ).length+a0.length)) (some (([]:List WZ)++a0))
theorem jT {N:Nat}{a0 r:W8}(h:dz N a0=some r):Okc Xk 83 [W A1 n1 c1] ([aQ A1 n1 c1 a0]) (fun u post=> ∃A0 n0 c0,u=W A0 n0 c0/\post=[bj A0 n0 c0 r]):=by
 refine ce Tryz.func83 ?_;refine sZ ?_;refine fS (J7 J t9) ?_;refine LL J (fun g2=> ?_) (fun g2=> ?_)
 ·replace g2:(A1).isNone=true:=by simpa using g2
  refine Sl 0 J aE g2 (fun hx=> ?_);subst hx;replace h:aI (bm (([]:List WZ).length+([]:List WZ).length)) (some (([]:List WZ)++([]:List WZ)))=some r:=h
  replace h:some []=some r:=by simpa [aI] using h
  refine ab ?_;obtain rfl:=bJ h;exact nI J J ((bT ay 28 _).trans (cS [0] 2)) ⟨_,_,_,J,J⟩
 refine ab ?_
 refine sI (aw (R:=ay) (vss:=[]) (xs:=[]) J (zb) J J (fun _ _ hr=>All2.nil)) fun A4 n4 c4=> ?_
 obtain ⟨q5,h⟩:=ac h
 refine sI (az 0 1 J J aE J J t9 sw J J q5) fun A6 n6 c6=> ?_
 exact eN
def fO (a0:W3):Option W3:=
 (dz N a0.Zj).bind fun y5=>(dz N a0.Zi).bind fun y7=>some (⟨a0.Zh,a0.Zq,a0.Zm,a0.Zn,y5,y7⟩:W3)
theorem iP {N:Nat}{a0 r:W3}(h:fO N a0=some r):Okc Xk 140 [.agg #[iV a0.Zh,iV a0.Zq,iV a0.Zm,iV a0.Zn,W A1 n1 c1,W A2 n2 c2]] ([aQ A1 n1 c1 a0.Zj,aQ A2 n2 c2 a0.Zi]) (fun u post=> ∃A0 n0 c0 A1 n1 c1,u=.agg #[iV r.Zh,iV r.Zq,iV r.Zm,iV r.Zn,W A0 n0 c0,W A1 n1 c1]/\post=[bj A0 n0 c0 r.Zj,bj A1 n1 c1 r.Zi]):=by
 refine ce Tryz.func140 ?_;intro B3
 refine cl fun B4=> ?_
 refine dY [0,1,3,4] ?_;obtain ⟨y5,k,h⟩:=aa h
 refine zk 2 J (oR (jT k)) fun A6 n6 c6=> ?_
 refine zY [6] ?_;obtain ⟨y7,k,h⟩:=aa h
 refine zk 5 J (oR (jT k)) fun A8 n8 c8=> ?_
 refine gI 7 J O O (ao (us:=[W A6 n6 c6]) (cs':=(iM a0 A6 n6 c6 A2 n2 c2)) 3 J J J J size22.out J J J) ?_;rintro _ _ rfl;refine zY [8] ?_;refine gI 9 J O O (ao (us:=[W A8 n8 c8]) (cs':=(iM a0 A6 n6 c6 A8 n8 c8)) 3 J J J J size22.out J J J) ?_;rintro _ _ rfl;exact aY O<|eY
def eU (a0:W4)(a1:W3):Option (Int×Int×W4):=
 (aR N a0).bind fun a7=>bif a7 then (some (0,1,a0)) else ((gG N a1).bind fun a8=>bif !a8 then (some (0,51,a0)) else ((fO N a1).bind fun a6=>aI (bm (a0.m_.Zp.length+([(⟨a6.Zh,a6.Zq,a6.Zm,0,a6.Zj,a6.Zi⟩:W3)]:List W3).length)) (aI (in64 (2*((a0.m_.Zp++([(⟨a6.Zh,a6.Zq,a6.Zm,0,a6.Zj,a6.Zi⟩:W3)]:List W3)).length:Int))) (aI (in64 ((2*((a0.m_.Zp++([(⟨a6.Zh,a6.Zq,a6.Zm,0,a6.Zj,a6.Zi⟩:W3)]:List W3)).length:Int)) - 1)) (some ((2*((a0.m_.Zp++([(⟨a6.Zh,a6.Zq,a6.Zm,0,a6.Zj,a6.Zi⟩:W3)]:List W3)).length:Int)) - 1,0,(⟨(⟨a0.m_.Zp++([(⟨a6.Zh,a6.Zq,a6.Zm,0,a6.Zj,a6.Zi⟩:W3)]:List W3),a0.m_.Zr⟩:WY),a0.ZA,a0.ZC,a0.ZD⟩:W4)))))))
theorem Cr {N:Nat}{a0:W4}{a1:W3}{r:Int×Int×W4}(h:eU N a0 a1=some r):Okc Xk 108 [pV B1 0,.agg #[iV a1.Zh,iV a1.Zq,iV a1.Zm,iV a1.Zn,W A8 n8 c8,W A9 n9 c9]] ([aQ A8 n8 c8 a1.Zj,aQ A9 n9 c9 a1.Zi,ah B1 124 [W A2 n2 c2,W A3 n3 c3,W A4 n4 c4,W A5 n5 c5,pV B6 0],iF A2 n2 c2 a0.m_.Zp,iF A3 n3 c3 a0.m_.Zr,bj A4 n4 c4 a0.ZA,bj A5 n5 c5 a0.ZC,ah B6 213 [.map (some M7)],bE jJ rb M7 a0.ZD.at_]) (fun u post=> ∃A0 n0 c0 A1 n1 c1 A2 n2 c2 A3 n3 c3 M4,u=.tuple #[iV r.1,iV r.2.1]/\post=[ah B1 124 [W A0 n0 c0,W A1 n1 c1,W A2 n2 c2,W A3 n3 c3,pV B6 0],iF A0 n0 c0 r.2.2.m_.Zp,iF A1 n1 c1 r.2.2.m_.Zr,bj A2 n2 c2 r.2.2.ZA,bj A3 n3 c3 r.2.2.ZC,ah B6 213 [.map (some M4)],bE jJ rb M4 r.2.2.ZD.at_]):=by
 refine ce Tryz.func108 ?_;intro d2;refine sY ?_
 refine cR h (fun _ k=>dj k) fun e5 h=> ?_
 refine gH J h ?_ ?_<;>intro h
 ·exact eY
 refine cR h (fun _ k=>mJ k) fun e6 h=> ?_
 refine gH J h ?_ ?_<;>intro h
 ·exact eY
 refine G0 h (fun _ k=>iP k) fun a6 b5 b6 b7 b9 d0 d1 h=> ?_
 refine aB<|gw ?_ bK (bn 0 J);refine ab ?_;refine gw ?_ bK (bn 1 J);refine gw (t:=[(0,pV B1 0),(3,pV d2 0),(4,iV 0),(5,iV 0)]) ?_ ml (ae _)
 refine iR O 8 [0] [0,5,7] [16,17,18,19,20,21,22,23] [[],[],[1],[2],[3],[4],[],[6]] [aV (pV B1 0),
aV (pV B1 0),
aV (pV B1 0),
aV (pV B1 0),
aV (pV B1 0),
aV (W A2 n2 c2),
aV (.agg #[iV a6.Zh,iV a6.Zq,iV a6.Zm,iV 0,W b5 b6 b7,W b9 d0 d1]),
aX3 (fun (a7:Option Addr) (a8 b0:Nat)=> W a7 a8 b0) (fun a7 a8 b0=> [iF a7 a8 b0 ([(⟨a6.Zh,a6.Zq,a6.Zm,0,a6.Zj,a6.Zi⟩:W3)]:List W3)])] [] (ae _) (fu rfl me) O rfl rfl ?_ ?_ ?_
 ·exact ft J (nK (ap J) J (iI J (ae _)))<|md
 ·refine aG J ?_ ?_
  ·refine tH (aw (R:=jP) (vss:=[[iV a6.Zh,iV a6.Zq,iV a6.Zm,iV 0,W b5 b6 b7,W b9 d0 d1]]) (xs:=[(⟨a6.Zh,a6.Zq,a6.Zm,0,a6.Zj,a6.Zi⟩:W3)]) J (HZ _ _ _ _ _ _ _ _ _ _) J J (fun _ _ hr=> .cons (⟨_,_,_,_,_,_,J,hr 0 _ J J,hr 1 _ J J⟩) All2.nil)) J ?_;rintro _ _ ⟨e1,e2,e3,rfl,rfl⟩;exact Oh e1 e2 e3 (ae _)
  refine qR (aD (us:=[iV a6.Zh,iV a6.Zq,iV a6.Zm,iV 0,W b5 b6 b7,W b9 d0 d1]) 2 J J agg94.out J) ?_;refine qR (cD 5 J J K8 J) ?_;refine qE (rE J Gg) ?_;refine qE (rE J Gf) ?_;refine qE (dF J) ?_;refine qE (ap J) ?_;refine qE (ap J) ?_;exact dK
 intro a7 a8 b0;refine oq (t:=[(16,pV B1 0),(21,W A2 n2 c2),(23,W a7 a8 b0),(0,pV B1 0),(3,pV d2 0),(4,iV 0),(5,iV 0)]) (L':=[iF a7 a8 b0 ([(⟨a6.Zh,a6.Zq,a6.Zm,0,a6.Zj,a6.Zi⟩:W3)]:List W3),aQ b5 b6 b7 a6.Zj,aQ b9 d0 d1 a6.Zi,ah d2 94 [iV a6.Zh,iV a6.Zq,iV a6.Zm,iV 0,W b5 b6 b7,W b9 d0 d1],aQ A8 n8 c8 a1.Zj,aQ A9 n9 c9 a1.Zi,ah B1 124 [W A2 n2 c2,W A3 n3 c3,W A4 n4 c4,W A5 n5 c5,pV B6 0],iF A2 n2 c2 a0.m_.Zp,iF A3 n3 c3 a0.m_.Zr,bj A4 n4 c4 a0.ZA,bj A5 n5 c5 a0.ZC,ah B6 213 [.map (some M7)],bE jJ rb M7 a0.ZD.at_]) ?_ ml (ae _);obtain ⟨e4,h⟩:=ac h;refine uH 8 J O (az 7 0 J J aj J J Ww Ud J J e4) J J J ?_;rintro _ _ ⟨d3,d4,d6,rfl,rfl⟩;refine CS 9 J O (dF J) J J J<|CS 10 J O (rE J Gf) J J J<|CS 11 J O (rE J Gg) J J J<|pU 12 J O (ao (us:=[W d3 d4 d6]) (cs':=[W d3 d4 d6,W A3 n3 c3,W A4 n4 c4,W A5 n5 c5,pV B6 0]) 6 J J J J size119.out J J J) J J ?_;rintro _ _ rfl;refine Ar ?_;refine mj O<|ab ?_;obtain ⟨e0,h⟩:=ac h;refine gE (rD J J e0.1 e0.2) ?_;obtain ⟨e7,h⟩:=ac h;exact eY
theorem oy {N:Nat}{a0:W4}{a1:W3}{r:Int×Int×W4}(h:eU N a0 a1=some r):Okc Xk 108 [pV B1 0,.agg #[iV a1.Zh,iV a1.Zq,iV a1.Zm,iV a1.Zn,W A2 n2 c2,W A3 n3 c3]] ([aQ A2 n2 c2 a1.Zj,aQ A3 n3 c3 a1.Zi,oDHeap B1 a0]) (fun u post=>u=.tuple #[iV r.1,iV r.2.1]/\post=[oDHeap B1 r.2.2]):=Mk 2 rfl (fun _=>Cr h)
def jL (a0:WP)(a7 a8:Int)(b0:ByteArray)(b5:Int):Option (WZ×WP):=
 (eU N a0.Zv (⟨1,0,b5,0,([(⟨a7,a8,b0⟩:WZ)]:List WZ),[]⟩:W3)).bind fun a6=>some ((⟨7,a6.1,⟨#[]⟩⟩:WZ),(⟨a0.ZI,a0.ZB,(),a6.2.2,a0.Zw,a0.ZF,a0.ZL,a0.ZM,a0.ZN,a0.ZG,a0.ZH⟩:WP))
def ei (a1:Int)(a0:WP)(a6 a7:Int)(a8:ByteArray):Option (WZ×WP):=
 bif decide (a1=17) then (jL N a0 a6 a7 a8 1) else (jL N a0 a6 a7 a8 17)
def jM (a1:Int)(a0:WP)(p21:Bool):Option (WZ×WP):=
 bif p21 then ((di N a0.Zv 3).bind fun a6=>ei N a1 a0 a6.Zh a6.N a6.S) else ((di N a0.Zv 0).bind fun a7=>ei N a1 a0 a7.Zh a7.N a7.S)
def fV (a1:Int)(a0:WP)(p15:Bool):Option (WZ×WP):=
 bif p15 then ((di N a0.Zv 5).bind fun a6=>ei N a1 a0 a6.Zh a6.N a6.S) else (bif decide (a1=4) then (jM N a1 a0 (decide (a1=4))) else (jM N a1 a0 (decide (a1=16))))
def pF (a0:WP)(a1:Int):Option (WZ×WP):=
 bif decide (a1=0) then (ei N a1 a0 1 0 (⟨#[]⟩)) else (bif decide (a1=6) then (fV N a1 a0 (decide (a1=6))) else (bif decide (a1=7) then (fV N a1 a0 (decide (a1=7))) else (fV N a1 a0 (decide (a1=8)))))
theorem oK {N:Nat}{r:WZ×WP}(h:pF N a0 a1=some r):Okc Xk 64 [pV B1 0,iV a1] ([ah B1 81 (At a0 B2 B3 A4 n4 c4 A5 n5 c5 A6 n6 c6),oDHeap B2 a0.Zv,oDTable B3 a0.Zw,pQ A4 n4 c4 a0.ZF,AV A5 n5 c5 a0.ZG,pQ A6 n6 c6 a0.ZH]) (fun u post=> ∃A0 n0 c0 A1 n1 c1 A2 n2 c2,u=.agg #[iV r.1.Zh,iV r.1.N,.string r.1.S]/\post=[ah B1 81 (At r.2 B2 B3 A0 n0 c0 A1 n1 c1 A2 n2 c2),oDHeap B2 r.2.Zv,oDTable B3 r.2.Zw,pQ A0 n0 c0 r.2.ZF,AV A1 n1 c1 r.2.ZG,pQ A2 n2 c2 r.2.ZH]):=by
 refine ce Tryz.func64 ?_;intro B7
 refine cl fun B8=> ?_
 refine ak (fun s L=> ∃a6 a7 a8,ei N a1 a0 a6 a7 a8=some r/\s=[(0,pV B1 0),(1,iV a1),(4,pV B7 0),(5,pV B8 0)]/\L=[pQ A4 n4 c4 a0.ZF,AV A5 n5 c5 a0.ZG,pQ A6 n6 c6 a0.ZH,ah B1 81 (At a0 B2 B3 A4 n4 c4 A5 n5 c5 A6 n6 c6),ah B7 28 [iV 0,iV 0,.string (⟨#[]⟩)],ah B8 28 [iV a6,iV a7,.string a8],oDHeap B2 a0.Zv,oDTable B3 a0.Zw]) ?_ ?_
 ·refine dk h ?_ ?_<;>intro h
  ·exact jY
  refine ak (fun s L=> ∃p15,fV N a1 a0 p15=some r/\s=[(0,pV B1 0),(1,iV a1),(4,pV B7 0),(5,pV B8 0),(10,iV a1),(18,.bool p15)]/\L=[pQ A4 n4 c4 a0.ZF,AV A5 n5 c5 a0.ZG,pQ A6 n6 c6 a0.ZH,ah B1 81 (At a0 B2 B3 A4 n4 c4 A5 n5 c5 A6 n6 c6),ah B7 28 [iV 0,iV 0,.string (⟨#[]⟩)],ah B8 28 [iV 1,iV 0,.string (⟨#[]⟩)],oDHeap B2 a0.Zv,oDTable B3 a0.Zw]) ?_ ?_
  ·refine dk h ?_ ?_<;>intro h
   ·exact jY
   refine dk h ?_ ?_<;>intro h
   ·exact jY
   exact jY
  rintro _ _ ⟨p15,h,rfl,rfl⟩;refine gH J h ?_ ?_<;>intro h
  ·refine cR h (fun _ k=>iG k) fun d0 h=> ?_
   exact jN
  refine ak (fun s L=> ∃p21,jM N a1 a0 p21=some r/\s=[(0,pV B1 0),(1,iV a1),(4,pV B7 0),(5,pV B8 0),(27,.bool p21)]/\L=[pQ A4 n4 c4 a0.ZF,AV A5 n5 c5 a0.ZG,pQ A6 n6 c6 a0.ZH,ah B1 81 (At a0 B2 B3 A4 n4 c4 A5 n5 c5 A6 n6 c6),ah B7 28 [iV 0,iV 0,.string (⟨#[]⟩)],ah B8 28 [iV 1,iV 0,.string (⟨#[]⟩)],oDHeap B2 a0.Zv,oDTable B3 a0.Zw]) ?_ ?_
  ·refine dk h ?_ ?_<;>intro h
   ·exact jY
   exact jY
  rintro _ _ ⟨p21,h,rfl,rfl⟩;refine gH J h ?_ ?_<;>intro h
  ·refine cR h (fun _ k=>iG k) fun d1 h=> ?_
   exact jN
  refine cR h (fun _ k=>iG k) fun d2 h=> ?_
  exact jN
 rintro _ _ ⟨a6,a7,a8,h,rfl,rfl⟩;refine ab ?_
 refine sI (aw (R:=ay) (vss:=[[iV a6,iV a7,.string a8]]) (xs:=[(⟨a6,a7,a8⟩:WZ)]) J (jy _ _ _) J J (fun _ _ hr=> .cons J All2.nil)) fun b5 b6 b7=> ?_
 intro b9;refine ab ?_;refine ak (fun s L=> ∃b0,jL N a0 a6 a7 a8 b0=some r/\s=[(0,pV B1 0),(4,pV B7 0),(6,pV b9 0)]/\L=[pQ A4 n4 c4 a0.ZF,AV A5 n5 c5 a0.ZG,pQ A6 n6 c6 a0.ZH,ah B1 81 (At a0 B2 B3 A4 n4 c4 A5 n5 c5 A6 n6 c6),ah B7 28 [iV 0,iV 0,.string (⟨#[]⟩)],bj b5 b6 b7 ([(⟨a6,a7,a8⟩:WZ)]:List WZ),ah b9 94 [iV 1,iV 0,iV b0,iV 0,W b5 b6 b7,W none 0 0],oDHeap B2 a0.Zv,oDTable B3 a0.Zw]) ?_ ?_
 ·refine dk h ?_ ?_<;>intro h
  ·exact jY
  exact jY
 rintro _ _ ⟨b0,h,rfl,rfl⟩;refine aB<|be O ([pQ A4 n4 c4 a0.ZF,AV A5 n5 c5 a0.ZG,pQ A6 n6 c6 a0.ZH,ah B1 81 (At a0 B2 B3 A4 n4 c4 A5 n5 c5 A6 n6 c6),ah B7 28 [iV 0,iV 0,.string (⟨#[]⟩)],ah b9 94 [iV 1,iV 0,iV b0,iV 0,W b5 b6 b7,W none 0 0],oDTable B3 a0.Zw]) (cS [0,1,2,3,4,6,8] 9) ?_;refine ab ?_;refine kM (bn 5 J) (cS [0,1,2,3,4,6,8] 9) ?_;obtain ⟨d3,k,h⟩:=aa h;refine kM (qL ay _) (cS [1,2,3,4,5,7,9] 10) ?_;refine zD 5 J (oC (oy k)) ?_;rintro _ _ ⟨_,⟨rfl,rfl⟩,rfl⟩;refine bL ?_;exact eY
def gt (a0:W4)(a1:WZ):Option (Int×W4):=
 (aR N a0).bind fun y9=>bif y9 then (some (0,a0)) else (aI (bm (a0.ZA.length+([a1]:List WZ).length)) (aI (in64 (((a0.ZA++([a1]:List WZ)).length:Int) - 1)) (some (((a0.ZA++([a1]:List WZ)).length:Int) - 1,(⟨a0.m_,a0.ZA++([a1]:List WZ),a0.ZC,a0.ZD⟩:W4)))))
theorem Cq {N:Nat}{a0:W4}{a1:WZ}{r:Int×W4}(h:gt N a0 a1=some r):Okc Xk 29 [pV B1 0,(aF a1)] ([ah B1 124 [W A2 n2 c2,W A3 n3 c3,W A4 n4 c4,W A5 n5 c5,pV B6 0],iF A2 n2 c2 a0.m_.Zp,iF A3 n3 c3 a0.m_.Zr,bj A4 n4 c4 a0.ZA,bj A5 n5 c5 a0.ZC,ah B6 213 [.map (some M7)],bE jJ rb M7 a0.ZD.at_]) (fun u post=> ∃A0 n0 c0 A1 n1 c1 A2 n2 c2 A3 n3 c3 M4,u=iV r.1/\post=[ah B1 124 [W A0 n0 c0,W A1 n1 c1,W A2 n2 c2,W A3 n3 c3,pV B6 0],iF A0 n0 c0 r.2.m_.Zp,iF A1 n1 c1 r.2.m_.Zr,bj A2 n2 c2 r.2.ZA,bj A3 n3 c3 r.2.ZC,ah B6 213 [.map (some M4)],bE jJ rb M4 r.2.ZD.at_]):=by
 refine ce Tryz.func29 ?_;intro B8;refine sY ?_
 refine cR h (fun _ k=>dj k) fun y9 h=> ?_
 refine gH J h ?_ ?_<;>intro h
 ·exact eY
 refine ab ?_;refine aB<|gw (t:=[(0,pV B1 0),(3,pV B8 0),(4,iV 0)]) ?_ ml (ae _)
 refine iR O 7 [0] [0,4,6] [7,8,9,10,11,12,13] [[],[],[1],[2],[3],[],[5]] [aV (pV B1 0),
aV (pV B1 0),
aV (pV B1 0),
aV (pV B1 2),
aV (W A4 n4 c4),
aV ((aF a1)),
aX3 (fun (a6:Option Addr) (a7 a8:Nat)=> W a6 a7 a8) (fun a6 a7 a8=> [bj a6 a7 a8 ([a1]:List WZ)])] [] (ae _) (fu rfl me) O rfl rfl ?_ ?_ ?_
 ·exact ft J (nK (ap J) J (iI J (ae _)))<|md
 ·refine aG J ?_ ?_
  ·refine tH (aw (R:=ay) (vss:=[(bU a1)]) (xs:=[a1]) J (jy _ _ _) J J (fun _ _ hr=> .cons J All2.nil)) J ?_;rintro _ _ ⟨b7,b9,d0,rfl,rfl⟩;exact Oh b7 b9 d0 (ae _)
  refine qR (aD (us:=bU a1) 0 J J agg28.out J) ?_;refine qR (cD 1 J J sj J) ?_;refine qE (kK J Ge) ?_;refine qE (dF J) ?_;refine qE (ap J) ?_;refine qE (ap J) ?_;exact dK
 intro a6 a7 a8;refine oq (t:=[(7,pV B1 0),(11,W A4 n4 c4),(13,W a6 a7 a8),(0,pV B1 0),(3,pV B8 0),(4,iV 0)]) (L':=[bj a6 a7 a8 ([a1]:List WZ),ah B8 28 (bU a1),ah B1 124 [W A2 n2 c2,W A3 n3 c3,W A4 n4 c4,W A5 n5 c5,pV B6 0],iF A2 n2 c2 a0.m_.Zp,iF A3 n3 c3 a0.m_.Zr,bj A4 n4 c4 a0.ZA,bj A5 n5 c5 a0.ZC,ah B6 213 [.map (some M7)],bE jJ rb M7 a0.ZD.at_]) ?_ ml (ae _);obtain ⟨d1,h⟩:=ac h;refine uH 7 J O (az 5 0 J J aj J J t9 sw J J d1) J J J ?_;rintro _ _ ⟨b0,b5,b6,rfl,rfl⟩;refine CS 8 J O (dF J) J J J<|CS 9 J O (kK J Ge) J J J<|pU 10 J O (ao (us:=[W b0 b5 b6]) (cs':=[W A2 n2 c2,W A3 n3 c3,W b0 b5 b6,W A5 n5 c5,pV B6 0]) 2 J J J J size22.out J J J) J J ?_;rintro _ _ rfl;refine mj O<|ab ?_;obtain ⟨d2,h⟩:=ac h;exact eY
theorem dU {N:Nat}{a0:W4}{a1:WZ}{r:Int×W4}(h:gt N a0 a1=some r):Okc Xk 29 [pV B1 0,(aF a1)] ([oDHeap B1 a0]) (fun u post=>u=iV r.1/\post=[oDHeap B1 r.2]):=Mk 0 rfl (fun _=>Cq h)
def cV (a0:WP)(a1:W3):Option (WZ×WP):=
 (eU N a0.Zv a1).bind fun a6=>bif !decide (a6.2.1=0) then (some ((⟨0,0,⟨#[]⟩⟩:WZ),(⟨a0.ZI,a0.ZB,(),a6.2.2,a0.Zw,a0.ZF,a0.ZL,a0.ZM,a0.ZN,a0.ZG,a0.ZH⟩:WP))) else (some ((⟨9,a6.1,⟨#[]⟩⟩:WZ),(⟨a0.ZI,a0.ZB,(),a6.2.2,a0.Zw,a0.ZF,a0.ZL,a0.ZM,a0.ZN,a0.ZG,a0.ZH⟩:WP)))
theorem iA {N:Nat}{a1:W3}{r:WZ×WP}(h:cV N a0 a1=some r):Okc Xk 65 [pV B1 0,.agg #[iV a1.Zh,iV a1.Zq,iV a1.Zm,iV a1.Zn,W A7 n7 c7,W A8 n8 c8]] ([aQ A7 n7 c7 a1.Zj,aQ A8 n8 c8 a1.Zi,ah B1 81 (At a0 B2 B3 A4 n4 c4 A5 n5 c5 A6 n6 c6),oDHeap B2 a0.Zv,oDTable B3 a0.Zw,pQ A4 n4 c4 a0.ZF,AV A5 n5 c5 a0.ZG,pQ A6 n6 c6 a0.ZH]) (fun u post=> ∃A0 n0 c0 A1 n1 c1 A2 n2 c2,u=.agg #[iV r.1.Zh,iV r.1.N,.string r.1.S]/\post=[ah B1 81 (At r.2 B2 B3 A0 n0 c0 A1 n1 c1 A2 n2 c2),oDHeap B2 r.2.Zv,oDTable B3 r.2.Zw,pQ A0 n0 c0 r.2.ZF,AV A1 n1 c1 r.2.ZG,pQ A2 n2 c2 r.2.ZH]):=by
 refine ce Tryz.func65 ?_;intro B9
 refine cl fun a6=> ?_
 refine sZ ?_;refine fS (dO J WC) ?_;refine fY J<|ab ?_;refine aB<|be O ([ah a6 28 [iV 0,iV 0,.string (⟨#[]⟩)],ah B9 94 (iM a1 A7 n7 c7 A8 n8 c8),aQ A7 n7 c7 a1.Zj,aQ A8 n8 c8 a1.Zi,ah B1 81 (At a0 B2 B3 A4 n4 c4 A5 n5 c5 A6 n6 c6),oDTable B3 a0.Zw,pQ A4 n4 c4 a0.ZF,AV A5 n5 c5 a0.ZG,pQ A6 n6 c6 a0.ZH]) (cS [0,1,2,3,4,6,7,8,9] 10) ?_;refine ab ?_;obtain ⟨a7,k,h⟩:=aa h;refine zD 5 J (oC (oy k)) ?_;rintro _ _ ⟨_,⟨rfl,rfl⟩,rfl⟩;refine bL ?_;refine sY ?_;refine gH J h ?_ ?_<;>intro h
 ·exact eY
 exact eY
theorem xK {N:Nat}{a1:W3}{r:WZ×WP}(h:cV N a0 a1=some r){B1 B2 B3:Nat}:Okc Xk 65 [pV B1 0,.agg #[iV a1.Zh,iV a1.Zq,iV a1.Zm,iV a1.Zn,W A4 n4 c4,W A5 n5 c5]] ([aQ A4 n4 c4 a1.Zj,aQ A5 n5 c5 a1.Zi,oDWorld B1 B2 B3 a0]) (fun u post=>u=.agg #[iV r.1.Zh,iV r.1.N,.string r.1.S]/\post=[oDWorld B1 B2 B3 r.2]):=Mk 2 rfl (fun _=>iA h)
def yj (N:Nat)(a6 a7 a8 b0 b5 b6 b7 b9 d0 d1:Int)(d2:List ByteArray)(d3 d4 d6:Int)(e0:List W5)(e1:List ByteArray)(e2:W4)(e3:WR):Option (Int ⊕ (WP×Int)):=
 some (.inr ((⟨(⟨a6,a7,a8⟩:WU),(⟨b0,b5,b6,b7,b9,d0,d1⟩:WO),(),e2,e3,d2,d3,d4,d6,e0,e1⟩:WP),0))
def Ah (a8 b0 b5 b6 b7 b9 d0 d1 d2 d3:Int)(d4:List ByteArray)(d6 e0 e1:Int)(e2:List W5)(e3:List ByteArray)(e4:W4)(e5:WR):Option (Int ⊕ (WP×Int)):=
 (cV N (⟨(⟨a8,b0,b5⟩:WU),(⟨b6,b7,b9,d0,d1,d2,d3⟩:WO),(),e4,e5,d4,d6,e0,e1,e2,e3⟩:WP) (⟨11,0,0,0,[],[]⟩:W3)).bind fun a6=>(gt N a6.2.Zv a6.1).bind fun a7=>yj N a6.2.ZI.ZY a6.2.ZI.ZS a6.2.ZI.ZZ a6.2.ZB.ZT a6.2.ZB.ZU a6.2.ZB.ZP a6.2.ZB.ZR a6.2.ZB.Zp a6.2.ZB.ZV a6.2.ZB.ZW a6.2.ZF a6.2.ZL a6.2.ZM a6.2.ZN a6.2.ZG a6.2.ZH a7.2 a6.2.Zw
def BE (a8 b0 b5 p13 b6 p15 b7 b9 d0 d1:Int)(d2:List ByteArray)(p21 d3 d4:Int)(d6:List W5)(e0:List ByteArray)(e1:W4)(e2:WR):Option (Int ⊕ (WP×Int)):=
 (cV N (⟨(⟨a8,b0,b5⟩:WU),(⟨p13,b6,p15,b7,b9,d0,d1⟩:WO),(),e1,e2,d2,p21,d3,d4,d6,e0⟩:WP) (⟨11,0,0,0,[],[]⟩:W3)).bind fun a6=>(gt N a6.2.Zv a6.1).bind fun a7=>Ah N a6.2.ZI.ZY a6.2.ZI.ZS a6.2.ZI.ZZ a6.2.ZB.ZT a6.2.ZB.ZU a6.2.ZB.ZP a6.2.ZB.ZR a6.2.ZB.Zp a6.2.ZB.ZV a6.2.ZB.ZW a6.2.ZF a6.2.ZL a6.2.ZM a6.2.ZN a6.2.ZG a6.2.ZH a7.2 a6.2.Zw
def Ai (N:Nat)(a6:Int->Int->Int->Int->Int->Int->Int->Int->Int->Int->Int->(List ByteArray)->Int->Int->Int->(List W5)->(List ByteArray)->W4->WR->Option (Int ⊕ (WP×Int)))(a7 a8 b0 b5 b6 b7 b9 d0 d1 d2 d3:Int)(d4:List ByteArray)(d6 e0 e1:Int)(e2:List W5)(e3:List ByteArray)(e4:W4)(e5:WR):Option (Int ⊕ (WP×Int)):=
 aI (in64 (a7+1)) (a6 (a7+1) a8 b0 b5 b6 b7 b9 d0 d1 d2 d3 d4 d6 e0 e1 e2 e3 e4 e5)
def rN (N:Nat):Nat->Int->Int->Int->Int->Int->Int->Int->Int->Int->Int->Int->(List ByteArray)->Int->Int->Int->(List W5)->(List ByteArray)->W4->WR->Option (Int ⊕ (WP×Int))
 |0,_,_,_,_,_,_,_,_,_,_,_,_,_,_,_,_,_,_,_=>none
 |e6+1,a7,a8,b0,b5,b6,b7,b9,d0,d1,d2,d3,d4,d6,e0,e1,e2,e3,e4,e5=>bif decide (a7<18) then ((pF N (⟨(⟨a8,b0,b5⟩:WU),(⟨b6,b7,b9,d0,d1,d2,d3⟩:WO),(),e4,e5,d4,d6,e0,e1,e2,e3⟩:WP) a7).bind fun a6=>(gt N a6.2.Zv a6.1).bind fun e7=>Ai N (rN N e6) a7 a6.2.ZI.ZY a6.2.ZI.ZS a6.2.ZI.ZZ a6.2.ZB.ZT a6.2.ZB.ZU a6.2.ZB.ZP a6.2.ZB.ZR a6.2.ZB.Zp a6.2.ZB.ZV a6.2.ZB.ZW a6.2.ZF a6.2.ZL a6.2.ZM a6.2.ZN a6.2.ZG a6.2.ZH e7.2 a6.2.Zw) else (BE N a8 b0 b5 b6 b7 b9 d0 d1 d2 d3 d4 d6 e0 e1 e2 e3 e4 e5)
def pG (a0:WO):Option (Int ⊕ (WP×Int)):=
 (Ag N a0).bind fun y2=>bif !y2 then (some (.inl 1)) else ((AW N).bind fun y4=>(yb N).bind fun y6=>rN N N 0 0 0 0 a0.ZT a0.ZU a0.ZP a0.ZR a0.Zp a0.ZV a0.ZW [] 0 0 0 [] [] y4 y6)
theorem Iq {N:Nat}{a0:WO}{r:(Int ⊕ (WP×Int))}(h:pG N a0=some r):Okc Xk 27 [(F6 a0)] ([]) (fun u post=>ST (fun (r:Int)=>u=.tuple #[.pointer none,iV r]/\post=[]) (fun (r:WP×Int)=> ∃B0 B1 B2 A3 n3 c3 A4 n4 c4 A5 n5 c5,u=.tuple #[pV B0 0,iV r.2]/\post=[ah B0 81 (At r.1 B1 B2 A3 n3 c3 A4 n4 c4 A5 n5 c5),oDHeap B1 r.1.Zv,oDTable B2 r.1.Zw,pQ A3 n3 c3 r.1.ZF,AV A4 n4 c4 r.1.ZG,pQ A5 n5 c5 r.1.ZH]) r):=by
 refine ce Tryz.func27 ?_;intro B1;refine sY ?_;obtain ⟨y2,k,h⟩:=aa h;refine Ej (oR (Fg k)) ?_;refine gH J h ?_ ?_<;>intro h
 ·exact eY
 refine ab ?_;refine dY [] ?_;refine ab ?_;obtain ⟨y4,k,h⟩:=aa h
 refine Ng 1 J (oC (GV k)) fun B5=> ?_
 obtain ⟨y6,k,h⟩:=aa h
 refine Ng 2 J (oC (E4 k)) fun B7=> ?_
 refine ab ?_
 refine Ng 4 J (rt J J) fun B8=> ?_
 refine ab ?_;refine ak (fun s L=> ∃g3 g4 g5 p13 g6 p15 g7 g8 g9 h0 h1 p21 h2 h3 h4 h5 h6 h7 h8 h9 i0 i1 i2 i3 i4 i5 i6,BE N g3 g4 g5 p13 g6 p15 g7 g8 g9 h0 h1 p21 h2 h3 h4 h5 h6 h7=some r/\s=[(2,.pointer none),(3,iV 0),(4,pV B8 0)]/\L=[pQ h8 h9 i0 h1,AV i1 i2 i3 h4,pQ i4 i5 i6 h5,ah B8 81 [iV g3,iV g4,iV g5,iV p13,iV g6,iV p15,iV g7,iV g8,iV g9,iV h0,.nilIface,pV B5 0,pV B7 0,W h8 h9 i0,iV p21,iV h2,iV h3,W i1 i2 i3,W i4 i5 i6],oDHeap B5 h6,oDTable B7 h7]) ?_ ?_
 ·refine ab ?_;refine im (fun m s L=> ∃g2 i7 i8 i9 j0 j1 j2 j3 j4 j5 j6 j7 j8 j9 k0 k1 k2 k3 k4 k5 k6 k7 k8 k9 l0 l1 l2 l3,rN N m g2 i7 i8 i9 j0 j1 j2 j3 j4 j5 j6 j7 j8 j9 k0 k1 k2 k3 k4=some r/\s=[(2,.pointer none),(3,iV 0),(4,pV B8 0),(14,iV g2)]/\L=[pQ k5 k6 k7 j7,AV k8 k9 l0 k1,pQ l1 l2 l3 k2,ah B8 81 [iV i7,iV i8,iV i9,iV j0,iV j1,iV j2,iV j3,iV j4,iV j5,iV j6,.nilIface,pV B5 0,pV B7 0,W k5 k6 k7,iV j8,iV j9,iV k0,W k8 k9 l0,W l1 l2 l3],oDHeap B5 k3,oDTable B7 k4]) N _ _ ⟨0,0,0,0,a0.ZT,a0.ZU,a0.ZP,a0.ZR,a0.Zp,a0.ZV,a0.ZW,[],0,0,0,[],[],y4,y6,none,0,0,none,0,0,none,0,0,h,J,J⟩ sA ((bT ta 9 _).trans ((bT nP 309 _).trans ((bT ta 9 _).trans (cS [2,1,0,3,5,4] 7)))) ?_;rintro (_|u9)
  all_goals (refine fun s L=>aJ fun g2=>aJ fun i7=>aJ fun i8=>aJ fun i9=>aJ fun j0=>aJ fun j1=>aJ fun j2=>aJ fun j3=>aJ fun j4=>aJ fun j5=>aJ fun j6=>aJ fun j7=>aJ fun j8=>aJ fun j9=>aJ fun k0=>aJ fun k1=>aJ fun k2=>aJ fun k3=>aJ fun k4=>aJ fun k5=>aJ fun k6=>aJ fun k7=>aJ fun k8=>aJ fun k9=>aJ fun l0=>aJ fun l1=>aJ fun l2=>aJ fun l3=>J6 fun h=> ?_)
  ·exact aL h
  rw [rN.eq_2] at h;refine ab ?_;refine aB<|gH J h (fun h=> ?_) (fun h=> ?_)
  ·refine ab ?_;refine ak (fun s L=> ∃l4 l5 l6 l7 l8 l9 m0 m1 m2 m3 m4 m5 m6 m7 m8 m9 n0 o0 o1 o2 p1 p2 p3 p4 p5 p6 p7,Ai N (rN N u9) g2 l4 l5 l6 l7 l8 l9 m0 m1 m2 m3 m4 m5 m6 m7 m8 m9 n0 o0=some r/\s=[(2,.pointer none),(3,iV 0),(4,pV B8 0),(14,iV g2)]/\L=[pQ o1 o2 p1 m4,AV p2 p3 p4 m8,pQ p5 p6 p7 m9,ah B8 81 [iV l4,iV l5,iV l6,iV l7,iV l8,iV l9,iV m0,iV m1,iV m2,iV m3,.nilIface,pV B5 0,pV B7 0,W o1 o2 p1,iV m5,iV m6,iV m7,W p2 p3 p4,W p5 p6 p7],oDHeap B5 n0,oDTable B7 o0]) ?_ ?_
   ·refine ab ?_;refine be O ([]) (cS [] 6) ?_;refine zY [0,1,2,4,5] ?_;refine mO 3 6 O ?_ ?_
    ·refine bB J (sR (cD 3 J J FI J)) J J J ?_;rintro _ _ ⟨rfl,rfl⟩;refine bL ?_;obtain ⟨v1,b0,h⟩:=aa h;refine zD 6 J (oC (oK b0)) ?_;rintro _ _ ⟨_,⟨v2,v6,v7,w0,w1,w2,w3,w4,w5,rfl,rfl⟩,rfl⟩;refine bL ?_;refine bz ?_;obtain ⟨w6,b5,h⟩:=aa h;refine zD 7 J (oC (dU b5)) ?_;rintro _ _ ⟨_,⟨rfl,rfl⟩,rfl⟩;refine bL ?_;refine bz ?_;exact aY O<|jY
    obtain ⟨v1,b0,h⟩:=aa h;refine bB J (oC (oK b0)) J J J ?_;rintro _ _ ⟨_,⟨v2,v6,v7,w0,w1,w2,w3,w4,w5,rfl,rfl⟩,rfl⟩;refine bL ?_;refine bz ?_;refine zD 3 J (sR (cD 0 J J FI J)) ?_;rintro _ _ ⟨rfl,rfl⟩;refine bL ?_;obtain ⟨w6,b5,h⟩:=aa h;refine zD 7 J (oC (dU b5)) ?_;rintro _ _ ⟨_,⟨rfl,rfl⟩,rfl⟩;refine bL ?_;refine bz ?_;exact aY O<|jY
   refine fun s L=>aJ fun l4=>aJ fun l5=>aJ fun l6=>aJ fun l7=>aJ fun l8=>aJ fun l9=>aJ fun m0=>aJ fun m1=>aJ fun m2=>aJ fun m3=>aJ fun m4=>aJ fun m5=>aJ fun m6=>aJ fun m7=>aJ fun m8=>aJ fun m9=>aJ fun n0=>aJ fun o0=>aJ fun o1=>aJ fun o2=>aJ fun p1=>aJ fun p2=>aJ fun p3=>aJ fun p4=>aJ fun p5=>aJ fun p6=>aJ fun p7=>J6 fun h=>ab ?_
   obtain ⟨x8,h⟩:=ac h;exact lY
  exact jY
 refine fun s L=>aJ fun g3=>aJ fun g4=>aJ fun g5=>aJ fun p13=>aJ fun g6=>aJ fun p15=>aJ fun g7=>aJ fun g8=>aJ fun g9=>aJ fun h0=>aJ fun h1=>aJ fun p21=>aJ fun h2=>aJ fun h3=>aJ fun h4=>aJ fun h5=>aJ fun h6=>aJ fun h7=>aJ fun h8=>aJ fun h9=>aJ fun i0=>aJ fun i1=>aJ fun i2=>aJ fun i3=>aJ fun i4=>aJ fun i5=>aJ fun i6=>J6 fun h=>ak (fun s L=> ∃p8 q0 q1 q2 q3 q4 q5 q6 q7 q8 q9 r0 r1 r2 r3 r4 r5 r6 s0 s1 s2 s3 s4 s5 s6 s7 s8,Ah N p8 q0 q1 q2 q3 q4 q5 q6 q7 q8 q9 r0 r1 r2 r3 r4 r5 r6=some r/\s=[(2,.pointer none),(3,iV 0),(4,pV B8 0)]/\L=[pQ s0 s1 s2 q9,AV s3 s4 s5 r3,pQ s6 s7 s8 r4,ah B8 81 [iV p8,iV q0,iV q1,iV q2,iV q3,iV q4,iV q5,iV q6,iV q7,iV q8,.nilIface,pV B5 0,pV B7 0,W s0 s1 s2,iV r0,iV r1,iV r2,W s3 s4 s5,W s6 s7 s8],oDHeap B5 r5,oDTable B7 r6]) ?_ ?_
 ·refine be O ([]) (cS [] 6) ?_;refine zY [0,1,2,4] ?_;refine zE 5 J (nH J (bld_94_0 _).out) ?_;refine mO 3 6 O ?_ ?_
  ·refine bB J (sR (cD 3 J J FI J)) J J J ?_;rintro _ _ ⟨rfl,rfl⟩;refine bL ?_;obtain ⟨w7,b6,h⟩:=aa h;refine kM (qL ay _) (cS [] 7) ?_;refine kM (qL ay _) (cS [] 8) ?_;refine zD 6 J (oC (iA b6)) ?_;rintro _ _ ⟨_,⟨w8,w9,x1,x2,x3,x4,x5,x6,x7,rfl,rfl⟩,rfl⟩;refine bL ?_;refine bz ?_;obtain ⟨s9,a6,h⟩:=aa h;refine zD 7 J (oC (dU a6)) ?_;rintro _ _ ⟨_,⟨rfl,rfl⟩,rfl⟩;refine bL ?_;refine bz ?_;exact aY O<|jY
  obtain ⟨w7,b6,h⟩:=aa h;refine wA (qL ay _) (cS [] 7) ?_;refine wA (qL ay _) (cS [] 8) ?_;refine bB J (oC (iA b6)) J J J ?_;rintro _ _ ⟨_,⟨w8,w9,x1,x2,x3,x4,x5,x6,x7,rfl,rfl⟩,rfl⟩;refine bL ?_;refine bz ?_;refine zD 3 J (sR (cD 0 J J FI J)) ?_;rintro _ _ ⟨rfl,rfl⟩;refine bL ?_;obtain ⟨s9,a6,h⟩:=aa h;refine zD 7 J (oC (dU a6)) ?_;rintro _ _ ⟨_,⟨rfl,rfl⟩,rfl⟩;refine bL ?_;refine bz ?_;exact aY O<|jY
 refine fun s L=>aJ fun p8=>aJ fun q0=>aJ fun q1=>aJ fun q2=>aJ fun q3=>aJ fun q4=>aJ fun q5=>aJ fun q6=>aJ fun q7=>aJ fun q8=>aJ fun q9=>aJ fun r0=>aJ fun r1=>aJ fun r2=>aJ fun r3=>aJ fun r4=>aJ fun r5=>aJ fun r6=>aJ fun s0=>aJ fun s1=>aJ fun s2=>aJ fun s3=>aJ fun s4=>aJ fun s5=>aJ fun s6=>aJ fun s7=>aJ fun s8=>J6 fun h=>ak (fun s L=> ∃b7 b9 d0 d1 d2 d3 d4 d6 e0 e1 e2 e3 e4 e5 e6 e7 e8 e9 f0 f1 f2 f3 f4 f6 f9 g0 g1,yj N b7 b9 d0 d1 d2 d3 d4 d6 e0 e1 e2 e3 e4 e5 e6 e7 e8 e9=some r/\s=[(2,.pointer none),(3,iV 0),(4,pV B8 0)]/\L=[pQ f0 f1 f2 e2,AV f3 f4 f6 e6,pQ f9 g0 g1 e7,ah B8 81 [iV b7,iV b9,iV d0,iV d1,iV d2,iV d3,iV d4,iV d6,iV e0,iV e1,.nilIface,pV B5 0,pV B7 0,W f0 f1 f2,iV e3,iV e4,iV e5,W f3 f4 f6,W f9 g0 g1],oDHeap B5 e8,oDTable B7 e9]) ?_ ?_
 ·refine be O ([]) (cS [] 6) ?_;refine zY [0,1,2,4] ?_;refine zE 5 J (nH J (bld_94_0 _).out) ?_;refine mO 3 6 O ?_ ?_
  ·refine bB J (sR (cD 3 J J FI J)) J J J ?_;rintro _ _ ⟨rfl,rfl⟩;refine bL ?_;obtain ⟨t1,a7,h⟩:=aa h;refine kM (qL ay _) (cS [] 7) ?_;refine kM (qL ay _) (cS [] 8) ?_;refine zD 6 J (oC (iA a7)) ?_;rintro _ _ ⟨_,⟨t2,u0,u1,u2,u3,u4,u5,u6,u7,rfl,rfl⟩,rfl⟩;refine bL ?_;refine bz ?_;obtain ⟨u8,a8,h⟩:=aa h;refine zD 7 J (oC (dU a8)) ?_;rintro _ _ ⟨_,⟨rfl,rfl⟩,rfl⟩;refine bL ?_;refine bz ?_;exact aY O<|jY
  obtain ⟨t1,a7,h⟩:=aa h;refine wA (qL ay _) (cS [] 7) ?_;refine wA (qL ay _) (cS [] 8) ?_;refine bB J (oC (iA a7)) J J J ?_;rintro _ _ ⟨_,⟨t2,u0,u1,u2,u3,u4,u5,u6,u7,rfl,rfl⟩,rfl⟩;refine bL ?_;refine bz ?_;refine zD 3 J (sR (cD 0 J J FI J)) ?_;rintro _ _ ⟨rfl,rfl⟩;refine bL ?_;obtain ⟨u8,a8,h⟩:=aa h;refine zD 7 J (oC (dU a8)) ?_;rintro _ _ ⟨_,⟨rfl,rfl⟩,rfl⟩;refine bL ?_;refine bz ?_;exact aY O<|jY
 exact fun s L=>aJ fun b7=>aJ fun b9=>aJ fun d0=>aJ fun d1=>aJ fun d2=>aJ fun d3=>aJ fun d4=>aJ fun d6=>aJ fun e0=>aJ fun e1=>aJ fun e2=>aJ fun e3=>aJ fun e4=>aJ fun e5=>aJ fun e6=>aJ fun e7=>aJ fun e8=>aJ fun e9=>aJ fun f0=>aJ fun f1=>aJ fun f2=>aJ fun f3=>aJ fun f4=>aJ fun f6=>aJ fun f9=>aJ fun g0=>aJ fun g1=>J6 fun h=>eY
theorem yi {N:Nat}{a0:WO}{r:(Int ⊕ (WP×Int))}(h:pG N a0=some r):Okc Xk 27 [(F6 a0)] ([]) (fun u post=>ST (fun (r:Int)=>u=.tuple #[.pointer none,iV r]/\post=[]) (fun (r:WP×Int)=> ∃B0 B1 B2,u=.tuple #[pV B0 0,iV r.2]/\post=[oDWorld B0 B1 B2 r.1]) r):=by
 rcases r with _|_<;>exact Vt (Iq h)
def eT (a0:WP)(a1:Int):Option WZ:=
 (bif decide (a1<0) then (some true) else (some (decide (18<=a1)))).bind fun b8=>bif b8 then (some (⟨0,0,⟨#[]⟩⟩:WZ)) else ((di N a0.Zv a1).bind fun a6=>some a6)
theorem vF {N:Nat}{r:WZ}(h:eT N a0 a1=some r):Okc Xk 67 [pV B1 0,iV a1] ([aW B1 81 (At a0 B2 B3 A4 n4 c4 A5 n5 c5 A6 n6 c6),pDHeap B2 a0.Zv,pDTable B3 a0.Zw,iy ta (W A4 n4 c4) a0.ZF,iy nP (W A5 n5 c5) a0.ZG,iy ta (W A6 n6 c6) a0.ZH]) (fun u post=>u=(aF r)/\post=[]):=by
 refine ce Tryz.func67 ?_;intro B7;refine sY ?_;refine fS (dO J WC) ?_;refine gS 3 14 11 h ?_;intro b8 h;refine dk h ?_ ?_<;>intro h
 ·exact eY
 refine cR h (fun _ k=>iG k) fun a6 h=> ?_
 exact eN
theorem uh {N:Nat}{r:WZ}(h:eT N a0 a1=some r){B1 B2 B3:Nat}:Okc Xk 67 [pV B1 0,iV a1] ([pDWorld B1 B2 B3 a0]) (fun u post=>u=(aF r)/\post=[]):=NM 0 rfl (fun _=>vF h)
def gm (a0:WP)(a1:W3):Option (WZ×Bool×WP):=
 bif decide (a0.ZB.ZR<=a0.ZI.ZS) then (some ((⟨0,0,⟨#[]⟩⟩:WZ),false,a0)) else ((eU N a0.Zv a1).bind fun a6=>bif !decide (a6.2.1=0) then (some ((⟨0,0,⟨#[]⟩⟩:WZ),false,(⟨a0.ZI,a0.ZB,(),a6.2.2,a0.Zw,a0.ZF,a0.ZL,a0.ZM,a0.ZN,a0.ZG,a0.ZH⟩:WP))) else (aI (in64 (a0.ZI.ZS+1)) (some ((⟨7,a6.1,⟨#[]⟩⟩:WZ),true,(⟨(⟨a0.ZI.ZY,a0.ZI.ZS+1,a0.ZI.ZZ⟩:WU),a0.ZB,(),a6.2.2,a0.Zw,a0.ZF,a0.ZL,a0.ZM,a0.ZN,a0.ZG,a0.ZH⟩:WP)))))
theorem z6 {N:Nat}{a1:W3}{r:WZ×Bool×WP}(h:gm N a0 a1=some r):Okc Xk 66 [pV B1 0,.agg #[iV a1.Zh,iV a1.Zq,iV a1.Zm,iV a1.Zn,W A7 n7 c7,W A8 n8 c8]] ([aQ A7 n7 c7 a1.Zj,aQ A8 n8 c8 a1.Zi,ah B1 81 (At a0 B2 B3 A4 n4 c4 A5 n5 c5 A6 n6 c6),oDHeap B2 a0.Zv,oDTable B3 a0.Zw,pQ A4 n4 c4 a0.ZF,AV A5 n5 c5 a0.ZG,pQ A6 n6 c6 a0.ZH]) (fun u post=> ∃A0 n0 c0 A1 n1 c1 A2 n2 c2,u=.tuple #[.agg #[iV r.1.Zh,iV r.1.N,.string r.1.S],.bool r.2.1]/\post=[ah B1 81 (At r.2.2 B2 B3 A0 n0 c0 A1 n1 c1 A2 n2 c2),oDHeap B2 r.2.2.Zv,oDTable B3 r.2.2.Zw,pQ A0 n0 c0 r.2.2.ZF,AV A1 n1 c1 r.2.2.ZG,pQ A2 n2 c2 r.2.2.ZH]):=by
 refine ce Tryz.func66 ?_;intro B9
 refine cl fun a6=> ?_
 refine aB<|dY [] ?_;refine ab ?_;refine zE 1 J (dO J WC) ?_;refine dk h ?_ ?_<;>intro h
 ·exact eY
 refine ab ?_;refine aB<|be O ([ah a6 28 [iV 0,iV 0,.string (⟨#[]⟩)],ah B9 94 (iM a1 A7 n7 c7 A8 n8 c8),aQ A7 n7 c7 a1.Zj,aQ A8 n8 c8 a1.Zi,ah B1 81 (At a0 B2 B3 A4 n4 c4 A5 n5 c5 A6 n6 c6),oDTable B3 a0.Zw,pQ A4 n4 c4 a0.ZF,AV A5 n5 c5 a0.ZG,pQ A6 n6 c6 a0.ZH]) (cS [0,1,2,3,4,6,7,8,9] 10) ?_;refine ab ?_;obtain ⟨a7,k,h⟩:=aa h;refine zD 5 J (oC (oy k)) ?_;rintro _ _ ⟨_,⟨rfl,rfl⟩,rfl⟩;refine bL ?_;refine sY ?_;refine gH J h ?_ ?_<;>intro h
 ·exact eY
 refine ab ?_;obtain ⟨a8,h⟩:=ac h;exact eY
theorem xJ {N:Nat}{a1:W3}{r:WZ×Bool×WP}(h:gm N a0 a1=some r){B1 B2 B3:Nat}:Okc Xk 66 [pV B1 0,.agg #[iV a1.Zh,iV a1.Zq,iV a1.Zm,iV a1.Zn,W A4 n4 c4,W A5 n5 c5]] ([aQ A4 n4 c4 a1.Zj,aQ A5 n5 c5 a1.Zi,oDWorld B1 B2 B3 a0]) (fun u post=>u=.tuple #[.agg #[iV r.1.Zh,iV r.1.N,.string r.1.S],.bool r.2.1]/\post=[oDWorld B1 B2 B3 r.2.2]):=Mk 2 rfl (fun _=>z6 h)
def vq (a0:WP)(a1:W8):Option (WZ×Bool×WP):=
 (eT N a0 2).bind fun y6=>(gm N a0 (⟨2,0,1,0,([y6]:List WZ),a1⟩:W3)).bind fun y8=>some (y8.1,y8.2.1,y8.2.2)
theorem I2 {N:Nat}{a1:W8}{r:WZ×Bool×WP}(h:vq N a0 a1=some r){B1 B2 B3:Nat}:Okc Xk 28 [pV B1 0,W A4 n4 c4] ([aQ A4 n4 c4 a1,oDWorld B1 B2 B3 a0]) (fun u post=>u=.tuple #[.agg #[iV r.1.Zh,iV r.1.N,.string r.1.S],.bool r.2.1]/\post=[oDWorld B1 B2 B3 r.2.2]):=by
 refine ce Tryz.func28 ?_;intro B5;refine sY ?_;refine fS (dO J WC) ?_;refine fY J<|ab ?_;obtain ⟨y6,k,h⟩:=aa h;refine gV (oR (uh k)) ?_
 refine sI (aw (R:=ay) (vss:=[[iV y6.Zh,iV y6.N,.string y6.S]]) (xs:=[y6]) J (jy _ _ _) J J (fun _ _ hr=> .cons J All2.nil)) fun A7 n7 c7=> ?_
 refine mP (bn 0 J) ?_;obtain ⟨y8,k,h⟩:=aa h;refine Ej (oC (xJ k)) ?_;exact eN
def tY (a0:W8):Option (WZ ⊕ (WP×WZ×Bool)):=
 (pG N (⟨0,1048576,50,100,0,0,0⟩:WO)).bind fun y3=>Er y3 (fun y3_0=>some (.inl (⟨0,0,⟨#[]⟩⟩:WZ))) (fun y3_1=>bif !decide (y3_1.2=0) then (some (.inl (⟨0,0,⟨#[]⟩⟩:WZ))) else ((vq N y3_1.1 a0).bind fun y8=>some (.inr (y8.2.2,y8.1,y8.2.1))))
theorem iT {N:Nat}{a0:W8}{r:(WZ ⊕ (WP×WZ×Bool))}(h:tY N a0=some r):Okc Xk 9 [W A1 n1 c1] ([aQ A1 n1 c1 a0]) (fun u post=>ST (fun (r:WZ)=>u=.tuple #[.pointer none,(aF r),.bool false]/\post=[]) (fun (r:WP×WZ×Bool)=> ∃B0 B1 B2,u=.tuple #[pV B0 0,.agg #[iV r.2.1.Zh,iV r.2.1.N,.string r.2.1.S],.bool r.2.2]/\post=[oDWorld B0 B1 B2 r.1]) r):=by
 refine ce Tryz.func9 ?_;intro B2;refine ab ?_;obtain ⟨y3,a6,h⟩:=aa h;rcases y3 with y3_0|y3_1
 ·replace h:=G9 h;refine Ej (oC (yi a6)) ?_;refine sZ ?_;refine fS (dO J WC) ?_;exact jE J<|eY
 replace h:=G8 h;refine gD (oC (yi a6)) ?_;rintro _ _ ⟨_,⟨B4,B5,B6,rfl,rfl⟩,rfl⟩;refine sY ?_;refine fS (dO J WC) ?_;refine gH J h ?_ ?_<;>intro h
 ·exact eY
 refine cC h (fun _ k=>I2 k) fun y8 h=> ?_
 intro B9;refine ab ?_;refine aB<|be O ([ah B9 28 [iV y8.1.Zh,iV y8.1.N,.string y8.1.S],oDWorld B4 B5 B6 y8.2.2,aQ A1 n1 c1 a0]) (cS [0,1,3] 4) ?_;refine ab ?_;refine zO 4 J (ao (us:=[iV y8.1.Zh,iV y8.1.N,.string y8.1.S]) (cs':=[iV y8.1.Zh,iV y8.1.N,.string y8.1.S]) 2 J J J J size28.out J J J) ?_;rintro _ _ rfl;refine bL ?_;exact eY
def iU (N:Nat)(a0:WZ):Option Bool:=
 (bif decide (a0.Zh=7) then (some true) else (some (decide (a0.Zh=9)))).bind fun b2=>some b2
theorem ug {N:Nat}{a0:WZ}{r:Bool}(h:iU N a0=some r):Okc Xk 96 [(aF a0)] ([]) (fun u post=>u=.bool r/\post=[]):=by
 refine ce Tryz.func96 ?_;intro B1;refine ab ?_;refine gS 4 10 6 h ?_;intro b2 h;exact eY
end Go.Proofs.YtmcifcmlojonnaaGreatDoor
namespace Go.Proofs.YtmcifcmlojonnaaGreatDoor
variable (N:Nat){a1 a2 a3:Int}{l:Nat}{σ:Type}{a0:WP}
variable {A1 A2 A3 A4 A5 A6 A7 A8 A9:Option Addr}{B1 B2 B3 B6 M3 M7 c1 c2 c3 c4 c5 c6 c7 c8 c9 n1 n2 n3 n4 n5 n6 n7 n8 n9:Nat}
open Go.RowKit Asn
set_option maxRecDepth 20000
def qh (N:Nat)(a1:Int)(p6:Xg)(p7:Int):Option (Xg×Int×Bool):=
 (bif decide (0<a1) then (some (decide (p7<(p6.length:Int)))) else (some false)).bind fun a6=>some (p6,p7,a6)
def oL (a0:WY)(a1:Int):Option (Xg×Int×Bool):=
 aI (in64 (a1.tdiv 2)) (bif decide (a1.tmod 2=0) then (aI (in64 (a1.tdiv 2)) (aI (in64 ((a1.tdiv 2) - 1)) (qh N a1 a0.Zr ((a1.tdiv 2) - 1)))) else (qh N a1 a0.Zp (a1.tdiv 2)))
theorem yl {N:Nat}{a0:WY}{r:Xg×Int×Bool}(h:oL N a0 a1=some r):Okc Xk 164 [.agg #[W A1 n1 c1,W A2 n2 c2],iV a1] ([iE A1 n1 c1 a0.Zp,iE A2 n2 c2 a0.Zr]) (fun u post=> ∃A0 n0 c0,u=.tuple #[W A0 n0 c0,iV r.2.1,.bool r.2.2]/\post=[iE A0 n0 c0 r.1]):=by
 refine ce Tryz.func164 ?_;intro B3;refine ab ?_;obtain ⟨q4,h⟩:=ac h;refine fS (Dt J J (by decide) q4.1 q4.2) ?_;refine ak (fun s L=> ∃p6 p7 A6 n6 c6,qh N a1 p6 p7=some r/\s=[(1,iV a1),(4,W none 0 0),(5,iV 0),(6,.bool false),(7,W A6 n6 c6),(8,iV p7)]/\L=[iE A6 n6 c6 p6]) ?_ ?_
 ·refine ab ?_;refine fS (sJ J J (by decide)) ?_;refine gH J h ?_ ?_<;>intro h
  ·refine ab ?_;obtain ⟨q9,h⟩:=ac h;refine gE (Dt J J (by decide) q9.1 q9.2) ?_;obtain ⟨a6,h⟩:=ac h;exact jY
  exact jY
 rintro _ _ ⟨p6,p7,A6,n6,c6,h,rfl,rfl⟩;refine ab ?_;refine gS 5 30 25 h ?_;intro a7 h;exact eY
def pH (a0:WY)(a1:Int):Option Bool:=
 (oL N a0 a1).bind fun y4=>some y4.2.2
theorem sX {N:Nat}{a0:WY}{r:Bool}(h:pH N a0 a1=some r):Okc Xk 160 [.agg #[W A1 n1 c1,W A2 n2 c2],iV a1] ([iE A1 n1 c1 a0.Zp,iE A2 n2 c2 a0.Zr]) (fun u post=>u=.bool r/\post=[]):=by
 refine ce Tryz.func160 ?_;intro B3
 refine VX h (fun _ k=>yl k) fun y4 A5 n5 c5 h=> ?_
 exact eN
def jZ (a0:W4)(a1:Int):Option Bool:=
 (aR N a0).bind fun y8=>(bif !y8 then ((pH N a0.m_ a1).bind fun a6=>some a6) else (some false)).bind fun b9=>some b9
theorem rz {N:Nat}{a0:W4}{r:Bool}(h:jZ N a0 a1=some r):Okc Xk 137 [pV B1 0,iV a1] ([aW B1 124 [W A2 n2 c2,W A3 n3 c3,W A4 n4 c4,W A5 n5 c5,pV B6 0],iE A2 n2 c2 a0.m_.Zp,iE A3 n3 c3 a0.m_.Zr,aQ A4 n4 c4 a0.ZA,aQ A5 n5 c5 a0.ZC,aW B6 213 [.map (some M7)],qU jJ rb M7 a0.ZD.at_]) (fun u post=>u=.bool r/\post=[]):=by
 refine ce Tryz.func137 ?_
 refine cR h (fun _ k=>dj k) fun y8 h=> ?_
 refine oz 7 15 8 h (fun _ g9 h=> ?_) fun b9 h=> ?_
 ·refine cR h (fun _ k=>sX k) fun a6 h=> ?_
  exact gY
 exact eY
def ik (N:Nat)(a0:W4)(a1:Int):Option (Int ⊕ Int):=
 bif decide (a1.tmod 2=1) then (aI (in64 (a1.tdiv 2)) ((aq a0.m_.Zp (a1.tdiv 2)).bind fun a6=>some (.inl (a1.tdiv 2)))) else (aI (in64 (a1.tdiv 2)) (aI (in64 ((a1.tdiv 2) - 1)) ((aq a0.m_.Zr ((a1.tdiv 2) - 1)).bind fun a7=>some (.inr ((a1.tdiv 2) - 1)))))
theorem gr {N:Nat}{a0:W4}{r:(Int ⊕ Int)}(h:ik N a0 a1=some r):Okc Xk 139 [pV B1 0,iV a1] ([aW B1 124 [W A2 n2 c2,W A3 n3 c3,W A4 n4 c4,W A5 n5 c5,pV B6 0],iE A2 n2 c2 a0.m_.Zp,iE A3 n3 c3 a0.m_.Zr,aQ A4 n4 c4 a0.ZA,aQ A5 n5 c5 a0.ZC,aW B6 213 [.map (some M7)],qU jJ rb M7 a0.ZD.at_]) (fun u post=>ST (fun (r:Int)=>u=dG (W A2 n2 c2) r.toNat 6 0/\post=[]) (fun (r:Int)=>u=dG (W A3 n3 c3) r.toNat 6 0/\post=[]) r):=by
 refine ce Tryz.func139 ?_;refine sZ ?_;refine fS (sJ J J (by decide)) ?_;refine gH J h ?_ ?_<;>intro h
 ·refine ab ?_;obtain ⟨q9,h⟩:=ac h;refine gE (Dt J J (by decide) q9.1 q9.2) ?_;obtain ⟨b9,a7,a8,b0,h⟩:=ba h;exact eY
 refine ab ?_;obtain ⟨a6,h⟩:=ac h;refine gE (Dt J J (by decide) a6.1 a6.2) ?_;obtain ⟨d0,h⟩:=ac h;refine ab ?_;obtain ⟨d1,b5,b6,b7,h⟩:=ba h;exact eY
def nE (a0:W4)(a1:Int):Option (W3×Bool):=
 (jZ N a0 a1).bind fun y9=>bif !y9 then (some ((⟨0,0,0,0,[],[]⟩:W3),false)) else ((ik N a0 a1).bind fun a6=>Er a6 (fun y13_0=>(aq a0.m_.Zp y13_0).bind fun a7=>(fO N a7).bind fun a8=>some (a8,true)) (fun y13_1=>(aq a0.m_.Zr y13_1).bind fun b0=>(fO N b0).bind fun b5=>some (b5,true)))
theorem Ei {N:Nat}{a0:W4}{r:W3×Bool}(h:nE N a0 a1=some r):Okc Xk 129 [pV B1 0,iV a1] ([aW B1 124 [W A2 n2 c2,W A3 n3 c3,W A4 n4 c4,W A5 n5 c5,pV B6 0],iE A2 n2 c2 a0.m_.Zp,iE A3 n3 c3 a0.m_.Zr,aQ A4 n4 c4 a0.ZA,aQ A5 n5 c5 a0.ZC,aW B6 213 [.map (some M7)],qU jJ rb M7 a0.ZD.at_]) (fun u post=> ∃A0 n0 c0 A1 n1 c1,u=.tuple #[.agg #[iV r.1.Zh,iV r.1.Zq,iV r.1.Zm,iV r.1.Zn,W A0 n0 c0,W A1 n1 c1],.bool r.2]/\post=[bj A0 n0 c0 r.1.Zj,bj A1 n1 c1 r.1.Zi]):=by
 refine ce Tryz.func129 ?_;intro B8;refine sY ?_
 refine cR h (fun _ k=>rz k) fun y9 h=> ?_
 refine gH J h ?_ ?_<;>intro h
 ·refine ab ?_;obtain rfl:=bJ h;exact kL (rs:=[.cell 4 94,.tmp 5]) (vs:=[.agg #[iV 0,iV 0,iV 0,iV 0,W none 0 0,W none 0 0],.bool false]) J (.cons (dy 0 J J agg94.out) (.cons (dR J) .nil)) J ((bT ay 28 _).trans ((bT ay 28 _).trans (cS [1,0] 10))) ⟨_,_,_,_,_,_,J,J⟩
 refine ab ?_;obtain ⟨d1,a6,h⟩:=aa h;rcases d1 with y13_0|y13_1
 ·replace h:=G9 h;refine gD (oR (gr a6)) ?_;rintro _ _ ⟨_,⟨rfl,rfl⟩,rfl⟩;obtain ⟨b9,a7,a8,b0,h⟩:=ba h;refine gR (mU 2 J aE J (toNat_lt a7 a8))<|Ks 2 J b0 (uu b9) ?_;rintro _ _ ⟨d2,d3,d4,d6,e0,e1,rfl,rfl⟩
  refine gR (BH (us:=(iM b9 d2 d3 d4 d6 e0 e1)) 0 J J agg94.out J)<|G0 h (fun _ k=>iP k) fun e8 e9 f0 f1 f2 f3 f4 h=> ?_
  exact eN
 replace h:=G8 h;refine gD (oR (gr a6)) ?_;rintro _ _ ⟨_,⟨rfl,rfl⟩,rfl⟩;obtain ⟨d0,b5,b6,b7,h⟩:=ba h;refine gR (mU 3 J aE J (toNat_lt b5 b6))<|Ks 3 J b7 (uu d0) ?_;rintro _ _ ⟨e2,e3,e4,e5,e6,e7,rfl,rfl⟩
 refine gR (BH (us:=(iM d0 e2 e3 e4 e5 e6 e7)) 0 J J agg94.out J)<|G0 h (fun _ k=>iP k) fun f6 f9 g0 g1 g2 g3 g4 h=> ?_
 exact eN
theorem vg {N:Nat}{a0:W4}{r:W3×Bool}(h:nE N a0 a1=some r):Okc Xk 129 [pV B1 0,iV a1] ([pDHeap B1 a0]) (fun u post=> ∃A0 n0 c0 A1 n1 c1,u=.tuple #[.agg #[iV r.1.Zh,iV r.1.Zq,iV r.1.Zm,iV r.1.Zn,W A0 n0 c0,W A1 n1 c1],.bool r.2]/\post=[bj A0 n0 c0 r.1.Zj,bj A1 n1 c1 r.1.Zi]):=NM 0 rfl (fun _=>Ei h)
def se (N:Nat)(p15 a6 a7 a8:Int)(b0 b5:W8):Option W3:=
 some (⟨p15,a6,a7,a8,b0,b5⟩:W3)
def bR (a0:WP)(a1:WZ):Option W3:=
 (iU N a1).bind fun y9=>bif !y9 then (some (⟨0,0,0,0,[],[]⟩:W3)) else ((nE N a0.Zv a1.N).bind fun a6=>se N a6.1.Zh a6.1.Zq a6.1.Zm a6.1.Zn a6.1.Zj a6.1.Zi)
theorem z8 {N:Nat}{a1:WZ}{r:W3}(h:bR N a0 a1=some r):Okc Xk 84 [pV B1 0,(aF a1)] ([aW B1 81 (At a0 B2 B3 A4 n4 c4 A5 n5 c5 A6 n6 c6),pDHeap B2 a0.Zv,pDTable B3 a0.Zw,iy ta (W A4 n4 c4) a0.ZF,iy nP (W A5 n5 c5) a0.ZG,iy ta (W A6 n6 c6) a0.ZH]) (fun u post=> ∃A0 n0 c0 A1 n1 c1,u=.agg #[iV r.Zh,iV r.Zq,iV r.Zm,iV r.Zn,W A0 n0 c0,W A1 n1 c1]/\post=[bj A0 n0 c0 r.Zj,bj A1 n1 c1 r.Zi]):=by
 refine ce Tryz.func84 ?_;intro B7
 refine cl fun B8=> ?_
 refine sZ ?_;refine fS (dO J WC) ?_
 refine cR h (fun _ k=>ug k) fun y9 h=> ?_
 refine gH J h ?_ ?_<;>intro h
 ·refine ab ?_;obtain rfl:=bJ h;exact kL (rs:=[.cell 4 94]) (vs:=[.agg #[iV 0,iV 0,iV 0,iV 0,W none 0 0,W none 0 0]]) J (.cons (dy 0 J J agg94.out) .nil) J ((bT ay 28 _).trans ((bT ay 28 _).trans (cS [1,0] 10))) ⟨_,_,_,_,_,_,J,J⟩
 refine ab ?_;refine ak (fun s L=> ∃p15 b0 b5 b6 b7 b9 d0 d1 d2 d3 d4 d6 e0,se N p15 b0 b5 b6 b7 b9=some r/\s=[(4,pV B8 0),(5,pV d0 0)]/\L=[bj d1 d2 d3 b7,bj d4 d6 e0 b9,ah d0 94 [iV p15,iV b0,iV b5,iV b6,W d1 d2 d3,W d4 d6 e0],ah B8 94 [iV 0,iV 0,iV 0,iV 0,W none 0 0,W none 0 0]]) ?_ ?_
 ·refine be O _ (ae _)<|zY [0,1,2,3,4,5] ?_;refine mO 6 10 O ?_ ?_
  ·obtain ⟨e1,k,h⟩:=aa h;refine bB J (oR (vg k)) J J J ?_;rintro _ _ ⟨_,⟨e2,e3,e4,a6,a7,a8,rfl,rfl⟩,rfl⟩;refine bL ?_;refine zY [7,8,9] ?_
   refine Ng 10 J (bF zero94.out J) fun e9=> ?_
   refine zO 11 J (ao (us:=(iM e1.1 e2 e3 e4 a6 a7 a8)) (cs':=(iM e1.1 e2 e3 e4 a6 a7 a8)) 0 J J J J size94.out J J J) ?_;rintro _ _ rfl;refine bL ?_;refine zX [12] ?_;exact jY
  refine bB J (bF zero94.out J) J J J ?_;rintro _ _ ⟨f0,rfl,rfl⟩;refine bL ?_;obtain ⟨e5,k,h⟩:=aa h
  refine V3 6 J (oR (vg k)) fun a6 a7 a8 e6 e7 e8=> ?_
  refine zY [7,8,9] ?_;refine zO 11 J (ao (us:=(iM e5.1 a6 a7 a8 e6 e7 e8)) (cs':=(iM e5.1 a6 a7 a8 e6 e7 e8)) 2 J J J J size94.out J J J) ?_;rintro _ _ rfl;refine bL ?_;refine zX [12] ?_;exact jY
 exact fun s L=>aJ fun p15=>aJ fun b0=>aJ fun b5=>aJ fun b6=>aJ fun b7=>aJ fun b9=>aJ fun d0=>aJ fun d1=>aJ fun d2=>aJ fun d3=>aJ fun d4=>aJ fun d6=>aJ fun e0=>J6 fun h=>eY
theorem xM {r:W3}: ∀v post,((fun (u:Value) (post:Xi)=> ∃A0 n0 c0 A1 n1 c1,u=.agg #[iV r.Zh,iV r.Zq,iV r.Zm,iV r.Zn,W A0 n0 c0,W A1 n1 c1]/\post=[bj A0 n0 c0 r.Zj,bj A1 n1 c1 r.Zi])) v post-> ∀c∈post,iS c:=by
 rintro _ _ ⟨_,_,_,_,_,_,rfl,rfl⟩;exact t5 qG (t5 qG (ax))
theorem jG {N:Nat}{a1:WZ}{r:W3}(h:bR N a0 a1=some r){B1 B2 B3:Nat}:Okc Xk 84 [pV B1 0,(aF a1)] ([pDWorld B1 B2 B3 a0]) (fun u post=> ∃A0 n0 c0 A1 n1 c1,u=.agg #[iV r.Zh,iV r.Zq,iV r.Zm,iV r.Zn,W A0 n0 c0,W A1 n1 c1]/\post=[bj A0 n0 c0 r.Zj,bj A1 n1 c1 r.Zi]):=NM 0 rfl (fun _=>z8 h)
theorem vV {r:W3}: ∀v post,((fun (u:Value) (post:Xi)=> ∃A0 n0 c0 A1 n1 c1,u=.agg #[iV r.Zh,iV r.Zq,iV r.Zm,iV r.Zn,W A0 n0 c0,W A1 n1 c1]/\post=[bj A0 n0 c0 r.Zj,bj A1 n1 c1 r.Zi])) v post-> ∀c∈post,iS c:=xM
def ca (a0:WP)(a1:WZ):Option (W3×Bool):=
 bif !decide (a1.Zh=7) then (some ((⟨0,0,0,0,[],[]⟩:W3),false)) else ((bR N a0 a1).bind fun y9=>some (y9,decide (y9.Zh=2)))
theorem dH {N:Nat}{a1:WZ}{r:W3×Bool}(h:ca N a0 a1=some r){B1 B2 B3:Nat}:Okc Xk 41 [pV B1 0,(aF a1)] ([pDWorld B1 B2 B3 a0]) (fun u post=> ∃A0 n0 c0 A1 n1 c1,u=.tuple #[.agg #[iV r.1.Zh,iV r.1.Zq,iV r.1.Zm,iV r.1.Zn,W A0 n0 c0,W A1 n1 c1],.bool r.2]/\post=[bj A0 n0 c0 r.1.Zj,bj A1 n1 c1 r.1.Zi]):=by
 refine ce Tryz.func41 ?_;intro B4
 refine cl fun B5=> ?_
 refine sZ ?_;refine fS (dO J WC) ?_;refine gH J h ?_ ?_<;>intro h
 ·refine ab ?_;obtain rfl:=bJ h;exact kL (rs:=[.cell 4 94,.tmp 5]) (vs:=[.agg #[iV 0,iV 0,iV 0,iV 0,W none 0 0,W none 0 0],.bool false]) J (.cons (dy 0 J J agg94.out) (.cons (dR J) .nil)) J ((bT ay 28 _).trans ((bT ay 28 _).trans (cS [1,0] 5))) ⟨_,_,_,_,_,_,J,J⟩
 refine G0 h (fun _ k=>jG k) fun y9 a6 a7 a8 b0 b5 b6 h=> ?_
 intro b7;refine ab ?_;refine aB<|be O ([ah b7 94 (iM y9 a6 a7 a8 b0 b5 b6),bj a6 a7 a8 y9.Zj,bj b0 b5 b6 y9.Zi,ah B4 28 (bU a1),pDWorld B1 B2 B3 a0]) (cS [0,1,2,4,5] 6) ?_;refine ab ?_;refine zO 4 J (ao (us:=(iM y9 a6 a7 a8 b0 b5 b6)) (cs':=(iM y9 a6 a7 a8 b0 b5 b6)) 3 J J J J size94.out J J J) ?_;rintro _ _ rfl;refine bL ?_;exact eY
def eV (N:Nat){σ:Type}(fy:(Int×WZ)->σ->Option (Bool×σ))(a1:W3):Nat->Int->σ->Option σ
 |0,_,_=>none
 |m4+1,p5,p6=>bif decide (p5<(a1.Zi.length:Int)) then ((aq a1.Zi p5).bind fun x8=>bif !decide (x8=(⟨8,0,(⟨#[]⟩:ByteArray)⟩:WZ)) then ((fy (p5,x8) p6).bind fun a6=>bif !a6.1 then (some a6.2) else (aI (in64 (p5+1)) ((eV N fy a1 m4) (p5+1) a6.2))) else (aI (in64 (p5+1)) ((eV N fy a1 m4) (p5+1) p6))) else (some p6)
def sU (a1:W3)(fy:(Int×WZ)->σ->Option (Bool×σ))(s0:σ):Option σ:=
 eV N fy a1 N 0 s0
theorem ze {N:Nat}{a1:W3}{fy:(Int×WZ)->σ->Option (Bool×σ)}{s0 r:σ}(h:sU N a1 fy s0=some r){G:σ->Xi}(hY:tG Xk l G (fun x=> [iV x.1,.agg #[iV x.2.Zh,iV x.2.N,.string x.2.S]]) fy):Okc Xk 85 [.func (.yield l) #[] #[],pV B1 0] (aW B1 94 (iM a1 A2 n2 c2 A3 n3 c3)::aQ A2 n2 c2 a1.Zj::aQ A3 n3 c3 a1.Zi::sG::(G s0)) (fun u post=>u=.tuple #[]/\post=G r):=by
 refine ce Tryz.func85 ?_;refine lK (fun m s L=> ∃(p5:Int) (p6:σ),eV N fy a1 m p5 p6=some r/\s=[(0,.func (.yield l) #[] #[]),(6,W A3 n3 c3),(7,iV (a1.Zi.length:Int)),(8,iV p5)]/\L=aQ A3 n3 c3 a1.Zi::sG::(G p6)) N ?_;rintro m4 _ _ ⟨p5,p6,h,rfl,rfl⟩;rw [eV.eq_2] at h;refine ab ?_;refine aB<|gH J h (fun h=> ?_) (fun h=> ?_)
 ·refine sY ?_;obtain ⟨x8,a7,a8,b0,h⟩:=ba h
  refine cl fun B9=> ?_
  refine fS (zI (x:=x8) (y:=(⟨8,0,(⟨#[]⟩:ByteArray)⟩:WZ)) J J) ?_;refine fU 16 J (fun a6=> ?_) (fun a6=> ?_)
  ·replace h:=cZ a6 h;refine ab ?_;obtain ⟨b5,k,h⟩:=aa h;refine CU (wb (a:=(p5,x8)) [ah B9 28 [iV x8.Zh,iV x8.N,.string x8.S],aQ A3 n3 c3 a1.Zi,sG] hY k J J) J (bW a6 J) J ?_;rintro _ _ ⟨rfl,rfl⟩;refine dk h ?_ ?_<;>intro h
   ·exact eY
   refine ab ?_;obtain ⟨b6,h⟩:=ac h;exact lY
  replace h:=db a6 h;refine ab ?_;refine fY J<|ab ?_;obtain ⟨b7,h⟩:=ac h;exact lY
 exact eY
def rJ (N:Nat)(a0:W3):Option Unit:=
 some ()
theorem CO {N:Nat}{a0:W3}{r:Unit}(h:rJ N a0=some r):Okc Xk 42 [.agg #[iV a0.Zh,iV a0.Zq,iV a0.Zm,iV a0.Zn,W A1 n1 c1,W A2 n2 c2]] ([aQ A1 n1 c1 a0.Zj,aQ A2 n2 c2 a0.Zi,sG]) (fun u post=> ∃a6,u=.func (.func 85) #[] #[pV a6 0]/\post=[ah a6 94 (iM a0 A1 n1 c1 A2 n2 c2)]):=by
 refine ce Tryz.func42 ?_;intro B3;refine ab ?_;refine fS (ja J) ?_;exact eN
def cg (N:Nat):Option WX:=
 some (⟨1,0,(⟨#[108,101,110,103,116,104]⟩:ByteArray)⟩:WX)
theorem jz {N:Nat}{r:WX}(h:cg N=some r):Okc Xk 43 [] ([]) (fun u post=>u=(eI r)/\post=[]):=by
 refine ce Tryz.func43 ?_;intro B1;exact eY
def gF (a0:WP)(a1:WZ):Option (Unit ⊕ WV):=
 bif !decide (a1.Zh=7) then (some (.inl ())) else ((bR N a0 a1).bind fun y6=>(bif decide ((y6.Zj.length:Int)=0) then (some true) else ((aq y6.Zj 0).bind fun a6=>(bif !decide (a6.Zh=1) then ((aq y6.Zj 0).bind fun a7=>some (!decide (a7.Zh=7))) else (some false)).bind fun b12=>some b12)).bind fun a8=>bif a8 then (some (.inl ())) else (some (.inr (⟨y6,a0,a1⟩:WV))))
theorem dc {N:Nat}{a1:WZ}{r:(Unit ⊕ WV)}(h:gF N a0 a1=some r){B1 B2 B3:Nat}:Okc Xk 78 [pV B1 0,(aF a1)] ([pDWorld B1 B2 B3 a0]) (fun u post=>ST (fun (r:Unit)=>u=.tuple #[.pointer none,.bool false]/\post=[]) (fun (r:WV)=> ∃B0 A1 n1 c1 A2 n2 c2,u=.tuple #[pV B0 0,.bool true]/\post=[ah B0 135 [iV r.Zu.Zh,iV r.Zu.Zq,iV r.Zu.Zm,iV r.Zu.Zn,W A1 n1 c1,W A2 n2 c2,pV B1 0,iV r.at_.Zh,iV r.at_.N,.string r.at_.S],bj A1 n1 c1 r.Zu.Zj,bj A2 n2 c2 r.Zu.Zi]) r):=by
 refine Ca Tryz.func78 J J ?_;simp only [qI];refine Y ?_
 refine gB (rt J J) fun B4=>Y ?_
 refine aB<|Y ?_;refine gE (dO J WC)<|Y ?_;refine gH J h ?_ ?_<;>intro h
 ·refine Y ?_;obtain rfl:=bJ h;exact PS J J J (cS [] 2) ⟨J,J⟩
 refine Y ?_;refine aB<|be O _ (ae _)<|yY [0,1,3,4] ?_;obtain ⟨y6,k,h⟩:=aa h;refine zD 2 J (aX (jG k) J (t5 (cQ (i:=1) J J) ax) vV) ?_;rintro _ _ ⟨_,⟨A7,n7,c7,A8,n8,c8,rfl,rfl⟩,rfl⟩;refine ng (cS [2,3] 4) ?_;refine zE 5 J (nH J (bld_135_0_1_2 _ _ _ _ _ _ _ _ _ _ _ _ _ _).out) ?_;refine zD 6 J (rt J J) ?_;rintro _ _ ⟨B9,rfl,rfl⟩;refine ng (cS [3,4] 5) ?_;refine zE 7 J (ck J) ?_;refine aY O<|qx<|aB<|Y ?_;refine gR (jO 1 J aj J t9)<|Y ?_
 refine JW 21 49 28 h (fun _ b7 h=> ?_) (fun _ b7 h=> ?_) fun d2 h=> ?_
 ·refine Y ?_;obtain rfl:=bJ h;exact bD sA (cS [0,1,2,3,4] 5)
 ·refine Y ?_;obtain ⟨d0,a6,h⟩:=aa h;obtain ⟨a8,b0,a6⟩:=fI a6;refine sv (bS 1 J aj J J t9 size28.out a8 b0) J (cG b7 J) J<|sv (nu 1 J aj J (toNat_lt a8 b0) rT) J (cG b7 J) J<|sv (li (u:=iV d0.Zh) 1 J aj J a6 wc (fun _ _ _ h=>by rw [show _=_ from h];rfl)) J (cG b7 J) J<|Y ?_
  refine JW 10 48 38 h (fun _ b9 h=> ?_) (fun _ b9 h=> ?_) fun b12 h=> ?_
  ·refine Y ?_;obtain ⟨d1,a7,h⟩:=aa h;obtain ⟨b5,b6,a7⟩:=fI a7;refine sv (bS 1 J aj J J t9 size28.out b5 b6) J (bW b9 J) J<|sv (nu 1 J aj J (toNat_lt b5 b6) rT) J (bW b9 J) J<|sv (li (u:=iV d1.Zh) 1 J aj J a7 wc (fun _ _ _ h=>by rw [show _=_ from h];rfl)) J (bW b9 J) J<|Y ?_;obtain rfl:=bJ h;exact bD sA (cS [0,1,2,3,4] 5)
  ·refine Y ?_;obtain rfl:=bJ h;exact bD sA (cS [0,1,2,3,4] 5)
  refine Y ?_;obtain rfl:=bJ h;exact bD sA (cS [0,1,2,3,4] 5)
 refine Y ?_;refine gH J h ?_ ?_<;>intro h
 ·refine Y ?_;obtain rfl:=bJ h;exact PS J J J (cS [] 5) ⟨J,J⟩
 refine Y ?_;obtain rfl:=bJ h;exact PS J J J (cS [0,1,2] 5) ⟨_,_,_,_,_,_,_,J,J⟩
def cU (N:Nat)(a0:WP):Option Unit:=
 some ()
theorem xH {N:Nat}{r:Unit}(h:cU N a0=some r):Okc Xk 86 [pV B1 0] ([aW B1 81 (At a0 B2 B3 A4 n4 c4 A5 n5 c5 A6 n6 c6),pDHeap B2 a0.Zv,pDTable B3 a0.Zw,iy ta (W A4 n4 c4) a0.ZF,iy nP (W A5 n5 c5) a0.ZG,iy ta (W A6 n6 c6) a0.ZH]) (fun u post=>u=pV B3 0/\post=[]):=by
 refine ce Tryz.func86 ?_;refine sZ ?_;refine fS (dO J WC) ?_;exact fY J<|eY
theorem eS {N:Nat}{r:Unit}(h:cU N a0=some r){B1 B2 B3:Nat}:Okc Xk 86 [pV B1 0] ([pDWorld B1 B2 B3 a0]) (fun u post=>u=pV B3 0/\post=[]):=NM 0 rfl (fun _=>xH h)
def fm (N:Nat)(a0:WR)(a1:Int):Option Bool:=
 (bif decide (0<=a1) then (some (decide (a1<(a0.Zw.length:Int)))) else (some false)).bind fun b4=>some b4
theorem pw {N:Nat}{a0:WR}{r:Bool}(h:fm N a0 a1=some r):Okc Xk 175 [pV B1 0,iV a1] ([aW B1 170 [W A2 n2 c2,.map (some M3)],iy bA (W A2 n2 c2) a0.Zw,qU er wx M3 a0.ZK]) (fun u post=>u=.bool r/\post=[]):=by
 refine ce Tryz.func175 ?_;refine fS (wr J Tryz.underlying77) ?_;refine gS 8 19 11 h ?_;intro b4 h;exact eY
def nM (a0:WR)(a1:Int):Option (W2×Bool):=
 (fm N a0 a1).bind fun y5=>bif !y5 then (some ((⟨0,(⟨0,0,⟨#[]⟩⟩:WX),0,0⟩:W2),false)) else ((aq a0.Zw a1).bind fun x7=>some (x7,true))
theorem Bx {N:Nat}{a0:WR}{r:W2×Bool}(h:nM N a0 a1=some r):Okc Xk 186 [pV B1 0,iV a1] ([aW B1 170 [W A2 n2 c2,.map (some M3)],iy bA (W A2 n2 c2) a0.Zw,qU er wx M3 a0.ZK]) (fun u post=>u=.tuple #[(Rw r.1),.bool r.2]/\post=[]):=by
 refine ce Tryz.func186 ?_;intro B4;refine sY ?_
 refine cR h (fun _ k=>pw k) fun y5 h=> ?_
 refine gH J h ?_ ?_<;>intro h
 ·exact eY
 refine ab ?_;obtain ⟨x7,a6,a7,a8,h⟩:=ba h;exact eY
def fo (a0:WR)(a1:Int):Option Int:=
 (nM N a0 a1).bind fun y4=>some y4.1.ZJ
theorem px {N:Nat}{a0:WR}{r:Int}(h:fo N a0 a1=some r):Okc Xk 148 [pV B1 0,iV a1] ([aW B1 170 [W A2 n2 c2,.map (some M3)],iy bA (W A2 n2 c2) a0.Zw,qU er wx M3 a0.ZK]) (fun u post=>u=iV r/\post=[]):=by
 refine ce Tryz.func148 ?_
 refine cR h (fun _ k=>Bx k) fun y4 h=> ?_
 intro B5;exact eY
theorem xZ {N:Nat}{a0:WR}{r:Int}(h:fo N a0 a1=some r):Okc Xk 148 [pV B1 0,iV a1] ([pDTable B1 a0]) (fun u post=>u=iV r/\post=[]):=NM 0 rfl (fun _=>px h)
def uf (N:Nat)(p8:List W2):Option (List W2):=
 some p8
def kO (N:Nat)(a0:WR):Nat->Int->(List W2)->Int->Option (List W2)
 |0,_,_,_=>none
 |a8+1,b0,a7,p13=>bif decide (0<=p13) then ((aq a0.Zw b0).bind fun a6=>(aq a7 p13).bind fun b6=>(aq (List.set a7 p13.toNat (⟨a6.Up,(⟨a6.Zo.Zh,a6.Zo.N,a6.Zo.S⟩:WX),a6.Zk,a6.ZJ⟩:W2)) p13).bind fun b5=>aI (in64 (p13 - 1)) ((kO N a0 a8) b5.Up (List.set a7 p13.toNat (⟨a6.Up,(⟨a6.Zo.Zh,a6.Zo.N,a6.Zo.S⟩:WX),a6.Zk,a6.ZJ⟩:W2)) (p13 - 1))) else (uf N a7)
def fk (a0:WR)(a1:Int):Option (List W2):=
 (fo N a0 a1).bind fun y4=>aI (0<=y4/\y4<=1000000) (aI (in64 (((List.replicate y4.toNat (⟨0,(⟨0,0,⟨#[]⟩⟩:WX),0,0⟩:W2)).length:Int) - 1)) (kO N a0 N a1 (List.replicate y4.toNat (⟨0,(⟨0,0,⟨#[]⟩⟩:WX),0,0⟩:W2)) (((List.replicate y4.toNat (⟨0,(⟨0,0,⟨#[]⟩⟩:WX),0,0⟩:W2)).length:Int) - 1)))
theorem lQ {N:Nat}{a0:WR}{r:List W2}(h:fk N a0 a1=some r):Okc Xk 130 [pV B1 0,iV a1] ([aW B1 170 [W A2 n2 c2,.map (some M3)],iy bA (W A2 n2 c2) a0.Zw,qU er wx M3 a0.ZK]) (fun u post=> ∃A0 n0 c0,u=W A0 n0 c0/\post=[bf bA 166 (W A0 n0 c0) r]):=by
 refine ce Tryz.func130 ?_;obtain ⟨y4,k,h⟩:=aa h;refine gV (oR (px k)) ?_;obtain ⟨q5,h⟩:=ac h
 refine sI (QY (R:=bA) (zl:=[iV 0,iV 0,iV 0,.string (⟨#[]⟩),iV 0,iV 0]) (x0:=(⟨0,(⟨0,0,⟨#[]⟩⟩:WX),0,0⟩:W2)) J J Wy J J J J J (by decide) (fun _ _=>J) q5) fun A6 n6 c6=> ?_
 refine ak (fun s L=> ∃p8 A8 n8 c8,uf N p8=some r/\s=[(4,W none 0 0),(5,W A8 n8 c8)]/\L=[bf bA 166 (W A8 n8 c8) p8]) ?_ ?_
 ·refine ab ?_;obtain ⟨q9,h⟩:=ac h;refine ab ?_;refine lK (fun m s L=> ∃(b6:Int) (a7:List W2) (p13:Int) (a8:Option Addr) (b0 b5:Nat),kO N a0 m b6 a7 p13=some r/\s=[(0,pV B1 0),(1,iV b6),(4,W none 0 0),(5,W a8 b0 b5),(6,iV p13)]/\L=[bf bA 166 (W a8 b0 b5) a7,iy bA (W A2 n2 c2) a0.Zw,qU er wx M3 a0.ZK,aW B1 170 [W A2 n2 c2,.map (some M3)]]) N ?_;rintro d3 _ _ ⟨b6,a7,p13,a8,b0,b5,h,rfl,rfl⟩;rw [kO.eq_2] at h;refine sZ ?_;refine gH J h ?_ ?_<;>intro h
  ·refine sY ?_;obtain ⟨a6,d4,d6,e0,h⟩:=ba h;refine ab ?_;obtain ⟨e3,b7,b9,d0,h⟩:=ba h;refine ab ?_;refine GB (bZ (us:=EG a6) (z:=(⟨a6.Up,(⟨a6.Zo.Zh,a6.Zo.N,a6.Zo.S⟩:WX),a6.Zk,a6.ZJ⟩:W2)) 0 J J J J size166.out J (toNat_lt b7 b9) J (fun S w vs xk hk hr ho=>by obtain rfl:=YX (hk.symm.trans d0);rw [show _=_ from hr];rfl)) ?_;obtain ⟨e1,d1,d2,e2,h⟩:=ba h;refine ab ?_;refine JX (nu 0 J aj J (toNat_lt d1 d2) Gd) ?_;obtain ⟨e4,h⟩:=ac h;refine ab ?_;exact ⟨d3,_,_,Xb _,⟨e1.Up,List.set a7 p13.toNat (⟨a6.Up,(⟨a6.Zo.Zh,a6.Zo.N,a6.Zo.S⟩:WX),a6.Zk,a6.ZJ⟩:W2),p13 - 1,a8,b0,b5,h,J,J⟩,sA,cS [0,1,2,3] 4⟩
  exact jY
 rintro _ _ ⟨p8,A8,n8,c8,h,rfl,rfl⟩;exact eY
def sd (N:Nat)(p5:Xf):Option Xf:=
 some p5
def kj (N:Nat)(y6:((List W2))):Nat->Xf->Int->Option Xf
 |0,_,_=>none
 |m8+1,p9,a6=>bif decide (a6<(y6.length:Int)) then ((aq y6 a6).bind fun a7=>aI (bm (p9.length+([a7.Zk]:List Int).length)) (aI (in64 (a6+1)) ((kj N y6 m8) (p9++([a7.Zk]:List Int)) (a6+1)))) else (sd N p9)
def fF (a0:WR)(a1:Int):Option Xf:=
 (fk N a0 a1).bind fun y6=>kj N y6 N [] 0
theorem ya {N:Nat}{a0:WR}{r:Xf}(h:fF N a0 a1=some r):Okc Xk 87 [pV B1 0,iV a1] ([aW B1 170 [W A2 n2 c2,.map (some M3)],iy bA (W A2 n2 c2) a0.Zw,qU er wx M3 a0.ZK]) (fun u post=> ∃A0 n0 c0,u=W A0 n0 c0/\post=[uL A0 n0 c0 r]):=by
 refine ce Tryz.func87 ?_;refine ak (fun s L=> ∃p5 A5 n5 c5,sd N p5=some r/\s=[(4,W none 0 0),(5,W A5 n5 c5)]/\L=[uL A5 n5 c5 p5]) ?_ ?_
 ·refine ab ?_;obtain ⟨y6,k,h⟩:=aa h
  refine sI (oR (lQ k)) fun A7 n7 c7=> ?_
  refine im (fun m s L=> ∃p9 a6 A9 n9 c9,kj N y6 m p9 a6=some r/\s=[(4,W none 0 0),(5,W A9 n9 c9),(10,W A7 n7 c7),(11,iV (y6.length:Int)),(12,iV a6)]/\L=[uL A9 n9 c9 p9,bf bA 166 (W A7 n7 c7) y6]) N _ _ ⟨[],0,none,0,0,h,J,J⟩ sA ((bT (nO .i64) 3 _).trans (cS [0,1] 5)) ?_;rintro (_|m8) _ _ ⟨p9,a6,A9,n9,c9,h,rfl,rfl⟩
  ·exact aL h
  rw [kj.eq_2] at h;refine ab ?_;refine aB<|gH J h (fun h=> ?_) (fun h=> ?_)
  ·refine sY ?_;obtain ⟨a7,a8,b0,b5,h⟩:=ba h
   refine cl fun b7=> ?_
   refine gD (aw (R:=(nO .i64)) (vss:=[[iV a7.Zk]]) (xs:=[a7.Zk]) J (rI _) J J (fun _ _ hr=> .cons J All2.nil)) ?_;rintro _ _ ⟨b9,d0,d1,rfl,rfl⟩;obtain ⟨b6,h⟩:=ac h
   refine sI (az 2 0 J J aj J J Wx Sn J J b6) fun d2 d3 d4=> ?_
   obtain ⟨d6,h⟩:=ac h;exact lY
  exact jY
 rintro _ _ ⟨p5,A5,n5,c5,h,rfl,rfl⟩;exact eY
theorem wE {N:Nat}{a0:WR}{r:Xf}(h:fF N a0 a1=some r):Okc Xk 87 [pV B1 0,iV a1] ([pDTable B1 a0]) (fun u post=> ∃A0 n0 c0,u=W A0 n0 c0/\post=[uL A0 n0 c0 r]):=NM 0 rfl (fun _=>ya h)
def sO (N:Nat)(p5:W7):Option W7:=
 some p5
def kQ (N:Nat)(y6:((List W2))):Nat->W7->Int->Option W7
 |0,_,_=>none
 |m8+1,p9,a6=>bif decide (a6<(y6.length:Int)) then ((aq y6 a6).bind fun a7=>aI (bm (p9.length+([a7.Zo]:List WX).length)) (aI (in64 (a6+1)) ((kQ N y6 m8) (p9++([a7.Zo]:List WX)) (a6+1)))) else (sO N p9)
def gj (a0:WR)(a1:Int):Option W7:=
 (fk N a0 a1).bind fun y6=>kQ N y6 N [] 0
theorem zT {N:Nat}{a0:WR}{r:W7}(h:gj N a0 a1=some r):Okc Xk 88 [pV B1 0,iV a1] ([aW B1 170 [W A2 n2 c2,.map (some M3)],iy bA (W A2 n2 c2) a0.Zw,qU er wx M3 a0.ZK]) (fun u post=> ∃A0 n0 c0,u=W A0 n0 c0/\post=[jv A0 n0 c0 r]):=by
 refine ce Tryz.func88 ?_;refine ak (fun s L=> ∃p5 A5 n5 c5,sO N p5=some r/\s=[(4,W none 0 0),(5,W A5 n5 c5)]/\L=[jv A5 n5 c5 p5]) ?_ ?_
 ·refine ab ?_;obtain ⟨y6,k,h⟩:=aa h
  refine sI (oR (lQ k)) fun A7 n7 c7=> ?_
  refine im (fun m s L=> ∃p9 a6 A9 n9 c9,kQ N y6 m p9 a6=some r/\s=[(4,W none 0 0),(5,W A9 n9 c9),(10,W A7 n7 c7),(11,iV (y6.length:Int)),(12,iV a6)]/\L=[jv A9 n9 c9 p9,bf bA 166 (W A7 n7 c7) y6]) N _ _ ⟨[],0,none,0,0,h,J,J⟩ sA ((bT gQ 39 _).trans (cS [0,1] 5)) ?_;rintro (_|m8) _ _ ⟨p9,a6,A9,n9,c9,h,rfl,rfl⟩
  ·exact aL h
  rw [kQ.eq_2] at h;refine ab ?_;refine aB<|gH J h (fun h=> ?_) (fun h=> ?_)
  ·refine sY ?_;obtain ⟨a7,a8,b0,b5,h⟩:=ba h
   refine cl fun b7=> ?_
   refine gD (aw (R:=gQ) (vss:=[(jw a7.Zo)]) (xs:=[a7.Zo]) J (iJ _ _ _) J J (fun _ _ hr=> .cons J All2.nil)) ?_;rintro _ _ ⟨b9,d0,d1,rfl,rfl⟩;obtain ⟨b6,h⟩:=ac h
   refine sI (az 2 0 J J aj J J EM tT J J b6) fun d2 d3 d4=> ?_
   obtain ⟨d6,h⟩:=ac h;exact lY
  exact jY
 rintro _ _ ⟨p5,A5,n5,c5,h,rfl,rfl⟩;exact eY
theorem xE {N:Nat}{a0:WR}{r:W7}(h:gj N a0 a1=some r):Okc Xk 88 [pV B1 0,iV a1] ([pDTable B1 a0]) (fun u post=> ∃A0 n0 c0,u=W A0 n0 c0/\post=[jv A0 n0 c0 r]):=NM 0 rfl (fun _=>zT h)
def mL (N:Nat)(a2:WX)(a3 a6 a7:Int)(a8:ByteArray)(b0 p21:Int)(b5:ByteArray):Option WS:=
 some (⟨a2,a3,(⟨0,0,⟨#[]⟩⟩:WZ),(⟨a6,a7,a8⟩:WZ),(⟨b0,p21,b5⟩:WZ)⟩:WS)
def fH (a0:WV)(a1:Int)(a2:WX)(a3:Int):Option WS:=
 aI (in64 (a1+1)) (bif decide ((a0.Zu.Zj.length:Int)<=a1+1) then (some (⟨a2,a3,(⟨0,0,⟨#[]⟩⟩:WZ),(⟨0,0,⟨#[]⟩⟩:WZ),(⟨0,0,⟨#[]⟩⟩:WZ)⟩:WS)) else (aI (in64 (a1+1)) ((aq a0.Zu.Zj (a1+1)).bind fun b0=>bif decide (ai .i64 a3 8=0) then (some (⟨a2,a3,b0,(⟨0,0,⟨#[]⟩⟩:WZ),(⟨0,0,⟨#[]⟩⟩:WZ)⟩:WS)) else ((bR N a0.w_ b0).bind fun a6=>bif decide ((a6.Zj.length:Int)=2) then ((aq a6.Zj 0).bind fun a7=>(aq a6.Zj 1).bind fun a8=>mL N a2 a3 a7.Zh a7.N a7.S a8.Zh a8.N a8.S) else (mL N a2 a3 0 0 (⟨#[]⟩) 0 0 (⟨#[]⟩))))))
theorem sk {N:Nat}{a0:WV}{a2:WX}{r:WS}(h:fH N a0 a1 a2 a3=some r){B4 B5 B6:Nat}:Okc Xk 89 [pV B1 0,iV a1,(eI a2),iV a3] ([aW B1 135 [iV a0.Zu.Zh,iV a0.Zu.Zq,iV a0.Zu.Zm,iV a0.Zu.Zn,W A2 n2 c2,W A3 n3 c3,pV B4 0,iV a0.at_.Zh,iV a0.at_.N,.string a0.at_.S],aQ A2 n2 c2 a0.Zu.Zj,aQ A3 n3 c3 a0.Zu.Zi,pDWorld B4 B5 B6 a0.w_]) (fun u post=>u=(cm r)/\post=[]):=by
 refine ce Tryz.func89 ?_;intro B7
 refine cl fun B8=> ?_
 intro B9;refine sY ?_;obtain ⟨g3,h⟩:=ac h;refine dk h ?_ ?_<;>intro h
 ·exact eY
 refine ab ?_;obtain ⟨g4,h⟩:=ac h;refine ab ?_;obtain ⟨a7,e4,e5,e6,h⟩:=ba h
 refine cl fun d3=> ?_
 refine sZ ?_;refine fS (aP J J) ?_;refine gH J h ?_ ?_<;>intro h
 ·exact eY
 refine ab ?_;refine ak (fun s L=> ∃d4 d6 e0 e1 p21 e2,mL N a2 a3 d4 d6 e0 e1 p21 e2=some r/\s=[(8,pV B8 0),(9,pV B9 0)]/\L=[ah B8 50 [iV 0,iV 0,.string (⟨#[]⟩),iV 0,iV 0,iV 0,.string (⟨#[]⟩),iV 0,iV 0,.string (⟨#[]⟩),iV 0,iV 0,.string (⟨#[]⟩)],ah B9 50 [iV a2.Zh,iV a2.N,.string a2.S,iV a3,iV 0,iV 0,.string (⟨#[]⟩),iV d4,iV d6,.string e0,iV e1,iV p21,.string e2]]) ?_ ?_
 ·refine aB ?_;obtain ⟨a6,e3,h⟩:=aa h;refine gw (t:=[(0,pV B1 0),(8,pV B8 0),(9,pV B9 0),(10,pV d3 0)]) ?_ ml (ae _)
  refine iR O 7 [] [5,6] [40,41,42,43,44,45,11] [[],[0],[1],[2],[],[3,4],[]] [aV (pV B1 0),
aV (pV B1 0),
aV (pV B1 6),
aV (pV B4 0),
aV (.agg #[iV a7.Zh,iV a7.N,.string a7.S]),
aX6 (fun (a8:Option Addr) (b0 b5:Nat) (b6:Option Addr) (b7 b9:Nat)=> .agg #[iV a6.Zh,iV a6.Zq,iV a6.Zm,iV a6.Zn,W a8 b0 b5,W b6 b7 b9]) (fun a8 b0 b5 b6 b7 b9=> [bj a8 b0 b5 a6.Zj,bj b6 b7 b9 a6.Zi]),
aX1 (fun (d1:Nat)=>pV d1 0) (fun d1=> [ah d1 94 [iV 0,iV 0,iV 0,iV 0,W none 0 0,W none 0 0]])] [] (ae _) (me) O rfl rfl ?_ ?_ ?_
  ·exact md
  ·refine aG J ?_ ?_
   ·refine tH (bF zero94.out J) J ?_;rintro _ _ ⟨e7,rfl,rfl⟩;exact Oi e7 (ae _)
   refine aG J ?_ ?_
   ·refine tH (oR (jG e3)) J ?_;rintro _ _ ⟨_,⟨e8,e9,f0,f1,f2,f3,rfl,rfl⟩,rfl⟩;exact VH e8 e9 f0 f1 f2 f3 (ae _)
   refine qR (aD (us:=[iV a7.Zh,iV a7.N,.string a7.S]) 0 J J agg28.out J) ?_;refine qR (BI 4 J J Sy J) ?_;refine qE (kK J J4) ?_;refine qE (dF J) ?_;refine qE (ap J) ?_;exact dK
  intro a8 b0 b5 b6 b7 b9 d1;refine oq (t:=[(45,.agg #[iV a6.Zh,iV a6.Zq,iV a6.Zm,iV a6.Zn,W a8 b0 b5,W b6 b7 b9]),(11,pV d1 0),(0,pV B1 0),(8,pV B8 0),(9,pV B9 0),(10,pV d3 0)]) (L':=[bj a8 b0 b5 a6.Zj,bj b6 b7 b9 a6.Zi,ah d1 94 [iV 0,iV 0,iV 0,iV 0,W none 0 0,W none 0 0],ah d3 28 [iV a7.Zh,iV a7.N,.string a7.S],ah B9 50 [iV a2.Zh,iV a2.N,.string a2.S,iV a3,iV 0,iV 0,.string (⟨#[]⟩),iV 0,iV 0,.string (⟨#[]⟩),iV 0,iV 0,.string (⟨#[]⟩)],ah B8 50 [iV 0,iV 0,.string (⟨#[]⟩),iV 0,iV 0,iV 0,.string (⟨#[]⟩),iV 0,iV 0,.string (⟨#[]⟩),iV 0,iV 0,.string (⟨#[]⟩)],ah B7 39 (jw a2),aW B1 135 [iV a0.Zu.Zh,iV a0.Zu.Zq,iV a0.Zu.Zm,iV a0.Zu.Zn,W A2 n2 c2,W A3 n3 c3,pV B4 0,iV a0.at_.Zh,iV a0.at_.N,.string a0.at_.S],aQ A2 n2 c2 a0.Zu.Zj,aQ A3 n3 c3 a0.Zu.Zi,pDWorld B4 B5 B6 a0.w_]) ?_ ml (ae _);refine pU 7 J O (ao (us:=(iM a6 a8 b0 b5 b6 b7 b9)) (cs':=(iM a6 a8 b0 b5 b6 b7 b9)) 2 J J J J size94.out J J J) J J ?_;rintro _ _ rfl;refine Ar ?_;refine mj O<|dk h (fun h=> ?_) (fun h=> ?_)
  ·refine be O ([bj a8 b0 b5 a6.Zj,bj b6 b7 b9 a6.Zi,ah d1 94 (iM a6 a8 b0 b5 b6 b7 b9),ah d3 28 [iV a7.Zh,iV a7.N,.string a7.S],ah B8 50 [iV 0,iV 0,.string (⟨#[]⟩),iV 0,iV 0,iV 0,.string (⟨#[]⟩),iV 0,iV 0,.string (⟨#[]⟩),iV 0,iV 0,.string (⟨#[]⟩)],ah B7 39 (jw a2),aW B1 135 [iV a0.Zu.Zh,iV a0.Zu.Zq,iV a0.Zu.Zm,iV a0.Zu.Zn,W A2 n2 c2,W A3 n3 c3,pV B4 0,iV a0.at_.Zh,iV a0.at_.N,.string a0.at_.S],aQ A2 n2 c2 a0.Zu.Zj,aQ A3 n3 c3 a0.Zu.Zi,pDWorld B4 B5 B6 a0.w_]) (cS [0,1,2,3,5,6,7,8,9,10] 11) ?_;refine ab ?_;obtain ⟨d0,f4,f6,f9,h⟩:=ba h;refine ab ?_;obtain ⟨d2,g0,g1,g2,h⟩:=ba h;refine ab ?_;refine zO 9 J (ao (us:=[iV d0.Zh,iV d0.N,.string d0.S]) (cs':=[iV a2.Zh,iV a2.N,.string a2.S,iV a3,iV 0,iV 0,.string (⟨#[]⟩),iV d0.Zh,iV d0.N,.string d0.S,iV 0,iV 0,.string (⟨#[]⟩)]) 4 J J J J size28.out J J J) ?_;rintro _ _ rfl;refine bL ?_;refine ab ?_;refine zO 11 J (ao (us:=[iV d2.Zh,iV d2.N,.string d2.S]) (cs':=[iV a2.Zh,iV a2.N,.string a2.S,iV a3,iV 0,iV 0,.string (⟨#[]⟩),iV d0.Zh,iV d0.N,.string d0.S,iV d2.Zh,iV d2.N,.string d2.S]) 4 J J J J size28.out J J J) ?_;rintro _ _ rfl;refine bL ?_;exact jY
  exact jY
 rintro _ _ ⟨d4,d6,e0,e1,p21,e2,h,rfl,rfl⟩;exact eY
def we (N:Nat)(a6:Xh):Option Xh:=
 some a6
def nT (N:Nat)(a7:W7)(b0:Xf)(y5_1:WV)(a0:WP):Nat->Xh->Int->Option Xh
 |0,_,_=>none
 |b6+1,a8,a6=>bif decide (a6<(a7.length:Int)) then ((aq a7 a6).bind fun b7=>(aq b0 a6).bind fun b9=>(fH N (⟨y5_1.Zu,a0,y5_1.at_⟩:WV) a6 b7 b9).bind fun b5=>aI ((a8.length+([b5]:List WS).length)<=549755813888) (aI (in64 (a6+1)) ((nT N a7 b0 y5_1 a0 b6) (a8++([b5]:List WS)) (a6+1)))) else (we N a8)
def js (a0:WP)(a1:WZ):Option Xh:=
 (gF N a0 a1).bind fun y5=>Er y5 (fun y5_0=>some []) (fun y5_1=>(cU N a0).bind fun a8=>(fF N a0.Zw y5_1.Zu.Zq).bind fun a6=>(cU N a0).bind fun b0=>(gj N a0.Zw y5_1.Zu.Zq).bind fun a7=>nT N a7 a6 y5_1 a0 N [] 0)
theorem o9 {N:Nat}{a1:WZ}{r:Xh}(h:js N a0 a1=some r){B1 B2 B3:Nat}:Okc Xk 44 [pV B1 0,(aF a1)] ([pDWorld B1 B2 B3 a0]) (fun u post=> ∃A0 n0 c0,u=W A0 n0 c0/\post=[bf ip 50 (W A0 n0 c0) r]):=by
 refine ce Tryz.func44 ?_;intro B4;refine ab ?_;obtain ⟨y5,e9,h⟩:=aa h;rcases y5 with y5_0|y5_1
 ·replace h:=G9 h;refine gD (oR (dc e9)) ?_;rintro _ _ ⟨_,⟨rfl,rfl⟩,rfl⟩;refine sY ?_;refine jE J<|ab ?_;obtain rfl:=bJ h;exact nI J J ((bT ip 50 _).trans (cS [0] 3)) ⟨_,_,_,J,J⟩
 replace h:=G8 h;refine gD (oR (dc e9)) ?_;rintro _ _ ⟨_,⟨B7,A8,n8,c8,A9,n9,c9,rfl,rfl⟩,rfl⟩;refine sY ?_;refine fY J<|ab ?_;refine dY [0,2,3,4,5,6] ?_;obtain ⟨f6,k,h⟩:=aa h;refine zD 1 J (oR (eS k)) ?_;rintro _ _ ⟨_,⟨rfl,rfl⟩,rfl⟩;refine ⟨_,ae _,ae _,?_⟩;obtain ⟨d6,k,h⟩:=aa h
 refine zk 7 J (oR (wE k)) fun b6 b7 b9=> ?_
 refine zX [8] ?_;refine ab ?_;refine ak (fun s L=> ∃e0 e1 e2 e3,we N e0=some r/\s=[(4,W none 0 0),(7,W e1 e2 e3)]/\L=[bf ip 50 (W e1 e2 e3) e0]) ?_ ?_
 ·refine dY [0,2,3,4,5,6,9] ?_;obtain ⟨f9,k,h⟩:=aa h;refine zD 1 J (oR (eS k)) ?_;rintro _ _ ⟨_,⟨rfl,rfl⟩,rfl⟩;refine ⟨_,ae _,ae _,?_⟩;obtain ⟨d0,k,h⟩:=aa h
  refine zk 7 J (oR (xE k)) fun d1 d2 d3=> ?_
  refine zD 8 J (sR (jO 0 J aj J EM)) ?_;rintro _ _ ⟨rfl,rfl⟩;refine bL ?_;refine aY O<|ab ?_;refine im (fun m s L=> ∃d4 a7 a8 b0 b5,nT N d0 d6 y5_1 a0 m d4 a7=some r/\s=[(4,W none 0 0),(5,pV B7 0),(7,W a8 b0 b5),(8,W b6 b7 b9),(34,W d1 d2 d3),(35,iV (d0.length:Int)),(36,iV a7)]/\L=[bf ip 50 (W a8 b0 b5) d4,uL b6 b7 b9 d6,jv d1 d2 d3 d0,bj A8 n8 c8 y5_1.Zu.Zj,bj A9 n9 c9 y5_1.Zu.Zi,ah B7 135 [iV y5_1.Zu.Zh,iV y5_1.Zu.Zq,iV y5_1.Zu.Zm,iV y5_1.Zu.Zn,W A8 n8 c8,W A9 n9 c9,pV B1 0,iV y5_1.at_.Zh,iV y5_1.at_.N,.string y5_1.at_.S],pDWorld B1 B2 B3 a0]) N _ _ ⟨[],0,none,0,0,h,J,J⟩ sA ((bT ip 50 _).trans (cS [0,2,1,4,5,3,7] 8)) ?_;rintro (_|g0) _ _ ⟨d4,a7,a8,b0,b5,h,rfl,rfl⟩
  ·exact aL h
  rw [nT.eq_2] at h;refine ab ?_;refine aB<|gH J h (fun h=> ?_) (fun h=> ?_)
  ·refine sY ?_;obtain ⟨a6,f1,f2,f3,h⟩:=ba h
   refine cl fun e4=> ?_
   obtain ⟨e5,e6,e7,e8,h⟩:=ba h;refine gw (t:=[(4,W none 0 0),(5,pV B7 0),(7,W a8 b0 b5),(8,W b6 b7 b9),(9,iV a7),(10,pV e4 0),(34,W d1 d2 d3),(35,iV (d0.length:Int)),(36,iV a7)]) ?_ ml (ae _)
   refine iR O 8 [0] [0,1,2,3,7] [41,42,43,44,45,46,47,48] [[],[],[],[],[],[],[4,5],[6]] [aV (W a8 b0 b5),
aV (pV B7 0),
aV (iV a7),
aV (.agg #[iV a6.Zh,iV a6.N,.string a6.S]),
aV (W b6 b7 b9),
aV (iV a7),
aV (dG (W b6 b7 b9) a7.toNat 1 0),
aV (iV e5)] [] (ae _) (fu rfl me) O rfl rfl ?_ ?_ ?_
   ·exact ft J (nK (ap J) J (iI J (ae _)))<|md
   ·refine aG J (zh (li (u:=iV e5) 2 J aj J e8 wc (fun _ _ _ h=>by rw [show _=_ from h];rfl)) J (iI J (ae _)))<|qR (bS 2 J aj J J Wx size3.out e6 e7) ?_;refine qE (ap J) ?_;refine qE (ap J) ?_;refine qR (aD (us:=[iV a6.Zh,iV a6.N,.string a6.S]) 0 J J agg39.out J) ?_;refine qE (ap J) ?_;refine qE (ap J) ?_;refine qE (ap J) ?_;exact dK
   refine oq (t:=[(41,W a8 b0 b5),(42,pV B7 0),(43,iV a7),(44,.agg #[iV a6.Zh,iV a6.N,.string a6.S]),(48,iV e5),(4,W none 0 0),(5,pV B7 0),(7,W a8 b0 b5),(8,W b6 b7 b9),(9,iV a7),(10,pV e4 0),(34,W d1 d2 d3),(35,iV (d0.length:Int)),(36,iV a7)]) (L':=[ah e4 39 [iV a6.Zh,iV a6.N,.string a6.S],bf ip 50 (W a8 b0 b5) d4,uL b6 b7 b9 d6,jv d1 d2 d3 d0,bj A8 n8 c8 y5_1.Zu.Zj,bj A9 n9 c9 y5_1.Zu.Zi,ah B7 135 [iV y5_1.Zu.Zh,iV y5_1.Zu.Zq,iV y5_1.Zu.Zm,iV y5_1.Zu.Zn,W A8 n8 c8,W A9 n9 c9,pV B1 0,iV y5_1.at_.Zh,iV y5_1.at_.N,.string y5_1.at_.S],pDWorld B1 B2 B3 a0]) ?_ ml (ae _);obtain ⟨f0,k,h⟩:=aa h;refine uH 8 J O (oR (sk k)) J J J ?_;rintro _ _ ⟨_,⟨rfl,rfl⟩,rfl⟩;refine uH 9 J O (aw (R:=ip) (vss:=[(co f0)]) (xs:=[f0]) J (Gu _ _ _ _ _ _ _ _ _ _ _ _ _) J J (fun _ _ hr=> .cons J All2.nil)) J J J ?_;rintro _ _ ⟨g1,g2,g3,rfl,rfl⟩;obtain ⟨f4,h⟩:=ac h;refine uH 10 J O (uv 2 0 J J aj J J Ex Qy J J J f4) J J J ?_;rintro _ _ ⟨g4,g5,g6,rfl,rfl⟩;refine CS 11 J O (ck J) J J J<|mj O<|ab ?_;obtain ⟨g7,h⟩:=ac h;exact lY
  exact jY
 rintro _ _ ⟨e0,e1,e2,e3,h,rfl,rfl⟩;exact eY
def tt (N:Nat)(p7:Int):Option (Int×Bool):=
 bif decide (4294967294<p7) then (some (0,false)) else (some (p7,true))
def nW (N:Nat)(a0:ByteArray):Nat->Int->Int->Option (Int×Bool)
 |0,_,_=>none
 |m8+1,p9,a6=>bif decide (a6<(a0.size:Int)) then ((F5 a0 a6).bind fun a8=>(bif decide (a8<48) then (some true) else ((F5 a0 a6).bind fun b0=>some (decide (57<b0)))).bind fun b5=>bif b5 then (some (0,false)) else (aI (in64 (10*p9)) ((F5 a0 a6).bind fun a7=>aI (in64 ((10*p9)+(IntKind.i64.wrap (IntKind.u8.wrap (a7 - 48))))) (aI (in64 (a6+1)) ((nW N a0 m8) ((10*p9)+(IntKind.i64.wrap (IntKind.u8.wrap (a7 - 48)))) (a6+1)))))) else (tt N p9)
def iZ (a0:ByteArray):Option (Int×Bool):=
 (bif a0.toList==(⟨#[]⟩:ByteArray).toList then (some true) else (some (decide (10<(a0.size:Int))))).bind fun b1=>(bif b1 then (some true) else ((F5 a0 0).bind fun x3=>(bif decide (x3=48) then (some (decide (1<(a0.size:Int)))) else (some false)).bind fun b4=>some b4)).bind fun b2=>bif b2 then (some (0,false)) else (nW N a0 N 0 0)
theorem IG {N:Nat}{a0:ByteArray}{r:Int×Bool}(h:iZ N a0=some r):Okc Xk 92 [.string a0] ([]) (fun u post=>u=.tuple #[iV r.1,.bool r.2]/\post=[]):=by
 refine ce Tryz.func92 ?_;refine sZ ?_;refine fS (sq J J) ?_
 refine xv 4 12 8 h (fun _ g1 h=> ?_) fun b1 h=> ?_
 ·refine ab ?_;exact eP (qH J Wz) J (cG g1 J) J<|gY
 refine ab ?_
 refine xv 9 22 13 h (fun _ g2 h=> ?_) fun b2 h=> ?_
 ·refine ab ?_;obtain ⟨x3,b6,h⟩:=aa h;refine eP (tO J J Wz b6) J (cG g2 J) J<|ab ?_
  refine oz 4 21 17 h (fun _ g4 h=> ?_) fun b4 h=> ?_
  ·refine ab ?_;exact eP (qH J Wz) J (bW g4 J) J<|gY
  exact gY
 refine dk h ?_ ?_<;>intro h
 ·exact eY
 refine ab ?_;refine ak (fun s L=> ∃p7,tt N p7=some r/\s=[(2,iV 0),(3,.bool false),(4,iV p7)]/\L=[]) ?_ ?_
 ·refine ab ?_;refine fS (qH J Wz) ?_;refine lK (fun m s L=> ∃(p9:Int) (a6:Int),nW N a0 m p9 a6=some r/\s=[(0,.string a0),(2,iV 0),(3,.bool false),(4,iV p9),(24,iV (a0.size:Int)),(25,iV a6)]/\L=[]) N ?_;rintro m8 _ _ ⟨p9,a6,h,rfl,rfl⟩;rw [nW.eq_2] at h;refine ab ?_;refine aB<|gH J h (fun h=> ?_) (fun h=> ?_)
  ·refine sY ?_;refine sZ ?_;obtain ⟨b9,a7,h⟩:=aa h;refine fS (tO J J Wz a7) ?_
   refine xv 5 37 32 h (fun _ b7 h=> ?_) fun d0 h=> ?_
   ·refine ab ?_;obtain ⟨d1,a8,h⟩:=aa h;exact eP (tO J J Wz a8) J (cG b7 J) J<|gY
   refine dk h ?_ ?_<;>intro h
   ·exact eY
   refine ab ?_;obtain ⟨b5,h⟩:=ac h;refine fS (rD J J b5.1 b5.2) ?_;obtain ⟨d2,b0,h⟩:=aa h;refine gE (tO J J Wz b0)<|gE (R5 J J)<|gE (xx J J WB) ?_;obtain ⟨d3,h⟩:=ac h;refine ab ?_;obtain ⟨d4,h⟩:=ac h;exact lY
  exact jY
 rintro _ _ ⟨p7,h,rfl,rfl⟩;refine sZ ?_;refine gH J h ?_ ?_<;>intro h
 ·exact eY
 exact eY
def bd (a0:WX):Option Bool:=
 bif decide (a0.Zh=0) then ((bif a0.S.toList==(⟨#[]⟩:ByteArray).toList then (some (decide (0<=a0.N))) else (some false)).bind fun b3=>(bif b3 then (some (decide (a0.N<=4294967294))) else (some false)).bind fun b4=>some b4) else (bif decide (a0.Zh=1) then ((iZ N a0.S).bind fun y6=>(bif decide (a0.N=0) then (some (decide ((a0.S.size:Int)<=65536))) else (some false)).bind fun b7=>(bif b7 then (some (!y6.2)) else (some false)).bind fun b8=>some b8) else (bif decide (a0.Zh=2) then ((bif a0.S.toList==(⟨#[]⟩:ByteArray).toList then (some (decide (1<=a0.N))) else (some false)).bind fun a6=>some a6) else (some false)))
theorem nU {N:Nat}{a0:WX}{r:Bool}(h:bd N a0=some r):Okc Xk 47 [(eI a0)] ([]) (fun u post=>u=.bool r/\post=[]):=by
 refine ce Tryz.func47 ?_;intro B1;refine sY ?_;refine gH J h ?_ ?_<;>intro h
 ·refine ab ?_;refine fS (sq J J) ?_;refine gS 4 16 12 h ?_;intro b3 h;refine ab ?_;refine gS 4 21 17 h ?_;intro b4 h;exact eY
 refine dk h ?_ ?_<;>intro h
 ·refine cR h (fun _ k=>IG k) fun y6 h=> ?_
  refine oz 5 38 33 h (fun _ g7 h=> ?_) fun b7 h=> ?_
  ·refine ab ?_;exact eP (qH J Wz) J (bW g7 J) J<|gY
  refine ab ?_;refine gS 3 42 39 h ?_;intro b8 h;exact eY
 refine dk h ?_ ?_<;>intro h
 ·refine ab ?_;refine fS (sq J J) ?_;refine gS 4 52 48 h ?_;intro a6 h;exact eY
 exact eY
def vm (N:Nat)(a0:Int):Option Bool:=
 some (!decide (a0=a0))
theorem CI {N:Nat}{a0:Int}{r:Bool}(h:vm N a0=some r):Okc Xk 174 [iV a0] ([]) (fun u post=>u=.bool r/\post=[]):=by
 refine ce Tryz.func174 ?_;exact eN
def oV (a0 a1:Int):Option Int:=
 (vm N a0).bind fun y1=>(vm N a1).bind fun y2=>bif y1 then (bif y2 then (some 0) else (some (-1))) else (bif y2 then (some 1) else (bif decide (a0<a1) then (some (-1)) else (bif decide (a1<a0) then (some 1) else (some 0))))
theorem yX {N:Nat}{a0 r:Int}(h:oV N a0 a1=some r):Okc Xk 132 [iV a0,iV a1] ([]) (fun u post=>u=iV r/\post=[]):=by
 refine ce Tryz.func132 ?_
 refine cR h (fun _ k=>CI k) fun y1 h=> ?_
 refine cR h (fun _ k=>CI k) fun y2 h=> ?_
 refine sZ ?_;refine gH J h ?_ ?_<;>intro h
 ·refine sZ ?_;refine gH J h ?_ ?_<;>intro h
  ·exact eY
  exact eY
 refine sY ?_;refine gH J h ?_ ?_<;>intro h
 ·exact eY
 refine sY ?_;refine gH J h ?_ ?_<;>intro h
 ·exact eY
 refine sY ?_;refine gH J h ?_ ?_<;>intro h
 ·exact eY
 exact eY
def nC (a0 a1:WX):Option Int:=
 (bif decide (a0.Zh=0) then (some (decide (a1.Zh=0))) else (some false)).bind fun b3=>bif b3 then ((oV N a0.N a1.N).bind fun y5=>some y5) else ((oV N a0.Zh a1.Zh).bind fun y6=>some y6)
theorem tr {N:Nat}{a0 a1:WX}{r:Int}(h:nC N a0 a1=some r):Okc Xk 91 [(eI a0),(eI a1)] ([]) (fun u post=>u=iV r/\post=[]):=by
 refine ce Tryz.func91 ?_;intro B1
 refine cl fun B2=> ?_
 refine sZ ?_;refine gS 4 12 8 h ?_;intro b3 h;refine dk h ?_ ?_<;>intro h
 ·refine cR h (fun _ k=>yX k) fun y5 h=> ?_
  exact eN
 refine cR h (fun _ k=>yX k) fun y6 h=> ?_
 exact eN
theorem qD {r:Int}: ∀v post,((fun (u:Value) (post:Xi)=>u=iV r/\post=[])) v post-> ∀c∈post,iS c:=by
 rintro _ _ ⟨rfl,rfl⟩;exact ax
def cL (N:Nat)(a6:W7->Int->Option W7)(a1 a2 p5:Int)(p8:W7):Option W7:=
 aI (in64 (p5+1)) (a6 p8 (p5+1))
def bV (N:Nat)(b5:W7->Int->Option W7)(a1 a2 p5:Int):Nat->W7->Int->Option W7
 |0,_,_=>none
 |m9+1,a7,a6=>(bif decide (a1<a6) then ((aq a7 a6).bind fun b6=>aI (in64 (a6 - 1)) ((aq a7 (a6 - 1)).bind fun b7=>(nC N b6 b7).bind fun b9=>some (decide (b9<0)))) else (some false)).bind fun b12=>bif b12 then (aI (in64 (a6 - 1)) (aI (in64 (a6 - 1)) ((aq a7 (a6 - 1)).bind fun a8=>(aq a7 a6).bind fun b0=>(aq a7 a6).bind fun d0=>(aq (List.set a7 a6.toNat (⟨a8.Zh,a8.N,a8.S⟩:WX)) (a6 - 1)).bind fun d1=>aI (in64 (a6 - 1)) ((bV N b5 a1 a2 p5 m9) (List.set (List.set a7 a6.toNat (⟨a8.Zh,a8.N,a8.S⟩:WX)) ((a6 - 1).toNat) (⟨b0.Zh,b0.N,b0.S⟩:WX)) (a6 - 1))))) else (cL N b5 a1 a2 p5 a7)
def bw (N:Nat)(a1 a2:Int):Nat->W7->Int->Option W7
 |0,_,_=>none
 |m3+1,p4,p5=>bif decide (p5<a2) then (bV N (bw N a1 a2 m3) a1 a2 p5 N p4 p5) else (some p4)
def bC (a0:W7)(a1 a2:Int):Option W7:=
 aI (in64 (a1+1)) (bw N a1 a2 N a0 (a1+1))
theorem dP {N:Nat}{a0 r:W7}(h:bC N a0 a1 a2=some r):Okc Xk 172 [W A1 n1 c1,iV a1,iV a2,.func (.func 91) #[] #[]] ([jv A1 n1 c1 a0]) (fun u post=>u=.tuple #[]/\post=[jv A1 n1 c1 r]):=by
 refine ce Tryz.func172 ?_;obtain ⟨q2,h⟩:=ac h;refine ab ?_;refine lK (fun m s L=> ∃(p4:W7) (p5:Int),bw N a1 a2 m p4 p5=some r/\s=[(0,W A1 n1 c1),(1,iV a1),(2,iV a2),(3,.func (.func 91) #[] #[]),(8,iV p5)]/\L=[jv A1 n1 c1 p4]) N ?_;rintro m3 _ _ ⟨p4,p5,h,rfl,rfl⟩;rw [bw.eq_2] at h;refine sZ ?_;refine gH J h ?_ ?_<;>intro h
 ·refine ab ?_;refine ak (fun s L=> ∃p8,cL N (bw N a1 a2 m3) a1 a2 p5 p8=some r/\s=[(0,W A1 n1 c1),(1,iV a1),(2,iV a2),(3,.func (.func 91) #[] #[]),(8,iV p5)]/\L=[jv A1 n1 c1 p8]) ?_ ?_
  ·refine ab ?_;refine lK (fun m s L=> ∃(b9:W7) (a6:Int),bV N (bw N a1 a2 m3) a1 a2 p5 m b9 a6=some r/\s=[(0,W A1 n1 c1),(1,iV a1),(2,iV a2),(3,.func (.func 91) #[] #[]),(8,iV p5),(9,iV a6)]/\L=[jv A1 n1 c1 b9]) N ?_;rintro m9 _ _ ⟨b9,a6,h,rfl,rfl⟩;rw [bV.eq_2] at h;refine aB<|dY [0,1,2,3] ?_
   refine yJ [4,5,6,7,8,9,10,11,12,13,14,15,16] 0 21 34 h (fun _ d1 h rest=> ?_) (fun _ d1 h rest=> ?_) fun b12 h=> ?_
   ·refine yY [4,5,6] ?_;obtain ⟨f2,e6,e7,e8,h⟩:=ba h;refine yY [7,8,9,10] ?_;obtain ⟨e4,h⟩:=ac h;refine il 11 J O (vJ J J e4.1 e4.2) (bW d1 J) J ?_;obtain ⟨f3,e9,f0,f1,h⟩:=ba h;refine yY [12,13] ?_;obtain ⟨f4,k,h⟩:=aa h;refine kI 14 J O (lm (tr k) J J J (ax) qD) J (bW d1 J) J ?_;rintro _ _ ⟨_,⟨rfl,rfl⟩,rfl⟩;refine ⟨_,ae _,ae _,?_⟩;refine yY [15,16] ?_;exact yS rest h
   ·refine yY [4,5,6,7,8,9,10,11,12,13,14,15,16] ?_;exact yS rest h
   refine aY O<|dk h (fun h=> ?_) (fun h=> ?_)
   ·refine sY ?_;obtain ⟨d0,h⟩:=ac h;obtain ⟨e5,h⟩:=ac h;obtain ⟨a7,d2,d3,d4,h⟩:=ba h;obtain ⟨a8,d6,e0,e1,h⟩:=ba h;refine gw (t:=[(0,W A1 n1 c1),(1,iV a1),(2,iV a2),(3,.func (.func 91) #[] #[]),(8,iV p5),(9,iV a6)]) ?_ ml (ae _)
    refine iR O 14 [2,3,4] [0,1,2,4,9,13] [37,38,39,40,41,42,43,44,45,46,47,48,49,50] [[],[],[],[],[3],[],[],[6],[5,7],[8],[],[],[10,11],[12]] [aV (W A1 n1 c1),
 aV (iV a6),
 aV (W A1 n1 c1),
 aV (iV a6),
 aV (iV (a6 - 1)),
 aV (W A1 n1 c1),
 aV (iV a6),
 aV (iV (a6 - 1)),
 aV (dG (W A1 n1 c1) ((a6 - 1).toNat) 3 0),
 aV (.agg #[iV a7.Zh,iV a7.N,.string a7.S]),
 aV (W A1 n1 c1),
 aV (iV a6),
 aV (dG (W A1 n1 c1) a6.toNat 3 0),
 aV (.agg #[iV a8.Zh,iV a8.N,.string a8.S])] [] (ae _) (fu rfl (fu rfl (fu rfl me))) O rfl rfl ?_ ?_ ?_
    ·exact ft J (nK (ap J) J (iI J (ae _)))<|ft J (nK (ap J) J (iI J (ae _)))<|ft J (nK (vJ J J d0.1 d0.2) J (iI J (ae _)))<|md
    ·refine aG J (zh (dr (us:=[iV a8.Zh,iV a8.N,.string a8.S]) 0 J aj J e1 agg39.out (fun _ _ _ h=>by rw [show _=_ from h];rfl)) J (iI J (ae _)))<|qR (bS 0 J aj J J EM size39.out d6 e0) ?_;refine qE (ap J) ?_;refine qE (ap J) ?_;refine aG J (zh (dr (us:=[iV a7.Zh,iV a7.N,.string a7.S]) 0 J aj J d4 agg39.out (fun _ _ _ h=>by rw [show _=_ from h];rfl)) J (iI J (ae _)))<|qR (bS 0 J aj J J EM size39.out d2 d3) ?_;refine qE (vJ J J e5.1 e5.2) ?_;refine qE (ap J) ?_;refine qE (ap J) ?_;refine qE (vJ J J d0.1 d0.2) ?_;refine qE (ap J) ?_;refine qE (ap J) ?_;refine qE (ap J) ?_;refine qE (ap J) ?_;exact dK
    refine oq (t:=[(37,W A1 n1 c1),(38,iV a6),(39,W A1 n1 c1),(41,iV (a6 - 1)),(46,.agg #[iV a7.Zh,iV a7.N,.string a7.S]),(50,.agg #[iV a8.Zh,iV a8.N,.string a8.S]),(0,W A1 n1 c1),(1,iV a1),(2,iV a2),(3,.func (.func 91) #[] #[]),(8,iV p5),(9,iV a6)]) (L':=[jv A1 n1 c1 b9]) ?_ ml (ae _);obtain ⟨f6,b0,b5,e2,h⟩:=ba h;refine Kq 14 J O (bS 0 J aj J J EM size39.out b0 b5) J J J<|pU 15 J O (bZ (us:=[iV a7.Zh,iV a7.N,.string a7.S]) (z:=(⟨a7.Zh,a7.N,a7.S⟩:WX)) 0 J J J J size39.out J (toNat_lt b0 b5) J (fun S w vs xk hk hr ho=>by obtain rfl:=YX (hk.symm.trans e2);rw [show _=_ from hr];rfl)) J J ?_;rintro _ _ rfl;obtain ⟨f9,b6,b7,e3,h⟩:=ba h;refine Kq 16 J O (bS 0 J aj J J EM size39.out b6 b7) J J J<|pU 17 J O (bZ (us:=[iV a8.Zh,iV a8.N,.string a8.S]) (z:=(⟨a8.Zh,a8.N,a8.S⟩:WX)) 0 J J J J size39.out J (toNat_lt b6 b7) J (fun S w vs xk hk hr ho=>by obtain rfl:=YX (hk.symm.trans e3);rw [show _=_ from hr];rfl)) J J ?_;rintro _ _ rfl;refine mj O<|ab ?_;obtain ⟨g0,h⟩:=ac h;exact lY
   exact jY
  rintro _ _ ⟨p8,h,rfl,rfl⟩;refine ab ?_;obtain ⟨g1,h⟩:=ac h;exact lY
 exact eY
def cA (N:Nat)(a1 a2 a3:Int):Nat->W7->Int->Option W7
 |0,_,_=>none
 |m2+1,p3,p4=>bif decide (p4<a3) then (aI (in64 (a1+p4)) (aI (in64 (a2+p4)) (aI (in64 (a2+p4)) ((aq p3 (a2+p4)).bind fun x9=>aI (in64 (a1+p4)) ((aq p3 (a1+p4)).bind fun a6=>(aq p3 (a1+p4)).bind fun a7=>(aq (List.set p3 ((a1+p4).toNat) (⟨x9.Zh,x9.N,x9.S⟩:WX)) (a2+p4)).bind fun a8=>aI (in64 (p4+1)) ((cA N a1 a2 a3 m2) (List.set (List.set p3 ((a1+p4).toNat) (⟨x9.Zh,x9.N,x9.S⟩:WX)) ((a2+p4).toNat) (⟨a6.Zh,a6.N,a6.S⟩:WX)) (p4+1))))))) else (some p3)
def cH (a0:W7)(a1 a2 a3:Int):Option W7:=
 cA N a1 a2 a3 N a0 0
theorem fi {N:Nat}{a0 r:W7}(h:cH N a0 a1 a2 a3=some r):Okc Xk 222 [W A1 n1 c1,iV a1,iV a2,iV a3,.func (.func 91) #[] #[]] ([jv A1 n1 c1 a0]) (fun u post=>u=.tuple #[]/\post=[jv A1 n1 c1 r]):=by
 refine ce Tryz.func222 ?_;refine lK (fun m s L=> ∃(p3:W7) (p4:Int),cA N a1 a2 a3 m p3 p4=some r/\s=[(0,W A1 n1 c1),(1,iV a1),(2,iV a2),(3,iV a3),(10,iV p4)]/\L=[jv A1 n1 c1 p3]) N ?_;rintro m2 _ _ ⟨p3,p4,h,rfl,rfl⟩;rw [cA.eq_2] at h;refine sZ ?_;refine gH J h ?_ ?_<;>intro h
 ·refine sY ?_;obtain ⟨q6,h⟩:=ac h;obtain ⟨q7,h⟩:=ac h;obtain ⟨q8,h⟩:=ac h;obtain ⟨x9,d3,d4,d6,h⟩:=ba h;obtain ⟨d2,h⟩:=ac h;obtain ⟨a6,b6,b7,b9,h⟩:=ba h;refine gw (t:=[(0,W A1 n1 c1),(1,iV a1),(2,iV a2),(3,iV a3),(10,iV p4)]) ?_ ml (ae _)
  refine iR O 20 [4,5,6,7] [0,3,4,7,13,19] [16,17,18,19,20,21,22,23,24,25,26,27,28,29,30,31,32,33,34,35] [[],[],[],[1,2],[],[],[],[5,6],[],[],[],[9,10],[8,11],[12],[],[],[],[15,16],[14,17],[18]] [aV (W A1 n1 c1),
 aV (iV a1),
 aV (iV p4),
 aV (iV (a1+p4)),
 aV (W A1 n1 c1),
 aV (iV a2),
 aV (iV p4),
 aV (iV (a2+p4)),
 aV (W A1 n1 c1),
 aV (iV a2),
 aV (iV p4),
 aV (iV (a2+p4)),
 aV (dG (W A1 n1 c1) ((a2+p4).toNat) 3 0),
 aV (.agg #[iV x9.Zh,iV x9.N,.string x9.S]),
 aV (W A1 n1 c1),
 aV (iV a1),
 aV (iV p4),
 aV (iV (a1+p4)),
 aV (dG (W A1 n1 c1) ((a1+p4).toNat) 3 0),
 aV (.agg #[iV a6.Zh,iV a6.N,.string a6.S])] [] (ae _) (fu rfl (fu rfl (fu rfl (fu rfl me)))) O rfl rfl ?_ ?_ ?_
  ·exact ft J (nK (ap J) J (iI J (ae _)))<|ft J (nK (ap J) J (iI J (ae _)))<|ft J (nK (ap J) J (iI J (ae _)))<|ft J (nK (iO J J q7.1 q7.2) J (iI J (ae _)))<|md
  ·refine aG J (zh (dr (us:=[iV a6.Zh,iV a6.N,.string a6.S]) 0 J aj J b9 agg39.out (fun _ _ _ h=>by rw [show _=_ from h];rfl)) J (iI J (ae _)))<|qR (bS 0 J aj J J EM size39.out b6 b7) ?_;refine qE (iO J J d2.1 d2.2) ?_;refine qE (ap J) ?_;refine qE (ap J) ?_;refine qE (ap J) ?_;refine aG J (zh (dr (us:=[iV x9.Zh,iV x9.N,.string x9.S]) 0 J aj J d6 agg39.out (fun _ _ _ h=>by rw [show _=_ from h];rfl)) J (iI J (ae _)))<|qR (bS 0 J aj J J EM size39.out d3 d4) ?_;refine qE (iO J J q8.1 q8.2) ?_;refine qE (ap J) ?_;refine qE (ap J) ?_;refine qE (ap J) ?_;refine qE (iO J J q7.1 q7.2) ?_;refine qE (ap J) ?_;refine qE (ap J) ?_;refine qE (ap J) ?_;refine qE (iO J J q6.1 q6.2) ?_;refine qE (ap J) ?_;refine qE (ap J) ?_;refine qE (ap J) ?_;exact dK
  refine oq (t:=[(16,W A1 n1 c1),(19,iV (a1+p4)),(20,W A1 n1 c1),(23,iV (a2+p4)),(29,.agg #[iV x9.Zh,iV x9.N,.string x9.S]),(35,.agg #[iV a6.Zh,iV a6.N,.string a6.S]),(0,W A1 n1 c1),(1,iV a1),(2,iV a2),(3,iV a3),(10,iV p4)]) (L':=[jv A1 n1 c1 p3]) ?_ ml (ae _);obtain ⟨e0,a7,a8,d0,h⟩:=ba h;refine Kq 20 J O (bS 0 J aj J J EM size39.out a7 a8) J J J<|pU 21 J O (bZ (us:=[iV x9.Zh,iV x9.N,.string x9.S]) (z:=(⟨x9.Zh,x9.N,x9.S⟩:WX)) 0 J J J J size39.out J (toNat_lt a7 a8) J (fun S w vs xk hk hr ho=>by obtain rfl:=YX (hk.symm.trans d0);rw [show _=_ from hr];rfl)) J J ?_;rintro _ _ rfl;obtain ⟨e1,b0,b5,d1,h⟩:=ba h;refine Kq 22 J O (bS 0 J aj J J EM size39.out b0 b5) J J J<|pU 23 J O (bZ (us:=[iV a6.Zh,iV a6.N,.string a6.S]) (z:=(⟨a6.Zh,a6.N,a6.S⟩:WX)) 0 J J J J size39.out J (toNat_lt b0 b5) J (fun S w vs xk hk hr ho=>by obtain rfl:=YX (hk.symm.trans d1);rw [show _=_ from hr];rfl)) J J ?_;rintro _ _ rfl;refine mj O<|ab ?_;obtain ⟨e2,h⟩:=ac h;exact lY
 exact eY
end Go.Proofs.YtmcifcmlojonnaaGreatDoor