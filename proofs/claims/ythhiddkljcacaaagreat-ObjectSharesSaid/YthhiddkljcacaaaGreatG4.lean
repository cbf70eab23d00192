/- Merged texts: part 4. No conditions of their own. -/
import Derived.Test.YthhiddkljcacaaaGreatG3
set_option maxHeartbeats 4000000
namespace Go.Proofs.YthhiddkljcacaaaGreat
variable (N:Nat){a1 a3:Int}{ff:Int->Option Bool}{B4 B5:Nat}{G:VI}{vf:Value}{a2:Vd}{a0:Vj}
section
theorem U3:type_of% Tryz.underlying184:=Tryz.underlying184
theorem U2:type_of% Tryz.underlying4:=Tryz.underlying4
theorem U1:type_of% Tryz.underlying23:=Tryz.underlying23
variable {A1 A2 A3 A4 A5 A6 A7 A8 A9:Option Addr}{B1 B2 B3 B6 M7 c1 c2 c3 c4 c5 c6 c7 c8 c9 n1 n2 n3 n4 n5 n6 n7 n8 n9:Nat}
open Go.RowKit Asn
set_option maxRecDepth 20000
def bK (a1:Int)(x9:Vw):(Unit)->Option (Option Exit×Unit)
 |()=>(ao x9 0).bind fun a6=>(bif !decide (a6.Xw=7) then (some true) else ((ao x9 1).bind fun a8=>some (decide (a8.Xw=8)))).bind fun b0=>bif b0 then (some (some .ret,())) else ((bif decide (a1=4) then ((ao x9 2).bind fun b5=>(iG N b5 7).bind fun b6=>(bif !b6 then (some true) else ((ao x9 3).bind fun b7=>(iH N b7 0 9007199254740992).bind fun b9=>some (!b9))).bind fun c0=>some c0) else (some false)).bind fun b16=>bif b16 then (some (some .ret,())) else (some (none,())))
def dL (a0:Vw)(a1:Int):Option Bool:=
 aD (a1≠0) (bif !decide ((a0.length:Int).tmod a1=0) then (some false) else ((lw N a0 a1).bind fun y6=>(tv N a0 a1 (cO (fun x st=>bK N a1 x st)) (none,())).bind fun a6=>sE a6.1 (some true) (some false) (fun _=>none)))
theorem rJ {N:Nat}{a0:Vw}{r:Bool}(h:dL N a0 a1=some r):Okc VK 222 [W A1 n1 c1,iV a1] ([aZ A1 n1 c1 a0]) (fun u post=>u=.bool r/\post=[]):=by
 refine bX Tryz.func222 ?_;intro B2
 refine dD fun B3=> ?_
 refine sZ ?_;obtain ⟨q4,h⟩:=ac h;refine dK (oX J J q4) ?_;refine gH J h ?_ ?_<;>intro h
 ·exact eY
 refine sY ?_;obtain ⟨y6,k,h⟩:=aa h;refine gD (oR (zo k)) ?_;rintro _ _ ⟨_,⟨B7,B8,rfl,rfl⟩,rfl⟩;refine ab ?_;refine gK ?_ dq (jt 0 J);refine gK ?_ dq (jt 1 J);refine ab ?_;obtain ⟨e0,k,h⟩:=aa h;refine Hi (R:=(fun (x:Vw) vs cs=> ∃A0 n0 c0,vs=[W A0 n0 c0]/\cs=[aZ A0 n0 c0 x])) (fun x st=>bK N a1 x st) (fun (st:Unit) (mz:Unit)=> [ae B2 3 [iV a1],ae B3 4 [.bool false]]) [aC B7 43 [W A1 n1 c1],aZ A1 n1 c1 a0,aC B8 3 [iV a1]] (()) (()) J J call252.out J (by rintro _ _ _ ⟨_,_,_,rfl,rfl⟩;rfl) (fun l G hY=>(DG k hY).mono fun _ _ hh=>hh.2) (dA [0,4,1] [] [3,2] 5 J) h ?_ ?_ ?_ ?_
 ·rintro l x9 _ je sr9 _ h _ _ ⟨e1,e2,e3,rfl,rfl⟩;replace h:bK N a1 x9 ()=some (je,sr9):=h;simp only [BY,WW,WX,WY,WQ,WR,Xu,V2];refine sY ?_;obtain ⟨e4,a6,a8,b6,h⟩:=aI h;refine ab ?_;refine H0 (rY 0 J bU J (toNat_lt a6 a8) uP) ?_
  refine BK 6 26 20 h (fun _ b7 h=> ?_) fun e5 h=> ?_
  ·refine ab ?_;obtain ⟨e6,b0,b5,b9,h⟩:=aI h;refine ab ?_;refine sj (rY 0 J bU J (toNat_lt b0 b5) uP) J (km b7 J) J ?_;exact gY
  refine dU h ?_ ?_<;>intro h
  ·refine ab ?_;obtain ⟨rfl,rfl⟩:=Xg (Xe h);exact KV ((cS [1,2] 3).trans (gC () J))
  refine ab ?_
  refine qi 13 42 29 h (fun _ e7 h=> ?_) fun b16 h=> ?_
  ·refine ab ?_;obtain ⟨e8,d0,d1,d2,h⟩:=aI h
   refine cR h (fun _ k=>kW k) fun e9 h=> ?_
   refine BK 6 41 35 h (fun _ f1 h=> ?_) fun f2 h=> ?_
   ·refine ab ?_;obtain ⟨f3,d3,d4,d6,h⟩:=aI h
    refine cR h (fun _ k=>kX k) fun f4 h=> ?_
    exact gY
   exact gY
  refine dU h ?_ ?_<;>intro h
  ·refine ab ?_;obtain ⟨rfl,rfl⟩:=Xg (Xe h);exact KV ((cS [1,2] 3).trans (gC () J))
  refine ab ?_;obtain ⟨rfl,rfl⟩:=Xg (Xe h);exact DS ((cS [1,2] 3).trans (gC () J))
 ·rintro _ h;refine rf ([ae B2 3 [iV a1],ae B3 4 [.bool false]]) J ?_;exact eY
 ·rintro _ h;refine rf ([ae B2 3 [iV a1],ae B3 4 [.bool false]]) J ?_;exact eY
 rintro i _ h;exact az h
def mJ (a0:Int)(a1:Vw)(p5:Bool):Option Bool:=
 bif p5 then (some (decide ((a1.length:Int)=0))) else (bif decide (a0=3) then ((bif decide ((a1.length:Int)=3) then ((ao a1 0).bind fun a6=>(iH N a6 0 9007199254740992).bind fun a8=>some a8) else (some false)).bind fun b9=>(bif b9 then ((ao a1 1).bind fun b0=>(iG N b0 9).bind fun b5=>some b5) else (some false)).bind fun b12=>some b12) else (bif decide (a0=4) then ((bif decide (1<=(a1.length:Int)) then (some (decide ((a1.length:Int)<=4097))) else (some false)).bind fun b16=>(bif b16 then ((ao a1 0).bind fun b6=>(iG N b6 9).bind fun b7=>some b7) else (some false)).bind fun c0=>some c0) else (bif decide (a0=6) then ((bif decide ((a1.length:Int)=2) then ((ao a1 0).bind fun d0=>(iH N d0 0 3).bind fun d1=>some d1) else (some false)).bind fun d2=>(bif d2 then ((ao a1 1).bind fun d3=>(iG N d3 9).bind fun d4=>some d4) else (some false)).bind fun d6=>some d6) else (bif decide (a0=7) then ((bif decide (4<=(a1.length:Int)) then ((ao a1 2).bind fun e0=>(iH N e0 0 1).bind fun e1=>some e1) else (some false)).bind fun e2=>(bif e2 then ((ao a1 3).bind fun e3=>(iH N e3 0 9007199254740992).bind fun e4=>some e4) else (some false)).bind fun e5=>some e5) else (bif decide (a0=8) then ((dL N a1 2).bind fun e6=>some e6) else (bif decide (a0=10) then ((bif decide (1<=(a1.length:Int)) then ((ao a1 0).bind fun e7=>some (decide (e7.Xw=7))) else (some false)).bind fun e8=>(bif e8 then (aD ((0:Int)<=1/\(1:Int).toNat<=a1.length/\a1.length<=a1.length) ((dL N ((a1.drop ((1:Int).toNat)).take (a1.length - (1:Int).toNat)) 4).bind fun e9=>some e9)) else (some false)).bind fun f1=>some f1) else (bif decide (a0=9) then ((bif decide (2<=(a1.length:Int)) then ((ao a1 0).bind fun f2=>(iH N f2 0 2).bind fun f3=>some f3) else (some false)).bind fun f4=>some f4) else (some true))))))))
def kY (a0:Int)(a1:Vw):Option Bool:=
 bif decide (1048576<(a1.length:Int)) then (some false) else (bif decide (a0=2) then (some (decide ((a1.length:Int)<=4096))) else (bif decide (a0=1) then (mJ N a0 a1 (decide (a0=1))) else (mJ N a0 a1 (decide (a0=5)))))
theorem Cc {N:Nat}{a0:Int}{a1:Vw}{r:Bool}(h:kY N a0 a1=some r):Okc VK 187 [iV a0,W A1 n1 c1] ([aZ A1 n1 c1 a1]) (fun u post=>u=.bool r/\post=[]):=by
 refine bX Tryz.func187 ?_;refine sZ ?_;refine gH J h ?_ ?_<;>intro h
 ·exact eY
 refine sY ?_;refine gH J h ?_ ?_<;>intro h
 ·exact eY
 refine ak (fun s L=> ∃p5,mJ N a0 a1 p5=some r/\s=[(1,W A1 n1 c1),(4,.bool false),(8,iV a0),(14,.bool p5)]/\L=[aZ A1 n1 c1 a1]) ?_ ?_
 ·refine dU h ?_ ?_<;>intro h
  ·exact jY
  exact jY
 rintro _ _ ⟨p5,h,rfl,rfl⟩;refine gH J h ?_ ?_<;>intro h
 ·exact eY
 refine dU h ?_ ?_<;>intro h
 ·refine ab ?_
  refine qi 5 30 25 h (fun _ g9 h=> ?_) fun b9 h=> ?_
  ·refine ab ?_;obtain ⟨g3,b5,b6,b7,h⟩:=aI h
   refine cR h (fun _ k=>kX k) fun g4 h=> ?_
   exact gY
  refine ab ?_
  refine qi 5 36 31 h (fun _ g5 h=> ?_) fun b12 h=> ?_
  ·refine ab ?_;obtain ⟨g6,c0,d0,d1,h⟩:=aI h
   refine cR h (fun _ k=>kW k) fun g7 h=> ?_
   exact gY
  exact eY
 refine dU h ?_ ?_<;>intro h
 ·refine ab ?_;refine gS 4 46 42 h ?_;intro b16 h;refine ab ?_
  refine qi 5 52 47 h (fun _ g8 h=> ?_) fun h0 h=> ?_
  ·refine ab ?_;obtain ⟨h1,d2,d3,d4,h⟩:=aI h
   refine cR h (fun _ k=>kW k) fun h2 h=> ?_
   exact gY
  exact eY
 refine dU h ?_ ?_<;>intro h
 ·refine ab ?_
  refine qi 5 63 58 h (fun _ h3 h=> ?_) fun h4 h=> ?_
  ·refine ab ?_;obtain ⟨h5,d6,e0,e1,h⟩:=aI h
   refine cR h (fun _ k=>kX k) fun h6 h=> ?_
   exact gY
  refine ab ?_
  refine qi 5 69 64 h (fun _ h7 h=> ?_) fun h8 h=> ?_
  ·refine ab ?_;obtain ⟨h9,e2,e3,e4,h⟩:=aI h
   refine cR h (fun _ k=>kW k) fun i0 h=> ?_
   exact gY
  exact eY
 refine dU h ?_ ?_<;>intro h
 ·refine ab ?_
  refine qi 5 80 75 h (fun _ i1 h=> ?_) fun i2 h=> ?_
  ·refine ab ?_;obtain ⟨i8,e5,e6,e7,h⟩:=aI h
   refine cR h (fun _ k=>kX k) fun j0 h=> ?_
   exact gY
  refine ab ?_
  refine qi 5 86 81 h (fun _ j1 h=> ?_) fun j2 h=> ?_
  ·refine ab ?_;obtain ⟨j3,e8,e9,f1,h⟩:=aI h
   refine cR h (fun _ k=>kX k) fun j4 h=> ?_
   exact gY
  exact eY
 refine dU h ?_ ?_<;>intro h
 ·refine cR h (fun _ k=>rJ k) fun j5 h=> ?_
  exact eN
 refine dU h ?_ ?_<;>intro h
 ·refine ab ?_
  refine qi 6 102 96 h (fun _ f2 h=> ?_) fun j6 h=> ?_
  ·refine ab ?_;obtain ⟨j7,a8,b0,f3,h⟩:=aI h;refine ab ?_;refine sj (rY 0 J bU J (toNat_lt a8 b0) uP) J (ew f2 J) J ?_;exact gY
  refine ab ?_
  refine qi 4 107 103 h (fun _ f4 h=> ?_) fun j8 h=> ?_
  ·refine ab ?_;obtain ⟨a6,h⟩:=ac h;refine Rp 0 J (l:=(1:Int).toNat) (h:=a1.length) a6.2.1 a6.2.2 ?_;rintro j9 k0 k2 f9;refine sj (yQ 1 J f9 J t9 size29.out J (by rw [VX a6.1];rfl) a6.2.1) J (ew f4 J) J ?_
   refine cR h (fun _ k=>rJ k) fun k3 h=> ?_
   exact gY
  exact eY
 refine dU h ?_ ?_<;>intro h
 ·refine ab ?_
  refine qi 5 118 113 h (fun _ k4 h=> ?_) fun k5 h=> ?_
  ·refine ab ?_;obtain ⟨k6,g0,g1,g2,h⟩:=aI h
   refine cR h (fun _ k=>kX k) fun k7 h=> ?_
   exact gY
  exact eY
 exact eY
def gF (a0:Vd)(a6:Bool×Vp):(Unit)->Option (Option Exit×Unit)
 |()=>(wB N a6.2).bind fun a8=>bif !a8 then (some (some .ret,())) else (some (none,()))
def fa (a0:Vd):Option Bool:=
 (bif decide (a0.Xw<1) then (some true) else (some (decide (11<a0.Xw)))).bind fun b5=>(bif b5 then (some true) else (some (decide (a0.XD<0)))).bind fun b6=>(bif b6 then (some true) else (some (decide (a0.XB<0)))).bind fun b7=>(bif b7 then (some true) else (some (decide (63<a0.XB)))).bind fun b8=>(bif b8 then (some true) else ((bif !decide (a0.XC=0) then (some (!decide (a0.XC=1))) else (some false)).bind fun a6=>some a6)).bind fun b9=>bif b9 then (some false) else ((uo N a0).bind fun d1=>(ou N a0 (cO (fun x st=>gF N a0 x st)) (none,())).bind fun a8=>sE a8.1 ((jT N a0).bind fun b0=>(bif b0 then ((kY N a0.Xw a0.Xx).bind fun c0=>some c0) else (some false)).bind fun d0=>some d0) (some false) (fun _=>none))
theorem kj {N:Nat}{a0:Vd}{r:Bool}(h:fa N a0=some r):Okc VK 141 [.agg #[iV a0.Xw,iV a0.XD,iV a0.XB,iV a0.XC,W A1 n1 c1,W A2 n2 c2]] ([aZ A1 n1 c1 a0.Xy,aZ A2 n2 c2 a0.Xx]) (fun u post=>u=.bool r/\post=[]):=by
 refine bX Tryz.func141 ?_;intro B3
 refine dD fun B4=> ?_
 refine sZ ?_;refine gS 4 12 8 h ?_;intro b5 h;refine ab ?_;refine gS 4 17 13 h ?_;intro b6 h;refine ab ?_;refine gS 4 22 18 h ?_;intro b7 h;refine ab ?_;refine gS 4 27 23 h ?_;intro b8 h;refine ab ?_
 refine BK 9 37 28 h (fun _ g9 h=> ?_) fun b9 h=> ?_
 ·refine ab ?_;refine gS 4 36 32 h ?_;intro b0 h;exact gY
 refine dU h ?_ ?_<;>intro h
 ·exact eY
 refine sY ?_;obtain ⟨c0,k,h⟩:=aa h;refine gD (oR (DA k)) ?_;rintro _ _ ⟨_,⟨a6,rfl,rfl⟩,rfl⟩;refine ab ?_;refine gK ?_ dq (jt 0 J);obtain ⟨d0,k,h⟩:=aa h;refine vW (en:=(fun x=> [.bool x.1,.agg #[iV x.2.Xw,iV x.2.N,.string x.2.S]])) (fun x st=>gF N a0 x st) (fun (st:Unit) (mz:Unit)=> [aZ A1 n1 c1 a0.Xy,aZ A2 n2 c2 a0.Xx,ae B3 45 (ga a0 A1 n1 c1 A2 n2 c2),ae B4 4 [.bool false]]) [aC a6 45 (ga a0 A1 n1 c1 A2 n2 c2),aZ A1 n1 c1 a0.Xy,aZ A2 n2 c2 a0.Xx] (()) (()) J J call218.out J (fun _=>J) (fun l G hY=>(yw k hY).mono fun _ _ hh=>hh.2) (dA [0,3,4] [] [3,4,2,1] 5 J) h ?_ ?_ ?_ ?_
 ·rintro l a8 _ je sr14 _ h;replace h:gF N a0 a8 ()=some (je,sr14):=h;simp only [BY,WW,WX,WY,WQ,WR,Xu,V2]
  refine dD fun d1=> ?_
  refine cR h (fun _ k=>JE k) fun d2 h=> ?_
  refine gH J h ?_ ?_<;>intro h
  ·refine ab ?_;obtain ⟨rfl,rfl⟩:=Xg (Xe h);exact KV ((cS [1,2,3,4] 5).trans (gC () J))
  refine ab ?_;obtain ⟨rfl,rfl⟩:=Xg (Xe h);exact DS ((cS [1,2,3,4] 5).trans (gC () J))
 ·rintro _ h;refine rf ([aZ A1 n1 c1 a0.Xy,aZ A2 n2 c2 a0.Xx,ae B3 45 (ga a0 A1 n1 c1 A2 n2 c2),ae B4 4 [.bool false]]) J ?_
  refine cR h (fun _ k=>AF k) fun d3 h=> ?_
  refine qi 6 53 47 h (fun _ d4 h=> ?_) fun d6 h=> ?_
  ·refine cR h (fun _ k=>Cc k) fun e0 h=> ?_
   exact gY
  exact eY
 ·rintro _ h;refine rf ([aZ A1 n1 c1 a0.Xy,aZ A2 n2 c2 a0.Xx,ae B3 45 (ga a0 A1 n1 c1 A2 n2 c2),ae B4 4 [.bool false]]) J ?_;exact eY
 rintro i _ h;exact az h
def cx (N:Nat)(a0:Vw):Option Vw:=
 aD (bY (([]:List Vp).length+a0.length)) (some (([]:List Vp)++a0))
theorem fu {N:Nat}{a0 r:Vw}(h:cx N a0=some r):Okc VK 91 [W A1 n1 c1] ([aZ A1 n1 c1 a0]) (fun u post=> ∃A0 n0 c0,u=W A0 n0 c0/\post=[aB A0 n0 c0 r]):=by
 refine bX Tryz.func91 ?_;refine sZ ?_;refine dK (Jr J t9) ?_;refine KX J (fun g2=> ?_) (fun g2=> ?_)
 ·replace g2:(A1).isNone=true:=by simpa using g2
  refine Q8 0 J bU g2 (fun hx=> ?_);subst hx;replace h:aD (bY (([]:List Vp).length+([]:List Vp).length)) (some (([]:List Vp)++([]:List Vp)))=some r:=h
  replace h:some []=some r:=by simpa [aD] using h
  refine ab ?_;obtain rfl:=jg h;exact z7 J J ((bq av 29 _).trans (cS [0] 2)) ⟨_,_,_,J,J⟩
 refine ab ?_
 refine rP (aL (R:=av) (vss:=[]) (xs:=[]) J (O2) J J (fun _ _ hr=>All2.nil)) fun A4 n4 c4=> ?_
 obtain ⟨q5,h⟩:=ac h
 refine rP (aP 0 1 J J bU J J t9 AI J J q5) fun A6 n6 c6=> ?_
 exact eN
def dx (a0:Vd):Option Vd:=
 (cx N a0.Xy).bind fun y5=>(cx N a0.Xx).bind fun y7=>some (⟨a0.Xw,a0.XD,a0.XB,a0.XC,y5,y7⟩:Vd)
theorem f0 {N:Nat}{a0 r:Vd}(h:dx N a0=some r):Okc VK 104 [.agg #[iV a0.Xw,iV a0.XD,iV a0.XB,iV a0.XC,W A1 n1 c1,W A2 n2 c2]] ([aZ A1 n1 c1 a0.Xy,aZ A2 n2 c2 a0.Xx]) (fun u post=> ∃A0 n0 c0 A1 n1 c1,u=.agg #[iV r.Xw,iV r.XD,iV r.XB,iV r.XC,W A0 n0 c0,W A1 n1 c1]/\post=[aB A0 n0 c0 r.Xy,aB A1 n1 c1 r.Xx]):=by
 refine bX Tryz.func104 ?_;intro B3
 refine dD fun B4=> ?_
 refine dY [0,1,3,4] ?_;obtain ⟨y5,k,h⟩:=aa h
 refine yD 2 J (oR (fu k)) fun A6 n6 c6=> ?_
 refine zY [6] ?_;obtain ⟨y7,k,h⟩:=aa h
 refine yD 5 J (oR (fu k)) fun A8 n8 c8=> ?_
 refine oN 7 J I I (ar (us:=[W A6 n6 c6]) (cs':=(ga a0 A6 n6 c6 A2 n2 c2)) 3 J J J J size43.out J J J) ?_;rintro _ _ rfl;refine zY [8] ?_;refine oN 9 J I I (ar (us:=[W A8 n8 c8]) (cs':=(ga a0 A6 n6 c6 A8 n8 c8)) 3 J J J J size43.out J J J) ?_;rintro _ _ rfl;refine dB I ?_;exact eY
def iM (a0:Vv)(a1:Vd):Option (Int×Int×Vv):=
 (aF N a0).bind fun a8=>bif a8 then (some (0,1,a0)) else ((fa N a1).bind fun b0=>bif !b0 then (some (0,51,a0)) else ((dx N a1).bind fun a6=>aD (bY (a0.m_.XA.length+([(⟨a6.Xw,a6.XD,a6.XB,0,a6.Xy,a6.Xx⟩:Vd)]:List Vd).length)) (aD (in64 (2*((a0.m_.XA++([(⟨a6.Xw,a6.XD,a6.XB,0,a6.Xy,a6.Xx⟩:Vd)]:List Vd)).length:Int))) (aD (in64 ((2*((a0.m_.XA++([(⟨a6.Xw,a6.XD,a6.XB,0,a6.Xy,a6.Xx⟩:Vd)]:List Vd)).length:Int)) - 1)) (some ((2*((a0.m_.XA++([(⟨a6.Xw,a6.XD,a6.XB,0,a6.Xy,a6.Xx⟩:Vd)]:List Vd)).length:Int)) - 1,0,(⟨(⟨a0.m_.XA++([(⟨a6.Xw,a6.XD,a6.XB,0,a6.Xy,a6.Xx⟩:Vd)]:List Vd),a0.m_.Xz⟩:Ve),a0.XJ,a0.XP,a0.XO⟩:Vv)))))))
theorem BG {N:Nat}{a0:Vv}{a1:Vd}{r:Int×Int×Vv}(h:iM N a0 a1=some r):Okc VK 92 [pV B1 0,.agg #[iV a1.Xw,iV a1.XD,iV a1.XB,iV a1.XC,W A8 n8 c8,W A9 n9 c9]] ([aZ A8 n8 c8 a1.Xy,aZ A9 n9 c9 a1.Xx,ae B1 128 [W A2 n2 c2,W A3 n3 c3,W A4 n4 c4,W A5 n5 c5,pV B6 0],cN A2 n2 c2 a0.m_.XA,cN A3 n3 c3 a0.m_.Xz,aB A4 n4 c4 a0.XJ,aB A5 n5 c5 a0.XP,ae B6 186 [.map (some M7)],ax cj ft M7 a0.XO.at_]) (fun u post=> ∃A0 n0 c0 A1 n1 c1 A2 n2 c2 A3 n3 c3 M4,u=.tuple #[iV r.1,iV r.2.1]/\post=[ae B1 128 [W A0 n0 c0,W A1 n1 c1,W A2 n2 c2,W A3 n3 c3,pV B6 0],cN A0 n0 c0 r.2.2.m_.XA,cN A1 n1 c1 r.2.2.m_.Xz,aB A2 n2 c2 r.2.2.XJ,aB A3 n3 c3 r.2.2.XP,ae B6 186 [.map (some M4)],ax cj ft M4 r.2.2.XO.at_]):=by
 refine bX Tryz.func92 ?_;intro d3;refine sY ?_
 refine cR h (fun _ k=>bW k) fun e6 h=> ?_
 refine gH J h ?_ ?_<;>intro h
 ·exact eY
 refine cR h (fun _ k=>kj k) fun e7 h=> ?_
 refine gH J h ?_ ?_<;>intro h
 ·exact eY
 refine Nn h (fun _ k=>f0 k) fun a6 b6 b7 b9 d0 d1 d2 h=> ?_
 refine au ?_;refine gK ?_ dq (bM 0 J);refine ab ?_;refine gK ?_ dq (bM 1 J);refine gK (t:=[(0,pV B1 0),(3,pV d3 0),(4,iV 0),(5,iV 0)]) ?_ lg (ah _)
 refine gX I 8 [0] [0,5,7] [16,17,18,19,20,21,22,23] [[],[],[1],[2],[3],[4],[],[6]] [aV (pV B1 0),
aV (pV B1 0),
aV (pV B1 0),
aV (pV B1 0),
aV (pV B1 0),
aV (W A2 n2 c2),
aV (.agg #[iV a6.Xw,iV a6.XD,iV a6.XB,iV 0,W b6 b7 b9,W d0 d1 d2]),
aX3 (fun (a8:Option Addr) (b0 b5:Nat)=> W a8 b0 b5) (fun a8 b0 b5=> [cN a8 b0 b5 ([(⟨a6.Xw,a6.XD,a6.XB,0,a6.Xy,a6.Xx⟩:Vd)]:List Vd)])] [] (ah _) (gN rfl kQ) I rfl rfl ?_ ?_ ?_
 ·refine gM J ?_ ?_
  ·exact pn (ap J) J (ko J (ah _))
  exact kP
 ·refine aH J ?_ ?_
  ·refine xh (aL (R:=ei) (vss:=[[iV a6.Xw,iV a6.XD,iV a6.XB,iV 0,W b6 b7 b9,W d0 d1 d2]]) (xs:=[(⟨a6.Xw,a6.XD,a6.XB,0,a6.Xy,a6.Xx⟩:Vd)]) J (vR _ _ _ _ _ _ _ _ _ _) J J (fun _ _ hr=> .cons (⟨_,_,_,_,_,_,J,hr 0 _ J J,hr 1 _ J J⟩) All2.nil)) J ?_;rintro _ _ ⟨e2,e3,e4,rfl,rfl⟩;exact Ia e2 e3 e4 (ah _)
  refine qR (ja (us:=[iV a6.Xw,iV a6.XD,iV a6.XB,iV 0,W b6 b7 b9,W d0 d1 d2]) 2 J J agg45.out J) ?_;refine qR (bO 5 J J HH J) ?_;refine qE (se J FE) ?_;refine qE (se J FC) ?_;refine qE (bF J) ?_;refine qE (ap J) ?_;refine qE (ap J) ?_;exact dl
 intro a8 b0 b5;refine nw (t:=[(16,pV B1 0),(21,W A2 n2 c2),(23,W a8 b0 b5),(0,pV B1 0),(3,pV d3 0),(4,iV 0),(5,iV 0)]) (L':=[cN a8 b0 b5 ([(⟨a6.Xw,a6.XD,a6.XB,0,a6.Xy,a6.Xx⟩:Vd)]:List Vd),aZ b6 b7 b9 a6.Xy,aZ d0 d1 d2 a6.Xx,ae d3 45 [iV a6.Xw,iV a6.XD,iV a6.XB,iV 0,W b6 b7 b9,W d0 d1 d2],aZ A8 n8 c8 a1.Xy,aZ A9 n9 c9 a1.Xx,ae B1 128 [W A2 n2 c2,W A3 n3 c3,W A4 n4 c4,W A5 n5 c5,pV B6 0],cN A2 n2 c2 a0.m_.XA,cN A3 n3 c3 a0.m_.Xz,aB A4 n4 c4 a0.XJ,aB A5 n5 c5 a0.XP,ae B6 186 [.map (some M7)],ax cj ft M7 a0.XO.at_]) ?_ lg (ah _);obtain ⟨e5,h⟩:=ac h;refine qj 8 J I (aP 7 0 J J aj J J UW Is J J e5) J J J ?_;rintro _ _ ⟨d4,d6,e0,rfl,rfl⟩;refine DT 9 J I (bF J) J J J ?_;refine DT 10 J I (se J FC) J J J ?_;refine DT 11 J I (se J FE) J J J ?_;refine rN 12 J I (ar (us:=[W d4 d6 e0]) (cs':=[W d4 d6 e0,W A3 n3 c3,W A4 n4 c4,W A5 n5 c5,pV B6 0]) 6 J J J J size123.out J J J) J J ?_;rintro _ _ rfl;refine xW ?_;refine lc I ?_;refine ab ?_;obtain ⟨e1,h⟩:=ac h;refine gE (nr J J e1.1 e1.2) ?_;obtain ⟨e8,h⟩:=ac h;exact eY
theorem nU {N:Nat}{a0:Vv}{a1:Vd}{r:Int×Int×Vv}(h:iM N a0 a1=some r):Okc VK 92 [pV B1 0,.agg #[iV a1.Xw,iV a1.XD,iV a1.XB,iV a1.XC,W A2 n2 c2,W A3 n3 c3]] ([aZ A2 n2 c2 a1.Xy,aZ A3 n3 c3 a1.Xx,oDHeap B1 a0]) (fun u post=>u=.tuple #[iV r.1,iV r.2.1]/\post=[oDHeap B1 r.2.2]):=IV 2 rfl (fun _=>BG h)
def jh (a0:Vj)(a8 b0:Int)(b5:ByteArray)(b6:Int):Option (Vp×Vj):=
 (iM N a0.XF (⟨1,0,b6,0,([(⟨a8,b0,b5⟩:Vp)]:List Vp),[]⟩:Vd)).bind fun a6=>some ((⟨7,a6.1,⟨#[]⟩⟩:Vp),(⟨a0.XQ,a0.XK,(),a6.2.2,a0.XH,a0.XS,a0.XR,a0.XY,a0.XZ,a0.XT,a0.XU⟩:Vj))
def dZ (a1:Int)(a0:Vj)(a6 a8:Int)(b0:ByteArray):Option (Vp×Vj):=
 bif decide (a1=17) then (jh N a0 a6 a8 b0 1) else (jh N a0 a6 a8 b0 17)
def ji (a1:Int)(a0:Vj)(p21:Bool):Option (Vp×Vj):=
 bif p21 then ((bL N a0.XF 3).bind fun a6=>dZ N a1 a0 a6.Xw a6.N a6.S) else ((bL N a0.XF 0).bind fun a8=>dZ N a1 a0 a8.Xw a8.N a8.S)
def fB (a1:Int)(a0:Vj)(a8:Bool):Option (Vp×Vj):=
 bif a8 then ((bL N a0.XF 5).bind fun a6=>dZ N a1 a0 a6.Xw a6.N a6.S) else (bif decide (a1=4) then (ji N a1 a0 (decide (a1=4))) else (ji N a1 a0 (decide (a1=16))))
def pe (a0:Vj)(a1:Int):Option (Vp×Vj):=
 bif decide (a1=0) then (dZ N a1 a0 1 0 (⟨#[]⟩)) else (bif decide (a1=6) then (fB N a1 a0 (decide (a1=6))) else (bif decide (a1=7) then (fB N a1 a0 (decide (a1=7))) else (fB N a1 a0 (decide (a1=8)))))
theorem oa {N:Nat}{r:Vp×Vj}(h:pe N a0 a1=some r):Okc VK 78 [pV B1 0,iV a1] ([ae B1 85 (ub a0 B2 B3 A4 n4 c4 A5 n5 c5 A6 n6 c6),oDHeap B2 a0.XF,oDTable B3 a0.XH,ir A4 n4 c4 a0.XS,sy A5 n5 c5 a0.XT,ir A6 n6 c6 a0.XU]) (fun u post=> ∃A0 n0 c0 A1 n1 c1 A2 n2 c2,u=.agg #[iV r.1.Xw,iV r.1.N,.string r.1.S]/\post=[ae B1 85 (ub r.2 B2 B3 A0 n0 c0 A1 n1 c1 A2 n2 c2),oDHeap B2 r.2.XF,oDTable B3 r.2.XH,ir A0 n0 c0 r.2.XS,sy A1 n1 c1 r.2.XT,ir A2 n2 c2 r.2.XU]):=by
 refine bX Tryz.func78 ?_;intro B7
 refine dD fun B8=> ?_
 refine ak (fun s L=> ∃a6 a8 b0,dZ N a1 a0 a6 a8 b0=some r/\s=[(0,pV B1 0),(1,iV a1),(4,pV B7 0),(5,pV B8 0)]/\L=[ir A4 n4 c4 a0.XS,sy A5 n5 c5 a0.XT,ir A6 n6 c6 a0.XU,ae B1 85 (ub a0 B2 B3 A4 n4 c4 A5 n5 c5 A6 n6 c6),ae B7 29 [iV 0,iV 0,.string (⟨#[]⟩)],ae B8 29 [iV a6,iV a8,.string b0],oDHeap B2 a0.XF,oDTable B3 a0.XH]) ?_ ?_
 ·refine dU h ?_ ?_<;>intro h
  ·exact jY
  refine ak (fun s L=> ∃b6,fB N a1 a0 b6=some r/\s=[(0,pV B1 0),(1,iV a1),(4,pV B7 0),(5,pV B8 0),(10,iV a1),(18,.bool b6)]/\L=[ir A4 n4 c4 a0.XS,sy A5 n5 c5 a0.XT,ir A6 n6 c6 a0.XU,ae B1 85 (ub a0 B2 B3 A4 n4 c4 A5 n5 c5 A6 n6 c6),ae B7 29 [iV 0,iV 0,.string (⟨#[]⟩)],ae B8 29 [iV 1,iV 0,.string (⟨#[]⟩)],oDHeap B2 a0.XF,oDTable B3 a0.XH]) ?_ ?_
  ·refine dU h ?_ ?_<;>intro h
   ·exact jY
   refine dU h ?_ ?_<;>intro h
   ·exact jY
   exact jY
  rintro _ _ ⟨b6,h,rfl,rfl⟩;refine gH J h ?_ ?_<;>intro h
  ·refine cR h (fun _ k=>fo k) fun d2 h=> ?_
   exact jN
  refine ak (fun s L=> ∃p21,ji N a1 a0 p21=some r/\s=[(0,pV B1 0),(1,iV a1),(4,pV B7 0),(5,pV B8 0),(27,.bool p21)]/\L=[ir A4 n4 c4 a0.XS,sy A5 n5 c5 a0.XT,ir A6 n6 c6 a0.XU,ae B1 85 (ub a0 B2 B3 A4 n4 c4 A5 n5 c5 A6 n6 c6),ae B7 29 [iV 0,iV 0,.string (⟨#[]⟩)],ae B8 29 [iV 1,iV 0,.string (⟨#[]⟩)],oDHeap B2 a0.XF,oDTable B3 a0.XH]) ?_ ?_
  ·refine dU h ?_ ?_<;>intro h
   ·exact jY
   exact jY
  rintro _ _ ⟨p21,h,rfl,rfl⟩;refine gH J h ?_ ?_<;>intro h
  ·refine cR h (fun _ k=>fo k) fun d3 h=> ?_
   exact jN
  refine cR h (fun _ k=>fo k) fun d4 h=> ?_
  exact jN
 rintro _ _ ⟨a6,a8,b0,h,rfl,rfl⟩;refine ab ?_
 refine rP (aL (R:=av) (vss:=[[iV a6,iV a8,.string b0]]) (xs:=[(⟨a6,a8,b0⟩:Vp)]) J (rL _ _ _) J J (fun _ _ hr=> .cons J All2.nil)) fun b7 b9 d0=> ?_
 intro d1;refine ab ?_;refine ak (fun s L=> ∃b5,jh N a0 a6 a8 b0 b5=some r/\s=[(0,pV B1 0),(4,pV B7 0),(6,pV d1 0)]/\L=[ir A4 n4 c4 a0.XS,sy A5 n5 c5 a0.XT,ir A6 n6 c6 a0.XU,ae B1 85 (ub a0 B2 B3 A4 n4 c4 A5 n5 c5 A6 n6 c6),ae B7 29 [iV 0,iV 0,.string (⟨#[]⟩)],aB b7 b9 d0 ([(⟨a6,a8,b0⟩:Vp)]:List Vp),ae d1 45 [iV 1,iV 0,iV b5,iV 0,W b7 b9 d0,W none 0 0],oDHeap B2 a0.XF,oDTable B3 a0.XH]) ?_ ?_
 ·refine dU h ?_ ?_<;>intro h
  ·exact jY
  exact jY
 rintro _ _ ⟨b5,h,rfl,rfl⟩;refine au ?_;refine bi I ([ir A4 n4 c4 a0.XS,sy A5 n5 c5 a0.XT,ir A6 n6 c6 a0.XU,ae B1 85 (ub a0 B2 B3 A4 n4 c4 A5 n5 c5 A6 n6 c6),ae B7 29 [iV 0,iV 0,.string (⟨#[]⟩)],ae d1 45 [iV 1,iV 0,iV b5,iV 0,W b7 b9 d0,W none 0 0],oDTable B3 a0.XH]) (cS [0,1,2,3,4,6,8] 9) ?_;refine ab ?_;refine lb (bM 5 J) (cS [0,1,2,3,4,6,8] 9) ?_;obtain ⟨d6,k,h⟩:=aa h;refine lb (pX av _) (cS [1,2,3,4,5,7,9] 10) ?_;refine zD 5 J (oC (nU k)) ?_;rintro _ _ ⟨_,⟨rfl,rfl⟩,rfl⟩;refine aW ?_;exact eY
def eu (a0:Vv)(a1:Vp):Option (Int×Vv):=
 (aF N a0).bind fun y9=>bif y9 then (some (0,a0)) else (aD (bY (a0.XJ.length+([a1]:List Vp).length)) (aD (in64 (((a0.XJ++([a1]:List Vp)).length:Int) - 1)) (some (((a0.XJ++([a1]:List Vp)).length:Int) - 1,(⟨a0.m_,a0.XJ++([a1]:List Vp),a0.XP,a0.XO⟩:Vv)))))
theorem BF {N:Nat}{a0:Vv}{a1:Vp}{r:Int×Vv}(h:eu N a0 a1=some r):Okc VK 39 [pV B1 0,(aX a1)] ([ae B1 128 [W A2 n2 c2,W A3 n3 c3,W A4 n4 c4,W A5 n5 c5,pV B6 0],cN A2 n2 c2 a0.m_.XA,cN A3 n3 c3 a0.m_.Xz,aB A4 n4 c4 a0.XJ,aB A5 n5 c5 a0.XP,ae B6 186 [.map (some M7)],ax cj ft M7 a0.XO.at_]) (fun u post=> ∃A0 n0 c0 A1 n1 c1 A2 n2 c2 A3 n3 c3 M4,u=iV r.1/\post=[ae B1 128 [W A0 n0 c0,W A1 n1 c1,W A2 n2 c2,W A3 n3 c3,pV B6 0],cN A0 n0 c0 r.2.m_.XA,cN A1 n1 c1 r.2.m_.Xz,aB A2 n2 c2 r.2.XJ,aB A3 n3 c3 r.2.XP,ae B6 186 [.map (some M4)],ax cj ft M4 r.2.XO.at_]):=by
 refine bX Tryz.func39 ?_;intro B8;refine sY ?_
 refine cR h (fun _ k=>bW k) fun y9 h=> ?_
 refine gH J h ?_ ?_<;>intro h
 ·exact eY
 refine ab ?_;refine au ?_;refine gK (t:=[(0,pV B1 0),(3,pV B8 0),(4,iV 0)]) ?_ lg (ah _)
 refine gX I 7 [0] [0,4,6] [7,8,9,10,11,12,13] [[],[],[1],[2],[3],[],[5]] [aV (pV B1 0),
aV (pV B1 0),
aV (pV B1 0),
aV (pV B1 2),
aV (W A4 n4 c4),
aV ((aX a1)),
aX3 (fun (a6:Option Addr) (a8 b0:Nat)=> W a6 a8 b0) (fun a6 a8 b0=> [aB a6 a8 b0 ([a1]:List Vp)])] [] (ah _) (gN rfl kQ) I rfl rfl ?_ ?_ ?_
 ·refine gM J ?_ ?_
  ·exact pn (ap J) J (ko J (ah _))
  exact kP
 ·refine aH J ?_ ?_
  ·refine xh (aL (R:=av) (vss:=[(ed a1)]) (xs:=[a1]) J (rL _ _ _) J J (fun _ _ hr=> .cons J All2.nil)) J ?_;rintro _ _ ⟨b9,d0,d1,rfl,rfl⟩;exact Ia b9 d0 d1 (ah _)
  refine qR (ja (us:=ed a1) 0 J J agg29.out J) ?_;refine qR (bO 1 J J vI J) ?_;refine qE (jS J FB) ?_;refine qE (bF J) ?_;refine qE (ap J) ?_;refine qE (ap J) ?_;exact dl
 intro a6 a8 b0;refine nw (t:=[(7,pV B1 0),(11,W A4 n4 c4),(13,W a6 a8 b0),(0,pV B1 0),(3,pV B8 0),(4,iV 0)]) (L':=[aB a6 a8 b0 ([a1]:List Vp),ae B8 29 (ed a1),ae B1 128 [W A2 n2 c2,W A3 n3 c3,W A4 n4 c4,W A5 n5 c5,pV B6 0],cN A2 n2 c2 a0.m_.XA,cN A3 n3 c3 a0.m_.Xz,aB A4 n4 c4 a0.XJ,aB A5 n5 c5 a0.XP,ae B6 186 [.map (some M7)],ax cj ft M7 a0.XO.at_]) ?_ lg (ah _);obtain ⟨d2,h⟩:=ac h;refine qj 7 J I (aP 5 0 J J aj J J t9 AI J J d2) J J J ?_;rintro _ _ ⟨b5,b6,b7,rfl,rfl⟩;refine DT 8 J I (bF J) J J J ?_;refine DT 9 J I (jS J FB) J J J ?_;refine rN 10 J I (ar (us:=[W b5 b6 b7]) (cs':=[W A2 n2 c2,W A3 n3 c3,W b5 b6 b7,W A5 n5 c5,pV B6 0]) 2 J J J J size43.out J J J) J J ?_;rintro _ _ rfl;refine lc I ?_;refine ab ?_;obtain ⟨d3,h⟩:=ac h;exact eY
theorem cr {N:Nat}{a0:Vv}{a1:Vp}{r:Int×Vv}(h:eu N a0 a1=some r):Okc VK 39 [pV B1 0,(aX a1)] ([oDHeap B1 a0]) (fun u post=>u=iV r.1/\post=[oDHeap B1 r.2]):=IV 0 rfl (fun _=>BF h)
def cJ (a0:Vj)(a1:Vd):Option (Vp×Vj):=
 (iM N a0.XF a1).bind fun a6=>bif !decide (a6.2.1=0) then (some ((⟨0,0,⟨#[]⟩⟩:Vp),(⟨a0.XQ,a0.XK,(),a6.2.2,a0.XH,a0.XS,a0.XR,a0.XY,a0.XZ,a0.XT,a0.XU⟩:Vj))) else (some ((⟨9,a6.1,⟨#[]⟩⟩:Vp),(⟨a0.XQ,a0.XK,(),a6.2.2,a0.XH,a0.XS,a0.XR,a0.XY,a0.XZ,a0.XT,a0.XU⟩:Vj)))
theorem ij {N:Nat}{a1:Vd}{r:Vp×Vj}(h:cJ N a0 a1=some r):Okc VK 79 [pV B1 0,.agg #[iV a1.Xw,iV a1.XD,iV a1.XB,iV a1.XC,W A7 n7 c7,W A8 n8 c8]] ([aZ A7 n7 c7 a1.Xy,aZ A8 n8 c8 a1.Xx,ae B1 85 (ub a0 B2 B3 A4 n4 c4 A5 n5 c5 A6 n6 c6),oDHeap B2 a0.XF,oDTable B3 a0.XH,ir A4 n4 c4 a0.XS,sy A5 n5 c5 a0.XT,ir A6 n6 c6 a0.XU]) (fun u post=> ∃A0 n0 c0 A1 n1 c1 A2 n2 c2,u=.agg #[iV r.1.Xw,iV r.1.N,.string r.1.S]/\post=[ae B1 85 (ub r.2 B2 B3 A0 n0 c0 A1 n1 c1 A2 n2 c2),oDHeap B2 r.2.XF,oDTable B3 r.2.XH,ir A0 n0 c0 r.2.XS,sy A1 n1 c1 r.2.XT,ir A2 n2 c2 r.2.XU]):=by
 refine bX Tryz.func79 ?_;intro B9
 refine dD fun a6=> ?_
 refine sZ ?_;refine dK (dz J U1) ?_;refine cP J ?_;refine ab ?_;refine au ?_;refine bi I ([ae a6 29 [iV 0,iV 0,.string (⟨#[]⟩)],ae B9 45 (ga a1 A7 n7 c7 A8 n8 c8),aZ A7 n7 c7 a1.Xy,aZ A8 n8 c8 a1.Xx,ae B1 85 (ub a0 B2 B3 A4 n4 c4 A5 n5 c5 A6 n6 c6),oDTable B3 a0.XH,ir A4 n4 c4 a0.XS,sy A5 n5 c5 a0.XT,ir A6 n6 c6 a0.XU]) (cS [0,1,2,3,4,6,7,8,9] 10) ?_;refine ab ?_;obtain ⟨a8,k,h⟩:=aa h;refine zD 5 J (oC (nU k)) ?_;rintro _ _ ⟨_,⟨rfl,rfl⟩,rfl⟩;refine aW ?_;refine sY ?_;refine gH J h ?_ ?_<;>intro h
 ·exact eY
 exact eY
theorem xe {N:Nat}{a1:Vd}{r:Vp×Vj}(h:cJ N a0 a1=some r){B1 B2 B3:Nat}:Okc VK 79 [pV B1 0,.agg #[iV a1.Xw,iV a1.XD,iV a1.XB,iV a1.XC,W A4 n4 c4,W A5 n5 c5]] ([aZ A4 n4 c4 a1.Xy,aZ A5 n5 c5 a1.Xx,oDWorld B1 B2 B3 a0]) (fun u post=>u=.agg #[iV r.1.Xw,iV r.1.N,.string r.1.S]/\post=[oDWorld B1 B2 B3 r.2]):=IV 2 rfl (fun _=>ij h)
def xF (N:Nat)(a6 a8 b0 b5 b6 b7 b9 c0 d0 d1:Int)(d2:List ByteArray)(d3 d4 d6:Int)(e0:List Vm)(e1:List ByteArray)(e2:Vv)(e3:Vi):Option (Int ⊕ (Vj×Int)):=
 some (.inr ((⟨(⟨a6,a8,b0⟩:Vg),(⟨b5,b6,b7,b9,c0,d0,d1⟩:Vf),(),e2,e3,d2,d3,d4,d6,e0,e1⟩:Vj),0))
def zG (b0 b5 b6 b7 b9 c0 d0 d1 d2 d3:Int)(d4:List ByteArray)(d6 e0 e1:Int)(e2:List Vm)(e3:List ByteArray)(e4:Vv)(e5:Vi):Option (Int ⊕ (Vj×Int)):=
 (cJ N (⟨(⟨b0,b5,b6⟩:Vg),(⟨b7,b9,c0,d0,d1,d2,d3⟩:Vf),(),e4,e5,d4,d6,e0,e1,e2,e3⟩:Vj) (⟨11,0,0,0,[],[]⟩:Vd)).bind fun a6=>(eu N a6.2.XF a6.1).bind fun a8=>xF N a6.2.XQ.Yd a6.2.XQ.Yf a6.2.XQ.Yh a6.2.XK.Yk a6.2.XK.Yg a6.2.XK.Ya a6.2.XK.Yj a6.2.XK.XA a6.2.XK.Yi a6.2.XK.Yl a6.2.XS a6.2.XR a6.2.XY a6.2.XZ a6.2.XT a6.2.XU a8.2 a6.2.XH
def AX (b0 b5 b6 p13 b7 b9 c0 d0 d1 d2:Int)(d3:List ByteArray)(p21 d4 d6:Int)(e0:List Vm)(e1:List ByteArray)(e2:Vv)(e3:Vi):Option (Int ⊕ (Vj×Int)):=
 (cJ N (⟨(⟨b0,b5,b6⟩:Vg),(⟨p13,b7,b9,c0,d0,d1,d2⟩:Vf),(),e2,e3,d3,p21,d4,d6,e0,e1⟩:Vj) (⟨11,0,0,0,[],[]⟩:Vd)).bind fun a6=>(eu N a6.2.XF a6.1).bind fun a8=>zG N a6.2.XQ.Yd a6.2.XQ.Yf a6.2.XQ.Yh a6.2.XK.Yk a6.2.XK.Yg a6.2.XK.Ya a6.2.XK.Yj a6.2.XK.XA a6.2.XK.Yi a6.2.XK.Yl a6.2.XS a6.2.XR a6.2.XY a6.2.XZ a6.2.XT a6.2.XU a8.2 a6.2.XH
def zH (N:Nat)(a6:Int->Int->Int->Int->Int->Int->Int->Int->Int->Int->Int->(List ByteArray)->Int->Int->Int->(List Vm)->(List ByteArray)->Vv->Vi->Option (Int ⊕ (Vj×Int)))(a8 b0 b5 b6 b7 b9 c0 d0 d1 d2 d3:Int)(d4:List ByteArray)(d6 e0 e1:Int)(e2:List Vm)(e3:List ByteArray)(e4:Vv)(e5:Vi):Option (Int ⊕ (Vj×Int)):=
 aD (in64 (a8+1)) (a6 (a8+1) b0 b5 b6 b7 b9 c0 d0 d1 d2 d3 d4 d6 e0 e1 e2 e3 e4 e5)
def qM (N:Nat):Nat->Int->Int->Int->Int->Int->Int->Int->Int->Int->Int->Int->(List ByteArray)->Int->Int->Int->(List Vm)->(List ByteArray)->Vv->Vi->Option (Int ⊕ (Vj×Int))
 |0,_,_,_,_,_,_,_,_,_,_,_,_,_,_,_,_,_,_,_=>none
 |e6+1,a8,b0,b5,b6,b7,b9,c0,d0,d1,d2,d3,d4,d6,e0,e1,e2,e3,e4,e5=>bif decide (a8<18) then ((pe N (⟨(⟨b0,b5,b6⟩:Vg),(⟨b7,b9,c0,d0,d1,d2,d3⟩:Vf),(),e4,e5,d4,d6,e0,e1,e2,e3⟩:Vj) a8).bind fun a6=>(eu N a6.2.XF a6.1).bind fun e7=>zH N (qM N e6) a8 a6.2.XQ.Yd a6.2.XQ.Yf a6.2.XQ.Yh a6.2.XK.Yk a6.2.XK.Yg a6.2.XK.Ya a6.2.XK.Yj a6.2.XK.XA a6.2.XK.Yi a6.2.XK.Yl a6.2.XS a6.2.XR a6.2.XY a6.2.XZ a6.2.XT a6.2.XU e7.2 a6.2.XH) else (AX N b0 b5 b6 b7 b9 c0 d0 d1 d2 d3 d4 d6 e0 e1 e2 e3 e4 e5)
def xG (a0:Vf):Option (Int ⊕ (Vj×Int)):=
 (zF N a0).bind fun y2=>bif !y2 then (some (.inl 1)) else ((Ar N).bind fun y4=>(xv N).bind fun y6=>qM N N 0 0 0 0 a0.Yk a0.Yg a0.Ya a0.Yj a0.XA a0.Yi a0.Yl [] 0 0 0 [] [] y4 y6)
theorem HC {N:Nat}{a0:Vf}{r:(Int ⊕ (Vj×Int))}(h:xG N a0=some r):Okc VK 25 [(Fo a0)] ([]) (fun u post=>Px (fun (r:Int)=>u=.tuple #[.pointer none,iV r]/\post=[]) (fun (r:Vj×Int)=> ∃B0 B1 B2 A3 n3 c3 A4 n4 c4 A5 n5 c5,u=.tuple #[pV B0 0,iV r.2]/\post=[ae B0 85 (ub r.1 B1 B2 A3 n3 c3 A4 n4 c4 A5 n5 c5),oDHeap B1 r.1.XF,oDTable B2 r.1.XH,ir A3 n3 c3 r.1.XS,sy A4 n4 c4 r.1.XT,ir A5 n5 c5 r.1.XU]) r):=by
 refine bX Tryz.func25 ?_;intro B1;refine sY ?_;obtain ⟨y2,k,h⟩:=aa h;refine BJ (oR (EC k)) ?_;refine gH J h ?_ ?_<;>intro h
 ·exact eY
 refine ab ?_;refine dY [] ?_;refine ab ?_;obtain ⟨y4,k,h⟩:=aa h
 refine Gj 1 J (oC (Gb k)) fun B5=> ?_
 obtain ⟨y6,k,h⟩:=aa h
 refine Gj 2 J (oC (Es k)) fun B7=> ?_
 refine ab ?_
 refine Gj 4 J (CH J J) fun B8=> ?_
 refine ab ?_;refine ak (fun s L=> ∃g5 g6 g7 p13 g8 g9 h0 h1 h2 h3 h4 p21 h5 h6 h7 h8 h9 i0 i1 i2 i8 j0 j1 j2 j3 j4 j5,AX N g5 g6 g7 p13 g8 g9 h0 h1 h2 h3 h4 p21 h5 h6 h7 h8 h9 i0=some r/\s=[(2,.pointer none),(3,iV 0),(4,pV B8 0)]/\L=[ir i1 i2 i8 h4,sy j0 j1 j2 h7,ir j3 j4 j5 h8,ae B8 85 [iV g5,iV g6,iV g7,iV p13,iV g8,iV g9,iV h0,iV h1,iV h2,iV h3,.nilIface,pV B5 0,pV B7 0,W i1 i2 i8,iV p21,iV h5,iV h6,W j0 j1 j2,W j3 j4 j5],oDHeap B5 h9,oDTable B7 i0]) ?_ ?_
 ·refine ab ?_;refine gZ (fun m s L=> ∃g4 j6 j7 j8 j9 k0 k2 k3 k4 k5 k6 k7 k8 k9 l0 l1 l2 l3 l4 l5 l6 l7 l8 l9 m0 m1 m2 m3,qM N m g4 j6 j7 j8 j9 k0 k2 k3 k4 k5 k6 k7 k8 k9 l0 l1 l2 l3 l4=some r/\s=[(2,.pointer none),(3,iV 0),(4,pV B8 0),(14,iV g4)]/\L=[ir l5 l6 l7 k7,sy l8 l9 m0 l1,ir m1 m2 m3 l2,ae B8 85 [iV j6,iV j7,iV j8,iV j9,iV k0,iV k2,iV k3,iV k4,iV k5,iV k6,.nilIface,pV B5 0,pV B7 0,W l5 l6 l7,iV k8,iV k9,iV l0,W l8 l9 m0,W m1 m2 m3],oDHeap B5 l3,oDTable B7 l4]) N _ _ ⟨0,0,0,0,a0.Yk,a0.Yg,a0.Ya,a0.Yj,a0.XA,a0.Yi,a0.Yl,[],0,0,0,[],[],y4,y6,none,0,0,none,0,0,none,0,0,h,J,J⟩ sA ((bq uy 9 _).trans ((bq oz 319 _).trans ((bq uy 9 _).trans (cS [2,1,0,3,5,4] 7)))) ?_;rintro (_|v8)
  all_goals (refine fun s L=>ai fun g4=>ai fun j6=>ai fun j7=>ai fun j8=>ai fun j9=>ai fun k0=>ai fun k2=>ai fun k3=>ai fun k4=>ai fun k5=>ai fun k6=>ai fun k7=>ai fun k8=>ai fun k9=>ai fun l0=>ai fun l1=>ai fun l2=>ai fun l3=>ai fun l4=>ai fun l5=>ai fun l6=>ai fun l7=>ai fun l8=>ai fun l9=>ai fun m0=>ai fun m1=>ai fun m2=>ai fun m3=>xi fun h=> ?_)
  ·exact az h
  rw [qM.eq_2] at h;refine ab ?_;refine au ?_;refine gH J h ?_ ?_<;>intro h
  ·refine ab ?_;refine ak (fun s L=> ∃m4 m5 m6 m7 m8 m9 n0 o0 o1 o2 o3 o4 o5 p0 p1 p2 p3 p4 p5 p6 p7 p8 q0 q1 q2 q3 q4,zH N (qM N v8) g4 m4 m5 m6 m7 m8 m9 n0 o0 o1 o2 o3 o4 o5 p0 p1 p2 p3 p4=some r/\s=[(2,.pointer none),(3,iV 0),(4,pV B8 0),(14,iV g4)]/\L=[ir p5 p6 p7 o3,sy p8 q0 q1 p1,ir q2 q3 q4 p2,ae B8 85 [iV m4,iV m5,iV m6,iV m7,iV m8,iV m9,iV n0,iV o0,iV o1,iV o2,.nilIface,pV B5 0,pV B7 0,W p5 p6 p7,iV o4,iV o5,iV p0,W p8 q0 q1,W q2 q3 q4],oDHeap B5 p3,oDTable B7 p4]) ?_ ?_
   ·refine ab ?_;refine bi I ([]) (cS [] 6) ?_;refine zY [0,1,2,4,5] ?_;refine o7 3 6 I ?_ ?_
    ·refine bJ J (vH (bO 3 J J Bo J)) J J J ?_;rintro _ _ ⟨rfl,rfl⟩;refine aW ?_;obtain ⟨w0,b5,h⟩:=aa h;refine zD 6 J (oC (oa b5)) ?_;rintro _ _ ⟨_,⟨w1,w2,w3,w4,w5,w6,w7,w8,w9,rfl,rfl⟩,rfl⟩;refine aW ?_;refine bf ?_;obtain ⟨x1,b6,h⟩:=aa h;refine zD 7 J (oC (cr b6)) ?_;rintro _ _ ⟨_,⟨rfl,rfl⟩,rfl⟩;refine aW ?_;refine bf ?_;refine dB I ?_;exact jY
    obtain ⟨w0,b5,h⟩:=aa h;refine bJ J (oC (oa b5)) J J J ?_;rintro _ _ ⟨_,⟨w1,w2,w3,w4,w5,w6,w7,w8,w9,rfl,rfl⟩,rfl⟩;refine aW ?_;refine bf ?_;refine zD 3 J (vH (bO 0 J J Bo J)) ?_;rintro _ _ ⟨rfl,rfl⟩;refine aW ?_;obtain ⟨x1,b6,h⟩:=aa h;refine zD 7 J (oC (cr b6)) ?_;rintro _ _ ⟨_,⟨rfl,rfl⟩,rfl⟩;refine aW ?_;refine bf ?_;refine dB I ?_;exact jY
   refine fun s L=>ai fun m4=>ai fun m5=>ai fun m6=>ai fun m7=>ai fun m8=>ai fun m9=>ai fun n0=>ai fun o0=>ai fun o1=>ai fun o2=>ai fun o3=>ai fun o4=>ai fun o5=>ai fun p0=>ai fun p1=>ai fun p2=>ai fun p3=>ai fun p4=>ai fun p5=>ai fun p6=>ai fun p7=>ai fun p8=>ai fun q0=>ai fun q1=>ai fun q2=>ai fun q3=>ai fun q4=>xi fun h=> ?_
   refine ab ?_;obtain ⟨y3,h⟩:=ac h;exact lY
  exact jY
 refine fun s L=>ai fun g5=>ai fun g6=>ai fun g7=>ai fun p13=>ai fun g8=>ai fun g9=>ai fun h0=>ai fun h1=>ai fun h2=>ai fun h3=>ai fun h4=>ai fun p21=>ai fun h5=>ai fun h6=>ai fun h7=>ai fun h8=>ai fun h9=>ai fun i0=>ai fun i1=>ai fun i2=>ai fun i8=>ai fun j0=>ai fun j1=>ai fun j2=>ai fun j3=>ai fun j4=>ai fun j5=>xi fun h=> ?_
 refine ak (fun s L=> ∃q5 q6 q7 q8 q9 r0 r1 r2 r3 r4 r5 r6 s0 s1 s2 s3 s4 s5 s6 s7 s8 s9 t1 t2 t6 u0 u1,zG N q5 q6 q7 q8 q9 r0 r1 r2 r3 r4 r5 r6 s0 s1 s2 s3 s4 s5=some r/\s=[(2,.pointer none),(3,iV 0),(4,pV B8 0)]/\L=[ir s6 s7 s8 r5,sy s9 t1 t2 s2,ir t6 u0 u1 s3,ae B8 85 [iV q5,iV q6,iV q7,iV q8,iV q9,iV r0,iV r1,iV r2,iV r3,iV r4,.nilIface,pV B5 0,pV B7 0,W s6 s7 s8,iV r6,iV s0,iV s1,W s9 t1 t2,W t6 u0 u1],oDHeap B5 s4,oDTable B7 s5]) ?_ ?_
 ·refine bi I ([]) (cS [] 6) ?_;refine zY [0,1,2,4] ?_;refine zE 5 J (ns J (bld_45_0 _).out) ?_;refine o7 3 6 I ?_ ?_
  ·refine bJ J (vH (bO 3 J J Bo J)) J J J ?_;rintro _ _ ⟨rfl,rfl⟩;refine aW ?_;obtain ⟨x2,b7,h⟩:=aa h;refine lb (pX av _) (cS [] 7) ?_;refine lb (pX av _) (cS [] 8) ?_;refine zD 6 J (oC (ij b7)) ?_;rintro _ _ ⟨_,⟨x3,x4,x5,x6,x7,x8,x9,y0,y1,rfl,rfl⟩,rfl⟩;refine aW ?_;refine bf ?_;obtain ⟨u2,a6,h⟩:=aa h;refine zD 7 J (oC (cr a6)) ?_;rintro _ _ ⟨_,⟨rfl,rfl⟩,rfl⟩;refine aW ?_;refine bf ?_;refine dB I ?_;exact jY
  obtain ⟨x2,b7,h⟩:=aa h;refine yH (pX av _) (cS [] 7) ?_;refine yH (pX av _) (cS [] 8) ?_;refine bJ J (oC (ij b7)) J J J ?_;rintro _ _ ⟨_,⟨x3,x4,x5,x6,x7,x8,x9,y0,y1,rfl,rfl⟩,rfl⟩;refine aW ?_;refine bf ?_;refine zD 3 J (vH (bO 0 J J Bo J)) ?_;rintro _ _ ⟨rfl,rfl⟩;refine aW ?_;obtain ⟨u2,a6,h⟩:=aa h;refine zD 7 J (oC (cr a6)) ?_;rintro _ _ ⟨_,⟨rfl,rfl⟩,rfl⟩;refine aW ?_;refine bf ?_;refine dB I ?_;exact jY
 refine fun s L=>ai fun q5=>ai fun q6=>ai fun q7=>ai fun q8=>ai fun q9=>ai fun r0=>ai fun r1=>ai fun r2=>ai fun r3=>ai fun r4=>ai fun r5=>ai fun r6=>ai fun s0=>ai fun s1=>ai fun s2=>ai fun s3=>ai fun s4=>ai fun s5=>ai fun s6=>ai fun s7=>ai fun s8=>ai fun s9=>ai fun t1=>ai fun t2=>ai fun t6=>ai fun u0=>ai fun u1=>xi fun h=> ?_
 refine ak (fun s L=> ∃b9 c0 d0 d1 d2 d3 d4 d6 e0 e1 e2 e3 e4 e5 e6 e7 e8 e9 f1 f2 f3 f4 f9 g0 g1 g2 g3,xF N b9 c0 d0 d1 d2 d3 d4 d6 e0 e1 e2 e3 e4 e5 e6 e7 e8 e9=some r/\s=[(2,.pointer none),(3,iV 0),(4,pV B8 0)]/\L=[ir f1 f2 f3 e2,sy f4 f9 g0 e6,ir g1 g2 g3 e7,ae B8 85 [iV b9,iV c0,iV d0,iV d1,iV d2,iV d3,iV d4,iV d6,iV e0,iV e1,.nilIface,pV B5 0,pV B7 0,W f1 f2 f3,iV e3,iV e4,iV e5,W f4 f9 g0,W g1 g2 g3],oDHeap B5 e8,oDTable B7 e9]) ?_ ?_
 ·refine bi I ([]) (cS [] 6) ?_;refine zY [0,1,2,4] ?_;refine zE 5 J (ns J (bld_45_0 _).out) ?_;refine o7 3 6 I ?_ ?_
  ·refine bJ J (vH (bO 3 J J Bo J)) J J J ?_;rintro _ _ ⟨rfl,rfl⟩;refine aW ?_;obtain ⟨u3,a8,h⟩:=aa h;refine lb (pX av _) (cS [] 7) ?_;refine lb (pX av _) (cS [] 8) ?_;refine zD 6 J (oC (ij a8)) ?_;rintro _ _ ⟨_,⟨u4,u5,u6,u7,u8,u9,v1,v2,v6,rfl,rfl⟩,rfl⟩;refine aW ?_;refine bf ?_;obtain ⟨v7,b0,h⟩:=aa h;refine zD 7 J (oC (cr b0)) ?_;rintro _ _ ⟨_,⟨rfl,rfl⟩,rfl⟩;refine aW ?_;refine bf ?_;refine dB I ?_;exact jY
  obtain ⟨u3,a8,h⟩:=aa h;refine yH (pX av _) (cS [] 7) ?_;refine yH (pX av _) (cS [] 8) ?_;refine bJ J (oC (ij a8)) J J J ?_;rintro _ _ ⟨_,⟨u4,u5,u6,u7,u8,u9,v1,v2,v6,rfl,rfl⟩,rfl⟩;refine aW ?_;refine bf ?_;refine zD 3 J (vH (bO 0 J J Bo J)) ?_;rintro _ _ ⟨rfl,rfl⟩;refine aW ?_;obtain ⟨v7,b0,h⟩:=aa h;refine zD 7 J (oC (cr b0)) ?_;rintro _ _ ⟨_,⟨rfl,rfl⟩,rfl⟩;refine aW ?_;refine bf ?_;refine dB I ?_;exact jY
 refine fun s L=>ai fun b9=>ai fun c0=>ai fun d0=>ai fun d1=>ai fun d2=>ai fun d3=>ai fun d4=>ai fun d6=>ai fun e0=>ai fun e1=>ai fun e2=>ai fun e3=>ai fun e4=>ai fun e5=>ai fun e6=>ai fun e7=>ai fun e8=>ai fun e9=>ai fun f1=>ai fun f2=>ai fun f3=>ai fun f4=>ai fun f9=>ai fun g0=>ai fun g1=>ai fun g2=>ai fun g3=>xi fun h=> ?_
 exact eY
theorem xE {N:Nat}{a0:Vf}{r:(Int ⊕ (Vj×Int))}(h:xG N a0=some r):Okc VK 25 [(Fo a0)] ([]) (fun u post=>Px (fun (r:Int)=>u=.tuple #[.pointer none,iV r]/\post=[]) (fun (r:Vj×Int)=> ∃B0 B1 B2,u=.tuple #[pV B0 0,iV r.2]/\post=[oDWorld B0 B1 B2 r.1]) r):=by
 rcases r with _|_<;>exact TO (HC h)
def qk:Option (Unit ⊕ Vj):=
 (xG N (⟨0,1000,10,1000,1,3,1⟩:Vf)).bind fun y1=>yL y1 (fun y1_0=>bif !decide (y1_0=0) then (some (.inl ())) else (some (.inl ()))) (fun y1_1=>bif !decide (y1_1.2=0) then (some (.inl ())) else (some (.inr y1_1.1)))
theorem uz {N:Nat}{r:(Unit ⊕ Vj)}(h:qk N=some r):Okc VK 6 [] ([]) (fun u post=>Px (fun (r:Unit)=>u=.pointer none/\post=[]) (fun (r:Vj)=> ∃B0 B1 B2,u=pV B0 0/\post=[oDWorld B0 B1 B2 r]) r):=by
 refine bX Tryz.func6 ?_;obtain ⟨y1,a6,h⟩:=aa h;rcases y1 with y1_0|y1_1
 ·replace h:=Cq h;refine BJ (oC (xE a6)) ?_;refine sZ ?_;refine gH J h ?_ ?_<;>intro h
  ·exact eY
  exact eY
 replace h:=Cp h;refine gD (oC (xE a6)) ?_;rintro _ _ ⟨_,⟨B3,B4,B5,rfl,rfl⟩,rfl⟩;refine sY ?_;refine gH J h ?_ ?_<;>intro h
 ·exact eY
 exact eY
def lX (N:Nat)(a0 a1:Int):Option Bool:=
 aD ((a1:Int)≠0/\in64 (a0.tdiv a1)) (some (decide ((a0.tdiv a1).tmod 2=1)))
theorem wh {N:Nat}{a0:Int}{r:Bool}(h:lX N a0 a1=some r):Okc VK 82 [iV a0,iV a1] ([]) (fun u post=>u=.bool r/\post=[]):=by
 refine bX Tryz.func82 ?_;obtain ⟨q1,h⟩:=ac h;refine gE (AB J J q1.1 q1.2.1 q1.2.2) ?_;refine dK (oX J J (by decide)) ?_;exact eN
def dw (a0:Vn)(a1:Int):Option Bool:=
 (lX N a0.Has a1).bind fun y2=>some y2
theorem iB {N:Nat}{a0:Vn}{r:Bool}(h:dw N a0 a1=some r):Okc VK 83 [(qD a0),iV a1] ([]) (fun u post=>u=.bool r/\post=[]):=by
 refine bX Tryz.func83 ?_;intro B1
 refine cR h (fun _ k=>wh k) fun y2 h=> ?_
 exact eN
def qu (a0:Vn):Option Bool:=
 (dw N a0 1).bind fun y2=>(bif y2 then (some true) else ((dw N a0 2).bind fun y4=>some y4)).bind fun b3=>some b3
theorem IM {N:Nat}{a0:Vn}{r:Bool}(h:qu N a0=some r):Okc VK 80 [(qD a0)] ([]) (fun u post=>u=.bool r/\post=[]):=by
 refine bX Tryz.func80 ?_;intro B1
 refine cR h (fun _ k=>iB k) fun y2 h=> ?_
 refine BK 3 8 5 h (fun _ g3 h=> ?_) fun b3 h=> ?_
 ·refine cR h (fun _ k=>iB k) fun y4 h=> ?_
  exact gY
 exact eY
def kO (a0:Vn):Option Bool:=
 (dw N a0 4).bind fun y2=>(bif y2 then (some true) else ((dw N a0 8).bind fun y4=>some y4)).bind fun b3=>some b3
theorem DM {N:Nat}{a0:Vn}{r:Bool}(h:kO N a0=some r):Okc VK 81 [(qD a0)] ([]) (fun u post=>u=.bool r/\post=[]):=by
 refine bX Tryz.func81 ?_;intro B1
 refine cR h (fun _ k=>iB k) fun y2 h=> ?_
 refine BK 3 8 5 h (fun _ g3 h=> ?_) fun b3 h=> ?_
 ·refine cR h (fun _ k=>iB k) fun y4 h=> ?_
  exact gY
 exact eY
def tH (N:Nat)(a0:Vp)(a1:Bool):Option Bool:=
 bif !a1 then (some (decide (a0=(⟨0,0,⟨#[]⟩⟩:Vp)))) else ((bif decide (a0.Xw=0) then (some true) else (some (decide (a0.Xw=7)))).bind fun b3=>some b3)
theorem Dj {N:Nat}{a0:Vp}{a1 r:Bool}(h:tH N a0 a1=some r):Okc VK 84 [(aX a0),.bool a1] ([]) (fun u post=>u=.bool r/\post=[]):=by
 refine bX Tryz.func84 ?_;intro B1;refine sY ?_;refine gH J h ?_ ?_<;>intro h
 ·refine ab ?_;refine dK (BU (x:=a0) (y:=(⟨0,0,⟨#[]⟩⟩:Vp)) J J) ?_;exact eN
 refine ab ?_;refine gS 4 17 13 h ?_;intro b3 h;exact eY
def uF (a0:Vn):Option Bool:=
 (bif decide (a0.Has<0) then (some true) else (some (decide (63<a0.Has)))).bind fun b2=>(bif b2 then (some true) else (some (decide (a0.XE<0)))).bind fun b3=>(bif b3 then (some true) else (some (decide (7<a0.XE)))).bind fun b4=>(bif b4 then (some true) else ((qu N a0).bind fun y6=>(bif y6 then ((kO N a0).bind fun y8=>some y8) else (some false)).bind fun b7=>some b7)).bind fun b5=>bif b5 then (some false) else ((lX N a0.XE 1).bind fun a6=>(bif a6 then ((dw N a0 2).bind fun a8=>some (!a8)) else (some false)).bind fun b0=>(bif b0 then (some true) else ((lX N a0.XE 2).bind fun b6=>(bif b6 then ((dw N a0 16).bind fun b9=>some (!b9)) else (some false)).bind fun c0=>some c0)).bind fun d0=>(bif d0 then (some true) else ((lX N a0.XE 4).bind fun d1=>(bif d1 then ((dw N a0 32).bind fun d2=>some (!d2)) else (some false)).bind fun d3=>some d3)).bind fun d4=>bif d4 then (some false) else ((dw N a0 1).bind fun d6=>(bif !d6 then (some (!decide (a0.Value=(⟨0,0,⟨#[]⟩⟩:Vp)))) else (some false)).bind fun e0=>(bif e0 then (some true) else (some (decide (a0.Value.Xw<0)))).bind fun e1=>(bif e1 then (some true) else (some (decide (7<a0.Value.Xw)))).bind fun e2=>bif e2 then (some false) else ((dw N a0 4).bind fun e3=>(tH N a0.XL e3).bind fun e4=>(bif e4 then ((dw N a0 8).bind fun e5=>(tH N a0.XM e5).bind fun e6=>some e6) else (some false)).bind fun e7=>some e7)))
theorem HD {N:Nat}{a0:Vn}{r:Bool}(h:uF N a0=some r):Okc VK 26 [(qD a0)] ([]) (fun u post=>u=.bool r/\post=[]):=by
 refine bX Tryz.func26 ?_;intro B1;refine sY ?_;refine gS 4 10 6 h ?_;intro b2 h;refine ab ?_;refine gS 4 15 11 h ?_;intro b3 h;refine ab ?_;refine gS 4 20 16 h ?_;intro b4 h;refine ab ?_;obtain ⟨b5,e2,h⟩:=aa h;refine vo 7 28 b5 ?_ ?_
 ·clear h;refine wG 21 J (fun g5=> ?_) (fun g5=> ?_)
  ·have h:=pY g5 e2;exact gY
  have h:=pZ g5 e2;refine ab ?_;obtain ⟨y6,k,h⟩:=aa h;refine gU (oR (IM k)) (km g5 J) ?_;refine ab ?_;obtain ⟨b7,e3,h⟩:=aa h;refine vo 3 27 b7 ?_ ?_
  ·clear h;refine wG 24 J (fun g7=> ?_) (fun g7=> ?_)
   ·have h:=pY g7 e3;refine ab ?_;obtain ⟨y8,k,h⟩:=aa h;refine gU (oR (DM k)) (ew g7 J) ?_;exact gY
   have h:=pZ g7 e3;exact gY
  exact gY
 refine dU h ?_ ?_<;>intro h
 ·exact eY
 refine sY ?_;obtain ⟨f2,k,h⟩:=aa h;refine BJ (oR (wh k)) ?_;obtain ⟨e4,a8,h⟩:=aa h;refine vo 4 36 e4 ?_ ?_
 ·clear h;refine wG 32 J (fun d2=> ?_) (fun d2=> ?_)
  ·have h:=pY d2 a8;refine ab ?_;obtain ⟨f3,k,h⟩:=aa h;refine gU (oR (iB k)) (ew d2 J) ?_;exact gY
  have h:=pZ d2 a8;exact gY
 refine ab ?_;obtain ⟨e5,b0,h⟩:=aa h;refine vo 9 46 e5 ?_ ?_
 ·clear h;refine wG 37 J (fun d3=> ?_) (fun d3=> ?_)
  ·have h:=pY d3 b0;exact gY
  have h:=pZ d3 b0;refine ab ?_;obtain ⟨f4,k,h⟩:=aa h;refine gU (oR (wh k)) (km d3 J) ?_;refine ab ?_;obtain ⟨e6,b6,h⟩:=aa h;refine vo 4 45 e6 ?_ ?_
  ·clear h;refine wG 41 J (fun d4=> ?_) (fun d4=> ?_)
   ·have h:=pY d4 b6;refine ab ?_;obtain ⟨f9,k,h⟩:=aa h;refine gU (oR (iB k)) (ew d4 J) ?_;exact gY
   have h:=pZ d4 b6;exact gY
  exact gY
 refine ab ?_;obtain ⟨e7,b9,h⟩:=aa h;refine vo 9 56 e7 ?_ ?_
 ·clear h;refine wG 47 J (fun d6=> ?_) (fun d6=> ?_)
  ·have h:=pY d6 b9;exact gY
  have h:=pZ d6 b9;refine ab ?_;obtain ⟨g0,k,h⟩:=aa h;refine gU (oR (wh k)) (km d6 J) ?_;refine ab ?_;obtain ⟨e8,c0,h⟩:=aa h;refine vo 4 55 e8 ?_ ?_
  ·clear h;refine wG 51 J (fun e0=> ?_) (fun e0=> ?_)
   ·have h:=pY e0 c0;refine ab ?_;obtain ⟨g1,k,h⟩:=aa h;refine gU (oR (iB k)) (ew e0 J) ?_;exact gY
   have h:=pZ e0 c0;exact gY
  exact gY
 refine dU h ?_ ?_<;>intro h
 ·exact eY
 refine sY ?_;obtain ⟨g2,k,h⟩:=aa h;refine BJ (oR (iB k)) ?_;obtain ⟨e9,d0,h⟩:=aa h;refine vo 5 65 e9 ?_ ?_
 ·clear h;refine wG 60 J (fun e1=> ?_) (fun e1=> ?_)
  ·have h:=pY e1 d0;refine ab ?_;refine ie (GW (x:=a0.Value) (y:=(⟨0,0,⟨#[]⟩⟩:Vp)) J J) J (ew e1 J) J ?_;exact gY
  have h:=pZ e1 d0;exact gY
 refine ab ?_;refine gS 5 71 66 h ?_;intro g3 h;refine ab ?_;refine gS 5 77 72 h ?_;intro g4 h;refine dU h ?_ ?_<;>intro h
 ·exact eY
 refine ab ?_;refine dY [0,1,2] ?_;obtain ⟨g6,k,h⟩:=aa h;refine zD 3 J (oR (iB k)) ?_;rintro _ _ ⟨_,⟨rfl,rfl⟩,rfl⟩;refine ⟨_,ah _,ah _,?_⟩;obtain ⟨g8,k,h⟩:=aa h;refine zD 4 J (oR (Dj k)) ?_;rintro _ _ ⟨_,⟨rfl,rfl⟩,rfl⟩;refine ⟨_,ah _,ah _,?_⟩;refine zY [5] ?_;obtain ⟨f1,d1,h⟩:=aa h;refine Pf (fun l=>((((((l.setIfInBounds 6 true).setIfInBounds 7 true).setIfInBounds 8 true).setIfInBounds 9 true).setIfInBounds 10 true).setIfInBounds 11 true)) 1 89 f1 (fun rest=> ?_) ?_
 ·clear h;refine Q2 83 J (fun a6=> ?_) (fun a6=> ?_)
  ·have h:=pY a6 d1;refine wR 6 J I (jS J Lz) (ew a6 J) J ?_;refine vV 7 J I (ja (us:=ed a0.XM) 0 J J agg29.out J) (ew a6 J) J ?_;refine vV 8 J I (ja (us:=uc a0) 0 J J agg36.out J) (ew a6 J) J ?_;obtain ⟨g9,k,h⟩:=aa h;refine C7 9 J I (oR (iB k)) J (ew a6 J) J ?_;rintro _ _ ⟨_,⟨rfl,rfl⟩,rfl⟩;refine ⟨_,ah _,ah _,?_⟩;obtain ⟨h0,k,h⟩:=aa h;refine C7 10 J I (oR (Dj k)) J (ew a6 J) J ?_;rintro _ _ ⟨_,⟨rfl,rfl⟩,rfl⟩;refine ⟨_,ah _,ah _,?_⟩;refine zE 11 J (AC a6 J J) ?_;obtain rfl:=jg h;exact Iq rest (xr J (ck (ck (ck (ck (ck (ck dq J) J) J) J) J) J)) (ah _) (ah _)
  have h:=pZ a6 d1;refine Hh 6 J I (KJ a6 J) J ?_;refine Hh 7 J I (KJ a6 J) J ?_;refine Hh 8 J I (KJ a6 J) J ?_;refine Hh 9 J I (KJ a6 J) J ?_;refine Hh 10 J I (KJ a6 J) J ?_;refine zE 11 J (wz a6 J J) ?_;obtain rfl:=jg h;exact Iq rest (xr J (ck (ck (ck (ck (ck (ck dq J) J) J) J) J) J)) (ah _) (ah _)
 refine zX [12] ?_;exact eY
def jv (N:Nat)(a1:Int)(a0:Vp)(p3:Bool):Option Bool:=
 bif p3 then ((bif decide (a0.N=0) then (some (a0.S.toList==(⟨#[]⟩:ByteArray).toList)) else (some false)).bind fun b7=>some b7) else (bif decide (a0.Xw=3) then ((bif a0.S.toList==(⟨#[]⟩:ByteArray).toList then (some (decide ((-9007199254740992)<=a0.N))) else (some false)).bind fun b9=>(bif b9 then (some (decide (a0.N<=9007199254740992))) else (some false)).bind fun a6=>some a6) else (bif decide (a0.Xw=5) then ((bif decide (a0.N=0) then (some (decide ((a0.S.size:Int)<=65536))) else (some false)).bind fun b12=>some b12) else (bif decide (a0.Xw=7) then ((bif a0.S.toList==(⟨#[]⟩:ByteArray).toList then (some (decide (0<=a0.N))) else (some false)).bind fun a8=>(bif a8 then (some (decide (a0.N<a1))) else (some false)).bind fun b0=>some b0) else (some false))))
def mQ (a0:Vp)(a1:Int):Option Bool:=
 bif decide (a0.Xw=0) then (jv N a1 a0 (decide (a0.Xw=0))) else (bif decide (a0.Xw=1) then (jv N a1 a0 (decide (a0.Xw=1))) else (jv N a1 a0 (decide (a0.Xw=4))))
theorem sF {N:Nat}{a0:Vp}{r:Bool}(h:mQ N a0 a1=some r):Okc VK 27 [(aX a0),iV a1] ([]) (fun u post=>u=.bool r/\post=[]):=by
 refine bX Tryz.func27 ?_;intro B1;refine sY ?_;refine ak (fun s L=> ∃p3,jv N a1 a0 p3=some r/\s=[(1,iV a1),(2,pV B1 0),(4,.bool false),(6,iV a0.Xw),(7,.bool p3)]/\L=[ae B1 29 (ed a0)]) ?_ ?_
 ·refine dU h ?_ ?_<;>intro h
  ·exact jY
  refine dU h ?_ ?_<;>intro h
  ·exact jY
  exact jY
 rintro _ _ ⟨p3,h,rfl,rfl⟩;refine gH J h ?_ ?_<;>intro h
 ·refine ab ?_
  refine qi 4 18 14 h (fun _ g7 h=> ?_) fun b7 h=> ?_
  ·refine ab ?_;refine ie (rG J J) J (ew g7 J) J ?_;exact gY
  exact eY
 refine dU h ?_ ?_<;>intro h
 ·refine ab ?_;refine dK (rG J J) ?_;refine gS 4 28 24 h ?_;intro b9 h;refine ab ?_;refine gS 4 33 29 h ?_;intro a8 h;exact eY
 refine dU h ?_ ?_<;>intro h
 ·refine ab ?_
  refine qi 5 44 39 h (fun _ a6 h=> ?_) fun b12 h=> ?_
  ·refine ab ?_;refine ie (sO J U0) J (ew a6 J) J ?_;exact gY
  exact eY
 refine dU h ?_ ?_<;>intro h
 ·refine ab ?_;refine dK (rG J J) ?_;refine gS 4 54 50 h ?_;intro b0 h;refine ab ?_;refine gS 5 60 55 h ?_;intro b5 h;exact eY
 exact eY
end
section
variable {A1 A2 A3 A4 A5 A6 A7 A8 A9:Option Addr}{B1 B2 B3 B6 M2 M7 c1 c2 c3 c4 c5 c6 c7 c8 c9 n1 n2 n3 n4 n5 n6 n7 n8 n9:Nat}
open Go.RowKit Asn
set_option maxRecDepth 20000
def Ac (N:Nat):Option Int:=
 some 1
def wa (N:Nat)(a1:Int)(a0:List Vr):Nat->Int->Int->Option Int
 |0,_,_=>none
 |m4+1,p5,p6=>bif decide (p6<(a0.length:Int)) then ((ao a0 p6).bind fun x8=>aD (in64 ((x8.K.S.size:Int)+(x8.V.S.size:Int))) (aD (in64 (((x8.K.S.size:Int)+(x8.V.S.size:Int))+(x8.D.Value.S.size:Int))) (aD (in64 (p5+(((x8.K.S.size:Int)+(x8.V.S.size:Int))+(x8.D.Value.S.size:Int)))) (bif decide (70000<p5+(((x8.K.S.size:Int)+(x8.V.S.size:Int))+(x8.D.Value.S.size:Int))) then (some 0) else ((bif decide (x8.O<0) then (some true) else (some (decide (a1<=x8.O)))).bind fun a6=>(bif a6 then (some true) else (some (decide (x8.P<(-1))))).bind fun a8=>(bif a8 then (some true) else (some (decide (a1<=x8.P)))).bind fun b16=>(bif b16 then (some true) else ((uF N x8.D).bind fun b0=>some (!b0))).bind fun b5=>(bif b5 then (some true) else ((mQ N x8.V a1).bind fun b6=>some (!b6))).bind fun b7=>(bif b7 then (some true) else ((mQ N x8.D.Value a1).bind fun b9=>some (!b9))).bind fun c0=>(bif c0 then (some true) else ((mQ N x8.D.XL a1).bind fun d0=>some (!d0))).bind fun d1=>(bif d1 then (some true) else ((mQ N x8.D.XM a1).bind fun d2=>some (!d2))).bind fun d3=>bif d3 then (some 0) else (aD (in64 (p6+1)) ((wa N a1 a0 m4) (p5+(((x8.K.S.size:Int)+(x8.V.S.size:Int))+(x8.D.Value.S.size:Int))) (p6+1)))))))) else (Ac N)
def yG (a0:List Vr)(a1:Int):Option Int:=
 bif decide (40<(a0.length:Int)) then (some 0) else (wa N a1 a0 N 0 0)
theorem JX {N:Nat}{a0:List Vr}{r:Int}(h:yG N a0 a1=some r):Okc VK 7 [W A1 n1 c1,iV a1] ([iI DL (W A1 n1 c1) a0]) (fun u post=>u=iV r/\post=[]):=by
 refine bX Tryz.func7 ?_;refine sZ ?_;refine gH J h ?_ ?_<;>intro h
 ·exact eY
 refine ab ?_;refine ak (fun s L=>Ac N=some r/\s=[(4,iV 0)]/\L=[]) ?_ ?_
 ·refine ab ?_;refine lK (fun m s L=> ∃(p5:Int) (p6:Int),wa N a1 a0 m p5 p6=some r/\s=[(0,W A1 n1 c1),(1,iV a1),(4,iV 0),(5,iV p5),(6,iV p6)]/\L=[iI DL (W A1 n1 c1) a0]) N ?_;rintro m4 _ _ ⟨p5,p6,h,rfl,rfl⟩;rw [wa.eq_2] at h;refine sZ ?_;refine gH J h ?_ ?_<;>intro h
  ·refine sY ?_;obtain ⟨x8,a6,a8,b0,h⟩:=aI h
   refine dD fun B9=> ?_
   refine dK (sO J U0) ?_;refine gE (sO J U0) ?_;obtain ⟨b5,h⟩:=ac h;refine ab ?_;refine gE (sO J U0) ?_;obtain ⟨b6,h⟩:=ac h;refine ab ?_;obtain ⟨b7,h⟩:=ac h;refine sY ?_;refine gH J h ?_ ?_<;>intro h
   ·exact eY
   refine ab ?_;refine gS 5 48 43 h ?_;intro b9 h;refine ab ?_;refine gS 4 53 49 h ?_;intro c0 h;refine ab ?_;refine gS 5 59 54 h ?_;intro b16 h;refine ab ?_
   refine BK 5 65 60 h (fun _ d0 h=> ?_) fun d1 h=> ?_
   ·refine cR h (fun _ k=>HD k) fun d2 h=> ?_
    exact gY
   refine ab ?_
   refine BK 6 72 66 h (fun _ d3 h=> ?_) fun d4 h=> ?_
   ·refine cR h (fun _ k=>sF k) fun d6 h=> ?_
    exact gY
   refine ab ?_
   refine BK 7 80 73 h (fun _ e0 h=> ?_) fun e1 h=> ?_
   ·refine cR h (fun _ k=>sF k) fun e2 h=> ?_
    exact gY
   refine ab ?_
   refine BK 7 88 81 h (fun _ e3 h=> ?_) fun e4 h=> ?_
   ·refine cR h (fun _ k=>sF k) fun e5 h=> ?_
    exact gY
   refine ab ?_
   refine BK 7 96 89 h (fun _ e6 h=> ?_) fun e7 h=> ?_
   ·refine cR h (fun _ k=>sF k) fun e8 h=> ?_
    exact gY
   refine dU h ?_ ?_<;>intro h
   ·exact eY
   refine ab ?_;obtain ⟨e9,h⟩:=ac h;exact lY
  exact jY
 rintro _ _ ⟨h,rfl,rfl⟩;exact eY
def tM (N:Nat)(a0:Int)(p9:Bool):Option (Vw×Bool):=
 bif p9 then (some (([(⟨3,0,⟨#[]⟩⟩:Vp),(⟨0,0,⟨#[]⟩⟩:Vp)]:List Vp),true)) else (bif decide (a0=7) then (some (([(⟨0,0,⟨#[]⟩⟩:Vp),(⟨0,0,⟨#[]⟩⟩:Vp),(⟨3,0,⟨#[]⟩⟩:Vp),(⟨3,0,⟨#[]⟩⟩:Vp)]:List Vp),true)) else (some ([],false)))
def pE (a0:Int)(p3:Bool):Option (Vw×Bool):=
 bif p3 then (some ([],true)) else (bif decide (a0=6) then (tM N a0 (decide (a0=6))) else (tM N a0 (decide (a0=9))))
def zM (a0:Int):Option (Vw×Bool):=
 bif decide (a0=1) then (pE N a0 (decide (a0=1))) else (bif decide (a0=2) then (pE N a0 (decide (a0=2))) else (pE N a0 (decide (a0=8))))
theorem E0 {N:Nat}{a0:Int}{r:Vw×Bool}(h:zM N a0=some r):Okc VK 35 [iV a0] ([]) (fun u post=> ∃A0 n0 c0,u=.tuple #[W A0 n0 c0,.bool r.2]/\post=[aB A0 n0 c0 r.1]):=by
 refine bX Tryz.func35 ?_;intro B1;refine sY ?_;refine ak (fun s L=> ∃p3,pE N a0 p3=some r/\s=[(2,W none 0 0),(3,.bool false),(4,pV B1 0),(6,iV a0),(7,.bool p3)]/\L=[ae B1 29 [iV 3,iV 0,.string (⟨#[]⟩)]]) ?_ ?_
 ·refine dU h ?_ ?_<;>intro h
  ·exact jY
  refine dU h ?_ ?_<;>intro h
  ·exact jY
  exact jY
 rintro _ _ ⟨p3,h,rfl,rfl⟩;refine gH J h ?_ ?_<;>intro h
 ·refine ab ?_;obtain rfl:=jg h;exact Js J J J ((bq av 29 _).trans (cS [0] 2)) ⟨_,_,_,J,J⟩
 refine ak (fun s L=> ∃p9,tM N a0 p9=some r/\s=[(2,W none 0 0),(3,.bool false),(4,pV B1 0),(6,iV a0),(11,.bool p9)]/\L=[ae B1 29 [iV 3,iV 0,.string (⟨#[]⟩)]]) ?_ ?_
 ·refine dU h ?_ ?_<;>intro h
  ·exact jY
  exact jY
 rintro _ _ ⟨p9,h,rfl,rfl⟩;refine gH J h ?_ ?_<;>intro h
 ·refine ab ?_
  refine rP (aL (R:=av) (vss:=[[iV 3,iV 0,.string (⟨#[]⟩)],[iV 0,iV 0,.string (⟨#[]⟩)]]) (xs:=[(⟨3,0,⟨#[]⟩⟩:Vp),(⟨0,0,⟨#[]⟩⟩:Vp)]) J (FO _ _ _ _ _ _) J J (fun _ _ hr=> .cons J (.cons J All2.nil))) fun a6 a8 b0=> ?_
  exact eN
 refine dU h ?_ ?_<;>intro h
 ·refine ab ?_
  refine rP (aL (R:=av) (vss:=[[iV 0,iV 0,.string (⟨#[]⟩)],[iV 0,iV 0,.string (⟨#[]⟩)],[iV 3,iV 0,.string (⟨#[]⟩)],[iV 3,iV 0,.string (⟨#[]⟩)]]) (xs:=[(⟨0,0,⟨#[]⟩⟩:Vp),(⟨0,0,⟨#[]⟩⟩:Vp),(⟨3,0,⟨#[]⟩⟩:Vp),(⟨3,0,⟨#[]⟩⟩:Vp)]) J (JI _ _ _ _ _ _ _ _ _ _ _ _) J J (fun _ _ hr=> .cons J (.cons J (.cons J (.cons J All2.nil))))) fun b5 b6 b7=> ?_
  exact eN
 refine ab ?_;obtain rfl:=jg h;exact Js J J J ((bq av 29 _).trans (cS [0] 2)) ⟨_,_,_,J,J⟩
def iA (N:Nat)(a0:Vp):Option Bool:=
 (bif decide (a0.Xw=7) then (some true) else (some (decide (a0.Xw=9)))).bind fun b2=>some b2
theorem tz {N:Nat}{a0:Vp}{r:Bool}(h:iA N a0=some r):Okc VK 54 [(aX a0)] ([]) (fun u post=>u=.bool r/\post=[]):=by
 refine bX Tryz.func54 ?_;intro B1;refine ab ?_;refine gS 4 10 6 h ?_;intro b2 h;exact eY
def pB (N:Nat)(a1:Int)(p6:VF)(p7:Int):Option (VF×Int×Bool):=
 (bif decide (0<a1) then (some (decide (p7<(p6.length:Int)))) else (some false)).bind fun a6=>some (p6,p7,a6)
def oe (a0:Ve)(a1:Int):Option (VF×Int×Bool):=
 aD (in64 (a1.tdiv 2)) (bif decide (a1.tmod 2=0) then (aD (in64 (a1.tdiv 2)) (aD (in64 ((a1.tdiv 2) - 1)) (pB N a1 a0.Xz ((a1.tdiv 2) - 1)))) else (pB N a1 a0.XA (a1.tdiv 2)))
theorem xH {N:Nat}{a0:Ve}{r:VF×Int×Bool}(h:oe N a0 a1=some r):Okc VK 194 [.agg #[W A1 n1 c1,W A2 n2 c2],iV a1] ([bB A1 n1 c1 a0.XA,bB A2 n2 c2 a0.Xz]) (fun u post=> ∃A0 n0 c0,u=.tuple #[W A0 n0 c0,iV r.2.1,.bool r.2.2]/\post=[bB A0 n0 c0 r.1]):=by
 refine bX Tryz.func194 ?_;intro B3;refine ab ?_;obtain ⟨q4,h⟩:=ac h;refine dK (AB J J (by decide) q4.1 q4.2) ?_;refine ak (fun s L=> ∃p6 p7 A6 n6 c6,pB N a1 p6 p7=some r/\s=[(1,iV a1),(4,W none 0 0),(5,iV 0),(6,.bool false),(7,W A6 n6 c6),(8,iV p7)]/\L=[bB A6 n6 c6 p6]) ?_ ?_
 ·refine ab ?_;refine dK (oX J J (by decide)) ?_;refine gH J h ?_ ?_<;>intro h
  ·refine ab ?_;obtain ⟨q9,h⟩:=ac h;refine gE (AB J J (by decide) q9.1 q9.2) ?_;obtain ⟨a6,h⟩:=ac h;exact jY
  exact jY
 rintro _ _ ⟨p6,p7,A6,n6,c6,h,rfl,rfl⟩;refine ab ?_;refine gS 5 30 25 h ?_;intro a8 h;exact eY
def jH (a0:Ve)(a1:Int):Option Bool:=
 (oe N a0 a1).bind fun y4=>some y4.2.2
theorem lB {N:Nat}{a0:Ve}{r:Bool}(h:jH N a0 a1=some r):Okc VK 164 [.agg #[W A1 n1 c1,W A2 n2 c2],iV a1] ([bB A1 n1 c1 a0.XA,bB A2 n2 c2 a0.Xz]) (fun u post=>u=.bool r/\post=[]):=by
 refine bX Tryz.func164 ?_;intro B3
 refine Uf h (fun _ k=>xH k) fun y4 A5 n5 c5 h=> ?_
 exact eN
def js (a0:Vv)(a1:Int):Option Bool:=
 (aF N a0).bind fun y8=>(bif !y8 then ((jH N a0.m_ a1).bind fun a6=>some a6) else (some false)).bind fun b9=>some b9
theorem qB {N:Nat}{a0:Vv}{r:Bool}(h:js N a0 a1=some r):Okc VK 103 [pV B1 0,iV a1] ([aC B1 128 [W A2 n2 c2,W A3 n3 c3,W A4 n4 c4,W A5 n5 c5,pV B6 0],bB A2 n2 c2 a0.m_.XA,bB A3 n3 c3 a0.m_.Xz,aZ A4 n4 c4 a0.XJ,aZ A5 n5 c5 a0.XP,aC B6 186 [.map (some M7)],mY cj ft M7 a0.XO.at_]) (fun u post=>u=.bool r/\post=[]):=by
 refine bX Tryz.func103 ?_
 refine cR h (fun _ k=>bW k) fun y8 h=> ?_
 refine qi 7 15 8 h (fun _ g9 h=> ?_) fun b9 h=> ?_
 ·refine cR h (fun _ k=>lB k) fun a6 h=> ?_
  exact gY
 exact eY
def gQ (N:Nat)(a0:Vv)(a1:Int):Option (Int ⊕ Int):=
 bif decide (a1.tmod 2=1) then (aD (in64 (a1.tdiv 2)) ((ao a0.m_.XA (a1.tdiv 2)).bind fun a6=>some (.inl (a1.tdiv 2)))) else (aD (in64 (a1.tdiv 2)) (aD (in64 ((a1.tdiv 2) - 1)) ((ao a0.m_.Xz ((a1.tdiv 2) - 1)).bind fun a8=>some (.inr ((a1.tdiv 2) - 1)))))
theorem fS {N:Nat}{a0:Vv}{r:(Int ⊕ Int)}(h:gQ N a0 a1=some r):Okc VK 105 [pV B1 0,iV a1] ([aC B1 128 [W A2 n2 c2,W A3 n3 c3,W A4 n4 c4,W A5 n5 c5,pV B6 0],bB A2 n2 c2 a0.m_.XA,bB A3 n3 c3 a0.m_.Xz,aZ A4 n4 c4 a0.XJ,aZ A5 n5 c5 a0.XP,aC B6 186 [.map (some M7)],mY cj ft M7 a0.XO.at_]) (fun u post=>Px (fun (r:Int)=>u=dk (W A2 n2 c2) r.toNat 6 0/\post=[]) (fun (r:Int)=>u=dk (W A3 n3 c3) r.toNat 6 0/\post=[]) r):=by
 refine bX Tryz.func105 ?_;refine sZ ?_;refine dK (oX J J (by decide)) ?_;refine gH J h ?_ ?_<;>intro h
 ·refine ab ?_;obtain ⟨q9,h⟩:=ac h;refine gE (AB J J (by decide) q9.1 q9.2) ?_;obtain ⟨c0,a8,b0,b5,h⟩:=aI h;exact eY
 refine ab ?_;obtain ⟨a6,h⟩:=ac h;refine gE (AB J J (by decide) a6.1 a6.2) ?_;obtain ⟨d0,h⟩:=ac h;refine ab ?_;obtain ⟨d1,b6,b7,b9,h⟩:=aI h;exact eY
def nm (a0:Vv)(a1:Int):Option (Vd×Bool):=
 (js N a0 a1).bind fun y9=>bif !y9 then (some ((⟨0,0,0,0,[],[]⟩:Vd),false)) else ((gQ N a0 a1).bind fun a6=>yL a6 (fun y13_0=>(ao a0.m_.XA y13_0).bind fun a8=>(dx N a8).bind fun b0=>some (b0,true)) (fun y13_1=>(ao a0.m_.Xz y13_1).bind fun b5=>(dx N b5).bind fun b6=>some (b6,true)))
theorem DP {N:Nat}{a0:Vv}{r:Vd×Bool}(h:nm N a0 a1=some r):Okc VK 55 [pV B1 0,iV a1] ([aC B1 128 [W A2 n2 c2,W A3 n3 c3,W A4 n4 c4,W A5 n5 c5,pV B6 0],bB A2 n2 c2 a0.m_.XA,bB A3 n3 c3 a0.m_.Xz,aZ A4 n4 c4 a0.XJ,aZ A5 n5 c5 a0.XP,aC B6 186 [.map (some M7)],mY cj ft M7 a0.XO.at_]) (fun u post=> ∃A0 n0 c0 A1 n1 c1,u=.tuple #[.agg #[iV r.1.Xw,iV r.1.XD,iV r.1.XB,iV r.1.XC,W A0 n0 c0,W A1 n1 c1],.bool r.2]/\post=[aB A0 n0 c0 r.1.Xy,aB A1 n1 c1 r.1.Xx]):=by
 refine bX Tryz.func55 ?_;intro B8;refine sY ?_
 refine cR h (fun _ k=>qB k) fun y9 h=> ?_
 refine gH J h ?_ ?_<;>intro h
 ·refine ab ?_;obtain rfl:=jg h;exact ul (rs:=[.cell 4 45,.tmp 5]) (vs:=[.agg #[iV 0,iV 0,iV 0,iV 0,W none 0 0,W none 0 0],.bool false]) J (.cons (lz 0 J J agg45.out) (.cons (qq J) .nil)) J ((bq av 29 _).trans ((bq av 29 _).trans (cS [1,0] 10))) ⟨_,_,_,_,_,_,J,J⟩
 refine ab ?_;obtain ⟨d2,a6,h⟩:=aa h;rcases d2 with y13_0|y13_1
 ·replace h:=Cq h;refine gD (oR (fS a6)) ?_;rintro _ _ ⟨_,⟨rfl,rfl⟩,rfl⟩;obtain ⟨d0,a8,b0,b5,h⟩:=aI h;refine gR (mx 2 J bU J (toNat_lt a8 b0)) ?_;refine Ch 2 J b5 (ke d0) ?_;rintro _ _ ⟨d3,d4,d6,e0,e1,e2,rfl,rfl⟩;refine gR (sI (us:=(ga d0 d3 d4 d6 e0 e1 e2)) 0 J J agg45.out J) ?_
  refine Nn h (fun _ k=>f0 k) fun e9 f1 f2 f3 f4 f9 g0 h=> ?_
  exact eN
 replace h:=Cp h;refine gD (oR (fS a6)) ?_;rintro _ _ ⟨_,⟨rfl,rfl⟩,rfl⟩;obtain ⟨d1,b6,b7,b9,h⟩:=aI h;refine gR (mx 3 J bU J (toNat_lt b6 b7)) ?_;refine Ch 3 J b9 (ke d1) ?_;rintro _ _ ⟨e3,e4,e5,e6,e7,e8,rfl,rfl⟩;refine gR (sI (us:=(ga d1 e3 e4 e5 e6 e7 e8)) 0 J J agg45.out J) ?_
 refine Nn h (fun _ k=>f0 k) fun g1 g2 g3 g4 g5 g6 g7 h=> ?_
 exact eN
theorem uM {N:Nat}{a0:Vv}{r:Vd×Bool}(h:nm N a0 a1=some r):Okc VK 55 [pV B1 0,iV a1] ([pDHeap B1 a0]) (fun u post=> ∃A0 n0 c0 A1 n1 c1,u=.tuple #[.agg #[iV r.1.Xw,iV r.1.XD,iV r.1.XB,iV r.1.XC,W A0 n0 c0,W A1 n1 c1],.bool r.2]/\post=[aB A0 n0 c0 r.1.Xy,aB A1 n1 c1 r.1.Xx]):=NZ 0 rfl (fun _=>DP h)
def rt (N:Nat)(a6 a8 b0 b5:Int)(b6 b7:Vw):Option Vd:=
 some (⟨a6,a8,b0,b5,b6,b7⟩:Vd)
def aE (a0:Vj)(a1:Vp):Option Vd:=
 (iA N a1).bind fun y9=>bif !y9 then (some (⟨0,0,0,0,[],[]⟩:Vd)) else ((nm N a0.XF a1.N).bind fun a6=>rt N a6.1.Xw a6.1.XD a6.1.XB a6.1.XC a6.1.Xy a6.1.Xx)
theorem ik {N:Nat}{a1:Vp}{r:Vd}(h:aE N a0 a1=some r):Okc VK 17 [pV B1 0,(aX a1)] ([aC B1 85 (ub a0 B2 B3 A4 n4 c4 A5 n5 c5 A6 n6 c6),pDHeap B2 a0.XF,pDTable B3 a0.XH,iI uy (W A4 n4 c4) a0.XS,iI oz (W A5 n5 c5) a0.XT,iI uy (W A6 n6 c6) a0.XU]) (fun u post=> ∃A0 n0 c0 A1 n1 c1,u=.agg #[iV r.Xw,iV r.XD,iV r.XB,iV r.XC,W A0 n0 c0,W A1 n1 c1]/\post=[aB A0 n0 c0 r.Xy,aB A1 n1 c1 r.Xx]):=by
 refine bX Tryz.func17 ?_;intro B7
 refine dD fun B8=> ?_
 refine sZ ?_;refine dK (dz J U1) ?_
 refine cR h (fun _ k=>tz k) fun y9 h=> ?_
 refine gH J h ?_ ?_<;>intro h
 ·refine ab ?_;obtain rfl:=jg h;exact ul (rs:=[.cell 4 45]) (vs:=[.agg #[iV 0,iV 0,iV 0,iV 0,W none 0 0,W none 0 0]]) J (.cons (lz 0 J J agg45.out) .nil) J ((bq av 29 _).trans ((bq av 29 _).trans (cS [1,0] 10))) ⟨_,_,_,_,_,_,J,J⟩
 refine ab ?_;refine ak (fun s L=> ∃b5 b6 b7 b9 d0 d1 d2 d3 d4 d6 e0 e1 e2,rt N b5 b6 b7 b9 d0 d1=some r/\s=[(4,pV B8 0),(5,pV d2 0)]/\L=[aB d3 d4 d6 d0,aB e0 e1 e2 d1,ae d2 45 [iV b5,iV b6,iV b7,iV b9,W d3 d4 d6,W e0 e1 e2],ae B8 45 [iV 0,iV 0,iV 0,iV 0,W none 0 0,W none 0 0]]) ?_ ?_
 ·refine bi I _ (ah _) ?_;refine zY [0,1,2,3,4,5] ?_;refine o7 6 10 I ?_ ?_
  ·obtain ⟨e3,k,h⟩:=aa h;refine bJ J (oR (uM k)) J J J ?_;rintro _ _ ⟨_,⟨e4,e5,e6,a6,a8,b0,rfl,rfl⟩,rfl⟩;refine aW ?_;refine zY [7,8,9] ?_
   refine Gj 10 J (cF zero45.out J) fun f2=> ?_
   refine zO 11 J (ar (us:=(ga e3.1 e4 e5 e6 a6 a8 b0)) (cs':=(ga e3.1 e4 e5 e6 a6 a8 b0)) 0 J J J J size45.out J J J) ?_;rintro _ _ rfl;refine aW ?_;refine zX [12] ?_;exact jY
  refine bJ J (cF zero45.out J) J J J ?_;rintro _ _ ⟨f3,rfl,rfl⟩;refine aW ?_;obtain ⟨e7,k,h⟩:=aa h
  refine Um 6 J (oR (uM k)) fun a6 a8 b0 e8 e9 f1=> ?_
  refine zY [7,8,9] ?_;refine zO 11 J (ar (us:=(ga e7.1 a6 a8 b0 e8 e9 f1)) (cs':=(ga e7.1 a6 a8 b0 e8 e9 f1)) 2 J J J J size45.out J J J) ?_;rintro _ _ rfl;refine aW ?_;refine zX [12] ?_;exact jY
 refine fun s L=>ai fun b5=>ai fun b6=>ai fun b7=>ai fun b9=>ai fun d0=>ai fun d1=>ai fun d2=>ai fun d3=>ai fun d4=>ai fun d6=>ai fun e0=>ai fun e1=>ai fun e2=>xi fun h=> ?_
 exact eY
theorem xf {r:Vd}: ∀v post,((fun (u:Value) (post:VI)=> ∃A0 n0 c0 A1 n1 c1,u=.agg #[iV r.Xw,iV r.XD,iV r.XB,iV r.XC,W A0 n0 c0,W A1 n1 c1]/\post=[aB A0 n0 c0 r.Xy,aB A1 n1 c1 r.Xx])) v post-> ∀c∈post,mN c:=by
 rintro _ _ ⟨_,_,_,_,_,_,rfl,rfl⟩;exact t0 rD (t0 rD (aQ))
theorem fE {N:Nat}{a1:Vp}{r:Vd}(h:aE N a0 a1=some r){B1 B2 B3:Nat}:Okc VK 17 [pV B1 0,(aX a1)] ([pDWorld B1 B2 B3 a0]) (fun u post=> ∃A0 n0 c0 A1 n1 c1,u=.agg #[iV r.Xw,iV r.XD,iV r.XB,iV r.XC,W A0 n0 c0,W A1 n1 c1]/\post=[aB A0 n0 c0 r.Xy,aB A1 n1 c1 r.Xx]):=NZ 0 rfl (fun _=>ik h)
theorem vD {r:Vd}: ∀v post,((fun (u:Value) (post:VI)=> ∃A0 n0 c0 A1 n1 c1,u=.agg #[iV r.Xw,iV r.XD,iV r.XB,iV r.XC,W A0 n0 c0,W A1 n1 c1]/\post=[aB A0 n0 c0 r.Xy,aB A1 n1 c1 r.Xx])) v post-> ∀c∈post,mN c:=xf
def cD (a0:Vj)(a1:Vp):Option (Unit ⊕ Vo):=
 bif !decide (a1.Xw=7) then (some (.inl ())) else ((aE N a0 a1).bind fun y6=>(bif decide ((y6.Xy.length:Int)=0) then (some true) else ((ao y6.Xy 0).bind fun a6=>(bif !decide (a6.Xw=1) then ((ao y6.Xy 0).bind fun a8=>some (!decide (a8.Xw=7))) else (some false)).bind fun b12=>some b12)).bind fun b0=>bif b0 then (some (.inl ())) else (some (.inr (⟨y6,a0,a1⟩:Vo))))
theorem aM {N:Nat}{a1:Vp}{r:(Unit ⊕ Vo)}(h:cD N a0 a1=some r){B1 B2 B3:Nat}:Okc VK 48 [pV B1 0,(aX a1)] ([pDWorld B1 B2 B3 a0]) (fun u post=>Px (fun (r:Unit)=>u=.tuple #[.pointer none,.bool false]/\post=[]) (fun (r:Vo)=> ∃B0 A1 n1 c1 A2 n2 c2,u=.tuple #[pV B0 0,.bool true]/\post=[ae B0 103 [iV r.XG.Xw,iV r.XG.XD,iV r.XG.XB,iV r.XG.XC,W A1 n1 c1,W A2 n2 c2,pV B1 0,iV r.at_.Xw,iV r.at_.N,.string r.at_.S],aB A1 n1 c1 r.XG.Xy,aB A2 n2 c2 r.XG.Xx]) r):=by
 refine F6 Tryz.func48 J J ?_;simp only [uj];refine Y ?_
 refine gB (CH J J) fun B4=> ?_
 refine Y ?_;refine au ?_;refine Y ?_;refine gE (dz J U1) ?_;refine Y ?_;refine gH J h ?_ ?_<;>intro h
 ·refine Y ?_;obtain rfl:=jg h;exact Js J J J (cS [] 2) ⟨J,J⟩
 refine Y ?_;refine au ?_;refine bi I _ (ah _) ?_;refine yY [0,1,3,4] ?_;obtain ⟨y6,k,h⟩:=aa h;refine zD 2 J (kR (fE k) J (t0 (jQ (i:=1) J J) aQ) vD) ?_;rintro _ _ ⟨_,⟨A7,n7,c7,A8,n8,c8,rfl,rfl⟩,rfl⟩;refine J8 (cS [2,3] 4) ?_;refine zE 5 J (ns J (bld_103_0_1_2 _ _ _ _ _ _ _ _ _ _ _ _ _ _).out) ?_;refine zD 6 J (CH J J) ?_;rintro _ _ ⟨B9,rfl,rfl⟩;refine J8 (cS [3,4] 5) ?_;refine zE 7 J (mf J) ?_;refine dB I ?_;refine An ?_;refine au ?_;refine Y ?_;refine gR (rX 1 J aj J t9) ?_;refine Y ?_
 refine Lu 21 49 28 h (fun _ b9 h=> ?_) (fun _ b9 h=> ?_) fun d2 h=> ?_
 ·refine Y ?_;obtain rfl:=jg h;exact ld sA (cS [0,1,2,3,4] 5)
 ·refine Y ?_;obtain ⟨d0,a6,h⟩:=aa h;obtain ⟨b0,b5,a6⟩:=CV a6;refine sj (cK 1 J aj J J t9 size29.out b0 b5) J (km b9 J) J ?_;refine sj (rY 1 J aj J (toNat_lt b0 b5) uP) J (km b9 J) J ?_;refine sj (kN (u:=iV d0.Xw) 1 J aj J a6 xP (fun _ _ _ h=>by rw [show _=_ from h];rfl)) J (km b9 J) J ?_;refine Y ?_
  refine Lu 10 48 38 h (fun _ c0 h=> ?_) (fun _ c0 h=> ?_) fun b12 h=> ?_
  ·refine Y ?_;obtain ⟨d1,a8,h⟩:=aa h;obtain ⟨b6,b7,a8⟩:=CV a8;refine sj (cK 1 J aj J J t9 size29.out b6 b7) J (ew c0 J) J ?_;refine sj (rY 1 J aj J (toNat_lt b6 b7) uP) J (ew c0 J) J ?_;refine sj (kN (u:=iV d1.Xw) 1 J aj J a8 xP (fun _ _ _ h=>by rw [show _=_ from h];rfl)) J (ew c0 J) J ?_;refine Y ?_;obtain rfl:=jg h;exact ld sA (cS [0,1,2,3,4] 5)
  ·refine Y ?_;obtain rfl:=jg h;exact ld sA (cS [0,1,2,3,4] 5)
  refine Y ?_;obtain rfl:=jg h;exact ld sA (cS [0,1,2,3,4] 5)
 refine Y ?_;refine gH J h ?_ ?_<;>intro h
 ·refine Y ?_;obtain rfl:=jg h;exact Js J J J (cS [] 5) ⟨J,J⟩
 refine Y ?_;obtain rfl:=jg h;exact Js J J J (cS [0,1,2] 5) ⟨_,_,_,_,_,_,_,J,J⟩
def wk (a0:Vj)(a1:Vp):Option Bool:=
 bif decide (a1.Xw=1) then (some true) else ((cD N a0 a1).bind fun y6=>yL y6 (fun y6_0=>some false) (fun y6_1=>some true))
theorem zN {N:Nat}{a1:Vp}{r:Bool}(h:wk N a0 a1=some r){B1 B2 B3:Nat}:Okc VK 36 [pV B1 0,(aX a1)] ([pDWorld B1 B2 B3 a0]) (fun u post=>u=.bool r/\post=[]):=by
 refine bX Tryz.func36 ?_;intro B4;refine sY ?_;refine gH J h ?_ ?_<;>intro h
 ·refine ab ?_;refine dK (td J U1) ?_;exact eN
 refine ab ?_;obtain ⟨y6,a6,h⟩:=aa h;rcases y6 with y6_0|y6_1
 ·replace h:=Cq h;refine gD (oR (aM a6)) ?_;rintro _ _ ⟨_,⟨rfl,rfl⟩,rfl⟩;exact eY
 replace h:=Cp h;refine gD (oR (aM a6)) ?_;rintro _ _ ⟨_,⟨B7,A8,n8,c8,A9,n9,c9,rfl,rfl⟩,rfl⟩;exact eY
def oT (a0:Vj)(a1:Vd):Option (Vp×Bool×Vj):=
 bif decide (a0.XK.Yj<=a0.XQ.Yf) then (some ((⟨0,0,⟨#[]⟩⟩:Vp),false,a0)) else ((iM N a0.XF a1).bind fun a6=>bif !decide (a6.2.1=0) then (some ((⟨0,0,⟨#[]⟩⟩:Vp),false,(⟨a0.XQ,a0.XK,(),a6.2.2,a0.XH,a0.XS,a0.XR,a0.XY,a0.XZ,a0.XT,a0.XU⟩:Vj))) else (aD (in64 (a0.XQ.Yf+1)) (some ((⟨7,a6.1,⟨#[]⟩⟩:Vp),true,(⟨(⟨a0.XQ.Yd,a0.XQ.Yf+1,a0.XQ.Yh⟩:Vg),a0.XK,(),a6.2.2,a0.XH,a0.XS,a0.XR,a0.XY,a0.XZ,a0.XT,a0.XU⟩:Vj)))))
theorem zv {N:Nat}{a1:Vd}{r:Vp×Bool×Vj}(h:oT N a0 a1=some r):Okc VK 37 [pV B1 0,.agg #[iV a1.Xw,iV a1.XD,iV a1.XB,iV a1.XC,W A7 n7 c7,W A8 n8 c8]] ([aZ A7 n7 c7 a1.Xy,aZ A8 n8 c8 a1.Xx,ae B1 85 (ub a0 B2 B3 A4 n4 c4 A5 n5 c5 A6 n6 c6),oDHeap B2 a0.XF,oDTable B3 a0.XH,ir A4 n4 c4 a0.XS,sy A5 n5 c5 a0.XT,ir A6 n6 c6 a0.XU]) (fun u post=> ∃A0 n0 c0 A1 n1 c1 A2 n2 c2,u=.tuple #[.agg #[iV r.1.Xw,iV r.1.N,.string r.1.S],.bool r.2.1]/\post=[ae B1 85 (ub r.2.2 B2 B3 A0 n0 c0 A1 n1 c1 A2 n2 c2),oDHeap B2 r.2.2.XF,oDTable B3 r.2.2.XH,ir A0 n0 c0 r.2.2.XS,sy A1 n1 c1 r.2.2.XT,ir A2 n2 c2 r.2.2.XU]):=by
 refine bX Tryz.func37 ?_;intro B9
 refine dD fun a6=> ?_
 refine au ?_;refine dY [] ?_;refine ab ?_;refine zE 1 J (dz J U1) ?_;refine dU h ?_ ?_<;>intro h
 ·exact eY
 refine ab ?_;refine au ?_;refine bi I ([ae a6 29 [iV 0,iV 0,.string (⟨#[]⟩)],ae B9 45 (ga a1 A7 n7 c7 A8 n8 c8),aZ A7 n7 c7 a1.Xy,aZ A8 n8 c8 a1.Xx,ae B1 85 (ub a0 B2 B3 A4 n4 c4 A5 n5 c5 A6 n6 c6),oDTable B3 a0.XH,ir A4 n4 c4 a0.XS,sy A5 n5 c5 a0.XT,ir A6 n6 c6 a0.XU]) (cS [0,1,2,3,4,6,7,8,9] 10) ?_;refine ab ?_;obtain ⟨a8,k,h⟩:=aa h;refine zD 5 J (oC (nU k)) ?_;rintro _ _ ⟨_,⟨rfl,rfl⟩,rfl⟩;refine aW ?_;refine sY ?_;refine gH J h ?_ ?_<;>intro h
 ·exact eY
 refine ab ?_;obtain ⟨b0,h⟩:=ac h;exact eY
theorem xd {N:Nat}{a1:Vd}{r:Vp×Bool×Vj}(h:oT N a0 a1=some r){B1 B2 B3:Nat}:Okc VK 37 [pV B1 0,.agg #[iV a1.Xw,iV a1.XD,iV a1.XB,iV a1.XC,W A4 n4 c4,W A5 n5 c5]] ([aZ A4 n4 c4 a1.Xy,aZ A5 n5 c5 a1.Xx,oDWorld B1 B2 B3 a0]) (fun u post=>u=.tuple #[.agg #[iV r.1.Xw,iV r.1.N,.string r.1.S],.bool r.2.1]/\post=[oDWorld B1 B2 B3 r.2.2]):=IV 2 rfl (fun _=>zv h)
def sH (N:Nat)(a0:Int):Option Bool:=
 (bif decide (0<a0) then (some (decide (a0.tmod 2=0))) else (some false)).bind fun b1=>some b1
theorem FZ {N:Nat}{a0:Int}{r:Bool}(h:sH N a0=some r):Okc VK 122 [iV a0] ([]) (fun u post=>u=.bool r/\post=[]):=by
 refine bX Tryz.func122 ?_
 refine qi 4 9 5 h (fun _ g1 h=> ?_) fun b1 h=> ?_
 ·refine ab ?_;refine ie (oX J J (by decide)) J (ew g1 J) J ?_;exact gY
 exact eY
def nI (N:Nat)(a0:Vp):Option Bool:=
 (bif decide (a0.Xw=7) then (some true) else (some (decide (a0.Xw=9)))).bind fun b2=>some b2
theorem vj {N:Nat}{a0:Vp}{r:Bool}(h:nI N a0=some r):Okc VK 209 [(aX a0)] ([]) (fun u post=>u=.bool r/\post=[]):=by
 refine bX Tryz.func209 ?_;intro B1;refine ab ?_;refine gS 4 10 6 h ?_;intro b2 h;exact eY
def eZ (a1:Bool)(x8:Bool×Vp):(Vx)->Option (Option Exit×Vx)
 |p9=>(bif x8.1==a1 then ((nI N x8.2).bind fun a6=>some a6) else (some false)).bind fun a8=>bif a8 then (aD (bY (p9.length+([x8.2.N]:List Int).length)) (some (none,p9++([x8.2.N]:List Int)))) else (some (none,p9))
def la (a0:Vd)(a1:Bool):Option Vx:=
 (uo N a0).bind fun y6=>(ou N a0 (cO (fun x st=>eZ N a1 x st)) (none,[])).bind fun a6=>sE a6.1 (some a6.2) none (fun _=>none)
theorem uR {N:Nat}{a0:Vd}{a1:Bool}{r:Vx}(h:la N a0 a1=some r):Okc VK 170 [.agg #[iV a0.Xw,iV a0.XD,iV a0.XB,iV a0.XC,W A1 n1 c1,W A2 n2 c2],.bool a1] ([aZ A1 n1 c1 a0.Xy,aZ A2 n2 c2 a0.Xx]) (fun u post=> ∃A0 n0 c0,u=W A0 n0 c0/\post=[fm A0 n0 c0 r]):=by
 refine bX Tryz.func170 ?_;intro B3
 refine dD fun B4=> ?_
 intro B5;refine sY ?_;obtain ⟨y6,k,h⟩:=aa h;refine gD (oR (DA k)) ?_;rintro _ _ ⟨_,⟨B7,rfl,rfl⟩,rfl⟩;refine ab ?_;refine gK ?_ dq (jt 0 J);obtain ⟨a6,k,h⟩:=aa h;refine vW (en:=(fun x=> [.bool x.1,.agg #[iV x.2.Xw,iV x.2.N,.string x.2.S]])) (fun x st=>eZ N a1 x st) (fun (st:Vx) (mz:((Option Addr×Nat×Nat)))=> [ae B4 4 [.bool a1],bh (jI .i64) 3 (.slice mz.1 mz.2.1 mz.2.2) st,ae B5 99 [.slice mz.1 mz.2.1 mz.2.2]]) [aC B7 45 (ga a0 A1 n1 c1 A2 n2 c2),aZ A1 n1 c1 a0.Xy,aZ A2 n2 c2 a0.Xx] ([]) ((none,0,0)) J J call218.out J (fun _=>J) (fun l G hY=>(yw k hY).mono fun _ _ hh=>hh.2) ((bq (jI .i64) 3 _).trans (dA [1,5,6] [] [3,0,2] 7 J)) h ?_ ?_ ?_ ?_
 ·rintro l x8 p9 je sr8 ⟨A9,n9,c9⟩ h;replace h:eZ N a1 x8 p9=some (je,sr8):=h;simp only [BY,WW,WX,WY,WQ,WR,Xu,V2]
  refine dD fun b7=> ?_
  refine dK (OL J J U2) ?_
  refine qi 3 18 15 h (fun _ b9 h=> ?_) fun d0 h=> ?_
  ·refine cR h (fun _ k=>vj k) fun d1 h=> ?_
   exact gY
  refine dU h ?_ ?_<;>intro h
  ·refine ab ?_;refine gD (aL (R:=(jI .i64)) (vss:=[[iV x8.2.N]]) (xs:=[x8.2.N]) J (nv _) J J (fun _ _ hr=> .cons J All2.nil)) ?_;rintro _ _ ⟨d2,d3,d4,rfl,rfl⟩;obtain ⟨a8,h⟩:=ac h
   refine rP (aP 3 0 J J aj J J UV It J J a8) fun b0 b5 b6=> ?_
   obtain ⟨rfl,rfl⟩:=Xg (Xe h);exact DS ((cS [2,3,4] 5).trans (gC (b0,b5,b6) J))
  refine ab ?_;obtain ⟨rfl,rfl⟩:=Xg (Xe h);exact DS ((cS [1,2,3] 4).trans (gC (A9,n9,c9) J))
 ·rintro ⟨A9,n9,c9⟩ h;refine rf ([ae B4 4 [.bool a1],fm A9 n9 c9 a6.2,ae B5 99 [W A9 n9 c9]]) J ?_;exact eY
 ·rintro ⟨A9,n9,c9⟩ h;exact az h
 rintro i ⟨A9,n9,c9⟩ h;exact az h
def iz (a0:Vd):Option Vx:=
 (la N a0 true).bind fun y4=>some y4
theorem mh {N:Nat}{a0:Vd}{r:Vx}(h:iz N a0=some r):Okc VK 119 [.agg #[iV a0.Xw,iV a0.XD,iV a0.XB,iV a0.XC,W A1 n1 c1,W A2 n2 c2]] ([aZ A1 n1 c1 a0.Xy,aZ A2 n2 c2 a0.Xx]) (fun u post=> ∃A0 n0 c0,u=W A0 n0 c0/\post=[fm A0 n0 c0 r]):=by
 refine bX Tryz.func119 ?_;intro B3
 refine JS h (fun _ k=>uR k) fun y4 A5 n5 c5 h=> ?_
 exact eN
def sm (N:Nat)(ff:Int->Option Bool):Option Int:=
 some (-1)
def dG (N:Nat)(ff:Int->Option Bool)(a0:Vx):Nat->Int->Option Int
 |0,_=>none
 |m3+1,p4=>bif decide (p4<(a0.length:Int)) then ((ao a0 p4).bind fun x6=>(ff x6).bind fun y7=>bif y7 then (some p4) else (aD (in64 (p4+1)) ((dG N ff a0 m3) (p4+1)))) else (sm N ff)
def lq (a0:Vx)(ff:Int->Option Bool):Option Int:=
 dG N ff a0 N 0
theorem zn {N:Nat}{a0:Vx}{r:Int}(h:lq N a0 ff=some r)(hf:KY VK vf G (fun x=> [iV x]) (fun r=> .bool r) ff):Okc VK 168 [W A1 n1 c1,vf] (fC A1 n1 c1 a0::G) (fun u post=>u=iV r/\post=[]):=by
 refine bX Tryz.func168 ?_;refine ak (fun s L=>sm N ff=some r/\s=[(4,iV 0)]/\L=G) ?_ ?_
 ·refine ab ?_;refine lK (fun m s L=> ∃(p4:Int),dG N ff a0 m p4=some r/\s=[(0,W A1 n1 c1),(1,vf),(4,iV 0),(7,iV (a0.length:Int)),(8,iV p4)]/\L=fC A1 n1 c1 a0::G) N ?_;rintro m3 _ _ ⟨p4,h,rfl,rfl⟩;rw [dG.eq_2] at h;refine ab ?_;refine au ?_;refine gH J h ?_ ?_<;>intro h
  ·refine sY ?_;obtain ⟨x6,a6,a8,b0,h⟩:=aI h;refine ab ?_;obtain ⟨y7,k,h⟩:=aa h;refine gD (EU (a:=x6) [fC A1 n1 c1 a0] hf k J J) ?_;rintro _ _ ⟨rfl,rfl⟩;refine dU h ?_ ?_<;>intro h
   ·exact eY
   refine ab ?_;obtain ⟨q9,h⟩:=ac h;exact lY
  exact jY
 rintro _ _ ⟨h,rfl,rfl⟩;exact eY
theorem wU {r:Int}: ∀v post,((fun (u:Value) (post:VI)=>u=iV r/\post=[])) v post-> ∀c∈post,mN c:=by
 rintro _ _ ⟨rfl,rfl⟩;exact aQ
def bD (a0:Vx)(ff:Int->Option Bool):Option Bool:=
 (lq N a0 ff).bind fun y2=>some (decide (0<=y2))
theorem eM {N:Nat}{a0:Vx}{r:Bool}(h:bD N a0 ff=some r)(hf:KY VK vf G (fun x=> [iV x]) (fun r=> .bool r) ff):Okc VK 117 [W A1 n1 c1,vf] (fC A1 n1 c1 a0::G) (fun u post=>u=.bool r/\post=[]):=by
 refine bX Tryz.func117 ?_;obtain ⟨y2,k,h⟩:=aa h;refine BJ (kR (zn k hf) J (t0 (jQ (i:=0) J J) (CQ (E:=[fC A1 n1 c1 a0]) hf.1)) wU) ?_;exact eN
def mZ (N:Nat)(a0:Int):Option Bool:=
 (bif decide (0<a0) then (some (decide (a0.tmod 2=1))) else (some false)).bind fun b1=>some b1
theorem wK {N:Nat}{a0:Int}{r:Bool}(h:mZ N a0=some r):Okc VK 173 [iV a0] ([]) (fun u post=>u=.bool r/\post=[]):=by
 refine bX Tryz.func173 ?_
 refine qi 4 9 5 h (fun _ g1 h=> ?_) fun b1 h=> ?_
 ·refine ab ?_;refine ie (oX J J (by decide)) J (ew g1 J) J ?_;exact gY
 exact eY
def mg (a0:Vd):Option Vx:=
 (la N a0 false).bind fun y4=>some y4
theorem uq {N:Nat}{a0:Vd}{r:Vx}(h:mg N a0=some r):Okc VK 120 [.agg #[iV a0.Xw,iV a0.XD,iV a0.XB,iV a0.XC,W A1 n1 c1,W A2 n2 c2]] ([aZ A1 n1 c1 a0.Xy,aZ A2 n2 c2 a0.Xx]) (fun u post=> ∃A0 n0 c0,u=W A0 n0 c0/\post=[fm A0 n0 c0 r]):=by
 refine bX Tryz.func120 ?_;intro B3
 refine JS h (fun _ k=>uR k) fun y4 A5 n5 c5 h=> ?_
 exact eN
def px (a0:Vd):Option Bool:=
 (iz N a0).bind fun y4=>(bD N y4 (fun x=>mZ N x)).bind fun y6=>(bif y6 then (some true) else ((mg N a0).bind fun y8=>(bD N y8 (fun x=>mZ N x)).bind fun a6=>some a6)).bind fun b7=>some b7
theorem DK {N:Nat}{a0:Vd}{r:Bool}(h:px N a0=some r):Okc VK 124 [.agg #[iV a0.Xw,iV a0.XD,iV a0.XB,iV a0.XC,W A1 n1 c1,W A2 n2 c2]] ([aZ A1 n1 c1 a0.Xy,aZ A2 n2 c2 a0.Xx]) (fun u post=>u=.bool r/\post=[]):=by
 refine bX Tryz.func124 ?_;intro B3;refine ab ?_;obtain ⟨y4,k,h⟩:=aa h;refine gD (oR (mh k)) ?_;rintro _ _ ⟨_,⟨A5,n5,c5,rfl,rfl⟩,rfl⟩;obtain ⟨y6,k,h⟩:=aa h;refine BJ (oR (eM k ⟨aQ,173, #[], #[],J,call173.out,fun _ _ hh=>wK hh⟩)) ?_
 refine BK 4 10 6 h (fun _ g7 h=> ?_) fun b7 h=> ?_
 ·refine ab ?_;obtain ⟨y8,k,h⟩:=aa h;refine Hj (oR (uq k)) J (km g7 J) J ?_;rintro _ _ ⟨_,⟨A9,n9,c9,rfl,rfl⟩,rfl⟩;obtain ⟨a6,k,h⟩:=aa h;refine gU (oR (eM k ⟨aQ,173, #[], #[],J,call173.out,fun _ _ hh=>wK hh⟩)) (km g7 J) ?_;exact gY
 exact eY
def kz (N:Nat)(a1:Int)(a0:Vt):Option (Bool×Vt):=
 some (true,(⟨wI a0.at_ a1 true⟩:Vt))
def cB (a0:Vt)(a1:Int)(a2:Vd):Option (Bool×Vt):=
 (sH N a1).bind fun y6=>bif !y6 then (some (false,a0)) else ((px N a2).bind fun y8=>bif !y8 then (some (false,(⟨C1 a0.at_ a1⟩:Vt))) else (kz N a1 a0))
theorem iT {N:Nat}{a0:Vt}{r:Bool×Vt}(h:cB N a0 a1 a2=some r):Okc VK 188 [pV B1 0,iV a1,.agg #[iV a2.Xw,iV a2.XD,iV a2.XB,iV a2.XC,W A3 n3 c3,W A4 n4 c4]] ([aZ A3 n3 c3 a2.Xy,aZ A4 n4 c4 a2.Xx,ae B1 186 [.map (some M2)],ax cj ft M2 a0.at_]) (fun u post=> ∃M0,u=.bool r.1/\post=[ae B1 186 [.map (some M0)],ax cj ft M0 r.2.at_]):=by
 refine bX Tryz.func188 ?_;intro B5;refine sY ?_;refine dK (dz J UZ) ?_
 refine cR h (fun _ k=>FZ k) fun y6 h=> ?_
 refine gH J h ?_ ?_<;>intro h
 ·exact eY
 refine sY ?_
 refine cR h (fun _ k=>DK k) fun y8 h=> ?_
 refine gH J h ?_ ?_<;>intro h
 ·refine ab ?_;refine Gc (Mu (a:=a1) 4 J J J U3 (dX z9)) ?_;exact eN
 refine ab ?_;refine ak (fun s L=>kz N a1 a0=some r/\s=[(0,pV B1 0),(1,iV a1),(6,.bool false)]/\L=[ax cj ft M2 a0.at_,ae B1 186 [.map (some M2)]]) ?_ ?_
 ·refine ab ?_;refine dK (MZ J U3) ?_;refine cP J ?_;exact jY
 rintro _ _ ⟨h,rfl,rfl⟩;refine ab ?_;refine Gc (iv (a:=a1) (b:=true) 0 J J J J U3 (dX z9)) ?_;exact eN
theorem qg {r:Bool×Vt}{B1:Nat}: ∀v post,((fun (u:Value) (post:VI)=> ∃M0,u=.bool r.1/\post=[ae B1 186 [.map (some M0)],ax cj ft M0 r.2.at_])) v post-> ∀c∈post,mN c:=by
 rintro _ _ ⟨_,rfl,rfl⟩;exact t0 BL (t0 CX (aQ))
def mG (N:Nat)(a0:Vv)(y17_0:Int)(a6 a8:Vd)(b0:VG):Option (Int×Vv):=
 some (0,(⟨(⟨List.set (List.set a0.m_.XA y17_0.toNat (⟨a6.Xw,a6.XD,a6.XB,a6.XC,a6.Xy,a6.Xx⟩:Vd)) y17_0.toNat (⟨(⟨a6.Xw,a6.XD,a6.XB,a6.XC,a6.Xy,a6.Xx⟩:Vd).Xw,(⟨a6.Xw,a6.XD,a6.XB,a6.XC,a6.Xy,a6.Xx⟩:Vd).XD,(⟨a6.Xw,a6.XD,a6.XB,a6.XC,a6.Xy,a6.Xx⟩:Vd).XB,a8.XC,(⟨a6.Xw,a6.XD,a6.XB,a6.XC,a6.Xy,a6.Xx⟩:Vd).Xy,(⟨a6.Xw,a6.XD,a6.XB,a6.XC,a6.Xy,a6.Xx⟩:Vd).Xx⟩:Vd),a0.m_.Xz⟩:Ve),a0.XJ,a0.XP,(⟨b0⟩:Vt)⟩:Vv))
def mF (N:Nat)(a0:Vv)(y17_1:Int)(a6 a8:Vd)(b0:VG):Option (Int×Vv):=
 some (0,(⟨(⟨a0.m_.XA,List.set (List.set a0.m_.Xz y17_1.toNat (⟨a6.Xw,a6.XD,a6.XB,a6.XC,a6.Xy,a6.Xx⟩:Vd)) y17_1.toNat (⟨(⟨a6.Xw,a6.XD,a6.XB,a6.XC,a6.Xy,a6.Xx⟩:Vd).Xw,(⟨a6.Xw,a6.XD,a6.XB,a6.XC,a6.Xy,a6.Xx⟩:Vd).XD,(⟨a6.Xw,a6.XD,a6.XB,a6.XC,a6.Xy,a6.Xx⟩:Vd).XB,a8.XC,(⟨a6.Xw,a6.XD,a6.XB,a6.XC,a6.Xy,a6.Xx⟩:Vd).Xy,(⟨a6.Xw,a6.XD,a6.XB,a6.XC,a6.Xy,a6.Xx⟩:Vd).Xx⟩:Vd)⟩:Ve),a0.XJ,a0.XP,(⟨b0⟩:Vt)⟩:Vv))
def lT (a0:Vv)(a1:Int)(a2:Vd):Option (Int×Vv):=
 (aF N a0).bind fun b6=>bif b6 then (some (1,a0)) else ((js N a0 a1).bind fun b7=>bif !b7 then (some (50,a0)) else ((fa N a2).bind fun b9=>bif !b9 then (some (51,a0)) else ((gQ N a0 a1).bind fun c0=>yL c0 (fun y17_0=>(ao a0.m_.XA y17_0).bind fun a6=>(dx N a2).bind fun a8=>bif decide (a1.tmod 2=0) then ((cB N a0.XO a1 a2).bind fun d0=>mG N a0 y17_0 a8 a6 d0.2.at_) else (mG N a0 y17_0 a8 a6 a0.XO.at_)) (fun y17_1=>(ao a0.m_.Xz y17_1).bind fun b0=>(dx N a2).bind fun b5=>bif decide (a1.tmod 2=0) then ((cB N a0.XO a1 a2).bind fun d1=>mF N a0 y17_1 b5 b0 d1.2.at_) else (mF N a0 y17_1 b5 b0 a0.XO.at_)))))
theorem CT {N:Nat}{a0:Vv}{r:Int×Vv}(h:lT N a0 a1 a2=some r):Okc VK 142 [pV B1 0,iV a1,.agg #[iV a2.Xw,iV a2.XD,iV a2.XB,iV a2.XC,W A8 n8 c8,W A9 n9 c9]] ([aZ A8 n8 c8 a2.Xy,aZ A9 n9 c9 a2.Xx,ae B1 128 [W A2 n2 c2,W A3 n3 c3,W A4 n4 c4,W A5 n5 c5,pV B6 0],cN A2 n2 c2 a0.m_.XA,cN A3 n3 c3 a0.m_.Xz,aB A4 n4 c4 a0.XJ,aB A5 n5 c5 a0.XP,ae B6 186 [.map (some M7)],ax cj ft M7 a0.XO.at_]) (fun u post=> ∃A0 n0 c0 A1 n1 c1 A2 n2 c2 A3 n3 c3 M4,u=iV r.1/\post=[ae B1 128 [W A0 n0 c0,W A1 n1 c1,W A2 n2 c2,W A3 n3 c3,pV B6 0],cN A0 n0 c0 r.2.m_.XA,cN A1 n1 c1 r.2.m_.Xz,aB A2 n2 c2 r.2.XJ,aB A3 n3 c3 r.2.XP,ae B6 186 [.map (some M4)],ax cj ft M4 r.2.XO.at_]):=by
 refine bX Tryz.func142 ?_;intro e4;refine sY ?_
 refine cR h (fun _ k=>bW k) fun g3 h=> ?_
 refine gH J h ?_ ?_<;>intro h
 ·exact eY
 refine cR h (fun _ k=>qB k) fun g4 h=> ?_
 refine gH J h ?_ ?_<;>intro h
 ·exact eY
 refine cR h (fun _ k=>kj k) fun g5 h=> ?_
 refine gH J h ?_ ?_<;>intro h
 ·exact eY
 refine ab ?_;obtain ⟨g2,d3,h⟩:=aa h;rcases g2 with y17_0|y17_1
 ·replace h:=Cq h;refine gD (oR (fS d3)) ?_;rintro _ _ ⟨_,⟨rfl,rfl⟩,rfl⟩;obtain ⟨d1,b0,b5,b9,h⟩:=aI h;refine ab ?_;refine gR (mx 4 J aj J (toNat_lt b0 b5)) ?_;refine gR (lQ 4 J aj J (toNat_lt b0 b5) sN) ?_;refine H0 (kN (u:=iV d1.XC) 4 J aj J b9 xP (fun _ _ _ h=>by obtain ⟨_,_,_,_,_,_,e,_⟩:=h;rw [e];rfl)) ?_;obtain ⟨a6,k,h⟩:=aa h;refine gD (oR (f0 k)) ?_;rintro _ _ ⟨_,⟨e5,e6,e7,e8,e9,f1,rfl,rfl⟩,rfl⟩;refine gR (mx 6 J aj J (toNat_lt b0 b5)) ?_;refine rO (bM 0 J) ?_;refine rO (bM 1 J) ?_;refine Gc (cH (us:=(ga a6 e5 e6 e7 e8 e9 f1)) (z:=(⟨a6.Xw,a6.XD,a6.XB,a6.XC,a6.Xy,a6.Xx⟩:Vd)) 6 J J J J size45.out J (toNat_lt b0 b5) J (fun S w vs xk hk hr ho=>by obtain rfl:=Xe (hk.symm.trans b9);obtain ⟨_,_,_,_,_,_,rfl,s4,s5⟩:=hr;exact ⟨_,_,_,_,_,_,rfl,ho 0 _ rfl rfl,ho 1 _ rfl rfl⟩)) ?_;have d4:=D6 (z:=(⟨a6.Xw,a6.XD,a6.XB,a6.XC,a6.Xy,a6.Xx⟩:Vd)) b9;refine gR (mx 6 J aj J (r9 (toNat_lt b0 b5))) ?_;refine gR (lQ 6 J aj J (r9 (toNat_lt b0 b5)) sN) ?_
  refine Gc (cH (us:=[iV d1.XC]) (z:=(⟨(⟨a6.Xw,a6.XD,a6.XB,a6.XC,a6.Xy,a6.Xx⟩:Vd).Xw,(⟨a6.Xw,a6.XD,a6.XB,a6.XC,a6.Xy,a6.Xx⟩:Vd).XD,(⟨a6.Xw,a6.XD,a6.XB,a6.XC,a6.Xy,a6.Xx⟩:Vd).XB,d1.XC,(⟨a6.Xw,a6.XD,a6.XB,a6.XC,a6.Xy,a6.Xx⟩:Vd).Xy,(⟨a6.Xw,a6.XD,a6.XB,a6.XC,a6.Xy,a6.Xx⟩:Vd).Xx⟩:Vd)) 6 J J J J size3.out J (r9 (toNat_lt b0 b5)) J (fun S w vs xk hk hr ho=>by obtain rfl:=Xe (hk.symm.trans d4);obtain ⟨_,_,_,_,_,_,rfl,s4,s5⟩:=hr;exact ⟨_,_,_,_,_,_,rfl,s4,s5⟩)) ?_;refine ak (fun s L=> ∃d6 e0,mG N a0 y17_0 a6 d1 d6=some r/\s=[(6,iV 0)]/\L=[cN A2 n2 c2 (List.set (List.set a0.m_.XA y17_0.toNat (⟨a6.Xw,a6.XD,a6.XB,a6.XC,a6.Xy,a6.Xx⟩:Vd)) y17_0.toNat (⟨(⟨a6.Xw,a6.XD,a6.XB,a6.XC,a6.Xy,a6.Xx⟩:Vd).Xw,(⟨a6.Xw,a6.XD,a6.XB,a6.XC,a6.Xy,a6.Xx⟩:Vd).XD,(⟨a6.Xw,a6.XD,a6.XB,a6.XC,a6.Xy,a6.Xx⟩:Vd).XB,d1.XC,(⟨a6.Xw,a6.XD,a6.XB,a6.XC,a6.Xy,a6.Xx⟩:Vd).Xy,(⟨a6.Xw,a6.XD,a6.XB,a6.XC,a6.Xy,a6.Xx⟩:Vd).Xx⟩:Vd)),cN A3 n3 c3 a0.m_.Xz,aB A4 n4 c4 a0.XJ,aB A5 n5 c5 a0.XP,ae B1 128 [W A2 n2 c2,W A3 n3 c3,W A4 n4 c4,W A5 n5 c5,pV B6 0],ax cj ft e0 d6,ae B6 186 [.map (some e0)]]) ?_ ?_
  ·refine ab ?_;refine dK (oX J J (by decide)) ?_;refine gH J h ?_ ?_<;>intro h
   ·refine bi I ([aZ e5 e6 e7 a6.Xy,aZ e8 e9 f1 a6.Xx,ae e4 45 (ga a2 A8 n8 c8 A9 n9 c9),aZ A8 n8 c8 a2.Xy,aZ A9 n9 c9 a2.Xx,ae B1 128 [W A2 n2 c2,W A3 n3 c3,W A4 n4 c4,W A5 n5 c5,pV B6 0],cN A2 n2 c2 (List.set (List.set a0.m_.XA y17_0.toNat (⟨a6.Xw,a6.XD,a6.XB,a6.XC,a6.Xy,a6.Xx⟩:Vd)) y17_0.toNat (⟨(⟨a6.Xw,a6.XD,a6.XB,a6.XC,a6.Xy,a6.Xx⟩:Vd).Xw,(⟨a6.Xw,a6.XD,a6.XB,a6.XC,a6.Xy,a6.Xx⟩:Vd).XD,(⟨a6.Xw,a6.XD,a6.XB,a6.XC,a6.Xy,a6.Xx⟩:Vd).XB,d1.XC,(⟨a6.Xw,a6.XD,a6.XB,a6.XC,a6.Xy,a6.Xx⟩:Vd).Xy,(⟨a6.Xw,a6.XD,a6.XB,a6.XC,a6.Xy,a6.Xx⟩:Vd).Xx⟩:Vd)),cN A3 n3 c3 a0.m_.Xz,aB A4 n4 c4 a0.XJ,aB A5 n5 c5 a0.XP]) (cS [0,1,2,3,4,5,6,7,8,9] 12) ?_;refine ab ?_;obtain ⟨g6,k,h⟩:=aa h
    refine Gj 6 J (oC (iT k)) fun g7=> ?_
    exact jY
   exact jY
  rintro _ _ ⟨d6,e0,h,rfl,rfl⟩;exact eY
 replace h:=Cp h;refine gD (oR (fS d3)) ?_;rintro _ _ ⟨_,⟨rfl,rfl⟩,rfl⟩;obtain ⟨d2,b6,b7,d0,h⟩:=aI h;refine ab ?_;refine gR (mx 5 J aj J (toNat_lt b6 b7)) ?_;refine gR (lQ 5 J aj J (toNat_lt b6 b7) sN) ?_;refine H0 (kN (u:=iV d2.XC) 5 J aj J d0 xP (fun _ _ _ h=>by obtain ⟨_,_,_,_,_,_,e,_⟩:=h;rw [e];rfl)) ?_;obtain ⟨a8,k,h⟩:=aa h;refine gD (oR (f0 k)) ?_;rintro _ _ ⟨_,⟨f2,f3,f4,f9,g0,g1,rfl,rfl⟩,rfl⟩;refine gR (mx 7 J aj J (toNat_lt b6 b7)) ?_;refine rO (bM 0 J) ?_;refine rO (bM 1 J) ?_;refine ab ?_;refine Gc (cH (us:=(ga a8 f2 f3 f4 f9 g0 g1)) (z:=(⟨a8.Xw,a8.XD,a8.XB,a8.XC,a8.Xy,a8.Xx⟩:Vd)) 7 J J J J size45.out J (toNat_lt b6 b7) J (fun S w vs xk hk hr ho=>by obtain rfl:=Xe (hk.symm.trans d0);obtain ⟨_,_,_,_,_,_,rfl,s4,s5⟩:=hr;exact ⟨_,_,_,_,_,_,rfl,ho 0 _ rfl rfl,ho 1 _ rfl rfl⟩)) ?_;have e1:=D6 (z:=(⟨a8.Xw,a8.XD,a8.XB,a8.XC,a8.Xy,a8.Xx⟩:Vd)) d0;refine gR (mx 7 J aj J (r9 (toNat_lt b6 b7))) ?_;refine gR (lQ 7 J aj J (r9 (toNat_lt b6 b7)) sN) ?_
 refine Gc (cH (us:=[iV d2.XC]) (z:=(⟨(⟨a8.Xw,a8.XD,a8.XB,a8.XC,a8.Xy,a8.Xx⟩:Vd).Xw,(⟨a8.Xw,a8.XD,a8.XB,a8.XC,a8.Xy,a8.Xx⟩:Vd).XD,(⟨a8.Xw,a8.XD,a8.XB,a8.XC,a8.Xy,a8.Xx⟩:Vd).XB,d2.XC,(⟨a8.Xw,a8.XD,a8.XB,a8.XC,a8.Xy,a8.Xx⟩:Vd).Xy,(⟨a8.Xw,a8.XD,a8.XB,a8.XC,a8.Xy,a8.Xx⟩:Vd).Xx⟩:Vd)) 7 J J J J size3.out J (r9 (toNat_lt b6 b7)) J (fun S w vs xk hk hr ho=>by obtain rfl:=Xe (hk.symm.trans e1);obtain ⟨_,_,_,_,_,_,rfl,s4,s5⟩:=hr;exact ⟨_,_,_,_,_,_,rfl,s4,s5⟩)) ?_;refine ak (fun s L=> ∃e2 e3,mF N a0 y17_1 a8 d2 e2=some r/\s=[(6,iV 0)]/\L=[cN A2 n2 c2 a0.m_.XA,cN A3 n3 c3 (List.set (List.set a0.m_.Xz y17_1.toNat (⟨a8.Xw,a8.XD,a8.XB,a8.XC,a8.Xy,a8.Xx⟩:Vd)) y17_1.toNat (⟨(⟨a8.Xw,a8.XD,a8.XB,a8.XC,a8.Xy,a8.Xx⟩:Vd).Xw,(⟨a8.Xw,a8.XD,a8.XB,a8.XC,a8.Xy,a8.Xx⟩:Vd).XD,(⟨a8.Xw,a8.XD,a8.XB,a8.XC,a8.Xy,a8.Xx⟩:Vd).XB,d2.XC,(⟨a8.Xw,a8.XD,a8.XB,a8.XC,a8.Xy,a8.Xx⟩:Vd).Xy,(⟨a8.Xw,a8.XD,a8.XB,a8.XC,a8.Xy,a8.Xx⟩:Vd).Xx⟩:Vd)),aB A4 n4 c4 a0.XJ,aB A5 n5 c5 a0.XP,ae B1 128 [W A2 n2 c2,W A3 n3 c3,W A4 n4 c4,W A5 n5 c5,pV B6 0],ax cj ft e3 e2,ae B6 186 [.map (some e3)]]) ?_ ?_
 ·refine ab ?_;refine dK (oX J J (by decide)) ?_;refine gH J h ?_ ?_<;>intro h
  ·refine bi I ([aZ f2 f3 f4 a8.Xy,aZ f9 g0 g1 a8.Xx,ae e4 45 (ga a2 A8 n8 c8 A9 n9 c9),aZ A8 n8 c8 a2.Xy,aZ A9 n9 c9 a2.Xx,ae B1 128 [W A2 n2 c2,W A3 n3 c3,W A4 n4 c4,W A5 n5 c5,pV B6 0],cN A2 n2 c2 a0.m_.XA,cN A3 n3 c3 (List.set (List.set a0.m_.Xz y17_1.toNat (⟨a8.Xw,a8.XD,a8.XB,a8.XC,a8.Xy,a8.Xx⟩:Vd)) y17_1.toNat (⟨(⟨a8.Xw,a8.XD,a8.XB,a8.XC,a8.Xy,a8.Xx⟩:Vd).Xw,(⟨a8.Xw,a8.XD,a8.XB,a8.XC,a8.Xy,a8.Xx⟩:Vd).XD,(⟨a8.Xw,a8.XD,a8.XB,a8.XC,a8.Xy,a8.Xx⟩:Vd).XB,d2.XC,(⟨a8.Xw,a8.XD,a8.XB,a8.XC,a8.Xy,a8.Xx⟩:Vd).Xy,(⟨a8.Xw,a8.XD,a8.XB,a8.XC,a8.Xy,a8.Xx⟩:Vd).Xx⟩:Vd)),aB A4 n4 c4 a0.XJ,aB A5 n5 c5 a0.XP]) (cS [0,1,2,3,4,5,6,7,8,9] 12) ?_;refine ab ?_;obtain ⟨g8,k,h⟩:=aa h
   refine Gj 6 J (oC (iT k)) fun g9=> ?_
   exact jY
  exact jY
 rintro _ _ ⟨e2,e3,h,rfl,rfl⟩;exact eY
def nT (N:Nat)(a0:Vv)(y17_0:Int)(a6 a8 a2:Vd)(b0:VG):Option (Int×Vv):=
 some (0,(⟨(⟨List.set (List.set a0.m_.XA y17_0.toNat (⟨a6.Xw,a6.XD,a6.XB,a6.XC,a6.Xy,a6.Xx⟩:Vd)) y17_0.toNat (⟨(⟨a6.Xw,a6.XD,a6.XB,a6.XC,a6.Xy,a6.Xx⟩:Vd).Xw,(⟨a6.Xw,a6.XD,a6.XB,a6.XC,a6.Xy,a6.Xx⟩:Vd).XD,(⟨a6.Xw,a6.XD,a6.XB,a6.XC,a6.Xy,a6.Xx⟩:Vd).XB,a8.XC,(⟨a6.Xw,a6.XD,a6.XB,a6.XC,a6.Xy,a6.Xx⟩:Vd).Xy,(⟨a6.Xw,a6.XD,a6.XB,a6.XC,a6.Xy,a6.Xx⟩:Vd).Xx⟩:Vd),a0.m_.Xz⟩:Ve),a0.XJ,a0.XP,(⟨b0⟩:Vt)⟩:Vv))
def nS (N:Nat)(a0:Vv)(y17_1:Int)(a6 a8 a2:Vd)(b0:VG):Option (Int×Vv):=
 some (0,(⟨(⟨a0.m_.XA,List.set (List.set a0.m_.Xz y17_1.toNat (⟨a6.Xw,a6.XD,a6.XB,a6.XC,a6.Xy,a6.Xx⟩:Vd)) y17_1.toNat (⟨(⟨a6.Xw,a6.XD,a6.XB,a6.XC,a6.Xy,a6.Xx⟩:Vd).Xw,(⟨a6.Xw,a6.XD,a6.XB,a6.XC,a6.Xy,a6.Xx⟩:Vd).XD,(⟨a6.Xw,a6.XD,a6.XB,a6.XC,a6.Xy,a6.Xx⟩:Vd).XB,a8.XC,(⟨a6.Xw,a6.XD,a6.XB,a6.XC,a6.Xy,a6.Xx⟩:Vd).Xy,(⟨a6.Xw,a6.XD,a6.XB,a6.XC,a6.Xy,a6.Xx⟩:Vd).Xx⟩:Vd)⟩:Ve),a0.XJ,a0.XP,(⟨b0⟩:Vt)⟩:Vv))
def pS (a0:Vv)(a1:Int)(a2:Vd):Option (Int×Vv):=
 (aF N a0).bind fun b6=>bif b6 then (some (1,a0)) else ((js N a0 a1).bind fun b7=>bif !b7 then (some (50,a0)) else ((fa N a2).bind fun b9=>bif !b9 then (some (51,a0)) else ((gQ N a0 a1).bind fun c0=>yL c0 (fun y17_0=>(ao a0.m_.XA y17_0).bind fun a6=>(dx N a2).bind fun a8=>bif decide (a1.tmod 2=0) then ((cB N a0.XO a1 a2).bind fun d0=>nT N a0 y17_0 a8 a6 a2 d0.2.at_) else (nT N a0 y17_0 a8 a6 a2 a0.XO.at_)) (fun y17_1=>(ao a0.m_.Xz y17_1).bind fun b0=>(dx N a2).bind fun b5=>bif decide (a1.tmod 2=0) then ((cB N a0.XO a1 a2).bind fun d1=>nS N a0 y17_1 b5 b0 a2 d1.2.at_) else (nS N a0 y17_1 b5 b0 a2 a0.XO.at_)))))
theorem Ax {N:Nat}{a0:Vv}{r:Int×Vv}(h:pS N a0 a1 a2=some r):Okc VK 142 [pV B1 0,iV a1,.agg #[iV a2.Xw,iV a2.XD,iV a2.XB,iV a2.XC,W A8 n8 c8,W A9 n9 c9]] ([ae B1 128 [W A2 n2 c2,W A3 n3 c3,W A4 n4 c4,W A5 n5 c5,pV B6 0],cN A2 n2 c2 a0.m_.XA,cN A3 n3 c3 a0.m_.Xz,aB A4 n4 c4 a0.XJ,aB A5 n5 c5 a0.XP,ae B6 186 [.map (some M7)],ax cj ft M7 a0.XO.at_,aB A8 n8 c8 a2.Xy,aB A9 n9 c9 a2.Xx]) (fun u post=> ∃d2 d3 d4 d6 e0 e1 e2 e3 e4 e5 e6 e7 e8,u=iV r.1/\post=[ae B1 128 [W d2 d3 d4,W d6 e0 e1,W e2 e3 e4,W e5 e6 e7,pV B6 0],cN d2 d3 d4 r.2.m_.XA,cN d6 e0 e1 r.2.m_.Xz,aB e2 e3 e4 r.2.XJ,aB e5 e6 e7 r.2.XP,ae B6 186 [.map (some e8)],ax cj ft e8 r.2.XO.at_,aB A8 n8 c8 a2.Xy,aB A9 n9 c9 a2.Xx]):=by
 refine bX Tryz.func142 ?_;intro g1;refine sY ?_
 refine cR h (fun _ k=>bW k) fun h5 h=> ?_
 refine gH J h ?_ ?_<;>intro h
 ·exact eY
 refine cR h (fun _ k=>qB k) fun h6 h=> ?_
 refine gH J h ?_ ?_<;>intro h
 ·exact eY
 refine cR h (fun _ k=>kj k) fun h7 h=> ?_
 refine gH J h ?_ ?_<;>intro h
 ·exact eY
 refine ab ?_;obtain ⟨h4,e9,h⟩:=aa h;rcases h4 with y17_0|y17_1
 ·replace h:=Cq h;refine gD (oR (fS e9)) ?_;rintro _ _ ⟨_,⟨rfl,rfl⟩,rfl⟩;obtain ⟨d0,b0,b5,b9,h⟩:=aI h;refine ab ?_;refine gR (mx 2 J aj J (toNat_lt b0 b5)) ?_;refine gR (lQ 2 J aj J (toNat_lt b0 b5) sN) ?_;refine H0 (kN (u:=iV d0.XC) 2 J aj J b9 xP (fun _ _ _ h=>by obtain ⟨_,_,_,_,_,_,e,_⟩:=h;rw [e];rfl)) ?_;obtain ⟨a6,k,h⟩:=aa h;refine gD (oR (f0 k)) ?_;rintro _ _ ⟨_,⟨g2,g3,g4,g5,g6,g7,rfl,rfl⟩,rfl⟩;refine gR (mx 4 J aj J (toNat_lt b0 b5)) ?_;refine rO (bM 0 J) ?_;refine rO (bM 1 J) ?_;refine Gc (cH (us:=(ga a6 g2 g3 g4 g5 g6 g7)) (z:=(⟨a6.Xw,a6.XD,a6.XB,a6.XC,a6.Xy,a6.Xx⟩:Vd)) 4 J J J J size45.out J (toNat_lt b0 b5) J (fun S w vs xk hk hr ho=>by obtain rfl:=Xe (hk.symm.trans b9);obtain ⟨_,_,_,_,_,_,rfl,s4,s5⟩:=hr;exact ⟨_,_,_,_,_,_,rfl,ho 0 _ rfl rfl,ho 1 _ rfl rfl⟩)) ?_;have f1:=D6 (z:=(⟨a6.Xw,a6.XD,a6.XB,a6.XC,a6.Xy,a6.Xx⟩:Vd)) b9;refine gR (mx 4 J aj J (r9 (toNat_lt b0 b5))) ?_;refine gR (lQ 4 J aj J (r9 (toNat_lt b0 b5)) sN) ?_
  refine Gc (cH (us:=[iV d0.XC]) (z:=(⟨(⟨a6.Xw,a6.XD,a6.XB,a6.XC,a6.Xy,a6.Xx⟩:Vd).Xw,(⟨a6.Xw,a6.XD,a6.XB,a6.XC,a6.Xy,a6.Xx⟩:Vd).XD,(⟨a6.Xw,a6.XD,a6.XB,a6.XC,a6.Xy,a6.Xx⟩:Vd).XB,d0.XC,(⟨a6.Xw,a6.XD,a6.XB,a6.XC,a6.Xy,a6.Xx⟩:Vd).Xy,(⟨a6.Xw,a6.XD,a6.XB,a6.XC,a6.Xy,a6.Xx⟩:Vd).Xx⟩:Vd)) 4 J J J J size3.out J (r9 (toNat_lt b0 b5)) J (fun S w vs xk hk hr ho=>by obtain rfl:=Xe (hk.symm.trans f1);obtain ⟨_,_,_,_,_,_,rfl,s4,s5⟩:=hr;exact ⟨_,_,_,_,_,_,rfl,s4,s5⟩)) ?_;refine ak (fun s L=> ∃f2 f3,nT N a0 y17_0 a6 d0 a2 f2=some r/\s=[(6,iV 0)]/\L=[cN A2 n2 c2 (List.set (List.set a0.m_.XA y17_0.toNat (⟨a6.Xw,a6.XD,a6.XB,a6.XC,a6.Xy,a6.Xx⟩:Vd)) y17_0.toNat (⟨(⟨a6.Xw,a6.XD,a6.XB,a6.XC,a6.Xy,a6.Xx⟩:Vd).Xw,(⟨a6.Xw,a6.XD,a6.XB,a6.XC,a6.Xy,a6.Xx⟩:Vd).XD,(⟨a6.Xw,a6.XD,a6.XB,a6.XC,a6.Xy,a6.Xx⟩:Vd).XB,d0.XC,(⟨a6.Xw,a6.XD,a6.XB,a6.XC,a6.Xy,a6.Xx⟩:Vd).Xy,(⟨a6.Xw,a6.XD,a6.XB,a6.XC,a6.Xy,a6.Xx⟩:Vd).Xx⟩:Vd)),cN A3 n3 c3 a0.m_.Xz,aB A4 n4 c4 a0.XJ,aB A5 n5 c5 a0.XP,ae B1 128 [W A2 n2 c2,W A3 n3 c3,W A4 n4 c4,W A5 n5 c5,pV B6 0],ax cj ft f3 f2,ae B6 186 [.map (some f3)],aB A8 n8 c8 a2.Xy,aB A9 n9 c9 a2.Xx]) ?_ ?_
  ·refine ab ?_;refine dK (oX J J (by decide)) ?_;refine gH J h ?_ ?_<;>intro h
   ·refine bi I ([aZ g2 g3 g4 a6.Xy,aZ g5 g6 g7 a6.Xx,ae g1 45 (ga a2 A8 n8 c8 A9 n9 c9),ae B1 128 [W A2 n2 c2,W A3 n3 c3,W A4 n4 c4,W A5 n5 c5,pV B6 0],cN A2 n2 c2 (List.set (List.set a0.m_.XA y17_0.toNat (⟨a6.Xw,a6.XD,a6.XB,a6.XC,a6.Xy,a6.Xx⟩:Vd)) y17_0.toNat (⟨(⟨a6.Xw,a6.XD,a6.XB,a6.XC,a6.Xy,a6.Xx⟩:Vd).Xw,(⟨a6.Xw,a6.XD,a6.XB,a6.XC,a6.Xy,a6.Xx⟩:Vd).XD,(⟨a6.Xw,a6.XD,a6.XB,a6.XC,a6.Xy,a6.Xx⟩:Vd).XB,d0.XC,(⟨a6.Xw,a6.XD,a6.XB,a6.XC,a6.Xy,a6.Xx⟩:Vd).Xy,(⟨a6.Xw,a6.XD,a6.XB,a6.XC,a6.Xy,a6.Xx⟩:Vd).Xx⟩:Vd)),cN A3 n3 c3 a0.m_.Xz,aB A4 n4 c4 a0.XJ,aB A5 n5 c5 a0.XP,aB A8 n8 c8 a2.Xy,aB A9 n9 c9 a2.Xx]) (cS [0,1,2,3,4,5,6,7,10,11] 12) ?_;refine ab ?_;obtain ⟨h8,k,h⟩:=aa h;refine lb (cS [8,9,0,1,2,3,4,5,6,7,10,11] 12) (cS [2,3,4,5,6,7,8,9,10,11] 12) ?_
    refine Gj 6 J (Bm 2 2 (iT k) J J J J (t0 (pj (i:=10) J J) (t0 (pj (i:=11) J J) aQ)) qg) fun h9=> ?_
    exact jY
   exact jY
  rintro _ _ ⟨f2,f3,h,rfl,rfl⟩;exact eY
 replace h:=Cp h;refine gD (oR (fS e9)) ?_;rintro _ _ ⟨_,⟨rfl,rfl⟩,rfl⟩;obtain ⟨d1,b6,b7,c0,h⟩:=aI h;refine ab ?_;refine gR (mx 3 J aj J (toNat_lt b6 b7)) ?_;refine gR (lQ 3 J aj J (toNat_lt b6 b7) sN) ?_;refine H0 (kN (u:=iV d1.XC) 3 J aj J c0 xP (fun _ _ _ h=>by obtain ⟨_,_,_,_,_,_,e,_⟩:=h;rw [e];rfl)) ?_;obtain ⟨a8,k,h⟩:=aa h;refine gD (oR (f0 k)) ?_;rintro _ _ ⟨_,⟨g8,g9,h0,h1,h2,h3,rfl,rfl⟩,rfl⟩;refine gR (mx 5 J aj J (toNat_lt b6 b7)) ?_;refine rO (bM 0 J) ?_;refine rO (bM 1 J) ?_;refine ab ?_;refine Gc (cH (us:=(ga a8 g8 g9 h0 h1 h2 h3)) (z:=(⟨a8.Xw,a8.XD,a8.XB,a8.XC,a8.Xy,a8.Xx⟩:Vd)) 5 J J J J size45.out J (toNat_lt b6 b7) J (fun S w vs xk hk hr ho=>by obtain rfl:=Xe (hk.symm.trans c0);obtain ⟨_,_,_,_,_,_,rfl,s4,s5⟩:=hr;exact ⟨_,_,_,_,_,_,rfl,ho 0 _ rfl rfl,ho 1 _ rfl rfl⟩)) ?_;have f4:=D6 (z:=(⟨a8.Xw,a8.XD,a8.XB,a8.XC,a8.Xy,a8.Xx⟩:Vd)) c0;refine gR (mx 5 J aj J (r9 (toNat_lt b6 b7))) ?_;refine gR (lQ 5 J aj J (r9 (toNat_lt b6 b7)) sN) ?_
 refine Gc (cH (us:=[iV d1.XC]) (z:=(⟨(⟨a8.Xw,a8.XD,a8.XB,a8.XC,a8.Xy,a8.Xx⟩:Vd).Xw,(⟨a8.Xw,a8.XD,a8.XB,a8.XC,a8.Xy,a8.Xx⟩:Vd).XD,(⟨a8.Xw,a8.XD,a8.XB,a8.XC,a8.Xy,a8.Xx⟩:Vd).XB,d1.XC,(⟨a8.Xw,a8.XD,a8.XB,a8.XC,a8.Xy,a8.Xx⟩:Vd).Xy,(⟨a8.Xw,a8.XD,a8.XB,a8.XC,a8.Xy,a8.Xx⟩:Vd).Xx⟩:Vd)) 5 J J J J size3.out J (r9 (toNat_lt b6 b7)) J (fun S w vs xk hk hr ho=>by obtain rfl:=Xe (hk.symm.trans f4);obtain ⟨_,_,_,_,_,_,rfl,s4,s5⟩:=hr;exact ⟨_,_,_,_,_,_,rfl,s4,s5⟩)) ?_;refine ak (fun s L=> ∃f9 g0,nS N a0 y17_1 a8 d1 a2 f9=some r/\s=[(6,iV 0)]/\L=[cN A2 n2 c2 a0.m_.XA,cN A3 n3 c3 (List.set (List.set a0.m_.Xz y17_1.toNat (⟨a8.Xw,a8.XD,a8.XB,a8.XC,a8.Xy,a8.Xx⟩:Vd)) y17_1.toNat (⟨(⟨a8.Xw,a8.XD,a8.XB,a8.XC,a8.Xy,a8.Xx⟩:Vd).Xw,(⟨a8.Xw,a8.XD,a8.XB,a8.XC,a8.Xy,a8.Xx⟩:Vd).XD,(⟨a8.Xw,a8.XD,a8.XB,a8.XC,a8.Xy,a8.Xx⟩:Vd).XB,d1.XC,(⟨a8.Xw,a8.XD,a8.XB,a8.XC,a8.Xy,a8.Xx⟩:Vd).Xy,(⟨a8.Xw,a8.XD,a8.XB,a8.XC,a8.Xy,a8.Xx⟩:Vd).Xx⟩:Vd)),aB A4 n4 c4 a0.XJ,aB A5 n5 c5 a0.XP,ae B1 128 [W A2 n2 c2,W A3 n3 c3,W A4 n4 c4,W A5 n5 c5,pV B6 0],ax cj ft g0 f9,ae B6 186 [.map (some g0)],aB A8 n8 c8 a2.Xy,aB A9 n9 c9 a2.Xx]) ?_ ?_
 ·refine ab ?_;refine dK (oX J J (by decide)) ?_;refine gH J h ?_ ?_<;>intro h
  ·refine bi I ([aZ g8 g9 h0 a8.Xy,aZ h1 h2 h3 a8.Xx,ae g1 45 (ga a2 A8 n8 c8 A9 n9 c9),ae B1 128 [W A2 n2 c2,W A3 n3 c3,W A4 n4 c4,W A5 n5 c5,pV B6 0],cN A2 n2 c2 a0.m_.XA,cN A3 n3 c3 (List.set (List.set a0.m_.Xz y17_1.toNat (⟨a8.Xw,a8.XD,a8.XB,a8.XC,a8.Xy,a8.Xx⟩:Vd)) y17_1.toNat (⟨(⟨a8.Xw,a8.XD,a8.XB,a8.XC,a8.Xy,a8.Xx⟩:Vd).Xw,(⟨a8.Xw,a8.XD,a8.XB,a8.XC,a8.Xy,a8.Xx⟩:Vd).XD,(⟨a8.Xw,a8.XD,a8.XB,a8.XC,a8.Xy,a8.Xx⟩:Vd).XB,d1.XC,(⟨a8.Xw,a8.XD,a8.XB,a8.XC,a8.Xy,a8.Xx⟩:Vd).Xy,(⟨a8.Xw,a8.XD,a8.XB,a8.XC,a8.Xy,a8.Xx⟩:Vd).Xx⟩:Vd)),aB A4 n4 c4 a0.XJ,aB A5 n5 c5 a0.XP,aB A8 n8 c8 a2.Xy,aB A9 n9 c9 a2.Xx]) (cS [0,1,2,3,4,5,6,7,10,11] 12) ?_;refine ab ?_;obtain ⟨i0,k,h⟩:=aa h;refine lb (cS [8,9,0,1,2,3,4,5,6,7,10,11] 12) (cS [2,3,4,5,6,7,8,9,10,11] 12) ?_
   refine Gj 6 J (Bm 2 2 (iT k) J J J J (t0 (pj (i:=10) J J) (t0 (pj (i:=11) J J) aQ)) qg) fun i1=> ?_
   exact jY
  exact jY
 rintro _ _ ⟨f9,g0,h,rfl,rfl⟩;exact eY
theorem Au {N:Nat}{a0:Vv}{r:Int×Vv}(h:lT N a0 a1 a2=some r):Okc VK 142 [pV B1 0,iV a1,.agg #[iV a2.Xw,iV a2.XD,iV a2.XB,iV a2.XC,W A2 n2 c2,W A3 n3 c3]] ([aZ A2 n2 c2 a2.Xy,aZ A3 n3 c3 a2.Xx,oDHeap B1 a0]) (fun u post=>u=iV r.1/\post=[oDHeap B1 r.2]):=IV 2 rfl (fun _=>CT h)
theorem yh {N:Nat}{a0:Vv}{r:Int×Vv}(h:pS N a0 a1 a2=some r):Okc VK 142 [pV B1 0,iV a1,.agg #[iV a2.Xw,iV a2.XD,iV a2.XB,iV a2.XC,W A2 n2 c2,W A3 n3 c3]] ([oDHeap B1 a0,aB A2 n2 c2 a2.Xy,aB A3 n3 c3 a2.Xx]) (fun u post=>u=iV r.1/\post=[oDHeap B1 r.2,aB A2 n2 c2 a2.Xy,aB A3 n3 c3 a2.Xx]):=IV 0 rfl (fun _=>Ax h)
def df (a0:Vj)(a1:Vp)(a2:Vd):Option Vj:=
 (iA N a1).bind fun a6=>bif a6 then ((lT N a0.XF a1.N a2).bind fun a8=>some (⟨a0.XQ,a0.XK,(),a8.2,a0.XH,a0.XS,a0.XR,a0.XY,a0.XZ,a0.XT,a0.XU⟩:Vj)) else (some a0)
theorem Af {N:Nat}{a1:Vp}{r:Vj}(h:df N a0 a1 a2=some r):Okc VK 93 [pV B1 0,(aX a1),.agg #[iV a2.Xw,iV a2.XD,iV a2.XB,iV a2.XC,W A7 n7 c7,W A8 n8 c8]] ([aZ A7 n7 c7 a2.Xy,aZ A8 n8 c8 a2.Xx,ae B1 85 (ub a0 B2 B3 A4 n4 c4 A5 n5 c5 A6 n6 c6),oDHeap B2 a0.XF,oDTable B3 a0.XH,ir A4 n4 c4 a0.XS,sy A5 n5 c5 a0.XT,ir A6 n6 c6 a0.XU]) (fun u post=> ∃A0 n0 c0 A1 n1 c1 A2 n2 c2,u=.tuple #[]/\post=[ae B1 85 (ub r B2 B3 A0 n0 c0 A1 n1 c1 A2 n2 c2),oDHeap B2 r.XF,oDTable B3 r.XH,ir A0 n0 c0 r.XS,sy A1 n1 c1 r.XT,ir A2 n2 c2 r.XU]):=by
 refine bX Tryz.func93 ?_;intro B9
 refine dD fun a6=> ?_
 refine dK (td J U1) ?_
 refine cR h (fun _ k=>tz k) fun a8 h=> ?_
 refine gH J h ?_ ?_<;>intro h
 ·refine bi I ([ae a6 45 (ga a2 A7 n7 c7 A8 n8 c8),ae B9 29 (ed a1),aZ A7 n7 c7 a2.Xy,aZ A8 n8 c8 a2.Xx,ae B1 85 (ub a0 B2 B3 A4 n4 c4 A5 n5 c5 A6 n6 c6),oDTable B3 a0.XH,ir A4 n4 c4 a0.XS,sy A5 n5 c5 a0.XT,ir A6 n6 c6 a0.XU]) (cS [0,1,2,3,4,6,7,8,9] 10) ?_;refine ab ?_;obtain ⟨b0,k,h⟩:=aa h;refine zD 7 J (oC (Au k)) ?_;rintro _ _ ⟨_,⟨rfl,rfl⟩,rfl⟩;refine aW ?_;exact eY
 exact eY
def fg (a0:Vj)(a1:Vp)(a2:Vd):Option Vj:=
 (iA N a1).bind fun a6=>bif a6 then ((pS N a0.XF a1.N a2).bind fun a8=>some (⟨a0.XQ,a0.XK,(),a8.2,a0.XH,a0.XS,a0.XR,a0.XY,a0.XZ,a0.XT,a0.XU⟩:Vj)) else (some a0)
theorem xD {N:Nat}{a1:Vp}{r:Vj}(h:fg N a0 a1 a2=some r):Okc VK 93 [pV B1 0,(aX a1),.agg #[iV a2.Xw,iV a2.XD,iV a2.XB,iV a2.XC,W A7 n7 c7,W A8 n8 c8]] ([ae B1 85 (ub a0 B2 B3 A4 n4 c4 A5 n5 c5 A6 n6 c6),oDHeap B2 a0.XF,oDTable B3 a0.XH,ir A4 n4 c4 a0.XS,sy A5 n5 c5 a0.XT,ir A6 n6 c6 a0.XU,aB A7 n7 c7 a2.Xy,aB A8 n8 c8 a2.Xx]) (fun u post=> ∃a6 a8 b0 b5 b6 b7 b9 c0 d0,u=.tuple #[]/\post=[ae B1 85 (ub r B2 B3 a6 a8 b0 b5 b6 b7 b9 c0 d0),oDHeap B2 r.XF,oDTable B3 r.XH,ir a6 a8 b0 r.XS,sy b5 b6 b7 r.XT,ir b9 c0 d0 r.XU,aB A7 n7 c7 a2.Xy,aB A8 n8 c8 a2.Xx]):=by
 refine bX Tryz.func93 ?_;intro B9
 refine dD fun d1=> ?_
 refine dK (td J U1) ?_
 refine cR h (fun _ k=>tz k) fun d2 h=> ?_
 refine gH J h ?_ ?_<;>intro h
 ·refine bi I ([ae d1 45 (ga a2 A7 n7 c7 A8 n8 c8),ae B9 29 (ed a1),ae B1 85 (ub a0 B2 B3 A4 n4 c4 A5 n5 c5 A6 n6 c6),oDTable B3 a0.XH,ir A4 n4 c4 a0.XS,sy A5 n5 c5 a0.XT,ir A6 n6 c6 a0.XU,aB A7 n7 c7 a2.Xy,aB A8 n8 c8 a2.Xx]) (cS [0,1,2,4,5,6,7,8,9] 10) ?_;refine ab ?_;obtain ⟨d3,k,h⟩:=aa h;refine zD 7 J (oC (yh k)) ?_;rintro _ _ ⟨_,⟨rfl,rfl⟩,rfl⟩;refine aW ?_;exact eY
 exact eY
theorem xC {N:Nat}{a1:Vp}{r:Vj}(h:df N a0 a1 a2=some r){B1 B2 B3:Nat}:Okc VK 93 [pV B1 0,(aX a1),.agg #[iV a2.Xw,iV a2.XD,iV a2.XB,iV a2.XC,W A4 n4 c4,W A5 n5 c5]] ([aZ A4 n4 c4 a2.Xy,aZ A5 n5 c5 a2.Xx,oDWorld B1 B2 B3 a0]) (fun u post=>u=.tuple #[]/\post=[oDWorld B1 B2 B3 r]):=IV 2 rfl (fun _=>Af h)
theorem pA {N:Nat}{a1:Vp}{r:Vj}(h:fg N a0 a1 a2=some r){B1 B2 B3:Nat}:Okc VK 93 [pV B1 0,(aX a1),.agg #[iV a2.Xw,iV a2.XD,iV a2.XB,iV a2.XC,W A4 n4 c4,W A5 n5 c5]] ([oDWorld B1 B2 B3 a0,aB A4 n4 c4 a2.Xy,aB A5 n5 c5 a2.Xx]) (fun u post=>u=.tuple #[]/\post=[oDWorld B1 B2 B3 r,aB A4 n4 c4 a2.Xy,aB A5 n5 c5 a2.Xx]):=IV 0 rfl (fun _=>xD h)
def uY (a0:Vj)(a1:Vp):Option Vj:=
 (cD N a0 a1).bind fun y5=>yL y5 (fun y5_0=>some a0) (fun y5_1=>bif decide (aq .i64 y5_1.XG.XB 16=0) then ((fg N a0 a1 (⟨y5_1.XG.Xw,y5_1.XG.XD,i4 .i64 y5_1.XG.XB 16,y5_1.XG.XC,y5_1.XG.Xy,y5_1.XG.Xx⟩:Vd)).bind fun a6=>some a6) else (some a0))
theorem xQ {N:Nat}{a1:Vp}{r:Vj}(h:uY N a0 a1=some r){B1 B2 B3:Nat}:Okc VK 38 [pV B1 0,(aX a1)] ([oDWorld B1 B2 B3 a0]) (fun u post=>u=.tuple #[]/\post=[oDWorld B1 B2 B3 r]):=by
 refine bX Tryz.func38 ?_;intro B4;refine ab ?_;obtain ⟨y5,a6,h⟩:=aa h;rcases y5 with y5_0|y5_1
 ·replace h:=Cq h;refine gD (oR (aM a6)) ?_;rintro _ _ ⟨_,⟨rfl,rfl⟩,rfl⟩;refine ab ?_;refine cP J ?_;exact eY
 replace h:=Cp h;refine gD (oR (aM a6)) ?_;rintro _ _ ⟨_,⟨B6,A7,n7,c7,A8,n8,c8,rfl,rfl⟩,rfl⟩;refine ab ?_;refine dK (cy J J) ?_;refine gH J h ?_ ?_<;>intro h
 ·refine ab ?_;refine dK (qH J J) ?_;refine bi I ([ae B6 103 [iV y5_1.XG.Xw,iV y5_1.XG.XD,iV (i4 .i64 y5_1.XG.XB 16),iV y5_1.XG.XC,W A7 n7 c7,W A8 n8 c8,pV B1 0,iV y5_1.at_.Xw,iV y5_1.at_.N,.string y5_1.at_.S],aB A7 n7 c7 y5_1.XG.Xy,aB A8 n8 c8 y5_1.XG.Xx,ae B4 29 (ed a1)]) (cS [0,1,2,3] 5) ?_;refine ab ?_;obtain ⟨a8,k,h⟩:=aa h;refine zD 6 J (oC (pA k)) ?_;rintro _ _ ⟨_,⟨rfl,rfl⟩,rfl⟩;refine aW ?_;exact eY
 exact eY
end
section
variable {A1 A2 A3 A4 A5 A6 A7 A8 A9:Option Addr}{B1 B2 B3 B6 M3 c1 c2 c3 c4 c5 c6 c7 c8 c9 n1 n2 n3 n4 n5 n6 n7 n8 n9:Nat}
open Go.RowKit Asn
set_option maxRecDepth 20000
def lE (a0:Vj)(a1:Vp)(a2:Int):Option (Vp×Bool×Vj):=
 (zM N a2).bind fun y6=>(bif !y6.2 then (some true) else ((wk N a0 a1).bind fun y9=>some (!y9))).bind fun b8=>bif b8 then (some ((⟨0,0,⟨#[]⟩⟩:Vp),false,a0)) else ((oT N a0 (⟨a2,0,1,0,([a1]:List Vp),y6.1⟩:Vd)).bind fun a6=>bif !a6.2.1 then (some ((⟨0,0,⟨#[]⟩⟩:Vp),false,a6.2.2)) else ((uY N a6.2.2 a1).bind fun a8=>some (a6.1,true,a8)))
theorem zP {N:Nat}{a1:Vp}{a2:Int}{r:Vp×Bool×Vj}(h:lE N a0 a1 a2=some r){B1 B2 B3:Nat}:Okc VK 10 [pV B1 0,(aX a1),iV a2] ([oDWorld B1 B2 B3 a0]) (fun u post=>u=.tuple #[.agg #[iV r.1.Xw,iV r.1.N,.string r.1.S],.bool r.2.1]/\post=[oDWorld B1 B2 B3 r.2.2]):=by
 refine bX Tryz.func10 ?_;intro B4
 refine dD fun B5=> ?_
 obtain ⟨y6,k,h⟩:=aa h
 refine rP (oR (E0 k)) fun A7 n7 c7=> ?_
 refine sZ ?_
 refine Lu 5 23 18 h (fun _ g8 h=> ?_) (fun _ g8 h=> ?_) fun b8 h=> ?_
 ·exact gY
 ·refine ab ?_;obtain ⟨y9,k,h⟩:=aa h;refine gU (oR (zN k)) (km g8 J) ?_;exact gY
 refine dU h ?_ ?_<;>intro h
 ·exact eY
 refine ab ?_
 refine rP (aL (R:=av) (vss:=[(ed a1)]) (xs:=[a1]) J (rL _ _ _) J J (fun _ _ hr=> .cons J All2.nil)) fun a6 a8 b0=> ?_
 refine rO (bM 0 J) ?_;refine rO (bM 1 J) ?_;refine ab ?_;obtain ⟨b5,k,h⟩:=aa h;refine BJ (oC (xd k)) ?_;intro b6;refine sY ?_;refine gH J h ?_ ?_<;>intro h
 ·exact eY
 refine ab ?_;obtain ⟨b7,k,h⟩:=aa h;refine BJ (oC (xQ k)) ?_;exact eN
def Ab (N:Nat)(a0:ByteArray):Option Vs:=
 some (⟨1,0,a0⟩:Vs)
theorem Da {N:Nat}{a0:ByteArray}{r:Vs}(h:Ab N a0=some r):Okc VK 29 [.string a0] ([]) (fun u post=>u=(nq r)/\post=[]):=by
 refine bX Tryz.func29 ?_;intro B1;exact eY
def wu (N:Nat)(p7:Int):Option (Int×Bool):=
 bif decide (4294967294<p7) then (some (0,false)) else (some (p7,true))
def sM (N:Nat)(a0:ByteArray):Nat->Int->Int->Option (Int×Bool)
 |0,_,_=>none
 |m8+1,p9,a6=>bif decide (a6<(a0.size:Int)) then ((HZ a0 a6).bind fun b0=>(bif decide (b0<48) then (some true) else ((HZ a0 a6).bind fun b5=>some (decide (57<b5)))).bind fun b6=>bif b6 then (some (0,false)) else (aD (in64 (10*p9)) ((HZ a0 a6).bind fun a8=>aD (in64 ((10*p9)+(IntKind.i64.wrap (IntKind.u8.wrap (a8 - 48))))) (aD (in64 (a6+1)) ((sM N a0 m8) ((10*p9)+(IntKind.i64.wrap (IntKind.u8.wrap (a8 - 48)))) (a6+1)))))) else (wu N p9)
def uL (a0:ByteArray):Option (Int×Bool):=
 (bif a0.toList==(⟨#[]⟩:ByteArray).toList then (some true) else (some (decide (10<(a0.size:Int))))).bind fun b1=>(bif b1 then (some true) else ((HZ a0 0).bind fun x3=>(bif decide (x3=48) then (some (decide (1<(a0.size:Int)))) else (some false)).bind fun b4=>some b4)).bind fun b2=>bif b2 then (some (0,false)) else (sM N a0 N 0 0)
theorem HU {N:Nat}{a0:ByteArray}{r:Int×Bool}(h:uL N a0=some r):Okc VK 129 [.string a0] ([]) (fun u post=>u=.tuple #[iV r.1,.bool r.2]/\post=[]):=by
 refine bX Tryz.func129 ?_;refine sZ ?_;refine dK (rG J J) ?_
 refine BK 4 12 8 h (fun _ g1 h=> ?_) fun b1 h=> ?_
 ·refine ab ?_;refine ie (sO J U0) J (km g1 J) J ?_;exact gY
 refine ab ?_
 refine BK 9 22 13 h (fun _ g2 h=> ?_) fun b2 h=> ?_
 ·refine ab ?_;obtain ⟨x3,b7,h⟩:=aa h;refine ie (zg J J U0 b7) J (km g2 J) J ?_;refine ab ?_
  refine qi 4 21 17 h (fun _ g4 h=> ?_) fun b4 h=> ?_
  ·refine ab ?_;refine ie (sO J U0) J (ew g4 J) J ?_;exact gY
  exact gY
 refine dU h ?_ ?_<;>intro h
 ·exact eY
 refine ab ?_;refine ak (fun s L=> ∃p7,wu N p7=some r/\s=[(2,iV 0),(3,.bool false),(4,iV p7)]/\L=[]) ?_ ?_
 ·refine ab ?_;refine dK (sO J U0) ?_;refine lK (fun m s L=> ∃(p9:Int) (a6:Int),sM N a0 m p9 a6=some r/\s=[(0,.string a0),(2,iV 0),(3,.bool false),(4,iV p9),(24,iV (a0.size:Int)),(25,iV a6)]/\L=[]) N ?_;rintro m8 _ _ ⟨p9,a6,h,rfl,rfl⟩;rw [sM.eq_2] at h;refine ab ?_;refine au ?_;refine gH J h ?_ ?_<;>intro h
  ·refine sY ?_;refine sZ ?_;obtain ⟨c0,a8,h⟩:=aa h;refine dK (zg J J U0 a8) ?_
   refine BK 5 37 32 h (fun _ b9 h=> ?_) fun d0 h=> ?_
   ·refine ab ?_;obtain ⟨d1,b0,h⟩:=aa h;refine ie (zg J J U0 b0) J (km b9 J) J ?_;exact gY
   refine dU h ?_ ?_<;>intro h
   ·exact eY
   refine ab ?_;obtain ⟨b6,h⟩:=ac h;refine dK (nr J J b6.1 b6.2) ?_;obtain ⟨d2,b5,h⟩:=aa h;refine gE (zg J J U0 b5) ?_;refine gE (QI J J) ?_;refine gE (BX J J z9) ?_;obtain ⟨d3,h⟩:=ac h;refine ab ?_;obtain ⟨d4,h⟩:=ac h;exact lY
  exact jY
 rintro _ _ ⟨p7,h,rfl,rfl⟩;refine sZ ?_;refine gH J h ?_ ?_<;>intro h
 ·exact eY
 exact eY
def cW (a0:Vs):Option Bool:=
 bif decide (a0.Xw=0) then ((bif a0.S.toList==(⟨#[]⟩:ByteArray).toList then (some (decide (0<=a0.N))) else (some false)).bind fun b3=>(bif b3 then (some (decide (a0.N<=4294967294))) else (some false)).bind fun b4=>some b4) else (bif decide (a0.Xw=1) then ((uL N a0.S).bind fun y6=>(bif decide (a0.N=0) then (some (decide ((a0.S.size:Int)<=65536))) else (some false)).bind fun b7=>(bif b7 then (some (!y6.2)) else (some false)).bind fun b8=>some b8) else (bif decide (a0.Xw=2) then ((bif a0.S.toList==(⟨#[]⟩:ByteArray).toList then (some (decide (1<=a0.N))) else (some false)).bind fun a6=>some a6) else (some false)))
theorem sL {N:Nat}{a0:Vs}{r:Bool}(h:cW N a0=some r):Okc VK 85 [(nq a0)] ([]) (fun u post=>u=.bool r/\post=[]):=by
 refine bX Tryz.func85 ?_;intro B1;refine sY ?_;refine gH J h ?_ ?_<;>intro h
 ·refine ab ?_;refine dK (rG J J) ?_;refine gS 4 16 12 h ?_;intro b3 h;refine ab ?_;refine gS 4 21 17 h ?_;intro b4 h;exact eY
 refine dU h ?_ ?_<;>intro h
 ·refine cR h (fun _ k=>HU k) fun y6 h=> ?_
  refine qi 5 38 33 h (fun _ g7 h=> ?_) fun b7 h=> ?_
  ·refine ab ?_;refine ie (sO J U0) J (ew g7 J) J ?_;exact gY
  refine ab ?_;refine gS 3 42 39 h ?_;intro b8 h;exact eY
 refine dU h ?_ ?_<;>intro h
 ·refine ab ?_;refine dK (rG J J) ?_;refine gS 4 52 48 h ?_;intro a6 h;exact eY
 exact eY
def bZ (N:Nat)(a0:Vj):Option Unit:=
 some ()
theorem xa {N:Nat}{r:Unit}(h:bZ N a0=some r):Okc VK 49 [pV B1 0] ([aC B1 85 (ub a0 B2 B3 A4 n4 c4 A5 n5 c5 A6 n6 c6),pDHeap B2 a0.XF,pDTable B3 a0.XH,iI uy (W A4 n4 c4) a0.XS,iI oz (W A5 n5 c5) a0.XT,iI uy (W A6 n6 c6) a0.XU]) (fun u post=>u=pV B3 0/\post=[]):=by
 refine bX Tryz.func49 ?_;refine sZ ?_;refine dK (dz J U1) ?_;refine cP J ?_;exact eY
theorem dm {N:Nat}{r:Unit}(h:bZ N a0=some r){B1 B2 B3:Nat}:Okc VK 49 [pV B1 0] ([pDWorld B1 B2 B3 a0]) (fun u post=>u=pV B3 0/\post=[]):=NZ 0 rfl (fun _=>xa h)
def eP (N:Nat)(a0:Vi)(a1:Int):Option Bool:=
 (bif decide (0<=a1) then (some (decide (a1<(a0.XH.length:Int)))) else (some false)).bind fun b4=>some b4
theorem oP {N:Nat}{a0:Vi}{r:Bool}(h:eP N a0 a1=some r):Okc VK 180 [pV B1 0,iV a1] ([aC B1 191 [W A2 n2 c2,.map (some M3)],iI bn (W A2 n2 c2) a0.XH,mY d8 sC M3 a0.XV]) (fun u post=>u=.bool r/\post=[]):=by
 refine bX Tryz.func180 ?_;refine dK (td J Tryz.underlying81) ?_;refine gS 8 19 11 h ?_;intro b4 h;exact eY
def su (N:Nat):Option (Int×Int×Bool):=
 some (0,0,false)
def jD (N:Nat)(a0:Vi)(a2:Vs):Nat->Int->Int->Int->ByteArray->Int->Int->Option (Int×Int×Bool)
 |0,_,_,_,_,_,_=>none
 |b0+1,b5,p13,b6,b7,b9,a8=>bif decide (0<a8) then (bif decide ((⟨p13,b6,b7⟩:Vs)=a2) then (aD (in64 (a8 - 1)) (some (a8 - 1,b9,true))) else ((ao a0.XH b5).bind fun a6=>(jD N a0 a2 b0) a6.Up a6.XI.Xw a6.XI.N a6.XI.S a6.XE a6.XX)) else (su N)
def dr (a0:Vi)(a1:Int)(a2:Vs):Option (Int×Int×Bool):=
 (eP N a0 a1).bind fun y5=>bif !y5 then (some (0,0,false)) else ((ao a0.XH a1).bind fun x8=>jD N a0 a2 N x8.Up x8.XI.Xw x8.XI.N x8.XI.S x8.XE x8.XX)
theorem kw {N:Nat}{a0:Vi}{a2:Vs}{r:Int×Int×Bool}(h:dr N a0 a1 a2=some r):Okc VK 137 [pV B1 0,iV a1,(nq a2)] ([aC B1 191 [W A2 n2 c2,.map (some M3)],iI bn (W A2 n2 c2) a0.XH,mY d8 sC M3 a0.XV]) (fun u post=>u=.tuple #[iV r.1,iV r.2.1,.bool r.2.2]/\post=[]):=by
 refine bX Tryz.func137 ?_;intro B4;refine sY ?_
 refine cR h (fun _ k=>oP k) fun y5 h=> ?_
 refine gH J h ?_ ?_<;>intro h
 ·exact eY
 refine ab ?_;refine ak (fun s L=>su N=some r/\s=[(6,iV 0),(7,iV 0),(8,.bool false)]/\L=[]) ?_ ?_
 ·refine ab ?_;obtain ⟨x8,d2,d3,d4,h⟩:=aI h
  refine dD fun B9=> ?_
  refine lK (fun m s L=> ∃(b0:Int) (p13:Int) (a6:Int) (a8:ByteArray) (b5:Int) (b6:Int) (b7:Nat),jD N a0 a2 m b0 p13 a6 a8 b5 b6=some r/\s=[(0,pV B1 0),(5,pV B4 0),(6,iV 0),(7,iV 0),(8,.bool false),(9,pV b7 0)]/\L=[ae b7 159 [iV b0,iV p13,iV a6,.string a8,iV b5,iV b6],iI bn (W A2 n2 c2) a0.XH,mY d8 sC M3 a0.XV,aC B1 191 [W A2 n2 c2,.map (some M3)],ae B4 34 (BD a2)]) N ?_;rintro d6 _ _ ⟨b0,p13,a6,a8,b5,b6,b7,h,rfl,rfl⟩;rw [jD.eq_2] at h;refine sZ ?_;refine gH J h ?_ ?_<;>intro h
  ·refine sY ?_;refine dK (OJ (x:=(⟨p13,a6,a8⟩:Vs)) (y:=a2) J J) ?_;refine gH J h ?_ ?_<;>intro h
   ·refine dY [] ?_;refine ab ?_;obtain ⟨e0,h⟩:=ac h;exact eY
   refine sY ?_;intro e1;refine ab ?_;refine bi I _ (ah _) ?_;refine ab ?_;obtain ⟨b9,c0,d0,d1,h⟩:=aI h;refine ab ?_;refine oN 8 J I I (ar (us:=D5 b9) (cs':=D5 b9) 0 J J J J size159.out J J J) ?_;rintro _ _ rfl;exact lY
  exact jY
 rintro _ _ ⟨h,rfl,rfl⟩;exact eY
theorem wY {N:Nat}{a0:Vi}{a2:Vs}{r:Int×Int×Bool}(h:dr N a0 a1 a2=some r):Okc VK 137 [pV B1 0,iV a1,(nq a2)] ([pDTable B1 a0]) (fun u post=>u=.tuple #[iV r.1,iV r.2.1,.bool r.2.2]/\post=[]):=NZ 0 rfl (fun _=>kw h)
def ml (N:Nat)(a2:Vs)(a3 a6 a8:Int)(b0:ByteArray)(b5 p21:Int)(b6:ByteArray):Option Vk:=
 some (⟨a2,a3,(⟨0,0,⟨#[]⟩⟩:Vp),(⟨a6,a8,b0⟩:Vp),(⟨b5,p21,b6⟩:Vp)⟩:Vk)
def fh (a0:Vo)(a1:Int)(a2:Vs)(a3:Int):Option Vk:=
 aD (in64 (a1+1)) (bif decide ((a0.XG.Xy.length:Int)<=a1+1) then (some (⟨a2,a3,(⟨0,0,⟨#[]⟩⟩:Vp),(⟨0,0,⟨#[]⟩⟩:Vp),(⟨0,0,⟨#[]⟩⟩:Vp)⟩:Vk)) else (aD (in64 (a1+1)) ((ao a0.XG.Xy (a1+1)).bind fun b5=>bif decide (aq .i64 a3 8=0) then (some (⟨a2,a3,b5,(⟨0,0,⟨#[]⟩⟩:Vp),(⟨0,0,⟨#[]⟩⟩:Vp)⟩:Vk)) else ((aE N a0.w_ b5).bind fun a6=>bif decide ((a6.Xy.length:Int)=2) then ((ao a6.Xy 0).bind fun a8=>(ao a6.Xy 1).bind fun b0=>ml N a2 a3 a8.Xw a8.N a8.S b0.Xw b0.N b0.S) else (ml N a2 a3 0 0 (⟨#[]⟩) 0 0 (⟨#[]⟩))))))
theorem rx {N:Nat}{a0:Vo}{a2:Vs}{r:Vk}(h:fh N a0 a1 a2 a3=some r){B6:Nat}:Okc VK 52 [pV B1 0,iV a1,(nq a2),iV a3] ([aC B1 103 [iV a0.XG.Xw,iV a0.XG.XD,iV a0.XG.XB,iV a0.XG.XC,W A2 n2 c2,W A3 n3 c3,pV B4 0,iV a0.at_.Xw,iV a0.at_.N,.string a0.at_.S],aZ A2 n2 c2 a0.XG.Xy,aZ A3 n3 c3 a0.XG.Xx,pDWorld B4 B5 B6 a0.w_]) (fun u post=>u=(oW r)/\post=[]):=by
 refine bX Tryz.func52 ?_;intro B7
 refine dD fun B8=> ?_
 intro B9;refine sY ?_;obtain ⟨g5,h⟩:=ac h;refine dU h ?_ ?_<;>intro h
 ·exact eY
 refine ab ?_;obtain ⟨g6,h⟩:=ac h;refine ab ?_;obtain ⟨a8,e4,e5,e6,h⟩:=aI h
 refine dD fun d3=> ?_
 refine sZ ?_;refine dK (cy J J) ?_;refine gH J h ?_ ?_<;>intro h
 ·exact eY
 refine ab ?_;refine ak (fun s L=> ∃d4 d6 e0 e1 p21 e2,ml N a2 a3 d4 d6 e0 e1 p21 e2=some r/\s=[(8,pV B8 0),(9,pV B9 0)]/\L=[ae B8 48 [iV 0,iV 0,.string (⟨#[]⟩),iV 0,iV 0,iV 0,.string (⟨#[]⟩),iV 0,iV 0,.string (⟨#[]⟩),iV 0,iV 0,.string (⟨#[]⟩)],ae B9 48 [iV a2.Xw,iV a2.N,.string a2.S,iV a3,iV 0,iV 0,.string (⟨#[]⟩),iV d4,iV d6,.string e0,iV e1,iV p21,.string e2]]) ?_ ?_
 ·refine au ?_;obtain ⟨a6,e3,h⟩:=aa h;refine gK (t:=[(0,pV B1 0),(8,pV B8 0),(9,pV B9 0),(10,pV d3 0)]) ?_ lg (ah _)
  refine gX I 7 [] [5,6] [40,41,42,43,44,45,11] [[],[0],[1],[2],[],[3,4],[]] [aV (pV B1 0),
aV (pV B1 0),
aV (pV B1 6),
aV (pV B4 0),
aV (.agg #[iV a8.Xw,iV a8.N,.string a8.S]),
aX6 (fun (b0:Option Addr) (b5 b6:Nat) (b7:Option Addr) (b9 c0:Nat)=> .agg #[iV a6.Xw,iV a6.XD,iV a6.XB,iV a6.XC,W b0 b5 b6,W b7 b9 c0]) (fun b0 b5 b6 b7 b9 c0=> [aB b0 b5 b6 a6.Xy,aB b7 b9 c0 a6.Xx]),
aX1 (fun (d1:Nat)=>pV d1 0) (fun d1=> [ae d1 45 [iV 0,iV 0,iV 0,iV 0,W none 0 0,W none 0 0]])] [] (ah _) (kQ) I rfl rfl ?_ ?_ ?_
  ·exact kP
  ·refine aH J ?_ ?_
   ·refine xh (cF zero45.out J) J ?_;rintro _ _ ⟨e7,rfl,rfl⟩;exact R5 e7 (ah _)
   refine aH J ?_ ?_
   ·refine xh (oR (fE e3)) J ?_;rintro _ _ ⟨_,⟨e8,e9,f1,f2,f3,f4,rfl,rfl⟩,rfl⟩;exact R4 e8 e9 f1 f2 f3 f4 (ah _)
   refine qR (ja (us:=[iV a8.Xw,iV a8.N,.string a8.S]) 0 J J agg29.out J) ?_;refine qR (Ba 4 J J GH J) ?_;refine qE (jS J Jp) ?_;refine qE (bF J) ?_;refine qE (ap J) ?_;exact dl
  intro b0 b5 b6 b7 b9 c0 d1;refine nw (t:=[(45,.agg #[iV a6.Xw,iV a6.XD,iV a6.XB,iV a6.XC,W b0 b5 b6,W b7 b9 c0]),(11,pV d1 0),(0,pV B1 0),(8,pV B8 0),(9,pV B9 0),(10,pV d3 0)]) (L':=[aB b0 b5 b6 a6.Xy,aB b7 b9 c0 a6.Xx,ae d1 45 [iV 0,iV 0,iV 0,iV 0,W none 0 0,W none 0 0],ae d3 29 [iV a8.Xw,iV a8.N,.string a8.S],ae B9 48 [iV a2.Xw,iV a2.N,.string a2.S,iV a3,iV 0,iV 0,.string (⟨#[]⟩),iV 0,iV 0,.string (⟨#[]⟩),iV 0,iV 0,.string (⟨#[]⟩)],ae B8 48 [iV 0,iV 0,.string (⟨#[]⟩),iV 0,iV 0,iV 0,.string (⟨#[]⟩),iV 0,iV 0,.string (⟨#[]⟩),iV 0,iV 0,.string (⟨#[]⟩)],ae B7 34 (BD a2),aC B1 103 [iV a0.XG.Xw,iV a0.XG.XD,iV a0.XG.XB,iV a0.XG.XC,W A2 n2 c2,W A3 n3 c3,pV B4 0,iV a0.at_.Xw,iV a0.at_.N,.string a0.at_.S],aZ A2 n2 c2 a0.XG.Xy,aZ A3 n3 c3 a0.XG.Xx,pDWorld B4 B5 B6 a0.w_]) ?_ lg (ah _);refine rN 7 J I (ar (us:=(ga a6 b0 b5 b6 b7 b9 c0)) (cs':=(ga a6 b0 b5 b6 b7 b9 c0)) 2 J J J J size45.out J J J) J J ?_;rintro _ _ rfl;refine xW ?_;refine lc I ?_;refine dU h ?_ ?_<;>intro h
  ·refine bi I ([aB b0 b5 b6 a6.Xy,aB b7 b9 c0 a6.Xx,ae d1 45 (ga a6 b0 b5 b6 b7 b9 c0),ae d3 29 [iV a8.Xw,iV a8.N,.string a8.S],ae B8 48 [iV 0,iV 0,.string (⟨#[]⟩),iV 0,iV 0,iV 0,.string (⟨#[]⟩),iV 0,iV 0,.string (⟨#[]⟩),iV 0,iV 0,.string (⟨#[]⟩)],ae B7 34 (BD a2),aC B1 103 [iV a0.XG.Xw,iV a0.XG.XD,iV a0.XG.XB,iV a0.XG.XC,W A2 n2 c2,W A3 n3 c3,pV B4 0,iV a0.at_.Xw,iV a0.at_.N,.string a0.at_.S],aZ A2 n2 c2 a0.XG.Xy,aZ A3 n3 c3 a0.XG.Xx,pDWorld B4 B5 B6 a0.w_]) (cS [0,1,2,3,5,6,7,8,9,10] 11) ?_;refine ab ?_;obtain ⟨d0,f9,g0,g1,h⟩:=aI h;refine ab ?_;obtain ⟨d2,g2,g3,g4,h⟩:=aI h;refine ab ?_;refine zO 9 J (ar (us:=[iV d0.Xw,iV d0.N,.string d0.S]) (cs':=[iV a2.Xw,iV a2.N,.string a2.S,iV a3,iV 0,iV 0,.string (⟨#[]⟩),iV d0.Xw,iV d0.N,.string d0.S,iV 0,iV 0,.string (⟨#[]⟩)]) 4 J J J J size29.out J J J) ?_;rintro _ _ rfl;refine aW ?_;refine ab ?_;refine zO 11 J (ar (us:=[iV d2.Xw,iV d2.N,.string d2.S]) (cs':=[iV a2.Xw,iV a2.N,.string a2.S,iV a3,iV 0,iV 0,.string (⟨#[]⟩),iV d0.Xw,iV d0.N,.string d0.S,iV d2.Xw,iV d2.N,.string d2.S]) 4 J J J J size29.out J J J) ?_;rintro _ _ rfl;refine aW ?_;exact jY
  exact jY
 rintro _ _ ⟨d4,d6,e0,e1,p21,e2,h,rfl,rfl⟩;exact eY
def cL (a0:Vo)(a1:Vs):Option (Vk×Int×Bool):=
 (bZ N a0.w_).bind fun y9=>(dr N a0.w_.XH a0.XG.XD a1).bind fun a6=>bif !a6.2.2 then (some ((⟨(⟨0,0,⟨#[]⟩⟩:Vs),0,(⟨0,0,⟨#[]⟩⟩:Vp),(⟨0,0,⟨#[]⟩⟩:Vp),(⟨0,0,⟨#[]⟩⟩:Vp)⟩:Vk),0,false)) else ((fh N a0 a6.1 a1 a6.2.1).bind fun a8=>some (a8,a6.1,true))
theorem nO {N:Nat}{a0:Vo}{a1:Vs}{r:Vk×Int×Bool}(h:cL N a0 a1=some r){B6:Nat}:Okc VK 89 [pV B1 0,(nq a1)] ([aC B1 103 [iV a0.XG.Xw,iV a0.XG.XD,iV a0.XG.XB,iV a0.XG.XC,W A2 n2 c2,W A3 n3 c3,pV B4 0,iV a0.at_.Xw,iV a0.at_.N,.string a0.at_.S],aZ A2 n2 c2 a0.XG.Xy,aZ A3 n3 c3 a0.XG.Xx,pDWorld B4 B5 B6 a0.w_]) (fun u post=>u=.tuple #[(oW r.1),iV r.2.1,.bool r.2.2]/\post=[]):=by
 refine bX Tryz.func89 ?_;intro B7
 refine dD fun B8=> ?_
 refine dY [0,1,2,3,5,6,7,8,9,10] ?_;obtain ⟨y9,k,h⟩:=aa h;refine zD 4 J (oR (dm k)) ?_;rintro _ _ ⟨_,⟨rfl,rfl⟩,rfl⟩;refine ⟨_,ah _,ah _,?_⟩;obtain ⟨a6,k,h⟩:=aa h;refine zD 11 J (oR (wY k)) ?_;rintro _ _ ⟨_,⟨rfl,rfl⟩,rfl⟩;refine ⟨_,ah _,ah _,?_⟩;refine zX [12,13,14,15,16,17,18] ?_;refine sY ?_;refine gH J h ?_ ?_<;>intro h
 ·exact eY
 refine cR h (fun _ k=>rx k) fun a8 h=> ?_
 exact eN
def nA (a0:Vi)(a1:Int):Option (Vq×Bool):=
 (eP N a0 a1).bind fun y5=>bif !y5 then (some ((⟨0,(⟨0,0,⟨#[]⟩⟩:Vs),0,0⟩:Vq),false)) else ((ao a0.XH a1).bind fun x7=>some (x7,true))
theorem AQ {N:Nat}{a0:Vi}{r:Vq×Bool}(h:nA N a0 a1=some r):Okc VK 177 [pV B1 0,iV a1] ([aC B1 191 [W A2 n2 c2,.map (some M3)],iI bn (W A2 n2 c2) a0.XH,mY d8 sC M3 a0.XV]) (fun u post=>u=.tuple #[(Qb r.1),.bool r.2]/\post=[]):=by
 refine bX Tryz.func177 ?_;intro B4;refine sY ?_
 refine cR h (fun _ k=>oP k) fun y5 h=> ?_
 refine gH J h ?_ ?_<;>intro h
 ·exact eY
 refine ab ?_;obtain ⟨x7,a6,a8,b0,h⟩:=aI h;exact eY
def eQ (a0:Vi)(a1:Int):Option Int:=
 (nA N a0 a1).bind fun y4=>some y4.1.XX
theorem oQ {N:Nat}{a0:Vi}{r:Int}(h:eQ N a0 a1=some r):Okc VK 130 [pV B1 0,iV a1] ([aC B1 191 [W A2 n2 c2,.map (some M3)],iI bn (W A2 n2 c2) a0.XH,mY d8 sC M3 a0.XV]) (fun u post=>u=iV r/\post=[]):=by
 refine bX Tryz.func130 ?_
 refine cR h (fun _ k=>AQ k) fun y4 h=> ?_
 intro B5;exact eY
theorem xt {N:Nat}{a0:Vi}{r:Int}(h:eQ N a0 a1=some r):Okc VK 130 [pV B1 0,iV a1] ([pDTable B1 a0]) (fun u post=>u=iV r/\post=[]):=NZ 0 rfl (fun _=>oQ h)
def o9 (N:Nat)(a0:Int):Option Bool:=
 (bif decide (0<=a0) then (some (decide (a0<=15))) else (some false)).bind fun b1=>(bif b1 then (some (!decide (aq .i64 a0 9=9))) else (some false)).bind fun b2=>some b2
theorem Hu {N:Nat}{a0:Int}{r:Bool}(h:o9 N a0=some r):Okc VK 189 [iV a0] ([]) (fun u post=>u=.bool r/\post=[]):=by
 refine bX Tryz.func189 ?_;refine gS 3 8 5 h ?_;intro b1 h;refine ab ?_
 refine qi 4 13 9 h (fun _ g2 h=> ?_) fun b2 h=> ?_
 ·refine ab ?_;refine ie (cy J J) J (ew g2 J) J ?_;exact gY
 exact eY
def fc (a0:Vi)(a1:Int)(a2:Vs)(a3:Int):Option Int:=
 (eP N a0 a1).bind fun y5=>bif !y5 then (some 2) else ((cW N a2).bind fun y7=>(bif !y7 then (some true) else ((o9 N a3).bind fun y9=>some (!y9))).bind fun b8=>bif b8 then (some 1) else (some 0))
theorem mW {N:Nat}{a0:Vi}{a2:Vs}{r:Int}(h:fc N a0 a1 a2 a3=some r):Okc VK 143 [pV B1 0,iV a1,(nq a2),iV a3] ([aC B1 191 [W A2 n2 c2,.map (some M3)],iI bn (W A2 n2 c2) a0.XH,mY d8 sC M3 a0.XV]) (fun u post=>u=iV r/\post=[]):=by
 refine bX Tryz.func143 ?_;intro B4;refine sY ?_;refine dK (dz J Tryz.underlying81) ?_;refine cP J ?_
 refine cR h (fun _ k=>oP k) fun y5 h=> ?_
 refine gH J h ?_ ?_<;>intro h
 ·exact eY
 refine cR h (fun _ k=>sL k) fun y7 h=> ?_
 refine BK 4 25 21 h (fun _ g8 h=> ?_) fun b8 h=> ?_
 ·refine cR h (fun _ k=>Hu k) fun y9 h=> ?_
  exact gY
 refine dU h ?_ ?_<;>intro h
 ·exact eY
 exact eY
def sq (N:Nat)(a6:Int)(p21:List Vq)(a8:(List (Vu×Int))):Option (Int×Int×Vi):=
 some (a6,0,(⟨p21,a8⟩:Vi))
def kr (N:Nat)(p7:List Vq):Nat->Int->Int->(List Vq)->(List (Vu×Int))->Option (Int×Int×Vi)
 |0,_,_,_,_=>none
 |b9+1,a8,b6,b0,b7=>bif decide (b6<(p7.length:Int)) then ((ao p7 b6).bind fun a6=>(ao b0 a8).bind fun b5=>aD (in64 (b5.XX+1)) (aD (bY (b0.length+([(⟨a8,a6.XI,a6.XE,b5.XX+1⟩:Vq)]:List Vq).length)) (aD (in64 (((b0++([(⟨a8,a6.XI,a6.XE,b5.XX+1⟩:Vq)]:List Vq)).length:Int) - 1)) (aD (in64 (b6+1)) ((kr N p7 b9) (((b0++([(⟨a8,a6.XI,a6.XE,b5.XX+1⟩:Vq)]:List Vq)).length:Int) - 1) (b6+1) (b0++([(⟨a8,a6.XI,a6.XE,b5.XX+1⟩:Vq)]:List Vq)) (wI b7 (⟨a8,a6.XI,a6.XE⟩:Vu) (b0.length:Int))))))) else (sq N a8 b0 b7)
def fN (a0:Vi)(p6:Int)(p7:List Vq):Option (Int×Int×Vi):=
 aD (in64 (1073741824 - (a0.XH.length:Int))) (bif decide (1073741824 - (a0.XH.length:Int)<(p7.length:Int)) then (some (0,5,a0)) else (kr N p7 N p6 0 a0.XH a0.XV))
def ly (N:Nat)(a0:Vi):Nat->Int->(List Vq)->Option (Int×Int×Vi)
 |0,_,_=>none
 |m8+1,p9,a6=>bif decide (0<(a6.length:Int)) then ((ao a6 0).bind fun a8=>(ao a6 0).bind fun b0=>bif !((lk a0.XV (⟨p9,a8.XI,b0.XE⟩:Vu)).isSome) then (fN N a0 p9 a6) else (aD ((0:Int)<=1/\(1:Int).toNat<=a6.length/\a6.length<=a6.length) ((ly N a0 m8) ((lk a0.XV (⟨p9,a8.XI,b0.XE⟩:Vu)).getD 0) ((a6.drop ((1:Int).toNat)).take (a6.length - (1:Int).toNat))))) else (fN N a0 p9 a6)
def jC (a0:Vi)(a1:Int)(a2:List Vq):Option (Int×Int×Vi):=
 ly N a0 N a1 a2
theorem oO {N:Nat}{a0:Vi}{a2:List Vq}{r:Int×Int×Vi}(h:jC N a0 a1 a2=some r):Okc VK 144 [pV B1 0,iV a1,W A4 n4 c4] ([iI bn (W A4 n4 c4) a2,ae B1 191 [W A2 n2 c2,.map (some M3)],bh bn 159 (W A2 n2 c2) a0.XH,ax d8 sC M3 a0.XV]) (fun u post=> ∃A0 n0 c0 M1,u=.tuple #[iV r.1,iV r.2.1]/\post=[ae B1 191 [W A0 n0 c0,.map (some M1)],bh bn 159 (W A0 n0 c0) r.2.2.XH,ax d8 sC M1 r.2.2.XV]):=by
 refine bX Tryz.func144 ?_;refine ak (fun s L=> ∃p6 p7 A7 n7 c7,fN N a0 p6 p7=some r/\s=[(0,pV B1 0),(6,iV 0),(7,iV 0),(8,iV p6),(9,W A7 n7 c7)]/\L=[iI bn (W A7 n7 c7) p7,bh bn 159 (W A2 n2 c2) a0.XH,ax d8 sC M3 a0.XV,ae B1 191 [W A2 n2 c2,.map (some M3)]]) ?_ ?_
 ·refine ab ?_;refine lK (fun m s L=> ∃(p9:Int) (e1:List Vq) (e4:Option Addr) (e5 e6:Nat),ly N a0 m p9 e1=some r/\s=[(0,pV B1 0),(6,iV 0),(7,iV 0),(8,iV p9),(9,W e4 e5 e6)]/\L=[iI bn (W e4 e5 e6) e1,bh bn 159 (W A2 n2 c2) a0.XH,ax d8 sC M3 a0.XV,ae B1 191 [W A2 n2 c2,.map (some M3)]]) N ?_;rintro m8 _ _ ⟨p9,e1,e4,e5,e6,h,rfl,rfl⟩;rw [ly.eq_2] at h;refine sZ ?_;refine gH J h ?_ ?_<;>intro h
  ·refine ab ?_;refine dY [] ?_;refine ab ?_;obtain ⟨g6,e7,e8,g7,h⟩:=aI h;refine ab ?_;refine zR 7 J (lQ 0 J bU J (toNat_lt e7 e8) Fz) ?_;refine ab ?_;obtain ⟨g8,e9,f1,g9,h⟩:=aI h;refine ab ?_;refine zR 11 J (lQ 0 J bU J (toNat_lt e9 f1) BT) ?_;refine ab ?_;refine zR 14 J (tD (a:=(⟨p9,g6.XI,g8.XE⟩:Vu)) (z:=0) 2 J wp J J Tryz.underlying189 Fh zero3.out) ?_;refine sY ?_;refine gH J h ?_ ?_<;>intro h
   ·refine ab ?_;refine Ug J ?_;exact jY
   refine ab ?_;refine bi I _ (ah _) ?_;refine zY [0,1] ?_;obtain ⟨e2,h⟩:=ac h;refine C8 0 J (l:=(1:Int).toNat) (h:=e1.length) e2.2.1 e2.2.2 ?_;rintro h8 h9 i0 h0;refine zR 2 J (yQ 1 J h0 J UX size159.out J (by rw [VX e2.1];rfl) e2.2.1) ?_;refine zX [3,4] ?_;exact lY
  exact jY
 rintro _ _ ⟨p6,p7,A7,n7,c7,h,rfl,rfl⟩;refine sZ ?_;obtain ⟨i1,h⟩:=ac h;refine dU h ?_ ?_<;>intro h
 ·exact eY
 refine ab ?_;refine ak (fun s L=> ∃f2 p21 f3 f4 f9 g0,sq N f2 p21 f3=some r/\s=[(6,iV 0),(7,iV 0),(8,iV f2)]/\L=[bh bn 159 (W f4 f9 g0) p21,ax d8 sC M3 f3,ae B1 191 [W f4 f9 g0,.map (some M3)]]) ?_ ?_
 ·refine ab ?_;refine lK (fun m s L=> ∃(a8:Int) (d3:Int) (b9:List Vq) (e3:(List (Vu×Int))) (b0:Option Addr) (b5 b6:Nat),kr N p7 m a8 d3 b9 e3=some r/\s=[(0,pV B1 0),(6,iV 0),(7,iV 0),(8,iV a8),(51,W A7 n7 c7),(52,iV (p7.length:Int)),(53,iV d3)]/\L=[iI bn (W A7 n7 c7) p7,bh bn 159 (W b0 b5 b6) b9,ax d8 sC M3 e3,ae B1 191 [W b0 b5 b6,.map (some M3)]]) N ?_;rintro i2 _ _ ⟨a8,d3,b9,e3,b0,b5,b6,h,rfl,rfl⟩;rw [kr.eq_2] at h;refine ab ?_;refine au ?_;refine gH J h ?_ ?_<;>intro h
  ·refine sY ?_;obtain ⟨a6,h1,h2,h3,h⟩:=aI h
   refine dD fun d4=> ?_
   refine dY [] ?_;refine ab ?_;refine oN 15 J I I (iv (a:=(⟨a8,a6.XI,a6.XE⟩:Vu)) (b:=(b9.length:Int)) 3 J J J J Tryz.underlying189 Fh) ?_;rintro _ _ rfl;refine ab ?_;refine au ?_;obtain ⟨b7,d6,e0,g1,h⟩:=aI h;obtain ⟨g2,h⟩:=ac h;refine gK (t:=[(0,pV B1 0),(6,iV 0),(7,iV 0),(8,iV a8),(13,pV d4 0),(51,W A7 n7 c7),(52,iV (p7.length:Int)),(53,iV d3)]) ?_ lg (ah _)
   refine gX I 21 [0] [0,4,20] [72,73,74,75,76,77,78,79,80,81,82,83,84,85,86,87,88,89,90,91,92] [[],[],[1],[2],[3],[],[],[6],[],[8],[],[10],[11],[12],[],[13,14],[15],[16],[17],[5,7,9,18],[19]] [aV (pV B1 0),
aV (pV B1 0),
aV (pV B1 0),
aV (pV B1 0),
aV (W b0 b5 b6),
aV (iV a8),
aV (pV d4 1),
aV ((nq a6.XI)),
aV (pV d4 4),
aV (iV a6.XE),
aV (pV B1 0),
aV (pV B1 0),
aV (pV B1 0),
aV (W b0 b5 b6),
aV (iV a8),
aV (dk (W b0 b5 b6) a8.toNat 6 0),
aV (dk (W b0 b5 b6) a8.toNat 6 5),
aV (iV b7.XX),
aV (iV (b7.XX+1)),
aV (.agg #[iV a8,iV a6.XI.Xw,iV a6.XI.N,.string a6.XI.S,iV a6.XE,iV (b7.XX+1)]),
aX3 (fun (d0:Option Addr) (d1 d2:Nat)=> W d0 d1 d2) (fun d0 d1 d2=> [bh bn 159 (W d0 d1 d2) ([(⟨a8,a6.XI,a6.XE,b7.XX+1⟩:Vq)]:List Vq)])] [] (ah _) (gN rfl kQ) I rfl rfl ?_ ?_ ?_
   ·refine gM J ?_ ?_
    ·exact pn (ap J) J (ko J (ah _))
    exact kP
   ·refine aH J ?_ ?_
    ·refine xh (aL (R:=bn) (vss:=[[iV a8,iV a6.XI.Xw,iV a6.XI.N,.string a6.XI.S,iV a6.XE,iV (b7.XX+1)]]) (xs:=[(⟨a8,a6.XI,a6.XE,b7.XX+1⟩:Vq)]) J (C4 _ _ _ _ _ _) J J (fun _ _ hr=> .cons J All2.nil)) J ?_;rintro _ _ ⟨h4,h5,h6,rfl,rfl⟩;exact Ia h4 h5 h6 (ah _)
    refine qE (ns J (bld_159_0_1_2_3 _ _ _ _ _ _).out) ?_;refine qE (fU J J g2.1 g2.2) ?_;refine aH J ?_ ?_
    ·exact vU (kN (u:=iV b7.XX) 2 J aj J g1 xP (fun _ _ _ h=>by rw [show _=_ from h];rfl)) J (ko J (ah _))
    refine qR (lQ 2 J aj J (toNat_lt d6 e0) Fy) ?_;refine qR (cK 2 J aj J J UX size159.out d6 e0) ?_;refine qE (ap J) ?_;refine qR (bO 4 J J Ks J) ?_;refine qE (se J BS) ?_;refine qE (bF J) ?_;refine qE (ap J) ?_;refine qR (bO 0 J J xP J) ?_;refine qE (jS J BT) ?_;refine qR (ja (us:=BD a6.XI) 0 J J agg34.out J) ?_;refine qE (jS J Fz) ?_;refine qE (ap J) ?_;refine qR (bO 4 J J Ks J) ?_;refine qE (se J BS) ?_;refine qE (bF J) ?_;refine qE (ap J) ?_;refine qE (ap J) ?_;exact dl
   intro d0 d1 d2;refine nw (t:=[(72,pV B1 0),(76,W b0 b5 b6),(92,W d0 d1 d2),(0,pV B1 0),(6,iV 0),(7,iV 0),(8,iV a8),(13,pV d4 0),(51,W A7 n7 c7),(52,iV (p7.length:Int)),(53,iV d3)]) (L':=[bh bn 159 (W d0 d1 d2) ([(⟨a8,a6.XI,a6.XE,b7.XX+1⟩:Vq)]:List Vq),ae d4 159 (D5 a6),iI bn (W A7 n7 c7) p7,bh bn 159 (W b0 b5 b6) b9,ax d8 sC M3 (wI e3 (⟨a8,a6.XI,a6.XE⟩:Vu) (b9.length:Int)),ae B1 191 [W b0 b5 b6,.map (some M3)]]) ?_ lg (ah _);obtain ⟨h7,h⟩:=ac h;refine qj 21 J I (aP 3 0 J J aj J J UX Sr J J h7) J J J ?_;rintro _ _ ⟨g3,g4,g5,rfl,rfl⟩;refine DT 22 J I (bF J) J J J ?_;refine DT 23 J I (se J BS) J J J ?_;refine rN 24 J I (ar (us:=[W g3 g4 g5]) (cs':=[W g3 g4 g5,.map (some M3)]) 5 J J J J size156.out J J J) J J ?_;rintro _ _ rfl;refine xW ?_;refine lc I ?_;refine ab ?_;obtain ⟨i8,h⟩:=ac h;refine ab ?_;obtain ⟨j0,h⟩:=ac h;exact lY
  exact jY
 rintro _ _ ⟨f2,p21,f3,f4,f9,g0,h,rfl,rfl⟩;exact eY
def iS (a0:Vi)(a1:Int)(a2:Vs)(a3:Int):Option (Int×Int×Vi):=
 (fc N a0 a1 a2 a3).bind fun y5=>bif !decide (y5=0) then (some (0,y5,a0)) else ((dr N a0 a1 a2).bind fun y7=>bif y7.2.2 then (some (0,4,a0)) else ((eQ N a0 a1).bind fun y9=>bif decide (1024<=y9) then (some (0,9,a0)) else ((jC N a0 a1 ([(⟨0,a2,a3,0⟩:Vq)]:List Vq)).bind fun a6=>some (a6.1,a6.2.1,a6.2.2))))
theorem zp {N:Nat}{a0:Vi}{a2:Vs}{r:Int×Int×Vi}(h:iS N a0 a1 a2 a3=some r):Okc VK 131 [pV B1 0,iV a1,(nq a2),iV a3] ([ae B1 191 [W A2 n2 c2,.map (some M3)],bh bn 159 (W A2 n2 c2) a0.XH,ax d8 sC M3 a0.XV]) (fun u post=> ∃A0 n0 c0 M1,u=.tuple #[iV r.1,iV r.2.1]/\post=[ae B1 191 [W A0 n0 c0,.map (some M1)],bh bn 159 (W A0 n0 c0) r.2.2.XH,ax d8 sC M1 r.2.2.XV]):=by
 refine bX Tryz.func131 ?_;intro B4;refine sY ?_
 refine cR h (fun _ k=>mW k) fun y5 h=> ?_
 refine gH J h ?_ ?_<;>intro h
 ·exact eY
 refine sY ?_
 refine cR h (fun _ k=>kw k) fun y7 h=> ?_
 refine gH J h ?_ ?_<;>intro h
 ·exact eY
 refine sY ?_
 refine cR h (fun _ k=>oQ k) fun y9 h=> ?_
 refine gH J h ?_ ?_<;>intro h
 ·exact eY
 refine ab ?_;refine gD (aL (R:=bn) (vss:=[[iV 0,iV a2.Xw,iV a2.N,.string a2.S,iV a3,iV 0]]) (xs:=[(⟨0,a2,a3,0⟩:Vq)]) J (C4 _ _ _ _ _ _) J J (fun _ _ hr=> .cons J All2.nil)) ?_;rintro _ _ ⟨a6,a8,b0,rfl,rfl⟩;refine rO (bM 0 J) ?_;obtain ⟨b5,k,h⟩:=aa h;refine gD (oC (oO k)) ?_;rintro _ _ ⟨_,⟨b6,b7,b9,d0,rfl,rfl⟩,rfl⟩;exact eY
theorem wX {N:Nat}{a0:Vi}{a2:Vs}{r:Int×Int×Vi}(h:iS N a0 a1 a2 a3=some r):Okc VK 131 [pV B1 0,iV a1,(nq a2),iV a3] ([oDTable B1 a0]) (fun u post=>u=.tuple #[iV r.1,iV r.2.1]/\post=[oDTable B1 r.2.2]):=IV 0 rfl (fun _=>zp h)
def im (a0:Vo)(a1:Vk)(a2:Vp):Option (Vp×Vj):=
 bif decide (aq .i64 a1.XE 8=0) then (some (a1.Value,a0.w_)) else ((bif decide (a2.Xw=9) then ((aE N a0.w_ a2).bind fun a8=>some (decide (a8.Xw=5))) else (some false)).bind fun b0=>bif b0 then ((df N a0.w_ a2 (⟨5,0,0,0,([a1.XL,a1.XM]:List Vp),[]⟩:Vd)).bind fun b5=>some (a2,b5)) else ((cJ N a0.w_ (⟨5,0,0,0,([a1.XL,a1.XM]:List Vp),[]⟩:Vd)).bind fun a6=>some (a6.1,a6.2)))
theorem na {N:Nat}{a0:Vo}{a1:Vk}{a2:Vp}{r:Vp×Vj}(h:im N a0 a1 a2=some r){B6:Nat}:Okc VK 132 [pV B1 0,(oW a1),(aX a2)] ([ae B1 103 [iV a0.XG.Xw,iV a0.XG.XD,iV a0.XG.XB,iV a0.XG.XC,W A2 n2 c2,W A3 n3 c3,pV B4 0,iV a0.at_.Xw,iV a0.at_.N,.string a0.at_.S],aB A2 n2 c2 a0.XG.Xy,aB A3 n3 c3 a0.XG.Xx,oDWorld B4 B5 B6 a0.w_]) (fun u post=>u=.agg #[iV r.1.Xw,iV r.1.N,.string r.1.S]/\post=[oDWorld B4 B5 B6 r.2,ae B1 103 [iV a0.XG.Xw,iV a0.XG.XD,iV a0.XG.XB,iV a0.XG.XC,W A2 n2 c2,W A3 n3 c3,pV B4 0,iV a0.at_.Xw,iV a0.at_.N,.string a0.at_.S],aB A2 n2 c2 a0.XG.Xy,aB A3 n3 c3 a0.XG.Xx]):=by
 refine bX Tryz.func132 ?_;intro B7
 refine dD fun B8=> ?_
 intro B9;refine sY ?_;refine dK (cy J J) ?_;refine gH J h ?_ ?_<;>intro h
 ·exact eY
 refine ab ?_
 refine rP (aL (R:=av) (vss:=[(ed a1.XL),(ed a1.XM)]) (xs:=[a1.XL,a1.XM]) J (FO _ _ _ _ _ _) J J (fun _ _ hr=> .cons J (.cons J All2.nil))) fun b0 b5 b6=> ?_
 intro b7;refine ab ?_;refine au ?_;refine dY [0,1,2,3] ?_
 refine yJ [4,5,6,7,8,9,10,11,12] 0 23 32 h (fun _ a8 h rest=> ?_) (fun _ a8 h rest=> ?_) fun b9 h=> ?_
 ·refine yY [4,5,6,7,8] ?_;obtain ⟨c0,k,h⟩:=aa h;refine C7 9 J I (oR (fE k)) J (ew a8 J) J ?_;rintro _ _ ⟨_,⟨d0,d1,d2,d3,d4,d6,rfl,rfl⟩,rfl⟩;refine aW ?_;refine wR 10 J I (uh J (Ox _ _ _ _ _ _ _ _ _ _)) (ew a8 J) J ?_;refine yY [11,12] ?_;exact yS rest h
 ·refine yY [4,5,6,7,8,9,10,11,12] ?_;exact yS rest h
 refine dB I ?_;refine dU h ?_ ?_<;>intro h
 ·refine au ?_;refine bi I ([ae b7 45 [iV 5,iV 0,iV 0,iV 0,W b0 b5 b6,W none 0 0],ae B9 29 [iV 0,iV 0,.string (⟨#[]⟩)],ae B8 29 (ed a2),ae B7 48 (ki a1),ae B1 103 [iV a0.XG.Xw,iV a0.XG.XD,iV a0.XG.XB,iV a0.XG.XC,W A2 n2 c2,W A3 n3 c3,pV B4 0,iV a0.at_.Xw,iV a0.at_.N,.string a0.at_.S],aB A2 n2 c2 a0.XG.Xy,aB A3 n3 c3 a0.XG.Xx]) (cS [0,2,3,4,5,6,7] 9) ?_;refine ab ?_;refine lb (bM 1 J) (cS [0,2,3,4,5,6,7] 9) ?_;obtain ⟨e0,k,h⟩:=aa h;refine lb (pX av _) (cS [1,3,4,5,6,7,8] 10) ?_;refine zD 6 J (oC (xC k)) ?_;rintro _ _ ⟨_,⟨rfl,rfl⟩,rfl⟩;refine aW ?_;exact eY
 refine ab ?_;refine au ?_;refine bi I ([ae b7 45 [iV 5,iV 0,iV 0,iV 0,W b0 b5 b6,W none 0 0],ae B9 29 [iV 0,iV 0,.string (⟨#[]⟩)],ae B8 29 (ed a2),ae B7 48 (ki a1),ae B1 103 [iV a0.XG.Xw,iV a0.XG.XD,iV a0.XG.XB,iV a0.XG.XC,W A2 n2 c2,W A3 n3 c3,pV B4 0,iV a0.at_.Xw,iV a0.at_.N,.string a0.at_.S],aB A2 n2 c2 a0.XG.Xy,aB A3 n3 c3 a0.XG.Xx]) (cS [0,2,3,4,5,6,7] 9) ?_;refine ab ?_;refine lb (bM 1 J) (cS [0,2,3,4,5,6,7] 9) ?_;obtain ⟨a6,k,h⟩:=aa h;refine lb (pX av _) (cS [1,3,4,5,6,7,8] 10) ?_;refine zD 5 J (oC (xe k)) ?_;rintro _ _ ⟨_,⟨rfl,rfl⟩,rfl⟩;refine aW ?_;refine oN 6 J I I (ar (us:=[iV a6.1.Xw,iV a6.1.N,.string a6.1.S]) (cs':=[iV a6.1.Xw,iV a6.1.N,.string a6.1.S]) 4 J J J J size29.out J J J) ?_;rintro _ _ rfl;exact eY
def ii (N:Nat)(a0:Vj):Option Vj:=
 aD (in64 (a0.XR+1)) (some (⟨a0.XQ,a0.XK,(),a0.XF,a0.XH,a0.XS,a0.XR+1,a0.XY,a0.XZ,a0.XT,a0.XU⟩:Vj))
theorem xB {N:Nat}{r:Vj}(h:ii N a0=some r):Okc VK 136 [pV B1 0] ([ae B1 85 (ub a0 B2 B3 A4 n4 c4 A5 n5 c5 A6 n6 c6),oDHeap B2 a0.XF,oDTable B3 a0.XH,ir A4 n4 c4 a0.XS,sy A5 n5 c5 a0.XT,ir A6 n6 c6 a0.XU]) (fun u post=> ∃A0 n0 c0 A1 n1 c1 A2 n2 c2,u=.tuple #[]/\post=[ae B1 85 (ub r B2 B3 A0 n0 c0 A1 n1 c1 A2 n2 c2),oDHeap B2 r.XF,oDTable B3 r.XH,ir A0 n0 c0 r.XS,sy A1 n1 c1 r.XT,ir A2 n2 c2 r.XU]):=by
 refine bX Tryz.func136 ?_;refine dK (td J U1) ?_;refine cz J ?_;refine ab ?_;obtain ⟨q7,h⟩:=ac h;exact eY
theorem wg {N:Nat}{r:Vj}(h:ii N a0=some r){B1 B2 B3:Nat}:Okc VK 136 [pV B1 0] ([oDWorld B1 B2 B3 a0]) (fun u post=>u=.tuple #[]/\post=[oDWorld B1 B2 B3 r]):=IV 0 rfl (fun _=>xB h)
def bp (a0:Vo)(a1:Bool):Option Vo:=
 (fg N a0.w_ a0.at_ a0.XG).bind fun y7=>(bif a1 then (some (!decide (aq .i64 a0.XG.XB 16=0))) else (some false)).bind fun b8=>bif b8 then ((ii N y7).bind fun a6=>some (⟨a0.XG,a6,a0.at_⟩:Vo)) else (some (⟨a0.XG,y7,a0.at_⟩:Vo))
theorem fF {N:Nat}{a0:Vo}{a1:Bool}{r:Vo}(h:bp N a0 a1=some r){B6:Nat}:Okc VK 88 [pV B1 0,.bool a1] ([ae B1 103 [iV a0.XG.Xw,iV a0.XG.XD,iV a0.XG.XB,iV a0.XG.XC,W A2 n2 c2,W A3 n3 c3,pV B4 0,iV a0.at_.Xw,iV a0.at_.N,.string a0.at_.S],aB A2 n2 c2 a0.XG.Xy,aB A3 n3 c3 a0.XG.Xx,oDWorld B4 B5 B6 a0.w_]) (fun u post=> ∃A0 n0 c0 A1 n1 c1,u=.tuple #[]/\post=[ae B1 103 [iV r.XG.Xw,iV r.XG.XD,iV r.XG.XB,iV r.XG.XC,W A0 n0 c0,W A1 n1 c1,pV B4 0,iV r.at_.Xw,iV r.at_.N,.string r.at_.S],aB A0 n0 c0 r.XG.Xy,aB A1 n1 c1 r.XG.Xx,oDWorld B4 B5 B6 r.w_]):=by
 refine F6 Tryz.func88 J J ?_;simp only [uj];refine au ?_;refine bi I ([ae B1 103 [iV a0.XG.Xw,iV a0.XG.XD,iV a0.XG.XB,iV a0.XG.XC,W A2 n2 c2,W A3 n3 c3,pV B4 0,iV a0.at_.Xw,iV a0.at_.N,.string a0.at_.S],aB A2 n2 c2 a0.XG.Xy,aB A3 n3 c3 a0.XG.Xx]) (cS [0,1,2] 4) ?_;refine ab ?_;obtain ⟨y7,k,h⟩:=aa h;refine zD 12 J (oC (pA k)) ?_;rintro _ _ ⟨_,⟨rfl,rfl⟩,rfl⟩;refine aW ?_;refine ab ?_
 refine qi 8 26 18 h (fun _ g8 h=> ?_) fun b8 h=> ?_
 ·refine ab ?_;refine ie (cy J J) J (ew g8 J) J ?_;exact gY
 refine dU h ?_ ?_<;>intro h
 ·refine cC h (fun _ k=>wg k) fun a6 h=> ?_
  exact eN
 exact eY
def tw (N:Nat)(p8:List Vq):Option (List Vq):=
 some p8
def kq (N:Nat)(a0:Vi):Nat->Int->(List Vq)->Int->Option (List Vq)
 |0,_,_,_=>none
 |b0+1,b5,a8,p13=>bif decide (0<=p13) then ((ao a0.XH b5).bind fun a6=>(ao a8 p13).bind fun b7=>(ao (List.set a8 p13.toNat (⟨a6.Up,(⟨a6.XI.Xw,a6.XI.N,a6.XI.S⟩:Vs),a6.XE,a6.XX⟩:Vq)) p13).bind fun b6=>aD (in64 (p13 - 1)) ((kq N a0 b0) b6.Up (List.set a8 p13.toNat (⟨a6.Up,(⟨a6.XI.Xw,a6.XI.N,a6.XI.S⟩:Vs),a6.XE,a6.XX⟩:Vq)) (p13 - 1))) else (tw N a8)
def eO (a0:Vi)(a1:Int):Option (List Vq):=
 (eQ N a0 a1).bind fun y4=>aD (0<=y4/\y4<=1000000) (aD (in64 (((List.replicate y4.toNat (⟨0,(⟨0,0,⟨#[]⟩⟩:Vs),0,0⟩:Vq)).length:Int) - 1)) (kq N a0 N a1 (List.replicate y4.toNat (⟨0,(⟨0,0,⟨#[]⟩⟩:Vs),0,0⟩:Vq)) (((List.replicate y4.toNat (⟨0,(⟨0,0,⟨#[]⟩⟩:Vs),0,0⟩:Vq)).length:Int) - 1)))
theorem lx {N:Nat}{a0:Vi}{r:List Vq}(h:eO N a0 a1=some r):Okc VK 102 [pV B1 0,iV a1] ([aC B1 191 [W A2 n2 c2,.map (some M3)],iI bn (W A2 n2 c2) a0.XH,mY d8 sC M3 a0.XV]) (fun u post=> ∃A0 n0 c0,u=W A0 n0 c0/\post=[bh bn 159 (W A0 n0 c0) r]):=by
 refine bX Tryz.func102 ?_;obtain ⟨y4,k,h⟩:=aa h;refine gV (oR (oQ k)) ?_;obtain ⟨q5,h⟩:=ac h
 refine rP (PM (R:=bn) (zl:=[iV 0,iV 0,iV 0,.string (⟨#[]⟩),iV 0,iV 0]) (x0:=(⟨0,(⟨0,0,⟨#[]⟩⟩:Vs),0,0⟩:Vq)) J J UX J J J J J (by decide) (fun _ _=>J) q5) fun A6 n6 c6=> ?_
 refine ak (fun s L=> ∃p8 A8 n8 c8,tw N p8=some r/\s=[(4,W none 0 0),(5,W A8 n8 c8)]/\L=[bh bn 159 (W A8 n8 c8) p8]) ?_ ?_
 ·refine ab ?_;obtain ⟨q9,h⟩:=ac h;refine ab ?_;refine lK (fun m s L=> ∃(b7:Int) (a8:List Vq) (p13:Int) (b0:Option Addr) (b5 b6:Nat),kq N a0 m b7 a8 p13=some r/\s=[(0,pV B1 0),(1,iV b7),(4,W none 0 0),(5,W b0 b5 b6),(6,iV p13)]/\L=[bh bn 159 (W b0 b5 b6) a8,iI bn (W A2 n2 c2) a0.XH,mY d8 sC M3 a0.XV,aC B1 191 [W A2 n2 c2,.map (some M3)]]) N ?_;rintro d4 _ _ ⟨b7,a8,p13,b0,b5,b6,h,rfl,rfl⟩;rw [kq.eq_2] at h;refine sZ ?_;refine gH J h ?_ ?_<;>intro h
  ·refine sY ?_;obtain ⟨a6,d6,e0,e1,h⟩:=aI h;refine ab ?_;obtain ⟨e4,b9,d0,d1,h⟩:=aI h;refine ab ?_;refine Gc (cH (us:=D5 a6) (z:=(⟨a6.Up,(⟨a6.XI.Xw,a6.XI.N,a6.XI.S⟩:Vs),a6.XE,a6.XX⟩:Vq)) 0 J J J J size159.out J (toNat_lt b9 d0) J (fun S w vs xk hk hr ho=>by obtain rfl:=Xe (hk.symm.trans d1);rw [show _=_ from hr];rfl)) ?_;obtain ⟨e2,d2,d3,e3,h⟩:=aI h;refine ab ?_;refine H0 (rY 0 J aj J (toNat_lt d2 d3) FA) ?_;obtain ⟨e5,h⟩:=ac h;refine ab ?_;exact ⟨d4,_,_,VA _,⟨e2.Up,List.set a8 p13.toNat (⟨a6.Up,(⟨a6.XI.Xw,a6.XI.N,a6.XI.S⟩:Vs),a6.XE,a6.XX⟩:Vq),p13 - 1,b0,b5,b6,h,J,J⟩,sA,cS [0,1,2,3] 4⟩
  exact jY
 rintro _ _ ⟨p8,A8,n8,c8,h,rfl,rfl⟩;exact eY
def qe (N:Nat)(p5:Int):Option Int:=
 some p5
def i9 (N:Nat)(a2:Int)(a0:Vi):Nat->Int->Option Int
 |0,_=>none
 |m6+1,p7=>(ao a0.XH p7).bind fun x8=>bif decide (a2<x8.XX) then ((ao a0.XH p7).bind fun a6=>(i9 N a2 a0 m6) a6.Up) else (qe N p7)
def gg (a0:Vi)(a1 a2:Int):Option Int:=
 i9 N a2 a0 N a1
theorem qd {N:Nat}{a0:Vi}{a2 r:Int}(h:gg N a0 a1 a2=some r):Okc VK 145 [pV B1 0,iV a1,iV a2] ([aC B1 191 [W A2 n2 c2,.map (some M3)],iI bn (W A2 n2 c2) a0.XH,mY d8 sC M3 a0.XV]) (fun u post=>u=iV r/\post=[]):=by
 refine bX Tryz.func145 ?_;refine ak (fun s L=> ∃p5,qe N p5=some r/\s=[(1,iV p5),(6,iV 0)]/\L=[]) ?_ ?_
 ·refine ab ?_;refine lK (fun m s L=> ∃(p7:Int),i9 N a2 a0 m p7=some r/\s=[(0,pV B1 0),(1,iV p7),(2,iV a2),(6,iV 0)]/\L=[iI bn (W A2 n2 c2) a0.XH,mY d8 sC M3 a0.XV,aC B1 191 [W A2 n2 c2,.map (some M3)]]) N ?_;rintro m6 _ _ ⟨p7,h,rfl,rfl⟩;rw [i9.eq_2] at h;refine sZ ?_;obtain ⟨x8,b0,b5,b7,h⟩:=aI h;refine ab ?_;refine H0 (lQ 0 J bU J (toNat_lt b0 b5) Fy) ?_;refine gH J h ?_ ?_<;>intro h
  ·refine ab ?_;obtain ⟨b9,a6,a8,b6,h⟩:=aI h;refine ab ?_;refine H0 (rY 0 J bU J (toNat_lt a6 a8) FA) ?_;exact lN
  exact jY
 rintro _ _ ⟨p5,h,rfl,rfl⟩;exact eY
def gh (a0:Vi)(a1:Int)(a2:Vs)(a3:Int):Option (Int×Int×Vi):=
 (fc N a0 a1 a2 a3).bind fun y5=>bif !decide (y5=0) then (some (0,y5,a0)) else ((dr N a0 a1 a2).bind fun y7=>bif !y7.2.2 then (some (0,3,a0)) else ((eO N a0 a1).bind fun y9=>aD ((0:Int)<=y7.1/\y7.1.toNat<y9.length) ((ao (List.drop y7.1.toNat y9) 0).bind fun a6=>(gg N a0 a1 y7.1).bind fun b0=>(jC N a0 b0 (List.set (List.drop y7.1.toNat y9) ((0:Int).toNat) (⟨a6.Up,(⟨a6.XI.Xw,a6.XI.N,a6.XI.S⟩:Vs),a3,a6.XX⟩:Vq))).bind fun a8=>some (a8.1,a8.2.1,a8.2.2))))
theorem wZ {N:Nat}{a0:Vi}{a2:Vs}{r:Int×Int×Vi}(h:gh N a0 a1 a2 a3=some r):Okc VK 133 [pV B1 0,iV a1,(nq a2),iV a3] ([ae B1 191 [W A2 n2 c2,.map (some M3)],bh bn 159 (W A2 n2 c2) a0.XH,ax d8 sC M3 a0.XV]) (fun u post=> ∃A0 n0 c0 M1,u=.tuple #[iV r.1,iV r.2.1]/\post=[ae B1 191 [W A0 n0 c0,.map (some M1)],bh bn 159 (W A0 n0 c0) r.2.2.XH,ax d8 sC M1 r.2.2.XV]):=by
 refine bX Tryz.func133 ?_;intro B4;refine sY ?_
 refine cR h (fun _ k=>mW k) fun y5 h=> ?_
 refine gH J h ?_ ?_<;>intro h
 ·exact eY
 refine cR h (fun _ k=>kw k) fun y7 h=> ?_
 refine sZ ?_;refine gH J h ?_ ?_<;>intro h
 ·exact eY
 refine JS h (fun _ k=>lx k) fun y9 b7 b9 d0 h=> ?_
 obtain ⟨b6,h⟩:=ac h
 refine rP (RD (l:=y7.1.toNat) 0 J J UX size159.out J (by rw [VX b6.1];rfl) b6.2) fun d1 d2 d3=> ?_
 obtain ⟨b0,a6,a8,b5,h⟩:=aI h;refine gR (cK 0 J LD J J UX size159.out a6 a8) ?_;refine gR (lQ 0 J LD J (toNat_lt a6 a8) BT) ?_;refine Gc (Ms (us:=[iV a3]) (z:=(⟨b0.Up,(⟨b0.XI.Xw,b0.XI.N,b0.XI.S⟩:Vs),a3,b0.XX⟩:Vq)) 0 J J J J size3.out J (toNat_lt a6 a8) J (fun S w vs xk hk hr=>by obtain rfl:=Xe (hk.symm.trans b5);rw [show _=_ from hr];rfl)) ?_
 refine cR h (fun _ k=>qd k) fun d4 h=> ?_
 refine rO (QO 0 J) ?_;refine ab ?_;obtain ⟨d6,k,h⟩:=aa h;refine gD (oC (oO k)) ?_;rintro _ _ ⟨_,⟨e0,e1,e2,e3,rfl,rfl⟩,rfl⟩;exact eY
theorem vv {N:Nat}{a0:Vi}{a2:Vs}{r:Int×Int×Vi}(h:gh N a0 a1 a2 a3=some r):Okc VK 133 [pV B1 0,iV a1,(nq a2),iV a3] ([oDTable B1 a0]) (fun u post=>u=.tuple #[iV r.1,iV r.2.1]/\post=[oDTable B1 r.2.2]):=IV 0 rfl (fun _=>wZ h)
def nb (y9:Vk×Int×Bool)(a0:Vo)(a6:Int×Int×Vi)(a1:Vk)(a8:Vw)(b0:Vj):Option (Bool×Vo):=
 (bp N (⟨(⟨a0.XG.Xw,a6.1,a0.XG.XB,a0.XG.XC,a8,a0.XG.Xx⟩:Vd),b0,a0.at_⟩:Vo) true).bind fun b5=>some (true,b5)
def gt (y9:Vk×Int×Bool)(a1:Vk)(a0:Vo)(a8:Int)(b0:Vj):Option (Bool×Vo):=
 aD (in64 (y9.2.1+1)) (aD (in64 (y9.2.1+1)) ((ao a0.XG.Xy (y9.2.1+1)).bind fun b5=>(im N (⟨(⟨a0.XG.Xw,a8,a0.XG.XB,a0.XG.XC,a0.XG.Xy,a0.XG.Xx⟩:Vd),b0,a0.at_⟩:Vo) a1 b5).bind fun a6=>(ao a0.XG.Xy (y9.2.1+1)).bind fun b7=>(bp N (⟨(⟨a0.XG.Xw,a8,a0.XG.XB,a0.XG.XC,List.set a0.XG.Xy ((y9.2.1+1).toNat) (⟨a6.1.Xw,a6.1.N,a6.1.S⟩:Vp),a0.XG.Xx⟩:Vd),a6.2,a0.at_⟩:Vo) (!decide (y9.1.XE=a1.XE))).bind fun b6=>some (true,b6)))
def fQ (a0:Vo)(a1:Vk):Option (Bool×Vo):=
 (bZ N a0.w_).bind fun y8=>(cL N a0 a1.XI).bind fun y9=>bif !y9.2.2 then ((eQ N a0.w_.XH a0.XG.XD).bind fun b5=>bif decide (1024<=b5) then (some (false,a0)) else ((iS N a0.w_.XH a0.XG.XD a1.XI a1.XE).bind fun a6=>bif !decide (a6.2.1=0) then (some (false,(⟨a0.XG,(⟨a0.w_.XQ,a0.w_.XK,(),a0.w_.XF,a6.2.2,a0.w_.XS,a0.w_.XR,a0.w_.XY,a0.w_.XZ,a0.w_.XT,a0.w_.XU⟩:Vj),a0.at_⟩:Vo))) else ((im N (⟨(⟨a0.XG.Xw,a6.1,a0.XG.XB,a0.XG.XC,a0.XG.Xy,a0.XG.Xx⟩:Vd),(⟨a0.w_.XQ,a0.w_.XK,(),a0.w_.XF,a6.2.2,a0.w_.XS,a0.w_.XR,a0.w_.XY,a0.w_.XZ,a0.w_.XT,a0.w_.XU⟩:Vj),a0.at_⟩:Vo) a1 (⟨0,0,⟨#[]⟩⟩:Vp)).bind fun b0=>aD (bY (a0.XG.Xy.length+([b0.1]:List Vp).length)) (nb N y9 a0 a6 a1 (a0.XG.Xy++([b0.1]:List Vp)) b0.2)))) else (bif !decide (y9.1.XE=a1.XE) then ((gh N a0.w_.XH a0.XG.XD a1.XI a1.XE).bind fun a8=>bif !decide (a8.2.1=0) then (some (false,(⟨a0.XG,(⟨a0.w_.XQ,a0.w_.XK,(),a0.w_.XF,a8.2.2,a0.w_.XS,a0.w_.XR,a0.w_.XY,a0.w_.XZ,a0.w_.XT,a0.w_.XU⟩:Vj),a0.at_⟩:Vo))) else (gt N y9 a1 a0 a8.1 (⟨a0.w_.XQ,a0.w_.XK,(),a0.w_.XF,a8.2.2,a0.w_.XS,a0.w_.XR,a0.w_.XY,a0.w_.XZ,a0.w_.XT,a0.w_.XU⟩:Vj))) else (gt N y9 a1 a0 a0.XG.XD a0.w_))
theorem sw {N:Nat}{a0:Vo}{a1:Vk}{r:Bool×Vo}(h:fQ N a0 a1=some r){B6:Nat}:Okc VK 86 [pV B1 0,(oW a1)] ([ae B1 103 [iV a0.XG.Xw,iV a0.XG.XD,iV a0.XG.XB,iV a0.XG.XC,W A2 n2 c2,W A3 n3 c3,pV B4 0,iV a0.at_.Xw,iV a0.at_.N,.string a0.at_.S],aB A2 n2 c2 a0.XG.Xy,aB A3 n3 c3 a0.XG.Xx,oDWorld B4 B5 B6 a0.w_]) (fun u post=> ∃A0 n0 c0 A1 n1 c1,u=.bool r.1/\post=[ae B1 103 [iV r.2.XG.Xw,iV r.2.XG.XD,iV r.2.XG.XB,iV r.2.XG.XC,W A0 n0 c0,W A1 n1 c1,pV B4 0,iV r.2.at_.Xw,iV r.2.at_.N,.string r.2.at_.S],aB A0 n0 c0 r.2.XG.Xy,aB A1 n1 c1 r.2.XG.Xx,oDWorld B4 B5 B6 r.2.w_]):=by
 refine bX Tryz.func86 ?_;intro B7
 refine cR h (fun _ k=>dm k) fun y8 h=> ?_
 refine cR h (fun _ k=>nO k) fun y9 h=> ?_
 intro b9;refine sY ?_;refine gH J h ?_ ?_<;>intro h
 ·refine sZ ?_
  refine cR h (fun _ k=>xt k) fun f3 h=> ?_
  refine gH J h ?_ ?_<;>intro h
  ·exact eY
  refine ab ?_;refine au ?_;refine bi I ([ae b9 48 (ki y9.1),ae B7 48 (ki a1),ae B1 103 [iV a0.XG.Xw,iV a0.XG.XD,iV a0.XG.XB,iV a0.XG.XC,W A2 n2 c2,W A3 n3 c3,pV B4 0,iV a0.at_.Xw,iV a0.at_.N,.string a0.at_.S],aB A2 n2 c2 a0.XG.Xy,aB A3 n3 c3 a0.XG.Xx]) (cS [0,1,2,3,4] 6) ?_;refine ab ?_;refine lb ((cS [5,0,1,2,3,4] 6).trans Ak) (cS [2,3,4,5,6] 7) ?_;refine bf ?_;obtain ⟨d0,k,h⟩:=aa h;refine zD 10 J (oC (wX k)) ?_;rintro _ _ ⟨_,⟨rfl,rfl⟩,rfl⟩;refine aW ?_;refine bf ?_;refine lb (AD) (cS [1,2,3,4,5] 6) ?_;refine bf ?_;refine sY ?_;refine gH J h ?_ ?_<;>intro h
  ·exact eY
  refine ab ?_;refine ak (fun s L=> ∃d3 d4 d6 e0 e1,nb N y9 a0 d0 a1 d3 d4=some r/\s=[(0,pV B1 0),(3,pV B7 0),(4,.bool false),(5,pV B6 0),(6,pV b9 0),(7,iV y9.2.1)]/\L=[aB d6 e0 e1 d3,aB A3 n3 c3 a0.XG.Xx,ae B1 103 [iV a0.XG.Xw,iV d0.1,iV a0.XG.XB,iV a0.XG.XC,W d6 e0 e1,W A3 n3 c3,pV B4 0,iV a0.at_.Xw,iV a0.at_.N,.string a0.at_.S],ae B7 48 (ki a1),ae b9 48 (ki y9.1),oDWorld B4 B5 B6 d4]) ?_ ?_
  ·refine bi I ([ae b9 48 (ki y9.1),ae B7 48 (ki a1),aB A3 n3 c3 a0.XG.Xx]) (cS [1,2,5] 6) ?_;refine zY [0,1,2,3,4,6,7] ?_;refine zE 8 J (ns J bld_29_.out) ?_;refine o7 5 9 I ?_ ?_
   ·refine bJ J (vH (bO 3 J J vI J)) J J J ?_;rintro _ _ ⟨rfl,rfl⟩;refine aW ?_;obtain ⟨a6,b6,h⟩:=aa h;refine zD 9 J (oC (na b6)) ?_;rintro _ _ ⟨_,⟨rfl,rfl⟩,rfl⟩;refine aW ?_;refine bf ?_
    refine yD 10 J (aL (R:=av) (vss:=[[iV a6.1.Xw,iV a6.1.N,.string a6.1.S]]) (xs:=[a6.1]) J (rL _ _ _) J J (fun _ _ hr=> .cons J All2.nil)) fun e6 e7 e8=> ?_
    obtain ⟨d1,h⟩:=ac h
    refine yD 11 J (aP 3 0 J J aj J J t9 AI J J d1) fun a8 b0 b5=> ?_
    refine zY [12,13,14] ?_;refine zO 15 J (ar (us:=[W a8 b0 b5]) (cs':=[iV a0.XG.Xw,iV d0.1,iV a0.XG.XB,iV a0.XG.XC,W a8 b0 b5,W A3 n3 c3,pV B4 0,iV a0.at_.Xw,iV a0.at_.N,.string a0.at_.S]) 2 J J J J size43.out J J J) ?_;rintro _ _ rfl;refine aW ?_;refine bf ?_;refine dB I ?_;exact jY
   obtain ⟨a6,b6,h⟩:=aa h;refine bJ J (oC (na b6)) J J J ?_;rintro _ _ ⟨_,⟨rfl,rfl⟩,rfl⟩;refine aW ?_;refine bf ?_;refine o7 5 10 I ?_ ?_
   ·refine bJ J (vH (bO 1 J J vI J)) J J J ?_;rintro _ _ ⟨rfl,rfl⟩;refine aW ?_
    refine yD 10 J (aL (R:=av) (vss:=[[iV a6.1.Xw,iV a6.1.N,.string a6.1.S]]) (xs:=[a6.1]) J (rL _ _ _) J J (fun _ _ hr=> .cons J All2.nil)) fun e6 e7 e8=> ?_
    obtain ⟨d1,h⟩:=ac h
    refine yD 11 J (aP 3 0 J J aj J J t9 AI J J d1) fun a8 b0 b5=> ?_
    refine zY [12,13,14] ?_;refine zO 15 J (ar (us:=[W a8 b0 b5]) (cs':=[iV a0.XG.Xw,iV d0.1,iV a0.XG.XB,iV a0.XG.XC,W a8 b0 b5,W A3 n3 c3,pV B4 0,iV a0.at_.Xw,iV a0.at_.N,.string a0.at_.S]) 2 J J J J size43.out J J J) ?_;rintro _ _ rfl;refine aW ?_;refine bf ?_;refine dB I ?_;exact jY
   refine bJ J (aL (R:=av) (vss:=[[iV a6.1.Xw,iV a6.1.N,.string a6.1.S]]) (xs:=[a6.1]) J (rL _ _ _) J J (fun _ _ hr=> .cons J All2.nil)) J J J ?_;rintro _ _ ⟨e6,e7,e8,rfl,rfl⟩;refine aW ?_;refine zD 5 J (vH (bO 2 J J vI J)) ?_;rintro _ _ ⟨rfl,rfl⟩;refine aW ?_;obtain ⟨d1,h⟩:=ac h
   refine yD 11 J (aP 3 0 J J aj J J t9 AI J J d1) fun a8 b0 b5=> ?_
   refine zY [12,13,14] ?_;refine zO 15 J (ar (us:=[W a8 b0 b5]) (cs':=[iV a0.XG.Xw,iV d0.1,iV a0.XG.XB,iV a0.XG.XC,W a8 b0 b5,W A3 n3 c3,pV B4 0,iV a0.at_.Xw,iV a0.at_.N,.string a0.at_.S]) 2 J J J J size43.out J J J) ?_;rintro _ _ rfl;refine aW ?_;refine bf ?_;refine dB I ?_;exact jY
  rintro _ _ ⟨d3,d4,d6,e0,e1,h,rfl,rfl⟩
  refine R7 h (fun _ k=>fF k) fun f4 f9 g0 g1 g2 g3 g4 h=> ?_
  exact eN
 refine ab ?_;refine ak (fun s L=> ∃d2 e2,gt N y9 a1 a0 d2 e2=some r/\s=[(0,pV B1 0),(3,pV B7 0),(4,.bool false),(7,iV y9.2.1),(11,.bool (!decide (y9.1.XE=a1.XE)))]/\L=[aB A2 n2 c2 a0.XG.Xy,aB A3 n3 c3 a0.XG.Xx,ae B1 103 [iV a0.XG.Xw,iV d2,iV a0.XG.XB,iV a0.XG.XC,W A2 n2 c2,W A3 n3 c3,pV B4 0,iV a0.at_.Xw,iV a0.at_.N,.string a0.at_.S],ae B7 48 (ki a1),oDWorld B4 B5 B6 e2]) ?_ ?_
 ·refine dU h ?_ ?_<;>intro h
  ·refine au ?_;refine bi I ([ae b9 48 (ki y9.1),ae B7 48 (ki a1),ae B1 103 [iV a0.XG.Xw,iV a0.XG.XD,iV a0.XG.XB,iV a0.XG.XC,W A2 n2 c2,W A3 n3 c3,pV B4 0,iV a0.at_.Xw,iV a0.at_.N,.string a0.at_.S],aB A2 n2 c2 a0.XG.Xy,aB A3 n3 c3 a0.XG.Xx]) (cS [0,1,2,3,4] 6) ?_;refine ab ?_;refine lb ((cS [5,0,1,2,3,4] 6).trans Ak) (cS [2,3,4,5,6] 7) ?_;refine bf ?_;obtain ⟨g5,k,h⟩:=aa h;refine zD 10 J (oC (vv k)) ?_;rintro _ _ ⟨_,⟨rfl,rfl⟩,rfl⟩;refine aW ?_;refine bf ?_;refine lb (AD) (cS [1,2,3,4,5] 6) ?_;refine bf ?_;refine sY ?_;refine gH J h ?_ ?_<;>intro h
   ·exact eY
   exact jY
  exact jY
 rintro _ _ ⟨d2,e2,h,rfl,rfl⟩;refine au ?_;refine bi I ([aB A2 n2 c2 a0.XG.Xy,aB A3 n3 c3 a0.XG.Xx,ae B1 103 [iV a0.XG.Xw,iV d2,iV a0.XG.XB,iV a0.XG.XC,W A2 n2 c2,W A3 n3 c3,pV B4 0,iV a0.at_.Xw,iV a0.at_.N,.string a0.at_.S],ae B7 48 (ki a1)]) (cS [0,1,2,3] 5) ?_;refine ab ?_;obtain ⟨g6,h⟩:=ac h;refine ab ?_;obtain ⟨g7,h⟩:=ac h;refine ab ?_;obtain ⟨g8,e9,f1,f2,h⟩:=aI h;refine ab ?_;obtain ⟨b7,k,h⟩:=aa h;refine zD 18 J (oC (na k)) ?_;rintro _ _ ⟨_,⟨rfl,rfl⟩,rfl⟩;refine aW ?_;refine bf ?_;obtain ⟨g9,e3,e4,e5,h⟩:=aI h;refine ab ?_;refine oN 20 J I I (cH (us:=[iV b7.1.Xw,iV b7.1.N,.string b7.1.S]) (z:=(⟨b7.1.Xw,b7.1.N,b7.1.S⟩:Vp)) 2 J J J J size29.out J (toNat_lt e3 e4) J (fun S w vs xk hk hr ho=>by obtain rfl:=Xe (hk.symm.trans e5);rw [show _=_ from hr];rfl)) ?_;rintro _ _ rfl;refine bf ?_
 refine R7 h (fun _ k=>fF k) fun h0 h1 h2 h3 h4 h5 h6 h=> ?_
 exact eN
def jK (a0:Vj)(a1:Vp)(a2:Vs)(a3:Vp)(a4:Int):Option (Bool×Vj):=
 (cD N a0 a1).bind fun y7=>yL y7 (fun y7_0=>some (false,a0)) (fun y7_1=>(cW N a2).bind fun a8=>(bif !a8 then (some true) else (some (decide (a4<0)))).bind fun b0=>(bif b0 then (some true) else (some (decide (7<a4)))).bind fun b16=>bif b16 then (some (false,a0)) else ((fQ N (⟨y7_1.XG,a0,y7_1.at_⟩:Vo) (⟨a2,a4,a3,(⟨0,0,⟨#[]⟩⟩:Vp),(⟨0,0,⟨#[]⟩⟩:Vp)⟩:Vk)).bind fun a6=>some (a6.1,a6.2.w_)))
theorem uZ {N:Nat}{a1:Vp}{a2:Vs}{a3:Vp}{a4:Int}{r:Bool×Vj}(h:jK N a0 a1 a2 a3 a4=some r){B1 B2 B3:Nat}:Okc VK 28 [pV B1 0,(aX a1),(nq a2),(aX a3),iV a4] ([oDWorld B1 B2 B3 a0]) (fun u post=>u=.bool r.1/\post=[oDWorld B1 B2 B3 r.2]):=by
 refine bX Tryz.func28 ?_;intro B4
 refine dD fun B5=> ?_
 intro B6;refine ab ?_;obtain ⟨y7,a6,h⟩:=aa h;rcases y7 with y7_0|y7_1
 ·replace h:=Cq h;refine gD (oR (aM a6)) ?_;rintro _ _ ⟨_,⟨rfl,rfl⟩,rfl⟩;refine sY ?_;refine cz J ?_;exact eY
 replace h:=Cp h;refine gD (oR (aM a6)) ?_;rintro _ _ ⟨_,⟨B8,A9,n9,c9,a8,b0,b5,rfl,rfl⟩,rfl⟩;refine sY ?_
 refine cR h (fun _ k=>sL k) fun b6 h=> ?_
 refine gS 3 29 26 h ?_;intro b7 h;refine ab ?_;refine gS 3 33 30 h ?_;intro b16 h;refine dU h ?_ ?_<;>intro h
 ·exact eY
 refine R7 h (fun _ k=>sw k) fun b9 c0 d0 d1 d2 d3 d4 h=> ?_
 exact eN
end
end Go.Proofs.YthhiddkljcacaaaGreat