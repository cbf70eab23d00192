/- Merged texts: part 4. No conditions of their own. -/
import Derived.Test.YthhiddkljcacaaaGreatG3
set_option maxHeartbeats 4000000
namespace Go.Proofs.YthhiddkljcacaaaGreat
variable (N:Nat){a1 a3:Int}{ff:Int->Option Bool}{B4 B5:Nat}{a2:VJ}{a0:VS}{vf:Value}{G:Wa}
section
theorem Vv:type_of% Tryz.underlying184:=Tryz.underlying184
theorem Vu:type_of% Tryz.underlying4:=Tryz.underlying4
theorem Vt:type_of% Tryz.underlying23:=Tryz.underlying23
variable {A1 A2 A3 A4 A5 A6 A7 A8 A9:Option Addr}{B1 B2 B3 B6 M7 c1 c2 c3 c4 c5 c6 c7 c8 c9 n1 n2 n3 n4 n5 n6 n7 n8 n9:Nat}
open Go.RowKit Asn
set_option maxRecDepth 20000
def bJ (a1:Int)(x9:VY):(Unit)->Option (Option Exit×Unit)
 |()=>(ap x9 0).bind fun a6=>(bif !decide (a6.XZ=7) then (some true) else ((ap x9 1).bind fun a8=>some (decide (a8.XZ=8)))).bind fun b0=>bif b0 then (some (some .ret,())) else ((bif decide (a1=4) then ((ap x9 2).bind fun b5=>(iP N b5 7).bind fun b6=>(bif !b6 then (some true) else ((ap x9 3).bind fun b7=>(iQ N b7 0 9007199254740992).bind fun b9=>some (!b9))).bind fun c0=>some c0) else (some false)).bind fun b16=>bif b16 then (some (some .ret,())) else (some (none,())))
def dJ (a0:VY)(a1:Int):Option Bool:=
 aE (a1≠0) (bif !decide ((a0.length:Int).tmod a1=0) then (some false) else ((ly N a0 a1).bind fun y6=>(tV N a0 a1 (cM (fun x st=>bJ N a1 x st)) (none,())).bind fun a6=>sS a6.1 (some true) (some false) (fun _=>none)))
theorem rV {N:Nat}{a0:VY}{r:Bool}(h:dJ N a0 a1=some r):Okc Wc 222 [Y A1 n1 c1,iV a1] ([aZ A1 n1 c1 a0]) (fun u post=>u=.bool r/\post=[]):=by
 refine bY Tryz.func222 ?_;intro B2
 refine du fun B3=> ?_
 refine sZ ?_;obtain ⟨q4,h⟩:=ac h;refine dU (pf J J q4) ?_;refine gH J h ?_ ?_<;>intro h
 ·exact eY
 refine sY ?_;obtain ⟨y6,k,h⟩:=aa h;refine gD (oR (zA k)) ?_;rintro _ _ ⟨_,⟨B7,B8,rfl,rfl⟩,rfl⟩;refine ab ?_;refine gQ ?_ dl (jz 0 J);refine gQ ?_ dl (jz 1 J);refine ab ?_;obtain ⟨e0,k,h⟩:=aa h;refine Hm (R:=(fun (x:VY) vs cs=> ∃A0 n0 c0,vs=[Y A0 n0 c0]/\cs=[aZ A0 n0 c0 x])) (fun x st=>bJ N a1 x st) (fun (st:Unit) (mz:Unit)=> [ae B2 3 [iV a1],ae B3 4 [.bool false]]) [aB B7 43 [Y A1 n1 c1],aZ A1 n1 c1 a0,aB B8 3 [iV a1]] (()) (()) J J call252.out J (by rintro _ _ _ ⟨_,_,_,rfl,rfl⟩;rfl) (fun l G hY=>(DS k hY).mono fun _ _ hh=>hh.2) (dx [0,4,1] [] [3,2] 5 J) h ?_ ?_ ?_ ?_
 ·rintro l x9 _ je sr9 _ h _ _ ⟨e1,e2,e3,rfl,rfl⟩;replace h:bJ N a1 x9 ()=some (je,sr9):=h;simp only [Cl,Xq,Xr,Xs,Xk,Xl,XX,Wy];refine sY ?_;obtain ⟨e4,a6,a8,b6,h⟩:=aM h;refine ab ?_;refine H3 (vh 0 J bS J (toNat_lt a6 a8) uZ) ?_
  refine AU 6 26 20 h (fun _ b7 h=> ?_) fun e5 h=> ?_
  ·refine ab ?_;obtain ⟨e6,b0,b5,b9,h⟩:=aM h;refine ab ?_;refine sG (vh 0 J bS J (toNat_lt b0 b5) uZ) J (pc b7 J) J ?_;exact gY
  refine dI h ?_ ?_<;>intro h
  ·refine ab ?_;obtain ⟨rfl,rfl⟩:=XJ (XH h);exact KY ((cS [1,2] 3).trans (gL () J))
  refine ab ?_
  refine qo 13 42 29 h (fun _ e7 h=> ?_) fun b16 h=> ?_
  ·refine ab ?_;obtain ⟨e8,d0,d1,d2,h⟩:=aM h
   refine cR h (fun _ k=>kZ k) fun e9 h=> ?_
   refine AU 6 41 35 h (fun _ f1 h=> ?_) fun f2 h=> ?_
   ·refine ab ?_;obtain ⟨f3,d3,d4,d6,h⟩:=aM h
    refine cR h (fun _ k=>la k) fun f4 h=> ?_
    exact gY
   exact gY
  refine dI h ?_ ?_<;>intro h
  ·refine ab ?_;obtain ⟨rfl,rfl⟩:=XJ (XH h);exact KY ((cS [1,2] 3).trans (gL () J))
  refine ab ?_;obtain ⟨rfl,rfl⟩:=XJ (XH h);exact D3 ((cS [1,2] 3).trans (gL () J))
 ·rintro _ h;refine rx ([ae B2 3 [iV a1],ae B3 4 [.bool false]]) J ?_;exact eY
 ·rintro _ h;refine rx ([ae B2 3 [iV a1],ae B3 4 [.bool false]]) J ?_;exact eY
 rintro i _ h;exact az h
def mO (a0:Int)(a1:VY)(p5:Bool):Option Bool:=
 bif p5 then (some (decide ((a1.length:Int)=0))) else (bif decide (a0=3) then ((bif decide ((a1.length:Int)=3) then ((ap a1 0).bind fun a6=>(iQ N a6 0 9007199254740992).bind fun a8=>some a8) else (some false)).bind fun b9=>(bif b9 then ((ap a1 1).bind fun b0=>(iP N b0 9).bind fun b5=>some b5) else (some false)).bind fun b12=>some b12) else (bif decide (a0=4) then ((bif decide (1<=(a1.length:Int)) then (some (decide ((a1.length:Int)<=4097))) else (some false)).bind fun b16=>(bif b16 then ((ap a1 0).bind fun b6=>(iP N b6 9).bind fun b7=>some b7) else (some false)).bind fun c0=>some c0) else (bif decide (a0=6) then ((bif decide ((a1.length:Int)=2) then ((ap a1 0).bind fun d0=>(iQ N d0 0 3).bind fun d1=>some d1) else (some false)).bind fun d2=>(bif d2 then ((ap a1 1).bind fun d3=>(iP N d3 9).bind fun d4=>some d4) else (some false)).bind fun d6=>some d6) else (bif decide (a0=7) then ((bif decide (4<=(a1.length:Int)) then ((ap a1 2).bind fun e0=>(iQ N e0 0 1).bind fun e1=>some e1) else (some false)).bind fun e2=>(bif e2 then ((ap a1 3).bind fun e3=>(iQ N e3 0 9007199254740992).bind fun e4=>some e4) else (some false)).bind fun e5=>some e5) else (bif decide (a0=8) then ((dJ N a1 2).bind fun e6=>some e6) else (bif decide (a0=10) then ((bif decide (1<=(a1.length:Int)) then ((ap a1 0).bind fun e7=>some (decide (e7.XZ=7))) else (some false)).bind fun e8=>(bif e8 then (aE ((0:Int)<=1/\(1:Int).toNat<=a1.length/\a1.length<=a1.length) ((dJ N ((a1.drop ((1:Int).toNat)).take (a1.length - (1:Int).toNat)) 4).bind fun e9=>some e9)) else (some false)).bind fun f1=>some f1) else (bif decide (a0=9) then ((bif decide (2<=(a1.length:Int)) then ((ap a1 0).bind fun f2=>(iQ N f2 0 2).bind fun f3=>some f3) else (some false)).bind fun f4=>some f4) else (some true))))))))
def lb (a0:Int)(a1:VY):Option Bool:=
 bif decide (1048576<(a1.length:Int)) then (some false) else (bif decide (a0=2) then (some (decide ((a1.length:Int)<=4096))) else (bif decide (a0=1) then (mO N a0 a1 (decide (a0=1))) else (mO N a0 a1 (decide (a0=5)))))
theorem Cp {N:Nat}{a0:Int}{a1:VY}{r:Bool}(h:lb N a0 a1=some r):Okc Wc 187 [iV a0,Y A1 n1 c1] ([aZ A1 n1 c1 a1]) (fun u post=>u=.bool r/\post=[]):=by
 refine bY Tryz.func187 ?_;refine sZ ?_;refine gH J h ?_ ?_<;>intro h
 ·exact eY
 refine sY ?_;refine gH J h ?_ ?_<;>intro h
 ·exact eY
 refine ai (fun s L=> ∃p5,mO N a0 a1 p5=some r/\s=[(1,Y A1 n1 c1),(4,.bool false),(8,iV a0),(14,.bool p5)]/\L=[aZ A1 n1 c1 a1]) ?_ ?_
 ·refine dI h ?_ ?_<;>intro h
  ·exact jY
  exact jY
 rintro _ _ ⟨p5,h,rfl,rfl⟩;refine gH J h ?_ ?_<;>intro h
 ·exact eY
 refine dI h ?_ ?_<;>intro h
 ·refine ab ?_
  refine qo 5 30 25 h (fun _ g9 h=> ?_) fun b9 h=> ?_
  ·refine ab ?_;obtain ⟨g3,b5,b6,b7,h⟩:=aM h
   refine cR h (fun _ k=>la k) fun g4 h=> ?_
   exact gY
  refine ab ?_
  refine qo 5 36 31 h (fun _ g5 h=> ?_) fun b12 h=> ?_
  ·refine ab ?_;obtain ⟨g6,c0,d0,d1,h⟩:=aM h
   refine cR h (fun _ k=>kZ k) fun g7 h=> ?_
   exact gY
  exact eY
 refine dI h ?_ ?_<;>intro h
 ·refine ab ?_;refine gS 4 46 42 h ?_;intro b16 h;refine ab ?_
  refine qo 5 52 47 h (fun _ g8 h=> ?_) fun h0 h=> ?_
  ·refine ab ?_;obtain ⟨h1,d2,d3,d4,h⟩:=aM h
   refine cR h (fun _ k=>kZ k) fun h2 h=> ?_
   exact gY
  exact eY
 refine dI h ?_ ?_<;>intro h
 ·refine ab ?_
  refine qo 5 63 58 h (fun _ h3 h=> ?_) fun h4 h=> ?_
  ·refine ab ?_;obtain ⟨h5,d6,e0,e1,h⟩:=aM h
   refine cR h (fun _ k=>la k) fun h6 h=> ?_
   exact gY
  refine ab ?_
  refine qo 5 69 64 h (fun _ h7 h=> ?_) fun h8 h=> ?_
  ·refine ab ?_;obtain ⟨h9,e2,e3,e4,h⟩:=aM h
   refine cR h (fun _ k=>kZ k) fun i0 h=> ?_
   exact gY
  exact eY
 refine dI h ?_ ?_<;>intro h
 ·refine ab ?_
  refine qo 5 80 75 h (fun _ i1 h=> ?_) fun i2 h=> ?_
  ·refine ab ?_;obtain ⟨i8,e5,e6,e7,h⟩:=aM h
   refine cR h (fun _ k=>la k) fun j0 h=> ?_
   exact gY
  refine ab ?_
  refine qo 5 86 81 h (fun _ j1 h=> ?_) fun j2 h=> ?_
  ·refine ab ?_;obtain ⟨j3,e8,e9,f1,h⟩:=aM h
   refine cR h (fun _ k=>la k) fun j4 h=> ?_
   exact gY
  exact eY
 refine dI h ?_ ?_<;>intro h
 ·refine cR h (fun _ k=>rV k) fun j5 h=> ?_
  exact eN
 refine dI h ?_ ?_<;>intro h
 ·refine ab ?_
  refine qo 6 102 96 h (fun _ f2 h=> ?_) fun j6 h=> ?_
  ·refine ab ?_;obtain ⟨j7,a8,b0,f3,h⟩:=aM h;refine ab ?_;refine sG (vh 0 J bS J (toNat_lt a8 b0) uZ) J (el f2 J) J ?_;exact gY
  refine ab ?_
  refine qo 4 107 103 h (fun _ f4 h=> ?_) fun j8 h=> ?_
  ·refine ab ?_;obtain ⟨a6,h⟩:=ac h;refine RM 0 J (l:=(1:Int).toNat) (h:=a1.length) a6.2.1 a6.2.2 ?_;rintro j9 k0 k2 f9;refine sG (zd 1 J f9 J z9 size29.out J (by rw [Wt a6.1];rfl) a6.2.1) J (el f4 J) J ?_
   refine cR h (fun _ k=>rV k) fun k3 h=> ?_
   exact gY
  exact eY
 refine dI h ?_ ?_<;>intro h
 ·refine ab ?_
  refine qo 5 118 113 h (fun _ k4 h=> ?_) fun k5 h=> ?_
  ·refine ab ?_;obtain ⟨k6,g0,g1,g2,h⟩:=aM h
   refine cR h (fun _ k=>la k) fun k7 h=> ?_
   exact gY
  exact eY
 exact eY
def gM (a0:VJ)(a6:Bool×VN):(Unit)->Option (Option Exit×Unit)
 |()=>(wM N a6.2).bind fun a8=>bif !a8 then (some (some .ret,())) else (some (none,()))
def fd (a0:VJ):Option Bool:=
 (bif decide (a0.XZ<1) then (some true) else (some (decide (11<a0.XZ)))).bind fun b5=>(bif b5 then (some true) else (some (decide (a0.Yf<0)))).bind fun b6=>(bif b6 then (some true) else (some (decide (a0.Ye<0)))).bind fun b7=>(bif b7 then (some true) else (some (decide (63<a0.Ye)))).bind fun b8=>(bif b8 then (some true) else ((bif !decide (a0.Yg=0) then (some (!decide (a0.Yg=1))) else (some false)).bind fun a6=>some a6)).bind fun b9=>bif b9 then (some false) else ((uD N a0).bind fun d1=>(oE N a0 (cM (fun x st=>gM N a0 x st)) (none,())).bind fun a8=>sS a8.1 ((jX N a0).bind fun b0=>(bif b0 then ((lb N a0.XZ a0.Ya).bind fun c0=>some c0) else (some false)).bind fun d0=>some d0) (some false) (fun _=>none))
theorem ko {N:Nat}{a0:VJ}{r:Bool}(h:fd N a0=some r):Okc Wc 141 [.agg #[iV a0.XZ,iV a0.Yf,iV a0.Ye,iV a0.Yg,Y A1 n1 c1,Y A2 n2 c2]] ([aZ A1 n1 c1 a0.Yb,aZ A2 n2 c2 a0.Ya]) (fun u post=>u=.bool r/\post=[]):=by
 refine bY Tryz.func141 ?_;intro B3
 refine du fun B4=> ?_
 refine sZ ?_;refine gS 4 12 8 h ?_;intro b5 h;refine ab ?_;refine gS 4 17 13 h ?_;intro b6 h;refine ab ?_;refine gS 4 22 18 h ?_;intro b7 h;refine ab ?_;refine gS 4 27 23 h ?_;intro b8 h;refine ab ?_
 refine AU 9 37 28 h (fun _ g9 h=> ?_) fun b9 h=> ?_
 ·refine ab ?_;refine gS 4 36 32 h ?_;intro b0 h;exact gY
 refine dI h ?_ ?_<;>intro h
 ·exact eY
 refine sY ?_;obtain ⟨c0,k,h⟩:=aa h;refine gD (oR (DK k)) ?_;rintro _ _ ⟨_,⟨a6,rfl,rfl⟩,rfl⟩;refine ab ?_;refine gQ ?_ dl (jz 0 J);obtain ⟨d0,k,h⟩:=aa h;refine wl (en:=(fun x=> [.bool x.1,.agg #[iV x.2.XZ,iV x.2.N,.string x.2.S]])) (fun x st=>gM N a0 x st) (fun (st:Unit) (mz:Unit)=> [aZ A1 n1 c1 a0.Yb,aZ A2 n2 c2 a0.Ya,ae B3 45 (gk a0 A1 n1 c1 A2 n2 c2),ae B4 4 [.bool false]]) [aB a6 45 (gk a0 A1 n1 c1 A2 n2 c2),aZ A1 n1 c1 a0.Yb,aZ A2 n2 c2 a0.Ya] (()) (()) J J call218.out J (fun _=>J) (fun l G hY=>(yI k hY).mono fun _ _ hh=>hh.2) (dx [0,3,4] [] [3,4,2,1] 5 J) h ?_ ?_ ?_ ?_
 ·rintro l a8 _ je sr14 _ h;replace h:gM N a0 a8 ()=some (je,sr14):=h;simp only [Cl,Xq,Xr,Xs,Xk,Xl,XX,Wy]
  refine du fun d1=> ?_
  refine cR h (fun _ k=>JI k) fun d2 h=> ?_
  refine gH J h ?_ ?_<;>intro h
  ·refine ab ?_;obtain ⟨rfl,rfl⟩:=XJ (XH h);exact KY ((cS [1,2,3,4] 5).trans (gL () J))
  refine ab ?_;obtain ⟨rfl,rfl⟩:=XJ (XH h);exact D3 ((cS [1,2,3,4] 5).trans (gL () J))
 ·rintro _ h;refine rx ([aZ A1 n1 c1 a0.Yb,aZ A2 n2 c2 a0.Ya,ae B3 45 (gk a0 A1 n1 c1 A2 n2 c2),ae B4 4 [.bool false]]) J ?_
  refine cR h (fun _ k=>AS k) fun d3 h=> ?_
  refine qo 6 53 47 h (fun _ d4 h=> ?_) fun d6 h=> ?_
  ·refine cR h (fun _ k=>Cp k) fun e0 h=> ?_
   exact gY
  exact eY
 ·rintro _ h;refine rx ([aZ A1 n1 c1 a0.Yb,aZ A2 n2 c2 a0.Ya,ae B3 45 (gk a0 A1 n1 c1 A2 n2 c2),ae B4 4 [.bool false]]) J ?_;exact eY
 rintro i _ h;exact az h
def cu (N:Nat)(a0:VY):Option VY:=
 aE (ci (([]:List VN).length+a0.length)) (some (([]:List VN)++a0))
theorem fw {N:Nat}{a0 r:VY}(h:cu N a0=some r):Okc Wc 91 [Y A1 n1 c1] ([aZ A1 n1 c1 a0]) (fun u post=> ∃A0 n0 c0,u=Y A0 n0 c0/\post=[aC A0 n0 c0 r]):=by
 refine bY Tryz.func91 ?_;refine sZ ?_;refine dU (Ju J z9) ?_;refine K0 J (fun g2=> ?_) (fun g2=> ?_)
 ·replace g2:(A1).isNone=true:=by simpa using g2
  refine Rt 0 J bS g2 (fun hx=> ?_);subst hx;replace h:aE (ci (([]:List VN).length+([]:List VN).length)) (some (([]:List VN)++([]:List VN)))=some r:=h
  replace h:some []=some r:=by simpa [aE] using h
  refine ab ?_;obtain rfl:=jn h;exact Ai J J ((bq av 29 _).trans (cS [0] 2)) ⟨_,_,_,J,J⟩
 refine ab ?_
 refine r9 (aL (R:=av) (vss:=[]) (xs:=[]) J (Ph) J J (fun _ _ hr=>All2.nil)) fun A4 n4 c4=> ?_
 obtain ⟨q5,h⟩:=ac h
 refine r9 (aQ 0 1 J J bS J J z9 AW J J q5) fun A6 n6 c6=> ?_
 exact eN
def dt (a0:VJ):Option VJ:=
 (cu N a0.Yb).bind fun y5=>(cu N a0.Ya).bind fun y7=>some (⟨a0.XZ,a0.Yf,a0.Ye,a0.Yg,y5,y7⟩:VJ)
theorem gj {N:Nat}{a0 r:VJ}(h:dt N a0=some r):Okc Wc 104 [.agg #[iV a0.XZ,iV a0.Yf,iV a0.Ye,iV a0.Yg,Y A1 n1 c1,Y A2 n2 c2]] ([aZ A1 n1 c1 a0.Yb,aZ A2 n2 c2 a0.Ya]) (fun u post=> ∃A0 n0 c0 A1 n1 c1,u=.agg #[iV r.XZ,iV r.Yf,iV r.Ye,iV r.Yg,Y A0 n0 c0,Y A1 n1 c1]/\post=[aC A0 n0 c0 r.Yb,aC A1 n1 c1 r.Ya]):=by
 refine bY Tryz.func104 ?_;intro B3
 refine du fun B4=> ?_
 refine dY [0,1,3,4] ?_;obtain ⟨y5,k,h⟩:=aa h
 refine yQ 2 J (oR (fw k)) fun A6 n6 c6=> ?_
 refine zY [6] ?_;obtain ⟨y7,k,h⟩:=aa h
 refine yQ 5 J (oR (fw k)) fun A8 n8 c8=> ?_
 refine oV 7 J I I (ar (us:=[Y A6 n6 c6]) (cs':=(gk a0 A6 n6 c6 A2 n2 c2)) 3 J J J J size43.out J J J) ?_;rintro _ _ rfl;refine zY [8] ?_;refine oV 9 J I I (ar (us:=[Y A8 n8 c8]) (cs':=(gk a0 A6 n6 c6 A8 n8 c8)) 3 J J J J size43.out J J J) ?_;rintro _ _ rfl;refine fg I ?_;exact eY
def iU (a0:VU)(a1:VJ):Option (Int×Int×VU):=
 (aG N a0).bind fun a8=>bif a8 then (some (0,1,a0)) else ((fd N a1).bind fun b0=>bif !b0 then (some (0,51,a0)) else ((dt N a1).bind fun a6=>aE (ci (a0.m_.Yd.length+([(⟨a6.XZ,a6.Yf,a6.Ye,0,a6.Yb,a6.Ya⟩:VJ)]:List VJ).length)) (aE (in64 (2*((a0.m_.Yd++([(⟨a6.XZ,a6.Yf,a6.Ye,0,a6.Yb,a6.Ya⟩:VJ)]:List VJ)).length:Int))) (aE (in64 ((2*((a0.m_.Yd++([(⟨a6.XZ,a6.Yf,a6.Ye,0,a6.Yb,a6.Ya⟩:VJ)]:List VJ)).length:Int)) - 1)) (some ((2*((a0.m_.Yd++([(⟨a6.XZ,a6.Yf,a6.Ye,0,a6.Yb,a6.Ya⟩:VJ)]:List VJ)).length:Int)) - 1,0,(⟨(⟨a0.m_.Yd++([(⟨a6.XZ,a6.Yf,a6.Ye,0,a6.Yb,a6.Ya⟩:VJ)]:List VJ),a0.m_.Yc⟩:VR),a0.Ym,a0.Yt,a0.Ys⟩:VU)))))))
theorem BW {N:Nat}{a0:VU}{a1:VJ}{r:Int×Int×VU}(h:iU N a0 a1=some r):Okc Wc 92 [pV B1 0,.agg #[iV a1.XZ,iV a1.Yf,iV a1.Ye,iV a1.Yg,Y A8 n8 c8,Y A9 n9 c9]] ([aZ A8 n8 c8 a1.Yb,aZ A9 n9 c9 a1.Ya,ae B1 128 [Y A2 n2 c2,Y A3 n3 c3,Y A4 n4 c4,Y A5 n5 c5,pV B6 0],cL A2 n2 c2 a0.m_.Yd,cL A3 n3 c3 a0.m_.Yc,aC A4 n4 c4 a0.Ym,aC A5 n5 c5 a0.Yt,ae B6 186 [.map (some M7)],ax cj fv M7 a0.Ys.at_]) (fun u post=> ∃A0 n0 c0 A1 n1 c1 A2 n2 c2 A3 n3 c3 M4,u=.tuple #[iV r.1,iV r.2.1]/\post=[ae B1 128 [Y A0 n0 c0,Y A1 n1 c1,Y A2 n2 c2,Y A3 n3 c3,pV B6 0],cL A0 n0 c0 r.2.2.m_.Yd,cL A1 n1 c1 r.2.2.m_.Yc,aC A2 n2 c2 r.2.2.Ym,aC A3 n3 c3 r.2.2.Yt,ae B6 186 [.map (some M4)],ax cj fv M4 r.2.2.Ys.at_]):=by
 refine bY Tryz.func92 ?_;intro d3;refine sY ?_
 refine cR h (fun _ k=>bW k) fun e6 h=> ?_
 refine gH J h ?_ ?_<;>intro h
 ·exact eY
 refine cR h (fun _ k=>ko k) fun e7 h=> ?_
 refine gH J h ?_ ?_<;>intro h
 ·exact eY
 refine NA h (fun _ k=>gj k) fun a6 b6 b7 b9 d0 d1 d2 h=> ?_
 refine au ?_;refine gQ ?_ dl (bL 0 J);refine ab ?_;refine gQ ?_ dl (bL 1 J);refine gQ (t:=[(0,pV B1 0),(3,pV d3 0),(4,iV 0),(5,iV 0)]) ?_ lj (ah _)
 refine ig I 8 [0] [0,5,7] [16,17,18,19,20,21,22,23] [[],[],[1],[2],[3],[4],[],[6]] [aV (pV B1 0),
aV (pV B1 0),
aV (pV B1 0),
aV (pV B1 0),
aV (pV B1 0),
aV (Y A2 n2 c2),
aV (.agg #[iV a6.XZ,iV a6.Yf,iV a6.Ye,iV 0,Y b6 b7 b9,Y d0 d1 d2]),
aX3 (fun (a8:Option Addr) (b0 b5:Nat)=> Y a8 b0 b5) (fun a8 b0 b5=> [cL a8 b0 b5 ([(⟨a6.XZ,a6.Yf,a6.Ye,0,a6.Yb,a6.Ya⟩:VJ)]:List VJ)])] [] (ah _) (ia rfl kU) I rfl rfl ?_ ?_ ?_
 ·refine gZ J ?_ ?_
  ·exact py (ao J) J (ku J (ah _))
  exact kT
 ·refine aH J ?_ ?_
  ·refine xr (aL (R:=ei) (vss:=[[iV a6.XZ,iV a6.Yf,iV a6.Ye,iV 0,Y b6 b7 b9,Y d0 d1 d2]]) (xs:=[(⟨a6.XZ,a6.Yf,a6.Ye,0,a6.Yb,a6.Ya⟩:VJ)]) J (wh _ _ _ _ _ _ _ _ _ _) J J (fun _ _ hr=> .cons (⟨_,_,_,_,_,_,J,hr 0 _ J J,hr 1 _ J J⟩) All2.nil)) J ?_;rintro _ _ ⟨e2,e3,e4,rfl,rfl⟩;exact Ic e2 e3 e4 (ah _)
  refine qR (jh (us:=[iV a6.XZ,iV a6.Yf,iV a6.Ye,iV 0,Y b6 b7 b9,Y d0 d1 d2]) 2 J J agg45.out J) ?_;refine qR (bM 5 J J HK J) ?_;refine qE (sC J FP) ?_;refine qE (sC J FN) ?_;refine qE (bF J) ?_;refine qE (ao J) ?_;refine qE (ao J) ?_;exact di
 intro a8 b0 b5;refine nB (t:=[(16,pV B1 0),(21,Y A2 n2 c2),(23,Y a8 b0 b5),(0,pV B1 0),(3,pV d3 0),(4,iV 0),(5,iV 0)]) (L':=[cL a8 b0 b5 ([(⟨a6.XZ,a6.Yf,a6.Ye,0,a6.Yb,a6.Ya⟩:VJ)]:List VJ),aZ b6 b7 b9 a6.Yb,aZ d0 d1 d2 a6.Ya,ae d3 45 [iV a6.XZ,iV a6.Yf,iV a6.Ye,iV 0,Y b6 b7 b9,Y d0 d1 d2],aZ A8 n8 c8 a1.Yb,aZ A9 n9 c9 a1.Ya,ae B1 128 [Y A2 n2 c2,Y A3 n3 c3,Y A4 n4 c4,Y A5 n5 c5,pV B6 0],cL A2 n2 c2 a0.m_.Yd,cL A3 n3 c3 a0.m_.Yc,aC A4 n4 c4 a0.Ym,aC A5 n5 c5 a0.Yt,ae B6 186 [.map (some M7)],ax cj fv M7 a0.Ys.at_]) ?_ lj (ah _);obtain ⟨e5,h⟩:=ac h;refine qu 8 J I (aQ 7 0 J J ak J J Vo Iv J J e5) J J J ?_;rintro _ _ ⟨d4,d6,e0,rfl,rfl⟩;refine D4 9 J I (bF J) J J J ?_;refine D4 10 J I (sC J FN) J J J ?_;refine D4 11 J I (sC J FP) J J J ?_;refine r7 12 J I (ar (us:=[Y d4 d6 e0]) (cs':=[Y d4 d6 e0,Y A3 n3 c3,Y A4 n4 c4,Y A5 n5 c5,pV B6 0]) 6 J J J J size123.out J J J) J J ?_;rintro _ _ rfl;refine yg ?_;refine lh I ?_;refine ab ?_;obtain ⟨e1,h⟩:=ac h;refine gE (nw J J e1.1 e1.2) ?_;obtain ⟨e8,h⟩:=ac h;exact eY
theorem oe {N:Nat}{a0:VU}{a1:VJ}{r:Int×Int×VU}(h:iU N a0 a1=some r):Okc Wc 92 [pV B1 0,.agg #[iV a1.XZ,iV a1.Yf,iV a1.Ye,iV a1.Yg,Y A2 n2 c2,Y A3 n3 c3]] ([aZ A2 n2 c2 a1.Yb,aZ A3 n3 c3 a1.Ya,oDHeap B1 a0]) (fun u post=>u=.tuple #[iV r.1,iV r.2.1]/\post=[oDHeap B1 r.2.2]):=IY 2 rfl (fun _=>BW h)
def jo (a0:VS)(a8 b0:Int)(b5:ByteArray)(b6:Int):Option (VN×VS):=
 (iU N a0.Yi (⟨1,0,b6,0,([(⟨a8,b0,b5⟩:VN)]:List VN),[]⟩:VJ)).bind fun a6=>some ((⟨7,a6.1,⟨#[]⟩⟩:VN),(⟨a0.Yu,a0.Yn,(),a6.2.2,a0.Yk,a0.Yv,a0.Yo,a0.YB,a0.YC,a0.Yw,a0.Yx⟩:VS))
def d5 (a1:Int)(a0:VS)(a6 a8:Int)(b0:ByteArray):Option (VN×VS):=
 bif decide (a1=17) then (jo N a0 a6 a8 b0 1) else (jo N a0 a6 a8 b0 17)
def jp (a1:Int)(a0:VS)(p21:Bool):Option (VN×VS):=
 bif p21 then ((bK N a0.Yi 3).bind fun a6=>d5 N a1 a0 a6.XZ a6.N a6.S) else ((bK N a0.Yi 0).bind fun a8=>d5 N a1 a0 a8.XZ a8.N a8.S)
def fG (a1:Int)(a0:VS)(a8:Bool):Option (VN×VS):=
 bif a8 then ((bK N a0.Yi 5).bind fun a6=>d5 N a1 a0 a6.XZ a6.N a6.S) else (bif decide (a1=4) then (jp N a1 a0 (decide (a1=4))) else (jp N a1 a0 (decide (a1=16))))
def po (a0:VS)(a1:Int):Option (VN×VS):=
 bif decide (a1=0) then (d5 N a1 a0 1 0 (⟨#[]⟩)) else (bif decide (a1=6) then (fG N a1 a0 (decide (a1=6))) else (bif decide (a1=7) then (fG N a1 a0 (decide (a1=7))) else (fG N a1 a0 (decide (a1=8)))))
theorem oq {N:Nat}{r:VN×VS}(h:po N a0 a1=some r):Okc Wc 78 [pV B1 0,iV a1] ([ae B1 85 (tD a0 B2 B3 A4 n4 c4 A5 n5 c5 A6 n6 c6),oDHeap B2 a0.Yi,oDTable B3 a0.Yk,iB A4 n4 c4 a0.Yv,sO A5 n5 c5 a0.Yw,iB A6 n6 c6 a0.Yx]) (fun u post=> ∃A0 n0 c0 A1 n1 c1 A2 n2 c2,u=.agg #[iV r.1.XZ,iV r.1.N,.string r.1.S]/\post=[ae B1 85 (tD r.2 B2 B3 A0 n0 c0 A1 n1 c1 A2 n2 c2),oDHeap B2 r.2.Yi,oDTable B3 r.2.Yk,iB A0 n0 c0 r.2.Yv,sO A1 n1 c1 r.2.Yw,iB A2 n2 c2 r.2.Yx]):=by
 refine bY Tryz.func78 ?_;intro B7
 refine du fun B8=> ?_
 refine ai (fun s L=> ∃a6 a8 b0,d5 N a1 a0 a6 a8 b0=some r/\s=[(0,pV B1 0),(1,iV a1),(4,pV B7 0),(5,pV B8 0)]/\L=[iB A4 n4 c4 a0.Yv,sO A5 n5 c5 a0.Yw,iB A6 n6 c6 a0.Yx,ae B1 85 (tD a0 B2 B3 A4 n4 c4 A5 n5 c5 A6 n6 c6),ae B7 29 [iV 0,iV 0,.string (⟨#[]⟩)],ae B8 29 [iV a6,iV a8,.string b0],oDHeap B2 a0.Yi,oDTable B3 a0.Yk]) ?_ ?_
 ·refine dI h ?_ ?_<;>intro h
  ·exact jY
  refine ai (fun s L=> ∃b6,fG N a1 a0 b6=some r/\s=[(0,pV B1 0),(1,iV a1),(4,pV B7 0),(5,pV B8 0),(10,iV a1),(18,.bool b6)]/\L=[iB A4 n4 c4 a0.Yv,sO A5 n5 c5 a0.Yw,iB A6 n6 c6 a0.Yx,ae B1 85 (tD a0 B2 B3 A4 n4 c4 A5 n5 c5 A6 n6 c6),ae B7 29 [iV 0,iV 0,.string (⟨#[]⟩)],ae B8 29 [iV 1,iV 0,.string (⟨#[]⟩)],oDHeap B2 a0.Yi,oDTable B3 a0.Yk]) ?_ ?_
  ·refine dI h ?_ ?_<;>intro h
   ·exact jY
   refine dI h ?_ ?_<;>intro h
   ·exact jY
   exact jY
  rintro _ _ ⟨b6,h,rfl,rfl⟩;refine gH J h ?_ ?_<;>intro h
  ·refine cR h (fun _ k=>ft k) fun d2 h=> ?_
   exact jN
  refine ai (fun s L=> ∃p21,jp N a1 a0 p21=some r/\s=[(0,pV B1 0),(1,iV a1),(4,pV B7 0),(5,pV B8 0),(27,.bool p21)]/\L=[iB A4 n4 c4 a0.Yv,sO A5 n5 c5 a0.Yw,iB A6 n6 c6 a0.Yx,ae B1 85 (tD a0 B2 B3 A4 n4 c4 A5 n5 c5 A6 n6 c6),ae B7 29 [iV 0,iV 0,.string (⟨#[]⟩)],ae B8 29 [iV 1,iV 0,.string (⟨#[]⟩)],oDHeap B2 a0.Yi,oDTable B3 a0.Yk]) ?_ ?_
  ·refine dI h ?_ ?_<;>intro h
   ·exact jY
   exact jY
  rintro _ _ ⟨p21,h,rfl,rfl⟩;refine gH J h ?_ ?_<;>intro h
  ·refine cR h (fun _ k=>ft k) fun d3 h=> ?_
   exact jN
  refine cR h (fun _ k=>ft k) fun d4 h=> ?_
  exact jN
 rintro _ _ ⟨a6,a8,b0,h,rfl,rfl⟩;refine ab ?_
 refine r9 (aL (R:=av) (vss:=[[iV a6,iV a8,.string b0]]) (xs:=[(⟨a6,a8,b0⟩:VN)]) J (rX _ _ _) J J (fun _ _ hr=> .cons J All2.nil)) fun b7 b9 d0=> ?_
 intro d1;refine ab ?_;refine ai (fun s L=> ∃b5,jo N a0 a6 a8 b0 b5=some r/\s=[(0,pV B1 0),(4,pV B7 0),(6,pV d1 0)]/\L=[iB A4 n4 c4 a0.Yv,sO A5 n5 c5 a0.Yw,iB A6 n6 c6 a0.Yx,ae B1 85 (tD a0 B2 B3 A4 n4 c4 A5 n5 c5 A6 n6 c6),ae B7 29 [iV 0,iV 0,.string (⟨#[]⟩)],aC b7 b9 d0 ([(⟨a6,a8,b0⟩:VN)]:List VN),ae d1 45 [iV 1,iV 0,iV b5,iV 0,Y b7 b9 d0,Y none 0 0],oDHeap B2 a0.Yi,oDTable B3 a0.Yk]) ?_ ?_
 ·refine dI h ?_ ?_<;>intro h
  ·exact jY
  exact jY
 rintro _ _ ⟨b5,h,rfl,rfl⟩;refine au ?_;refine bm I ([iB A4 n4 c4 a0.Yv,sO A5 n5 c5 a0.Yw,iB A6 n6 c6 a0.Yx,ae B1 85 (tD a0 B2 B3 A4 n4 c4 A5 n5 c5 A6 n6 c6),ae B7 29 [iV 0,iV 0,.string (⟨#[]⟩)],ae d1 45 [iV 1,iV 0,iV b5,iV 0,Y b7 b9 d0,Y none 0 0],oDTable B3 a0.Yk]) (cS [0,1,2,3,4,6,8] 9) ?_;refine ab ?_;refine lg (bL 5 J) (cS [0,1,2,3,4,6,8] 9) ?_;obtain ⟨d6,k,h⟩:=aa h;refine lg (qh av _) (cS [1,2,3,4,5,7,9] 10) ?_;refine zD 5 J (oC (oe k)) ?_;rintro _ _ ⟨_,⟨rfl,rfl⟩,rfl⟩;refine bf ?_;exact eY
def eA (a0:VU)(a1:VN):Option (Int×VU):=
 (aG N a0).bind fun y9=>bif y9 then (some (0,a0)) else (aE (ci (a0.Ym.length+([a1]:List VN).length)) (aE (in64 (((a0.Ym++([a1]:List VN)).length:Int) - 1)) (some (((a0.Ym++([a1]:List VN)).length:Int) - 1,(⟨a0.m_,a0.Ym++([a1]:List VN),a0.Yt,a0.Ys⟩:VU)))))
theorem BV {N:Nat}{a0:VU}{a1:VN}{r:Int×VU}(h:eA N a0 a1=some r):Okc Wc 39 [pV B1 0,(aX a1)] ([ae B1 128 [Y A2 n2 c2,Y A3 n3 c3,Y A4 n4 c4,Y A5 n5 c5,pV B6 0],cL A2 n2 c2 a0.m_.Yd,cL A3 n3 c3 a0.m_.Yc,aC A4 n4 c4 a0.Ym,aC A5 n5 c5 a0.Yt,ae B6 186 [.map (some M7)],ax cj fv M7 a0.Ys.at_]) (fun u post=> ∃A0 n0 c0 A1 n1 c1 A2 n2 c2 A3 n3 c3 M4,u=iV r.1/\post=[ae B1 128 [Y A0 n0 c0,Y A1 n1 c1,Y A2 n2 c2,Y A3 n3 c3,pV B6 0],cL A0 n0 c0 r.2.m_.Yd,cL A1 n1 c1 r.2.m_.Yc,aC A2 n2 c2 r.2.Ym,aC A3 n3 c3 r.2.Yt,ae B6 186 [.map (some M4)],ax cj fv M4 r.2.Ys.at_]):=by
 refine bY Tryz.func39 ?_;intro B8;refine sY ?_
 refine cR h (fun _ k=>bW k) fun y9 h=> ?_
 refine gH J h ?_ ?_<;>intro h
 ·exact eY
 refine ab ?_;refine au ?_;refine gQ (t:=[(0,pV B1 0),(3,pV B8 0),(4,iV 0)]) ?_ lj (ah _)
 refine ig I 7 [0] [0,4,6] [7,8,9,10,11,12,13] [[],[],[1],[2],[3],[],[5]] [aV (pV B1 0),
aV (pV B1 0),
aV (pV B1 0),
aV (pV B1 2),
aV (Y A4 n4 c4),
aV ((aX a1)),
aX3 (fun (a6:Option Addr) (a8 b0:Nat)=> Y a6 a8 b0) (fun a6 a8 b0=> [aC a6 a8 b0 ([a1]:List VN)])] [] (ah _) (ia rfl kU) I rfl rfl ?_ ?_ ?_
 ·refine gZ J ?_ ?_
  ·exact py (ao J) J (ku J (ah _))
  exact kT
 ·refine aH J ?_ ?_
  ·refine xr (aL (R:=av) (vss:=[(eE a1)]) (xs:=[a1]) J (rX _ _ _) J J (fun _ _ hr=> .cons J All2.nil)) J ?_;rintro _ _ ⟨b9,d0,d1,rfl,rfl⟩;exact Ic b9 d0 d1 (ah _)
  refine qR (jh (us:=eE a1) 0 J J agg29.out J) ?_;refine qR (bM 1 J J vU J) ?_;refine qE (jW J FM) ?_;refine qE (bF J) ?_;refine qE (ao J) ?_;refine qE (ao J) ?_;exact di
 intro a6 a8 b0;refine nB (t:=[(7,pV B1 0),(11,Y A4 n4 c4),(13,Y a6 a8 b0),(0,pV B1 0),(3,pV B8 0),(4,iV 0)]) (L':=[aC a6 a8 b0 ([a1]:List VN),ae B8 29 (eE a1),ae B1 128 [Y A2 n2 c2,Y A3 n3 c3,Y A4 n4 c4,Y A5 n5 c5,pV B6 0],cL A2 n2 c2 a0.m_.Yd,cL A3 n3 c3 a0.m_.Yc,aC A4 n4 c4 a0.Ym,aC A5 n5 c5 a0.Yt,ae B6 186 [.map (some M7)],ax cj fv M7 a0.Ys.at_]) ?_ lj (ah _);obtain ⟨d2,h⟩:=ac h;refine qu 7 J I (aQ 5 0 J J ak J J z9 AW J J d2) J J J ?_;rintro _ _ ⟨b5,b6,b7,rfl,rfl⟩;refine D4 8 J I (bF J) J J J ?_;refine D4 9 J I (jW J FM) J J J ?_;refine r7 10 J I (ar (us:=[Y b5 b6 b7]) (cs':=[Y A2 n2 c2,Y A3 n3 c3,Y b5 b6 b7,Y A5 n5 c5,pV B6 0]) 2 J J J J size43.out J J J) J J ?_;rintro _ _ rfl;refine lh I ?_;refine ab ?_;obtain ⟨d3,h⟩:=ac h;exact eY
theorem cq {N:Nat}{a0:VU}{a1:VN}{r:Int×VU}(h:eA N a0 a1=some r):Okc Wc 39 [pV B1 0,(aX a1)] ([oDHeap B1 a0]) (fun u post=>u=iV r.1/\post=[oDHeap B1 r.2]):=IY 0 rfl (fun _=>BV h)
def cI (a0:VS)(a1:VJ):Option (VN×VS):=
 (iU N a0.Yi a1).bind fun a6=>bif !decide (a6.2.1=0) then (some ((⟨0,0,⟨#[]⟩⟩:VN),(⟨a0.Yu,a0.Yn,(),a6.2.2,a0.Yk,a0.Yv,a0.Yo,a0.YB,a0.YC,a0.Yw,a0.Yx⟩:VS))) else (some ((⟨9,a6.1,⟨#[]⟩⟩:VN),(⟨a0.Yu,a0.Yn,(),a6.2.2,a0.Yk,a0.Yv,a0.Yo,a0.YB,a0.YC,a0.Yw,a0.Yx⟩:VS)))
theorem iq {N:Nat}{a1:VJ}{r:VN×VS}(h:cI N a0 a1=some r):Okc Wc 79 [pV B1 0,.agg #[iV a1.XZ,iV a1.Yf,iV a1.Ye,iV a1.Yg,Y A7 n7 c7,Y A8 n8 c8]] ([aZ A7 n7 c7 a1.Yb,aZ A8 n8 c8 a1.Ya,ae B1 85 (tD a0 B2 B3 A4 n4 c4 A5 n5 c5 A6 n6 c6),oDHeap B2 a0.Yi,oDTable B3 a0.Yk,iB A4 n4 c4 a0.Yv,sO A5 n5 c5 a0.Yw,iB A6 n6 c6 a0.Yx]) (fun u post=> ∃A0 n0 c0 A1 n1 c1 A2 n2 c2,u=.agg #[iV r.1.XZ,iV r.1.N,.string r.1.S]/\post=[ae B1 85 (tD r.2 B2 B3 A0 n0 c0 A1 n1 c1 A2 n2 c2),oDHeap B2 r.2.Yi,oDTable B3 r.2.Yk,iB A0 n0 c0 r.2.Yv,sO A1 n1 c1 r.2.Yw,iB A2 n2 c2 r.2.Yx]):=by
 refine bY Tryz.func79 ?_;intro B9
 refine du fun a6=> ?_
 refine sZ ?_;refine dU (dZ J Vt) ?_;refine cE J ?_;refine ab ?_;refine au ?_;refine bm I ([ae a6 29 [iV 0,iV 0,.string (⟨#[]⟩)],ae B9 45 (gk a1 A7 n7 c7 A8 n8 c8),aZ A7 n7 c7 a1.Yb,aZ A8 n8 c8 a1.Ya,ae B1 85 (tD a0 B2 B3 A4 n4 c4 A5 n5 c5 A6 n6 c6),oDTable B3 a0.Yk,iB A4 n4 c4 a0.Yv,sO A5 n5 c5 a0.Yw,iB A6 n6 c6 a0.Yx]) (cS [0,1,2,3,4,6,7,8,9] 10) ?_;refine ab ?_;obtain ⟨a8,k,h⟩:=aa h;refine zD 5 J (oC (oe k)) ?_;rintro _ _ ⟨_,⟨rfl,rfl⟩,rfl⟩;refine bf ?_;refine sY ?_;refine gH J h ?_ ?_<;>intro h
 ·exact eY
 exact eY
theorem xo {N:Nat}{a1:VJ}{r:VN×VS}(h:cI N a0 a1=some r){B1 B2 B3:Nat}:Okc Wc 79 [pV B1 0,.agg #[iV a1.XZ,iV a1.Yf,iV a1.Ye,iV a1.Yg,Y A4 n4 c4,Y A5 n5 c5]] ([aZ A4 n4 c4 a1.Yb,aZ A5 n5 c5 a1.Ya,oDWorld B1 B2 B3 a0]) (fun u post=>u=.agg #[iV r.1.XZ,iV r.1.N,.string r.1.S]/\post=[oDWorld B1 B2 B3 r.2]):=IY 2 rfl (fun _=>iq h)
def xQ (N:Nat)(a6 a8 b0 b5 b6 b7 b9 c0 d0 d1:Int)(d2:List ByteArray)(d3 d4 d6:Int)(e0:List VK)(e1:List ByteArray)(e2:VU)(e3:VH):Option (Int ⊕ (VS×Int)):=
 some (.inr ((⟨(⟨a6,a8,b0⟩:VG),(⟨b5,b6,b7,b9,c0,d0,d1⟩:VV),(),e2,e3,d2,d3,d4,d6,e0,e1⟩:VS),0))
def zS (b0 b5 b6 b7 b9 c0 d0 d1 d2 d3:Int)(d4:List ByteArray)(d6 e0 e1:Int)(e2:List VK)(e3:List ByteArray)(e4:VU)(e5:VH):Option (Int ⊕ (VS×Int)):=
 (cI N (⟨(⟨b0,b5,b6⟩:VG),(⟨b7,b9,c0,d0,d1,d2,d3⟩:VV),(),e4,e5,d4,d6,e0,e1,e2,e3⟩:VS) (⟨11,0,0,0,[],[]⟩:VJ)).bind fun a6=>(eA N a6.2.Yi a6.1).bind fun a8=>xQ N a6.2.Yu.YG a6.2.Yu.YI a6.2.Yu.YK a6.2.Yn.YN a6.2.Yn.YJ a6.2.Yn.YD a6.2.Yn.YM a6.2.Yn.Yd a6.2.Yn.YL a6.2.Yn.YO a6.2.Yv a6.2.Yo a6.2.YB a6.2.YC a6.2.Yw a6.2.Yx a8.2 a6.2.Yk
def Bm (b0 b5 b6 p13 b7 b9 c0 d0 d1 d2:Int)(d3:List ByteArray)(p21 d4 d6:Int)(e0:List VK)(e1:List ByteArray)(e2:VU)(e3:VH):Option (Int ⊕ (VS×Int)):=
 (cI N (⟨(⟨b0,b5,b6⟩:VG),(⟨p13,b7,b9,c0,d0,d1,d2⟩:VV),(),e2,e3,d3,p21,d4,d6,e0,e1⟩:VS) (⟨11,0,0,0,[],[]⟩:VJ)).bind fun a6=>(eA N a6.2.Yi a6.1).bind fun a8=>zS N a6.2.Yu.YG a6.2.Yu.YI a6.2.Yu.YK a6.2.Yn.YN a6.2.Yn.YJ a6.2.Yn.YD a6.2.Yn.YM a6.2.Yn.Yd a6.2.Yn.YL a6.2.Yn.YO a6.2.Yv a6.2.Yo a6.2.YB a6.2.YC a6.2.Yw a6.2.Yx a8.2 a6.2.Yk
def zT (N:Nat)(a6:Int->Int->Int->Int->Int->Int->Int->Int->Int->Int->Int->(List ByteArray)->Int->Int->Int->(List VK)->(List ByteArray)->VU->VH->Option (Int ⊕ (VS×Int)))(a8 b0 b5 b6 b7 b9 c0 d0 d1 d2 d3:Int)(d4:List ByteArray)(d6 e0 e1:Int)(e2:List VK)(e3:List ByteArray)(e4:VU)(e5:VH):Option (Int ⊕ (VS×Int)):=
 aE (in64 (a8+1)) (a6 (a8+1) b0 b5 b6 b7 b9 c0 d0 d1 d2 d3 d4 d6 e0 e1 e2 e3 e4 e5)
def qZ (N:Nat):Nat->Int->Int->Int->Int->Int->Int->Int->Int->Int->Int->Int->(List ByteArray)->Int->Int->Int->(List VK)->(List ByteArray)->VU->VH->Option (Int ⊕ (VS×Int))
 |0,_,_,_,_,_,_,_,_,_,_,_,_,_,_,_,_,_,_,_=>none
 |e6+1,a8,b0,b5,b6,b7,b9,c0,d0,d1,d2,d3,d4,d6,e0,e1,e2,e3,e4,e5=>bif decide (a8<18) then ((po N (⟨(⟨b0,b5,b6⟩:VG),(⟨b7,b9,c0,d0,d1,d2,d3⟩:VV),(),e4,e5,d4,d6,e0,e1,e2,e3⟩:VS) a8).bind fun a6=>(eA N a6.2.Yi a6.1).bind fun e7=>zT N (qZ N e6) a8 a6.2.Yu.YG a6.2.Yu.YI a6.2.Yu.YK a6.2.Yn.YN a6.2.Yn.YJ a6.2.Yn.YD a6.2.Yn.YM a6.2.Yn.Yd a6.2.Yn.YL a6.2.Yn.YO a6.2.Yv a6.2.Yo a6.2.YB a6.2.YC a6.2.Yw a6.2.Yx e7.2 a6.2.Yk) else (Bm N b0 b5 b6 b7 b9 c0 d0 d1 d2 d3 d4 d6 e0 e1 e2 e3 e4 e5)
def xR (a0:VV):Option (Int ⊕ (VS×Int)):=
 (zQ N a0).bind fun y2=>bif !y2 then (some (.inl 1)) else ((AF N).bind fun y4=>(xE N).bind fun y6=>qZ N N 0 0 0 0 a0.YN a0.YJ a0.YD a0.YM a0.Yd a0.YL a0.YO [] 0 0 0 [] [] y4 y6)
theorem HF {N:Nat}{a0:VV}{r:(Int ⊕ (VS×Int))}(h:xR N a0=some r):Okc Wc 25 [(FC a0)] ([]) (fun u post=>PO (fun (r:Int)=>u=.tuple #[.pointer none,iV r]/\post=[]) (fun (r:VS×Int)=> ∃B0 B1 B2 A3 n3 c3 A4 n4 c4 A5 n5 c5,u=.tuple #[pV B0 0,iV r.2]/\post=[ae B0 85 (tD r.1 B1 B2 A3 n3 c3 A4 n4 c4 A5 n5 c5),oDHeap B1 r.1.Yi,oDTable B2 r.1.Yk,iB A3 n3 c3 r.1.Yv,sO A4 n4 c4 r.1.Yw,iB A5 n5 c5 r.1.Yx]) r):=by
 refine bY Tryz.func25 ?_;intro B1;refine sY ?_;obtain ⟨y2,k,h⟩:=aa h;refine C7 (oR (EL k)) ?_;refine gH J h ?_ ?_<;>intro h
 ·exact eY
 refine ab ?_;refine dY [] ?_;refine ab ?_;obtain ⟨y4,k,h⟩:=aa h
 refine It 1 J (oC (Gk k)) fun B5=> ?_
 obtain ⟨y6,k,h⟩:=aa h
 refine It 2 J (oC (ED k)) fun B7=> ?_
 refine ab ?_
 refine It 4 J (CT J J) fun B8=> ?_
 refine ab ?_;refine ai (fun s L=> ∃g5 g6 g7 p13 g8 g9 h0 h1 h2 h3 h4 p21 h5 h6 h7 h8 h9 i0 i1 i2 i8 j0 j1 j2 j3 j4 j5,Bm N g5 g6 g7 p13 g8 g9 h0 h1 h2 h3 h4 p21 h5 h6 h7 h8 h9 i0=some r/\s=[(2,.pointer none),(3,iV 0),(4,pV B8 0)]/\L=[iB i1 i2 i8 h4,sO j0 j1 j2 h7,iB j3 j4 j5 h8,ae B8 85 [iV g5,iV g6,iV g7,iV p13,iV g8,iV g9,iV h0,iV h1,iV h2,iV h3,.nilIface,pV B5 0,pV B7 0,Y i1 i2 i8,iV p21,iV h5,iV h6,Y j0 j1 j2,Y j3 j4 j5],oDHeap B5 h9,oDTable B7 i0]) ?_ ?_
 ·refine ab ?_;refine ii (fun m s L=> ∃g4 j6 j7 j8 j9 k0 k2 k3 k4 k5 k6 k7 k8 k9 l0 l1 l2 l3 l4 l5 l6 l7 l8 l9 m0 m1 m2 m3,qZ N m g4 j6 j7 j8 j9 k0 k2 k3 k4 k5 k6 k7 k8 k9 l0 l1 l2 l3 l4=some r/\s=[(2,.pointer none),(3,iV 0),(4,pV B8 0),(14,iV g4)]/\L=[iB l5 l6 l7 k7,sO l8 l9 m0 l1,iB m1 m2 m3 l2,ae B8 85 [iV j6,iV j7,iV j8,iV j9,iV k0,iV k2,iV k3,iV k4,iV k5,iV k6,.nilIface,pV B5 0,pV B7 0,Y l5 l6 l7,iV k8,iV k9,iV l0,Y l8 l9 m0,Y m1 m2 m3],oDHeap B5 l3,oDTable B7 l4]) N _ _ ⟨0,0,0,0,a0.YN,a0.YJ,a0.YD,a0.YM,a0.Yd,a0.YL,a0.YO,[],0,0,0,[],[],y4,y6,none,0,0,none,0,0,none,0,0,h,J,J⟩ sA ((bq sX 9 _).trans ((bq nH 319 _).trans ((bq sX 9 _).trans (cS [2,1,0,3,5,4] 7)))) ?_;rintro (_|w1)
  all_goals (refine fun s L=>aj fun g4=>aj fun j6=>aj fun j7=>aj fun j8=>aj fun j9=>aj fun k0=>aj fun k2=>aj fun k3=>aj fun k4=>aj fun k5=>aj fun k6=>aj fun k7=>aj fun k8=>aj fun k9=>aj fun l0=>aj fun l1=>aj fun l2=>aj fun l3=>aj fun l4=>aj fun l5=>aj fun l6=>aj fun l7=>aj fun l8=>aj fun l9=>aj fun m0=>aj fun m1=>aj fun m2=>aj fun m3=>yy fun h=> ?_)
  ·exact az h
  rw [qZ.eq_2] at h;refine ab ?_;refine au ?_;refine gH J h ?_ ?_<;>intro h
  ·refine ab ?_;refine ai (fun s L=> ∃m4 m5 m6 m7 m8 m9 n0 o0 o1 o2 o3 o4 o5 p1 p2 p3 p4 p5 p6 p7 p8 q0 q1 q2 q3 q4 q5,zT N (qZ N w1) g4 m4 m5 m6 m7 m8 m9 n0 o0 o1 o2 o3 o4 o5 p1 p2 p3 p4 p5=some r/\s=[(2,.pointer none),(3,iV 0),(4,pV B8 0),(14,iV g4)]/\L=[iB p6 p7 p8 o3,sO q0 q1 q2 p2,iB q3 q4 q5 p3,ae B8 85 [iV m4,iV m5,iV m6,iV m7,iV m8,iV m9,iV n0,iV o0,iV o1,iV o2,.nilIface,pV B5 0,pV B7 0,Y p6 p7 p8,iV o4,iV o5,iV p1,Y q0 q1 q2,Y q3 q4 q5],oDHeap B5 p4,oDTable B7 p5]) ?_ ?_
   ·refine ab ?_;refine bm I ([]) (cS [] 6) ?_;refine zY [0,1,2,4,5] ?_;refine qm 3 6 I ?_ ?_
    ·refine bX J (vT (bM 3 J J BE J)) J J J ?_;rintro _ _ ⟨rfl,rfl⟩;refine bf ?_;obtain ⟨w2,b5,h⟩:=aa h;refine zD 6 J (oC (oq b5)) ?_;rintro _ _ ⟨_,⟨w3,w4,w5,w6,w7,w8,w9,x1,x2,rfl,rfl⟩,rfl⟩;refine bf ?_;refine bp ?_;obtain ⟨x3,b6,h⟩:=aa h;refine zD 7 J (oC (cq b6)) ?_;rintro _ _ ⟨_,⟨rfl,rfl⟩,rfl⟩;refine bf ?_;refine bp ?_;refine fg I ?_;exact jY
    obtain ⟨w2,b5,h⟩:=aa h;refine bX J (oC (oq b5)) J J J ?_;rintro _ _ ⟨_,⟨w3,w4,w5,w6,w7,w8,w9,x1,x2,rfl,rfl⟩,rfl⟩;refine bf ?_;refine bp ?_;refine zD 3 J (vT (bM 0 J J BE J)) ?_;rintro _ _ ⟨rfl,rfl⟩;refine bf ?_;obtain ⟨x3,b6,h⟩:=aa h;refine zD 7 J (oC (cq b6)) ?_;rintro _ _ ⟨_,⟨rfl,rfl⟩,rfl⟩;refine bf ?_;refine bp ?_;refine fg I ?_;exact jY
   refine fun s L=>aj fun m4=>aj fun m5=>aj fun m6=>aj fun m7=>aj fun m8=>aj fun m9=>aj fun n0=>aj fun o0=>aj fun o1=>aj fun o2=>aj fun o3=>aj fun o4=>aj fun o5=>aj fun p1=>aj fun p2=>aj fun p3=>aj fun p4=>aj fun p5=>aj fun p6=>aj fun p7=>aj fun p8=>aj fun q0=>aj fun q1=>aj fun q2=>aj fun q3=>aj fun q4=>aj fun q5=>yy fun h=> ?_
   refine ab ?_;obtain ⟨y7,h⟩:=ac h;exact lY
  exact jY
 refine fun s L=>aj fun g5=>aj fun g6=>aj fun g7=>aj fun p13=>aj fun g8=>aj fun g9=>aj fun h0=>aj fun h1=>aj fun h2=>aj fun h3=>aj fun h4=>aj fun p21=>aj fun h5=>aj fun h6=>aj fun h7=>aj fun h8=>aj fun h9=>aj fun i0=>aj fun i1=>aj fun i2=>aj fun i8=>aj fun j0=>aj fun j1=>aj fun j2=>aj fun j3=>aj fun j4=>aj fun j5=>yy fun h=> ?_
 refine ai (fun s L=> ∃q6 q7 q8 q9 r0 r1 r2 r3 r4 r5 r6 s0 s1 s2 s3 s4 s5 s6 s7 s8 s9 t1 t2 u0 u1 u2 u3,zS N q6 q7 q8 q9 r0 r1 r2 r3 r4 r5 r6 s0 s1 s2 s3 s4 s5 s6=some r/\s=[(2,.pointer none),(3,iV 0),(4,pV B8 0)]/\L=[iB s7 s8 s9 r6,sO t1 t2 u0 s3,iB u1 u2 u3 s4,ae B8 85 [iV q6,iV q7,iV q8,iV q9,iV r0,iV r1,iV r2,iV r3,iV r4,iV r5,.nilIface,pV B5 0,pV B7 0,Y s7 s8 s9,iV s0,iV s1,iV s2,Y t1 t2 u0,Y u1 u2 u3],oDHeap B5 s5,oDTable B7 s6]) ?_ ?_
 ·refine bm I ([]) (cS [] 6) ?_;refine zY [0,1,2,4] ?_;refine zE 5 J (ny J (bld_45_0 _).out) ?_;refine qm 3 6 I ?_ ?_
  ·refine bX J (vT (bM 3 J J BE J)) J J J ?_;rintro _ _ ⟨rfl,rfl⟩;refine bf ?_;obtain ⟨x4,b7,h⟩:=aa h;refine lg (qh av _) (cS [] 7) ?_;refine lg (qh av _) (cS [] 8) ?_;refine zD 6 J (oC (iq b7)) ?_;rintro _ _ ⟨_,⟨x5,x6,x7,x8,x9,y0,y1,y3,y5,rfl,rfl⟩,rfl⟩;refine bf ?_;refine bp ?_;obtain ⟨u4,a6,h⟩:=aa h;refine zD 7 J (oC (cq a6)) ?_;rintro _ _ ⟨_,⟨rfl,rfl⟩,rfl⟩;refine bf ?_;refine bp ?_;refine fg I ?_;exact jY
  obtain ⟨x4,b7,h⟩:=aa h;refine yV (qh av _) (cS [] 7) ?_;refine yV (qh av _) (cS [] 8) ?_;refine bX J (oC (iq b7)) J J J ?_;rintro _ _ ⟨_,⟨x5,x6,x7,x8,x9,y0,y1,y3,y5,rfl,rfl⟩,rfl⟩;refine bf ?_;refine bp ?_;refine zD 3 J (vT (bM 0 J J BE J)) ?_;rintro _ _ ⟨rfl,rfl⟩;refine bf ?_;obtain ⟨u4,a6,h⟩:=aa h;refine zD 7 J (oC (cq a6)) ?_;rintro _ _ ⟨_,⟨rfl,rfl⟩,rfl⟩;refine bf ?_;refine bp ?_;refine fg I ?_;exact jY
 refine fun s L=>aj fun q6=>aj fun q7=>aj fun q8=>aj fun q9=>aj fun r0=>aj fun r1=>aj fun r2=>aj fun r3=>aj fun r4=>aj fun r5=>aj fun r6=>aj fun s0=>aj fun s1=>aj fun s2=>aj fun s3=>aj fun s4=>aj fun s5=>aj fun s6=>aj fun s7=>aj fun s8=>aj fun s9=>aj fun t1=>aj fun t2=>aj fun u0=>aj fun u1=>aj fun u2=>aj fun u3=>yy fun h=> ?_
 refine ai (fun s L=> ∃b9 c0 d0 d1 d2 d3 d4 d6 e0 e1 e2 e3 e4 e5 e6 e7 e8 e9 f1 f2 f3 f4 f9 g0 g1 g2 g3,xQ N b9 c0 d0 d1 d2 d3 d4 d6 e0 e1 e2 e3 e4 e5 e6 e7 e8 e9=some r/\s=[(2,.pointer none),(3,iV 0),(4,pV B8 0)]/\L=[iB f1 f2 f3 e2,sO f4 f9 g0 e6,iB g1 g2 g3 e7,ae B8 85 [iV b9,iV c0,iV d0,iV d1,iV d2,iV d3,iV d4,iV d6,iV e0,iV e1,.nilIface,pV B5 0,pV B7 0,Y f1 f2 f3,iV e3,iV e4,iV e5,Y f4 f9 g0,Y g1 g2 g3],oDHeap B5 e8,oDTable B7 e9]) ?_ ?_
 ·refine bm I ([]) (cS [] 6) ?_;refine zY [0,1,2,4] ?_;refine zE 5 J (ny J (bld_45_0 _).out) ?_;refine qm 3 6 I ?_ ?_
  ·refine bX J (vT (bM 3 J J BE J)) J J J ?_;rintro _ _ ⟨rfl,rfl⟩;refine bf ?_;obtain ⟨u5,a8,h⟩:=aa h;refine lg (qh av _) (cS [] 7) ?_;refine lg (qh av _) (cS [] 8) ?_;refine zD 6 J (oC (iq a8)) ?_;rintro _ _ ⟨_,⟨u6,u7,u8,u9,v1,v2,v6,v7,v8,rfl,rfl⟩,rfl⟩;refine bf ?_;refine bp ?_;obtain ⟨w0,b0,h⟩:=aa h;refine zD 7 J (oC (cq b0)) ?_;rintro _ _ ⟨_,⟨rfl,rfl⟩,rfl⟩;refine bf ?_;refine bp ?_;refine fg I ?_;exact jY
  obtain ⟨u5,a8,h⟩:=aa h;refine yV (qh av _) (cS [] 7) ?_;refine yV (qh av _) (cS [] 8) ?_;refine bX J (oC (iq a8)) J J J ?_;rintro _ _ ⟨_,⟨u6,u7,u8,u9,v1,v2,v6,v7,v8,rfl,rfl⟩,rfl⟩;refine bf ?_;refine bp ?_;refine zD 3 J (vT (bM 0 J J BE J)) ?_;rintro _ _ ⟨rfl,rfl⟩;refine bf ?_;obtain ⟨w0,b0,h⟩:=aa h;refine zD 7 J (oC (cq b0)) ?_;rintro _ _ ⟨_,⟨rfl,rfl⟩,rfl⟩;refine bf ?_;refine bp ?_;refine fg I ?_;exact jY
 refine fun s L=>aj fun b9=>aj fun c0=>aj fun d0=>aj fun d1=>aj fun d2=>aj fun d3=>aj fun d4=>aj fun d6=>aj fun e0=>aj fun e1=>aj fun e2=>aj fun e3=>aj fun e4=>aj fun e5=>aj fun e6=>aj fun e7=>aj fun e8=>aj fun e9=>aj fun f1=>aj fun f2=>aj fun f3=>aj fun f4=>aj fun f9=>aj fun g0=>aj fun g1=>aj fun g2=>aj fun g3=>yy fun h=> ?_
 exact eY
theorem xP {N:Nat}{a0:VV}{r:(Int ⊕ (VS×Int))}(h:xR N a0=some r):Okc Wc 25 [(FC a0)] ([]) (fun u post=>PO (fun (r:Int)=>u=.tuple #[.pointer none,iV r]/\post=[]) (fun (r:VS×Int)=> ∃B0 B1 B2,u=.tuple #[pV B0 0,iV r.2]/\post=[oDWorld B0 B1 B2 r.1]) r):=by
 rcases r with _|_<;>exact Un (HF h)
def qv:Option (Unit ⊕ VS):=
 (xR N (⟨0,1000,10,1000,1,3,1⟩:VV)).bind fun y1=>zy y1 (fun y1_0=>bif !decide (y1_0=0) then (some (.inl ())) else (some (.inl ()))) (fun y1_1=>bif !decide (y1_1.2=0) then (some (.inl ())) else (some (.inr y1_1.1)))
theorem IB {N:Nat}{r:(Unit ⊕ VS)}(h:qv N=some r):Okc Wc 6 [] ([]) (fun u post=>PO (fun (r:Unit)=>u=.pointer none/\post=[]) (fun (r:VS)=> ∃B0 B1 B2,u=pV B0 0/\post=[oDWorld B0 B1 B2 r]) r):=by
 refine bY Tryz.func6 ?_;obtain ⟨y1,a6,h⟩:=aa h;rcases y1 with y1_0|y1_1
 ·replace h:=DQ h;refine C7 (oC (xP a6)) ?_;refine sZ ?_;refine gH J h ?_ ?_<;>intro h
  ·exact eY
  exact eY
 replace h:=DP h;refine gD (oC (xP a6)) ?_;rintro _ _ ⟨_,⟨B3,B4,B5,rfl,rfl⟩,rfl⟩;refine sY ?_;refine gH J h ?_ ?_<;>intro h
 ·exact eY
 exact eY
def lZ:Option VS:=
 (qv N).bind fun s=>zy s (fun _=>none) some
theorem xx {N:Nat}{r:VS}(h:lZ N=some r):Okc Wc 6 [] ([]) (fun u post=> ∃B0 B1 B2,u=pV B0 0/\post=[oDWorld B0 B1 B2 r]):=by
 have e:qv N=some (.inr r):=by
  unfold lZ at h
  cases q:qv N with
  |none=>rw [q] at h;cases h
  |some s=>
   rw [q] at h
   cases s with
   |inl _=>cases h
   |inr w=>cases h;rfl
 exact IB e
def mb (N:Nat)(a0 a1:Int):Option Bool:=
 aE ((a1:Int)≠0/\in64 (a0.tdiv a1)) (some (decide ((a0.tdiv a1).tmod 2=1)))
theorem ww {N:Nat}{a0:Int}{r:Bool}(h:mb N a0 a1=some r):Okc Wc 82 [iV a0,iV a1] ([]) (fun u post=>u=.bool r/\post=[]):=by
 refine bY Tryz.func82 ?_;obtain ⟨q1,h⟩:=ac h;refine gE (AM J J q1.1 q1.2.1 q1.2.2) ?_;refine dU (pf J J (by decide)) ?_;exact eN
def dq (a0:VF)(a1:Int):Option Bool:=
 (mb N a0.Has a1).bind fun y2=>some y2
theorem iJ {N:Nat}{a0:VF}{r:Bool}(h:dq N a0 a1=some r):Okc Wc 83 [(qP a0),iV a1] ([]) (fun u post=>u=.bool r/\post=[]):=by
 refine bY Tryz.func83 ?_;intro B1
 refine cR h (fun _ k=>ww k) fun y2 h=> ?_
 exact eN
def qF (a0:VF):Option Bool:=
 (dq N a0 1).bind fun y2=>(bif y2 then (some true) else ((dq N a0 2).bind fun y4=>some y4)).bind fun b3=>some b3
theorem IR {N:Nat}{a0:VF}{r:Bool}(h:qF N a0=some r):Okc Wc 80 [(qP a0)] ([]) (fun u post=>u=.bool r/\post=[]):=by
 refine bY Tryz.func80 ?_;intro B1
 refine cR h (fun _ k=>iJ k) fun y2 h=> ?_
 refine AU 3 8 5 h (fun _ g3 h=> ?_) fun b3 h=> ?_
 ·refine cR h (fun _ k=>iJ k) fun y4 h=> ?_
  exact gY
 exact eY
def kS (a0:VF):Option Bool:=
 (dq N a0 4).bind fun y2=>(bif y2 then (some true) else ((dq N a0 8).bind fun y4=>some y4)).bind fun b3=>some b3
theorem DX {N:Nat}{a0:VF}{r:Bool}(h:kS N a0=some r):Okc Wc 81 [(qP a0)] ([]) (fun u post=>u=.bool r/\post=[]):=by
 refine bY Tryz.func81 ?_;intro B1
 refine cR h (fun _ k=>iJ k) fun y2 h=> ?_
 refine AU 3 8 5 h (fun _ g3 h=> ?_) fun b3 h=> ?_
 ·refine cR h (fun _ k=>iJ k) fun y4 h=> ?_
  exact gY
 exact eY
def ub (N:Nat)(a0:VN)(a1:Bool):Option Bool:=
 bif !a1 then (some (decide (a0=(⟨0,0,⟨#[]⟩⟩:VN)))) else ((bif decide (a0.XZ=0) then (some true) else (some (decide (a0.XZ=7)))).bind fun b3=>some b3)
theorem Du {N:Nat}{a0:VN}{a1 r:Bool}(h:ub N a0 a1=some r):Okc Wc 84 [(aX a0),.bool a1] ([]) (fun u post=>u=.bool r/\post=[]):=by
 refine bY Tryz.func84 ?_;intro B1;refine sY ?_;refine gH J h ?_ ?_<;>intro h
 ·refine ab ?_;refine dU (wg (x:=a0) (y:=(⟨0,0,⟨#[]⟩⟩:VN)) J J) ?_;exact eN
 refine ab ?_;refine gS 4 17 13 h ?_;intro b3 h;exact eY
def uQ (a0:VF):Option Bool:=
 (bif decide (a0.Has<0) then (some true) else (some (decide (63<a0.Has)))).bind fun b2=>(bif b2 then (some true) else (some (decide (a0.Yh<0)))).bind fun b3=>(bif b3 then (some true) else (some (decide (7<a0.Yh)))).bind fun b4=>(bif b4 then (some true) else ((qF N a0).bind fun y6=>(bif y6 then ((kS N a0).bind fun y8=>some y8) else (some false)).bind fun b7=>some b7)).bind fun b5=>bif b5 then (some false) else ((mb N a0.Yh 1).bind fun a6=>(bif a6 then ((dq N a0 2).bind fun a8=>some (!a8)) else (some false)).bind fun b0=>(bif b0 then (some true) else ((mb N a0.Yh 2).bind fun b6=>(bif b6 then ((dq N a0 16).bind fun b9=>some (!b9)) else (some false)).bind fun c0=>some c0)).bind fun d0=>(bif d0 then (some true) else ((mb N a0.Yh 4).bind fun d1=>(bif d1 then ((dq N a0 32).bind fun d2=>some (!d2)) else (some false)).bind fun d3=>some d3)).bind fun d4=>bif d4 then (some false) else ((dq N a0 1).bind fun d6=>(bif !d6 then (some (!decide (a0.Value=(⟨0,0,⟨#[]⟩⟩:VN)))) else (some false)).bind fun e0=>(bif e0 then (some true) else (some (decide (a0.Value.XZ<0)))).bind fun e1=>(bif e1 then (some true) else (some (decide (7<a0.Value.XZ)))).bind fun e2=>bif e2 then (some false) else ((dq N a0 4).bind fun e3=>(ub N a0.Yp e3).bind fun e4=>(bif e4 then ((dq N a0 8).bind fun e5=>(ub N a0.Yr e5).bind fun e6=>some e6) else (some false)).bind fun e7=>some e7)))
theorem HG {N:Nat}{a0:VF}{r:Bool}(h:uQ N a0=some r):Okc Wc 26 [(qP a0)] ([]) (fun u post=>u=.bool r/\post=[]):=by
 refine bY Tryz.func26 ?_;intro B1;refine sY ?_;refine gS 4 10 6 h ?_;intro b2 h;refine ab ?_;refine gS 4 15 11 h ?_;intro b3 h;refine ab ?_;refine gS 4 20 16 h ?_;intro b4 h;refine ab ?_;obtain ⟨b5,e2,h⟩:=aa h;refine vF 7 28 b5 ?_ ?_
 ·clear h;refine wQ 21 J (fun g5=> ?_) (fun g5=> ?_)
  ·have h:=qi g5 e2;exact gY
  have h:=qj g5 e2;refine ab ?_;obtain ⟨y6,k,h⟩:=aa h;refine gU (oR (IR k)) (pc g5 J) ?_;refine ab ?_;obtain ⟨b7,e3,h⟩:=aa h;refine vF 3 27 b7 ?_ ?_
  ·clear h;refine wQ 24 J (fun g7=> ?_) (fun g7=> ?_)
   ·have h:=qi g7 e3;refine ab ?_;obtain ⟨y8,k,h⟩:=aa h;refine gU (oR (DX k)) (el g7 J) ?_;exact gY
   have h:=qj g7 e3;exact gY
  exact gY
 refine dI h ?_ ?_<;>intro h
 ·exact eY
 refine sY ?_;obtain ⟨f2,k,h⟩:=aa h;refine C7 (oR (ww k)) ?_;obtain ⟨e4,a8,h⟩:=aa h;refine vF 4 36 e4 ?_ ?_
 ·clear h;refine wQ 32 J (fun d2=> ?_) (fun d2=> ?_)
  ·have h:=qi d2 a8;refine ab ?_;obtain ⟨f3,k,h⟩:=aa h;refine gU (oR (iJ k)) (el d2 J) ?_;exact gY
  have h:=qj d2 a8;exact gY
 refine ab ?_;obtain ⟨e5,b0,h⟩:=aa h;refine vF 9 46 e5 ?_ ?_
 ·clear h;refine wQ 37 J (fun d3=> ?_) (fun d3=> ?_)
  ·have h:=qi d3 b0;exact gY
  have h:=qj d3 b0;refine ab ?_;obtain ⟨f4,k,h⟩:=aa h;refine gU (oR (ww k)) (pc d3 J) ?_;refine ab ?_;obtain ⟨e6,b6,h⟩:=aa h;refine vF 4 45 e6 ?_ ?_
  ·clear h;refine wQ 41 J (fun d4=> ?_) (fun d4=> ?_)
   ·have h:=qi d4 b6;refine ab ?_;obtain ⟨f9,k,h⟩:=aa h;refine gU (oR (iJ k)) (el d4 J) ?_;exact gY
   have h:=qj d4 b6;exact gY
  exact gY
 refine ab ?_;obtain ⟨e7,b9,h⟩:=aa h;refine vF 9 56 e7 ?_ ?_
 ·clear h;refine wQ 47 J (fun d6=> ?_) (fun d6=> ?_)
  ·have h:=qi d6 b9;exact gY
  have h:=qj d6 b9;refine ab ?_;obtain ⟨g0,k,h⟩:=aa h;refine gU (oR (ww k)) (pc d6 J) ?_;refine ab ?_;obtain ⟨e8,c0,h⟩:=aa h;refine vF 4 55 e8 ?_ ?_
  ·clear h;refine wQ 51 J (fun e0=> ?_) (fun e0=> ?_)
   ·have h:=qi e0 c0;refine ab ?_;obtain ⟨g1,k,h⟩:=aa h;refine gU (oR (iJ k)) (el e0 J) ?_;exact gY
   have h:=qj e0 c0;exact gY
  exact gY
 refine dI h ?_ ?_<;>intro h
 ·exact eY
 refine sY ?_;obtain ⟨g2,k,h⟩:=aa h;refine C7 (oR (iJ k)) ?_;obtain ⟨e9,d0,h⟩:=aa h;refine vF 5 65 e9 ?_ ?_
 ·clear h;refine wQ 60 J (fun e1=> ?_) (fun e1=> ?_)
  ·have h:=qi e1 d0;refine ab ?_;refine gT (Nh (x:=a0.Value) (y:=(⟨0,0,⟨#[]⟩⟩:VN)) J J) J (el e1 J) J ?_;exact gY
  have h:=qj e1 d0;exact gY
 refine ab ?_;refine gS 5 71 66 h ?_;intro g3 h;refine ab ?_;refine gS 5 77 72 h ?_;intro g4 h;refine dI h ?_ ?_<;>intro h
 ·exact eY
 refine ab ?_;refine dY [0,1,2] ?_;obtain ⟨g6,k,h⟩:=aa h;refine zD 3 J (oR (iJ k)) ?_;rintro _ _ ⟨_,⟨rfl,rfl⟩,rfl⟩;refine ⟨_,ah _,ah _,?_⟩;obtain ⟨g8,k,h⟩:=aa h;refine zD 4 J (oR (Du k)) ?_;rintro _ _ ⟨_,⟨rfl,rfl⟩,rfl⟩;refine ⟨_,ah _,ah _,?_⟩;refine zY [5] ?_;obtain ⟨f1,d1,h⟩:=aa h;refine Pu (fun l=>((((((l.setIfInBounds 6 true).setIfInBounds 7 true).setIfInBounds 8 true).setIfInBounds 9 true).setIfInBounds 10 true).setIfInBounds 11 true)) 1 89 f1 (fun rest=> ?_) ?_
 ·clear h;refine Rm 83 J (fun a6=> ?_) (fun a6=> ?_)
  ·have h:=qi a6 d1;refine yM 6 J I (jW J LC) (el a6 J) J ?_;refine LP 7 J I (jh (us:=eE a0.Yr) 0 J J agg29.out J) (el a6 J) J ?_;refine LP 8 J I (jh (us:=ur a0) 0 J J agg36.out J) (el a6 J) J ?_;obtain ⟨g9,k,h⟩:=aa h;refine Dj 9 J I (oR (iJ k)) J (el a6 J) J ?_;rintro _ _ ⟨_,⟨rfl,rfl⟩,rfl⟩;refine ⟨_,ah _,ah _,?_⟩;obtain ⟨h0,k,h⟩:=aa h;refine Dj 10 J I (oR (Du k)) J (el a6 J) J ?_;rintro _ _ ⟨_,⟨rfl,rfl⟩,rfl⟩;refine ⟨_,ah _,ah _,?_⟩;refine zE 11 J (AN a6 J J) ?_;obtain rfl:=jn h;exact Ir rest (xB J (ck (ck (ck (ck (ck (ck dl J) J) J) J) J) J)) (ah _) (ah _)
  have h:=qj a6 d1;refine Hl 6 J I (KM a6 J) J ?_;refine Hl 7 J I (KM a6 J) J ?_;refine Hl 8 J I (KM a6 J) J ?_;refine Hl 9 J I (KM a6 J) J ?_;refine Hl 10 J I (KM a6 J) J ?_;refine zE 11 J (AO a6 J J) ?_;obtain rfl:=jn h;exact Ir rest (xB J (ck (ck (ck (ck (ck (ck dl J) J) J) J) J) J)) (ah _) (ah _)
 refine zX [12] ?_;exact eY
def jB (N:Nat)(a1:Int)(a0:VN)(p3:Bool):Option Bool:=
 bif p3 then ((bif decide (a0.N=0) then (some (a0.S.toList==(⟨#[]⟩:ByteArray).toList)) else (some false)).bind fun b7=>some b7) else (bif decide (a0.XZ=3) then ((bif a0.S.toList==(⟨#[]⟩:ByteArray).toList then (some (decide ((-9007199254740992)<=a0.N))) else (some false)).bind fun b9=>(bif b9 then (some (decide (a0.N<=9007199254740992))) else (some false)).bind fun a6=>some a6) else (bif decide (a0.XZ=5) then ((bif decide (a0.N=0) then (some (decide ((a0.S.size:Int)<=65536))) else (some false)).bind fun b12=>some b12) else (bif decide (a0.XZ=7) then ((bif a0.S.toList==(⟨#[]⟩:ByteArray).toList then (some (decide (0<=a0.N))) else (some false)).bind fun a8=>(bif a8 then (some (decide (a0.N<a1))) else (some false)).bind fun b0=>some b0) else (some false))))
def mW (a0:VN)(a1:Int):Option Bool:=
 bif decide (a0.XZ=0) then (jB N a1 a0 (decide (a0.XZ=0))) else (bif decide (a0.XZ=1) then (jB N a1 a0 (decide (a0.XZ=1))) else (jB N a1 a0 (decide (a0.XZ=4))))
theorem sT {N:Nat}{a0:VN}{r:Bool}(h:mW N a0 a1=some r):Okc Wc 27 [(aX a0),iV a1] ([]) (fun u post=>u=.bool r/\post=[]):=by
 refine bY Tryz.func27 ?_;intro B1;refine sY ?_;refine ai (fun s L=> ∃p3,jB N a1 a0 p3=some r/\s=[(1,iV a1),(2,pV B1 0),(4,.bool false),(6,iV a0.XZ),(7,.bool p3)]/\L=[ae B1 29 (eE a0)]) ?_ ?_
 ·refine dI h ?_ ?_<;>intro h
  ·exact jY
  refine dI h ?_ ?_<;>intro h
  ·exact jY
  exact jY
 rintro _ _ ⟨p3,h,rfl,rfl⟩;refine gH J h ?_ ?_<;>intro h
 ·refine ab ?_
  refine qo 4 18 14 h (fun _ g7 h=> ?_) fun b7 h=> ?_
  ·refine ab ?_;refine gT (rS J J) J (el g7 J) J ?_;exact gY
  exact eY
 refine dI h ?_ ?_<;>intro h
 ·refine ab ?_;refine dU (rS J J) ?_;refine gS 4 28 24 h ?_;intro b9 h;refine ab ?_;refine gS 4 33 29 h ?_;intro a8 h;exact eY
 refine dI h ?_ ?_<;>intro h
 ·refine ab ?_
  refine qo 5 44 39 h (fun _ a6 h=> ?_) fun b12 h=> ?_
  ·refine ab ?_;refine gT (tg J Vs) J (el a6 J) J ?_;exact gY
  exact eY
 refine dI h ?_ ?_<;>intro h
 ·refine ab ?_;refine dU (rS J J) ?_;refine gS 4 54 50 h ?_;intro b0 h;refine ab ?_;refine gS 5 60 55 h ?_;intro b5 h;exact eY
 exact eY
end
section
variable {A1 A2 A3 A4 A5 A6 A7 A8 A9:Option Addr}{B1 B2 B3 B6 M2 M7 c1 c2 c3 c4 c5 c6 c7 c8 c9 n1 n2 n3 n4 n5 n6 n7 n8 n9:Nat}
open Go.RowKit Asn
set_option maxRecDepth 20000
def An (N:Nat):Option Int:=
 some 1
def wo (N:Nat)(a1:Int)(a0:List VM):Nat->Int->Int->Option Int
 |0,_,_=>none
 |m4+1,p5,p6=>bif decide (p6<(a0.length:Int)) then ((ap a0 p6).bind fun x8=>aE (in64 ((x8.K.S.size:Int)+(x8.V.S.size:Int))) (aE (in64 (((x8.K.S.size:Int)+(x8.V.S.size:Int))+(x8.D.Value.S.size:Int))) (aE (in64 (p5+(((x8.K.S.size:Int)+(x8.V.S.size:Int))+(x8.D.Value.S.size:Int)))) (bif decide (70000<p5+(((x8.K.S.size:Int)+(x8.V.S.size:Int))+(x8.D.Value.S.size:Int))) then (some 0) else ((bif decide (x8.O<0) then (some true) else (some (decide (a1<=x8.O)))).bind fun a6=>(bif a6 then (some true) else (some (decide (x8.P<(-1))))).bind fun a8=>(bif a8 then (some true) else (some (decide (a1<=x8.P)))).bind fun b16=>(bif b16 then (some true) else ((uQ N x8.D).bind fun b0=>some (!b0))).bind fun b5=>(bif b5 then (some true) else ((mW N x8.V a1).bind fun b6=>some (!b6))).bind fun b7=>(bif b7 then (some true) else ((mW N x8.D.Value a1).bind fun b9=>some (!b9))).bind fun c0=>(bif c0 then (some true) else ((mW N x8.D.Yp a1).bind fun d0=>some (!d0))).bind fun d1=>(bif d1 then (some true) else ((mW N x8.D.Yr a1).bind fun d2=>some (!d2))).bind fun d3=>bif d3 then (some 0) else (aE (in64 (p6+1)) ((wo N a1 a0 m4) (p5+(((x8.K.S.size:Int)+(x8.V.S.size:Int))+(x8.D.Value.S.size:Int))) (p6+1)))))))) else (An N)
def yU (a0:List VM)(a1:Int):Option Int:=
 bif decide (40<(a0.length:Int)) then (some 0) else (wo N a1 a0 N 0 0)
theorem J0 {N:Nat}{a0:List VM}{r:Int}(h:yU N a0 a1=some r):Okc Wc 7 [Y A1 n1 c1,iV a1] ([iD EQ (Y A1 n1 c1) a0]) (fun u post=>u=iV r/\post=[]):=by
 refine bY Tryz.func7 ?_;refine sZ ?_;refine gH J h ?_ ?_<;>intro h
 ·exact eY
 refine ab ?_;refine ai (fun s L=>An N=some r/\s=[(4,iV 0)]/\L=[]) ?_ ?_
 ·refine ab ?_;refine lK (fun m s L=> ∃(p5:Int) (p6:Int),wo N a1 a0 m p5 p6=some r/\s=[(0,Y A1 n1 c1),(1,iV a1),(4,iV 0),(5,iV p5),(6,iV p6)]/\L=[iD EQ (Y A1 n1 c1) a0]) N ?_;rintro m4 _ _ ⟨p5,p6,h,rfl,rfl⟩;rw [wo.eq_2] at h;refine sZ ?_;refine gH J h ?_ ?_<;>intro h
  ·refine sY ?_;obtain ⟨x8,a6,a8,b0,h⟩:=aM h
   refine du fun B9=> ?_
   refine dU (tg J Vs) ?_;refine gE (tg J Vs) ?_;obtain ⟨b5,h⟩:=ac h;refine ab ?_;refine gE (tg J Vs) ?_;obtain ⟨b6,h⟩:=ac h;refine ab ?_;obtain ⟨b7,h⟩:=ac h;refine sY ?_;refine gH J h ?_ ?_<;>intro h
   ·exact eY
   refine ab ?_;refine gS 5 48 43 h ?_;intro b9 h;refine ab ?_;refine gS 4 53 49 h ?_;intro c0 h;refine ab ?_;refine gS 5 59 54 h ?_;intro b16 h;refine ab ?_
   refine AU 5 65 60 h (fun _ d0 h=> ?_) fun d1 h=> ?_
   ·refine cR h (fun _ k=>HG k) fun d2 h=> ?_
    exact gY
   refine ab ?_
   refine AU 6 72 66 h (fun _ d3 h=> ?_) fun d4 h=> ?_
   ·refine cR h (fun _ k=>sT k) fun d6 h=> ?_
    exact gY
   refine ab ?_
   refine AU 7 80 73 h (fun _ e0 h=> ?_) fun e1 h=> ?_
   ·refine cR h (fun _ k=>sT k) fun e2 h=> ?_
    exact gY
   refine ab ?_
   refine AU 7 88 81 h (fun _ e3 h=> ?_) fun e4 h=> ?_
   ·refine cR h (fun _ k=>sT k) fun e5 h=> ?_
    exact gY
   refine ab ?_
   refine AU 7 96 89 h (fun _ e6 h=> ?_) fun e7 h=> ?_
   ·refine cR h (fun _ k=>sT k) fun e8 h=> ?_
    exact gY
   refine dI h ?_ ?_<;>intro h
   ·exact eY
   refine ab ?_;obtain ⟨e9,h⟩:=ac h;exact lY
  exact jY
 rintro _ _ ⟨h,rfl,rfl⟩;exact eY
def uh (N:Nat)(a0:Int)(p9:Bool):Option (VY×Bool):=
 bif p9 then (some (([(⟨3,0,⟨#[]⟩⟩:VN),(⟨0,0,⟨#[]⟩⟩:VN)]:List VN),true)) else (bif decide (a0=7) then (some (([(⟨0,0,⟨#[]⟩⟩:VN),(⟨0,0,⟨#[]⟩⟩:VN),(⟨3,0,⟨#[]⟩⟩:VN),(⟨3,0,⟨#[]⟩⟩:VN)]:List VN),true)) else (some ([],false)))
def pN (a0:Int)(p3:Bool):Option (VY×Bool):=
 bif p3 then (some ([],true)) else (bif decide (a0=6) then (uh N a0 (decide (a0=6))) else (uh N a0 (decide (a0=9))))
def z8 (a0:Int):Option (VY×Bool):=
 bif decide (a0=1) then (pN N a0 (decide (a0=1))) else (bif decide (a0=2) then (pN N a0 (decide (a0=2))) else (pN N a0 (decide (a0=8))))
theorem Fb {N:Nat}{a0:Int}{r:VY×Bool}(h:z8 N a0=some r):Okc Wc 35 [iV a0] ([]) (fun u post=> ∃A0 n0 c0,u=.tuple #[Y A0 n0 c0,.bool r.2]/\post=[aC A0 n0 c0 r.1]):=by
 refine bY Tryz.func35 ?_;intro B1;refine sY ?_;refine ai (fun s L=> ∃p3,pN N a0 p3=some r/\s=[(2,Y none 0 0),(3,.bool false),(4,pV B1 0),(6,iV a0),(7,.bool p3)]/\L=[ae B1 29 [iV 3,iV 0,.string (⟨#[]⟩)]]) ?_ ?_
 ·refine dI h ?_ ?_<;>intro h
  ·exact jY
  refine dI h ?_ ?_<;>intro h
  ·exact jY
  exact jY
 rintro _ _ ⟨p3,h,rfl,rfl⟩;refine gH J h ?_ ?_<;>intro h
 ·refine ab ?_;obtain rfl:=jn h;exact Jw J J J ((bq av 29 _).trans (cS [0] 2)) ⟨_,_,_,J,J⟩
 refine ai (fun s L=> ∃p9,uh N a0 p9=some r/\s=[(2,Y none 0 0),(3,.bool false),(4,pV B1 0),(6,iV a0),(11,.bool p9)]/\L=[ae B1 29 [iV 3,iV 0,.string (⟨#[]⟩)]]) ?_ ?_
 ·refine dI h ?_ ?_<;>intro h
  ·exact jY
  exact jY
 rintro _ _ ⟨p9,h,rfl,rfl⟩;refine gH J h ?_ ?_<;>intro h
 ·refine ab ?_
  refine r9 (aL (R:=av) (vss:=[[iV 3,iV 0,.string (⟨#[]⟩)],[iV 0,iV 0,.string (⟨#[]⟩)]]) (xs:=[(⟨3,0,⟨#[]⟩⟩:VN),(⟨0,0,⟨#[]⟩⟩:VN)]) J (FZ _ _ _ _ _ _) J J (fun _ _ hr=> .cons J (.cons J All2.nil))) fun a6 a8 b0=> ?_
  exact eN
 refine dI h ?_ ?_<;>intro h
 ·refine ab ?_
  refine r9 (aL (R:=av) (vss:=[[iV 0,iV 0,.string (⟨#[]⟩)],[iV 0,iV 0,.string (⟨#[]⟩)],[iV 3,iV 0,.string (⟨#[]⟩)],[iV 3,iV 0,.string (⟨#[]⟩)]]) (xs:=[(⟨0,0,⟨#[]⟩⟩:VN),(⟨0,0,⟨#[]⟩⟩:VN),(⟨3,0,⟨#[]⟩⟩:VN),(⟨3,0,⟨#[]⟩⟩:VN)]) J (JM _ _ _ _ _ _ _ _ _ _ _ _) J J (fun _ _ hr=> .cons J (.cons J (.cons J (.cons J All2.nil))))) fun b5 b6 b7=> ?_
  exact eN
 refine ab ?_;obtain rfl:=jn h;exact Jw J J J ((bq av 29 _).trans (cS [0] 2)) ⟨_,_,_,J,J⟩
def iI (N:Nat)(a0:VN):Option Bool:=
 (bif decide (a0.XZ=7) then (some true) else (some (decide (a0.XZ=9)))).bind fun b2=>some b2
theorem t7 {N:Nat}{a0:VN}{r:Bool}(h:iI N a0=some r):Okc Wc 54 [(aX a0)] ([]) (fun u post=>u=.bool r/\post=[]):=by
 refine bY Tryz.func54 ?_;intro B1;refine ab ?_;refine gS 4 10 6 h ?_;intro b2 h;exact eY
def pJ (N:Nat)(a1:Int)(p6:V7)(p7:Int):Option (V7×Int×Bool):=
 (bif decide (0<a1) then (some (decide (p7<(p6.length:Int)))) else (some false)).bind fun a6=>some (p6,p7,a6)
def ou (a0:VR)(a1:Int):Option (V7×Int×Bool):=
 aE (in64 (a1.tdiv 2)) (bif decide (a1.tmod 2=0) then (aE (in64 (a1.tdiv 2)) (aE (in64 ((a1.tdiv 2) - 1)) (pJ N a1 a0.Yc ((a1.tdiv 2) - 1)))) else (pJ N a1 a0.Yd (a1.tdiv 2)))
theorem xT {N:Nat}{a0:VR}{r:V7×Int×Bool}(h:ou N a0 a1=some r):Okc Wc 194 [.agg #[Y A1 n1 c1,Y A2 n2 c2],iV a1] ([bB A1 n1 c1 a0.Yd,bB A2 n2 c2 a0.Yc]) (fun u post=> ∃A0 n0 c0,u=.tuple #[Y A0 n0 c0,iV r.2.1,.bool r.2.2]/\post=[bB A0 n0 c0 r.1]):=by
 refine bY Tryz.func194 ?_;intro B3;refine ab ?_;obtain ⟨q4,h⟩:=ac h;refine dU (AM J J (by decide) q4.1 q4.2) ?_;refine ai (fun s L=> ∃p6 p7 A6 n6 c6,pJ N a1 p6 p7=some r/\s=[(1,iV a1),(4,Y none 0 0),(5,iV 0),(6,.bool false),(7,Y A6 n6 c6),(8,iV p7)]/\L=[bB A6 n6 c6 p6]) ?_ ?_
 ·refine ab ?_;refine dU (pf J J (by decide)) ?_;refine gH J h ?_ ?_<;>intro h
  ·refine ab ?_;obtain ⟨q9,h⟩:=ac h;refine gE (AM J J (by decide) q9.1 q9.2) ?_;obtain ⟨a6,h⟩:=ac h;exact jY
  exact jY
 rintro _ _ ⟨p6,p7,A6,n6,c6,h,rfl,rfl⟩;refine ab ?_;refine gS 5 30 25 h ?_;intro a8 h;exact eY
def jL (a0:VR)(a1:Int):Option Bool:=
 (ou N a0 a1).bind fun y4=>some y4.2.2
theorem lF {N:Nat}{a0:VR}{r:Bool}(h:jL N a0 a1=some r):Okc Wc 164 [.agg #[Y A1 n1 c1,Y A2 n2 c2],iV a1] ([bB A1 n1 c1 a0.Yd,bB A2 n2 c2 a0.Yc]) (fun u post=>u=.bool r/\post=[]):=by
 refine bY Tryz.func164 ?_;intro B3
 refine UJ h (fun _ k=>xT k) fun y4 A5 n5 c5 h=> ?_
 exact eN
def jy (a0:VU)(a1:Int):Option Bool:=
 (aG N a0).bind fun y8=>(bif !y8 then ((jL N a0.m_ a1).bind fun a6=>some a6) else (some false)).bind fun b9=>some b9
theorem qN {N:Nat}{a0:VU}{r:Bool}(h:jy N a0 a1=some r):Okc Wc 103 [pV B1 0,iV a1] ([aB B1 128 [Y A2 n2 c2,Y A3 n3 c3,Y A4 n4 c4,Y A5 n5 c5,pV B6 0],bB A2 n2 c2 a0.m_.Yd,bB A3 n3 c3 a0.m_.Yc,aZ A4 n4 c4 a0.Ym,aZ A5 n5 c5 a0.Yt,aB B6 186 [.map (some M7)],nc cj fv M7 a0.Ys.at_]) (fun u post=>u=.bool r/\post=[]):=by
 refine bY Tryz.func103 ?_
 refine cR h (fun _ k=>bW k) fun y8 h=> ?_
 refine qo 7 15 8 h (fun _ g9 h=> ?_) fun b9 h=> ?_
 ·refine cR h (fun _ k=>lF k) fun a6 h=> ?_
  exact gY
 exact eY
def ic (N:Nat)(a0:VU)(a1:Int):Option (Int ⊕ Int):=
 bif decide (a1.tmod 2=1) then (aE (in64 (a1.tdiv 2)) ((ap a0.m_.Yd (a1.tdiv 2)).bind fun a6=>some (.inl (a1.tdiv 2)))) else (aE (in64 (a1.tdiv 2)) (aE (in64 ((a1.tdiv 2) - 1)) ((ap a0.m_.Yc ((a1.tdiv 2) - 1)).bind fun a8=>some (.inr ((a1.tdiv 2) - 1)))))
theorem fY {N:Nat}{a0:VU}{r:(Int ⊕ Int)}(h:ic N a0 a1=some r):Okc Wc 105 [pV B1 0,iV a1] ([aB B1 128 [Y A2 n2 c2,Y A3 n3 c3,Y A4 n4 c4,Y A5 n5 c5,pV B6 0],bB A2 n2 c2 a0.m_.Yd,bB A3 n3 c3 a0.m_.Yc,aZ A4 n4 c4 a0.Ym,aZ A5 n5 c5 a0.Yt,aB B6 186 [.map (some M7)],nc cj fv M7 a0.Ys.at_]) (fun u post=>PO (fun (r:Int)=>u=dh (Y A2 n2 c2) r.toNat 6 0/\post=[]) (fun (r:Int)=>u=dh (Y A3 n3 c3) r.toNat 6 0/\post=[]) r):=by
 refine bY Tryz.func105 ?_;refine sZ ?_;refine dU (pf J J (by decide)) ?_;refine gH J h ?_ ?_<;>intro h
 ·refine ab ?_;obtain ⟨q9,h⟩:=ac h;refine gE (AM J J (by decide) q9.1 q9.2) ?_;obtain ⟨c0,a8,b0,b5,h⟩:=aM h;exact eY
 refine ab ?_;obtain ⟨a6,h⟩:=ac h;refine gE (AM J J (by decide) a6.1 a6.2) ?_;obtain ⟨d0,h⟩:=ac h;refine ab ?_;obtain ⟨d1,b6,b7,b9,h⟩:=aM h;exact eY
def ns (a0:VU)(a1:Int):Option (VJ×Bool):=
 (jy N a0 a1).bind fun y9=>bif !y9 then (some ((⟨0,0,0,0,[],[]⟩:VJ),false)) else ((ic N a0 a1).bind fun a6=>zy a6 (fun y13_0=>(ap a0.m_.Yd y13_0).bind fun a8=>(dt N a8).bind fun b0=>some (b0,true)) (fun y13_1=>(ap a0.m_.Yc y13_1).bind fun b5=>(dt N b5).bind fun b6=>some (b6,true)))
theorem D0 {N:Nat}{a0:VU}{r:VJ×Bool}(h:ns N a0 a1=some r):Okc Wc 55 [pV B1 0,iV a1] ([aB B1 128 [Y A2 n2 c2,Y A3 n3 c3,Y A4 n4 c4,Y A5 n5 c5,pV B6 0],bB A2 n2 c2 a0.m_.Yd,bB A3 n3 c3 a0.m_.Yc,aZ A4 n4 c4 a0.Ym,aZ A5 n5 c5 a0.Yt,aB B6 186 [.map (some M7)],nc cj fv M7 a0.Ys.at_]) (fun u post=> ∃A0 n0 c0 A1 n1 c1,u=.tuple #[.agg #[iV r.1.XZ,iV r.1.Yf,iV r.1.Ye,iV r.1.Yg,Y A0 n0 c0,Y A1 n1 c1],.bool r.2]/\post=[aC A0 n0 c0 r.1.Yb,aC A1 n1 c1 r.1.Ya]):=by
 refine bY Tryz.func55 ?_;intro B8;refine sY ?_
 refine cR h (fun _ k=>qN k) fun y9 h=> ?_
 refine gH J h ?_ ?_<;>intro h
 ·refine ab ?_;obtain rfl:=jn h;exact uB (rs:=[.cell 4 45,.tmp 5]) (vs:=[.agg #[iV 0,iV 0,iV 0,iV 0,Y none 0 0,Y none 0 0],.bool false]) J (.cons (lC 0 J J agg45.out) (.cons (qB J) .nil)) J ((bq av 29 _).trans ((bq av 29 _).trans (cS [1,0] 10))) ⟨_,_,_,_,_,_,J,J⟩
 refine ab ?_;obtain ⟨d2,a6,h⟩:=aa h;rcases d2 with y13_0|y13_1
 ·replace h:=DQ h;refine gD (oR (fY a6)) ?_;rintro _ _ ⟨_,⟨rfl,rfl⟩,rfl⟩;obtain ⟨d0,a8,b0,b5,h⟩:=aM h;refine gR (mE 2 J bS J (toNat_lt a8 b0)) ?_;refine Cu 2 J b5 (kj d0) ?_;rintro _ _ ⟨d3,d4,d6,e0,e1,e2,rfl,rfl⟩;refine gR (sW (us:=(gk d0 d3 d4 d6 e0 e1 e2)) 0 J J agg45.out J) ?_
  refine NA h (fun _ k=>gj k) fun e9 f1 f2 f3 f4 f9 g0 h=> ?_
  exact eN
 replace h:=DP h;refine gD (oR (fY a6)) ?_;rintro _ _ ⟨_,⟨rfl,rfl⟩,rfl⟩;obtain ⟨d1,b6,b7,b9,h⟩:=aM h;refine gR (mE 3 J bS J (toNat_lt b6 b7)) ?_;refine Cu 3 J b9 (kj d1) ?_;rintro _ _ ⟨e3,e4,e5,e6,e7,e8,rfl,rfl⟩;refine gR (sW (us:=(gk d1 e3 e4 e5 e6 e7 e8)) 0 J J agg45.out J) ?_
 refine NA h (fun _ k=>gj k) fun g1 g2 g3 g4 g5 g6 g7 h=> ?_
 exact eN
theorem uW {N:Nat}{a0:VU}{r:VJ×Bool}(h:ns N a0 a1=some r):Okc Wc 55 [pV B1 0,iV a1] ([pDHeap B1 a0]) (fun u post=> ∃A0 n0 c0 A1 n1 c1,u=.tuple #[.agg #[iV r.1.XZ,iV r.1.Yf,iV r.1.Ye,iV r.1.Yg,Y A0 n0 c0,Y A1 n1 c1],.bool r.2]/\post=[aC A0 n0 c0 r.1.Yb,aC A1 n1 c1 r.1.Ya]):=Nz 0 rfl (fun _=>D0 h)
def rI (N:Nat)(a6 a8 b0 b5:Int)(b6 b7:VY):Option VJ:=
 some (⟨a6,a8,b0,b5,b6,b7⟩:VJ)
def aF (a0:VS)(a1:VN):Option VJ:=
 (iI N a1).bind fun y9=>bif !y9 then (some (⟨0,0,0,0,[],[]⟩:VJ)) else ((ns N a0.Yi a1.N).bind fun a6=>rI N a6.1.XZ a6.1.Yf a6.1.Ye a6.1.Yg a6.1.Yb a6.1.Ya)
theorem ir {N:Nat}{a1:VN}{r:VJ}(h:aF N a0 a1=some r):Okc Wc 17 [pV B1 0,(aX a1)] ([aB B1 85 (tD a0 B2 B3 A4 n4 c4 A5 n5 c5 A6 n6 c6),pDHeap B2 a0.Yi,pDTable B3 a0.Yk,iD sX (Y A4 n4 c4) a0.Yv,iD nH (Y A5 n5 c5) a0.Yw,iD sX (Y A6 n6 c6) a0.Yx]) (fun u post=> ∃A0 n0 c0 A1 n1 c1,u=.agg #[iV r.XZ,iV r.Yf,iV r.Ye,iV r.Yg,Y A0 n0 c0,Y A1 n1 c1]/\post=[aC A0 n0 c0 r.Yb,aC A1 n1 c1 r.Ya]):=by
 refine bY Tryz.func17 ?_;intro B7
 refine du fun B8=> ?_
 refine sZ ?_;refine dU (dZ J Vt) ?_
 refine cR h (fun _ k=>t7 k) fun y9 h=> ?_
 refine gH J h ?_ ?_<;>intro h
 ·refine ab ?_;obtain rfl:=jn h;exact uB (rs:=[.cell 4 45]) (vs:=[.agg #[iV 0,iV 0,iV 0,iV 0,Y none 0 0,Y none 0 0]]) J (.cons (lC 0 J J agg45.out) .nil) J ((bq av 29 _).trans ((bq av 29 _).trans (cS [1,0] 10))) ⟨_,_,_,_,_,_,J,J⟩
 refine ab ?_;refine ai (fun s L=> ∃b5 b6 b7 b9 d0 d1 d2 d3 d4 d6 e0 e1 e2,rI N b5 b6 b7 b9 d0 d1=some r/\s=[(4,pV B8 0),(5,pV d2 0)]/\L=[aC d3 d4 d6 d0,aC e0 e1 e2 d1,ae d2 45 [iV b5,iV b6,iV b7,iV b9,Y d3 d4 d6,Y e0 e1 e2],ae B8 45 [iV 0,iV 0,iV 0,iV 0,Y none 0 0,Y none 0 0]]) ?_ ?_
 ·refine bm I _ (ah _) ?_;refine zY [0,1,2,3,4,5] ?_;refine qm 6 10 I ?_ ?_
  ·obtain ⟨e3,k,h⟩:=aa h;refine bX J (oR (uW k)) J J J ?_;rintro _ _ ⟨_,⟨e4,e5,e6,a6,a8,b0,rfl,rfl⟩,rfl⟩;refine bf ?_;refine zY [7,8,9] ?_
   refine It 10 J (dz zero45.out J) fun f2=> ?_
   refine zO 11 J (ar (us:=(gk e3.1 e4 e5 e6 a6 a8 b0)) (cs':=(gk e3.1 e4 e5 e6 a6 a8 b0)) 0 J J J J size45.out J J J) ?_;rintro _ _ rfl;refine bf ?_;refine zX [12] ?_;exact jY
  refine bX J (dz zero45.out J) J J J ?_;rintro _ _ ⟨f3,rfl,rfl⟩;refine bf ?_;obtain ⟨e7,k,h⟩:=aa h
  refine Ub 6 J (oR (uW k)) fun a6 a8 b0 e8 e9 f1=> ?_
  refine zY [7,8,9] ?_;refine zO 11 J (ar (us:=(gk e7.1 a6 a8 b0 e8 e9 f1)) (cs':=(gk e7.1 a6 a8 b0 e8 e9 f1)) 2 J J J J size45.out J J J) ?_;rintro _ _ rfl;refine bf ?_;refine zX [12] ?_;exact jY
 refine fun s L=>aj fun b5=>aj fun b6=>aj fun b7=>aj fun b9=>aj fun d0=>aj fun d1=>aj fun d2=>aj fun d3=>aj fun d4=>aj fun d6=>aj fun e0=>aj fun e1=>aj fun e2=>yy fun h=> ?_
 exact eY
theorem xp {r:VJ}: ∀v post,((fun (u:Value) (post:Wa)=> ∃A0 n0 c0 A1 n1 c1,u=.agg #[iV r.XZ,iV r.Yf,iV r.Ye,iV r.Yg,Y A0 n0 c0,Y A1 n1 c1]/\post=[aC A0 n0 c0 r.Yb,aC A1 n1 c1 r.Ya])) v post-> ∀c∈post,mT c:=by
 rintro _ _ ⟨_,_,_,_,_,_,rfl,rfl⟩;exact t9 rR (t9 rR (aR))
theorem fJ {N:Nat}{a1:VN}{r:VJ}(h:aF N a0 a1=some r){B1 B2 B3:Nat}:Okc Wc 17 [pV B1 0,(aX a1)] ([pDWorld B1 B2 B3 a0]) (fun u post=> ∃A0 n0 c0 A1 n1 c1,u=.agg #[iV r.XZ,iV r.Yf,iV r.Ye,iV r.Yg,Y A0 n0 c0,Y A1 n1 c1]/\post=[aC A0 n0 c0 r.Yb,aC A1 n1 c1 r.Ya]):=Nz 0 rfl (fun _=>ir h)
theorem vP {r:VJ}: ∀v post,((fun (u:Value) (post:Wa)=> ∃A0 n0 c0 A1 n1 c1,u=.agg #[iV r.XZ,iV r.Yf,iV r.Ye,iV r.Yg,Y A0 n0 c0,Y A1 n1 c1]/\post=[aC A0 n0 c0 r.Yb,aC A1 n1 c1 r.Ya])) v post-> ∀c∈post,mT c:=xp
def bU (a0:VS)(a1:VN):Option (Unit ⊕ VO):=
 bif !decide (a1.XZ=7) then (some (.inl ())) else ((aF N a0 a1).bind fun y6=>(bif decide ((y6.Yb.length:Int)=0) then (some true) else ((ap y6.Yb 0).bind fun a6=>(bif !decide (a6.XZ=1) then ((ap y6.Yb 0).bind fun a8=>some (!decide (a8.XZ=7))) else (some false)).bind fun b12=>some b12)).bind fun b0=>bif b0 then (some (.inl ())) else (some (.inr (⟨y6,a0,a1⟩:VO))))
theorem aP {N:Nat}{a1:VN}{r:(Unit ⊕ VO)}(h:bU N a0 a1=some r){B1 B2 B3:Nat}:Okc Wc 48 [pV B1 0,(aX a1)] ([pDWorld B1 B2 B3 a0]) (fun u post=>PO (fun (r:Unit)=>u=.tuple #[.pointer none,.bool false]/\post=[]) (fun (r:VO)=> ∃B0 A1 n1 c1 A2 n2 c2,u=.tuple #[pV B0 0,.bool true]/\post=[ae B0 103 [iV r.Yj.XZ,iV r.Yj.Yf,iV r.Yj.Ye,iV r.Yj.Yg,Y A1 n1 c1,Y A2 n2 c2,pV B1 0,iV r.at_.XZ,iV r.at_.N,.string r.at_.S],aC A1 n1 c1 r.Yj.Yb,aC A2 n2 c2 r.Yj.Ya]) r):=by
 refine Gf Tryz.func48 J J ?_;simp only [uz];refine B ?_
 refine gB (CT J J) fun B4=> ?_
 refine B ?_;refine au ?_;refine B ?_;refine gE (dZ J Vt) ?_;refine B ?_;refine gH J h ?_ ?_<;>intro h
 ·refine B ?_;obtain rfl:=jn h;exact Jw J J J (cS [] 2) ⟨J,J⟩
 refine B ?_;refine au ?_;refine bm I _ (ah _) ?_;refine yY [0,1,3,4] ?_;obtain ⟨y6,k,h⟩:=aa h;refine zD 2 J (kV (fJ k) J (t9 (jU (i:=1) J J) aR) vP) ?_;rintro _ _ ⟨_,⟨A7,n7,c7,A8,n8,c8,rfl,rfl⟩,rfl⟩;refine Ka (cS [2,3] 4) ?_;refine zE 5 J (ny J (bld_103_0_1_2 _ _ _ _ _ _ _ _ _ _ _ _ _ _).out) ?_;refine zD 6 J (CT J J) ?_;rintro _ _ ⟨B9,rfl,rfl⟩;refine Ka (cS [3,4] 5) ?_;refine zE 7 J (mi J) ?_;refine fg I ?_;refine AB ?_;refine au ?_;refine B ?_;refine gR (sj 1 J ak J z9) ?_;refine B ?_
 refine Lv 21 49 28 h (fun _ b9 h=> ?_) (fun _ b9 h=> ?_) fun d2 h=> ?_
 ·refine B ?_;obtain rfl:=jn h;exact li sA (cS [0,1,2,3,4] 5)
 ·refine B ?_;obtain ⟨d0,a6,h⟩:=aa h;obtain ⟨b0,b5,a6⟩:=C6 a6;refine sG (dp 1 J ak J J z9 size29.out b0 b5) J (pc b9 J) J ?_;refine sG (vh 1 J ak J (toNat_lt b0 b5) uZ) J (pc b9 J) J ?_;refine sG (kR (u:=iV d0.XZ) 1 J ak J a6 ya (fun _ _ _ h=>by rw [show _=_ from h];rfl)) J (pc b9 J) J ?_;refine B ?_
  refine Lv 10 48 38 h (fun _ c0 h=> ?_) (fun _ c0 h=> ?_) fun b12 h=> ?_
  ·refine B ?_;obtain ⟨d1,a8,h⟩:=aa h;obtain ⟨b6,b7,a8⟩:=C6 a8;refine sG (dp 1 J ak J J z9 size29.out b6 b7) J (el c0 J) J ?_;refine sG (vh 1 J ak J (toNat_lt b6 b7) uZ) J (el c0 J) J ?_;refine sG (kR (u:=iV d1.XZ) 1 J ak J a8 ya (fun _ _ _ h=>by rw [show _=_ from h];rfl)) J (el c0 J) J ?_;refine B ?_;obtain rfl:=jn h;exact li sA (cS [0,1,2,3,4] 5)
  ·refine B ?_;obtain rfl:=jn h;exact li sA (cS [0,1,2,3,4] 5)
  refine B ?_;obtain rfl:=jn h;exact li sA (cS [0,1,2,3,4] 5)
 refine B ?_;refine gH J h ?_ ?_<;>intro h
 ·refine B ?_;obtain rfl:=jn h;exact Jw J J J (cS [] 5) ⟨J,J⟩
 refine B ?_;obtain rfl:=jn h;exact Jw J J J (cS [0,1,2] 5) ⟨_,_,_,_,_,_,_,J,J⟩
def nJ (a0:VS)(a1:VN):Option Bool:=
 bif decide (a1.XZ=1) then (some true) else ((bU N a0 a1).bind fun y6=>zy y6 (fun y6_0=>some false) (fun y6_1=>some true))
theorem Aa {N:Nat}{a1:VN}{r:Bool}(h:nJ N a0 a1=some r){B1 B2 B3:Nat}:Okc Wc 36 [pV B1 0,(aX a1)] ([pDWorld B1 B2 B3 a0]) (fun u post=>u=.bool r/\post=[]):=by
 refine bY Tryz.func36 ?_;intro B4;refine sY ?_;refine gH J h ?_ ?_<;>intro h
 ·refine ab ?_;refine dU (tG J Vt) ?_;exact eN
 refine ab ?_;obtain ⟨y6,a6,h⟩:=aa h;rcases y6 with y6_0|y6_1
 ·replace h:=DQ h;refine gD (oR (aP a6)) ?_;rintro _ _ ⟨_,⟨rfl,rfl⟩,rfl⟩;exact eY
 replace h:=DP h;refine gD (oR (aP a6)) ?_;rintro _ _ ⟨_,⟨B7,A8,n8,c8,A9,n9,c9,rfl,rfl⟩,rfl⟩;exact eY
def o8 (a0:VS)(a1:VJ):Option (VN×Bool×VS):=
 bif decide (a0.Yn.YM<=a0.Yu.YI) then (some ((⟨0,0,⟨#[]⟩⟩:VN),false,a0)) else ((iU N a0.Yi a1).bind fun a6=>bif !decide (a6.2.1=0) then (some ((⟨0,0,⟨#[]⟩⟩:VN),false,(⟨a0.Yu,a0.Yn,(),a6.2.2,a0.Yk,a0.Yv,a0.Yo,a0.YB,a0.YC,a0.Yw,a0.Yx⟩:VS))) else (aE (in64 (a0.Yu.YI+1)) (some ((⟨7,a6.1,⟨#[]⟩⟩:VN),true,(⟨(⟨a0.Yu.YG,a0.Yu.YI+1,a0.Yu.YK⟩:VG),a0.Yn,(),a6.2.2,a0.Yk,a0.Yv,a0.Yo,a0.YB,a0.YC,a0.Yw,a0.Yx⟩:VS)))))
theorem zI {N:Nat}{a1:VJ}{r:VN×Bool×VS}(h:o8 N a0 a1=some r):Okc Wc 37 [pV B1 0,.agg #[iV a1.XZ,iV a1.Yf,iV a1.Ye,iV a1.Yg,Y A7 n7 c7,Y A8 n8 c8]] ([aZ A7 n7 c7 a1.Yb,aZ A8 n8 c8 a1.Ya,ae B1 85 (tD a0 B2 B3 A4 n4 c4 A5 n5 c5 A6 n6 c6),oDHeap B2 a0.Yi,oDTable B3 a0.Yk,iB A4 n4 c4 a0.Yv,sO A5 n5 c5 a0.Yw,iB A6 n6 c6 a0.Yx]) (fun u post=> ∃A0 n0 c0 A1 n1 c1 A2 n2 c2,u=.tuple #[.agg #[iV r.1.XZ,iV r.1.N,.string r.1.S],.bool r.2.1]/\post=[ae B1 85 (tD r.2.2 B2 B3 A0 n0 c0 A1 n1 c1 A2 n2 c2),oDHeap B2 r.2.2.Yi,oDTable B3 r.2.2.Yk,iB A0 n0 c0 r.2.2.Yv,sO A1 n1 c1 r.2.2.Yw,iB A2 n2 c2 r.2.2.Yx]):=by
 refine bY Tryz.func37 ?_;intro B9
 refine du fun a6=> ?_
 refine au ?_;refine dY [] ?_;refine ab ?_;refine zE 1 J (dZ J Vt) ?_;refine dI h ?_ ?_<;>intro h
 ·exact eY
 refine ab ?_;refine au ?_;refine bm I ([ae a6 29 [iV 0,iV 0,.string (⟨#[]⟩)],ae B9 45 (gk a1 A7 n7 c7 A8 n8 c8),aZ A7 n7 c7 a1.Yb,aZ A8 n8 c8 a1.Ya,ae B1 85 (tD a0 B2 B3 A4 n4 c4 A5 n5 c5 A6 n6 c6),oDTable B3 a0.Yk,iB A4 n4 c4 a0.Yv,sO A5 n5 c5 a0.Yw,iB A6 n6 c6 a0.Yx]) (cS [0,1,2,3,4,6,7,8,9] 10) ?_;refine ab ?_;obtain ⟨a8,k,h⟩:=aa h;refine zD 5 J (oC (oe k)) ?_;rintro _ _ ⟨_,⟨rfl,rfl⟩,rfl⟩;refine bf ?_;refine sY ?_;refine gH J h ?_ ?_<;>intro h
 ·exact eY
 refine ab ?_;obtain ⟨b0,h⟩:=ac h;exact eY
theorem xn {N:Nat}{a1:VJ}{r:VN×Bool×VS}(h:o8 N a0 a1=some r){B1 B2 B3:Nat}:Okc Wc 37 [pV B1 0,.agg #[iV a1.XZ,iV a1.Yf,iV a1.Ye,iV a1.Yg,Y A4 n4 c4,Y A5 n5 c5]] ([aZ A4 n4 c4 a1.Yb,aZ A5 n5 c5 a1.Ya,oDWorld B1 B2 B3 a0]) (fun u post=>u=.tuple #[.agg #[iV r.1.XZ,iV r.1.N,.string r.1.S],.bool r.2.1]/\post=[oDWorld B1 B2 B3 r.2.2]):=IY 2 rfl (fun _=>zI h)
def sV (N:Nat)(a0:Int):Option Bool:=
 (bif decide (0<a0) then (some (decide (a0.tmod 2=0))) else (some false)).bind fun b1=>some b1
theorem F8 {N:Nat}{a0:Int}{r:Bool}(h:sV N a0=some r):Okc Wc 122 [iV a0] ([]) (fun u post=>u=.bool r/\post=[]):=by
 refine bY Tryz.func122 ?_
 refine qo 4 9 5 h (fun _ g1 h=> ?_) fun b1 h=> ?_
 ·refine ab ?_;refine gT (pf J J (by decide)) J (el g1 J) J ?_;exact gY
 exact eY
def nM (N:Nat)(a0:VN):Option Bool:=
 (bif decide (a0.XZ=7) then (some true) else (some (decide (a0.XZ=9)))).bind fun b2=>some b2
theorem vz {N:Nat}{a0:VN}{r:Bool}(h:nM N a0=some r):Okc Wc 209 [(aX a0)] ([]) (fun u post=>u=.bool r/\post=[]):=by
 refine bY Tryz.func209 ?_;intro B1;refine ab ?_;refine gS 4 10 6 h ?_;intro b2 h;exact eY
def fc (a1:Bool)(x8:Bool×VN):(VZ)->Option (Option Exit×VZ)
 |p9=>(bif x8.1==a1 then ((nM N x8.2).bind fun a6=>some a6) else (some false)).bind fun a8=>bif a8 then (aE (ci (p9.length+([x8.2.N]:List Int).length)) (some (none,p9++([x8.2.N]:List Int)))) else (some (none,p9))
def ld (a0:VJ)(a1:Bool):Option VZ:=
 (uD N a0).bind fun y6=>(oE N a0 (cM (fun x st=>fc N a1 x st)) (none,[])).bind fun a6=>sS a6.1 (some a6.2) none (fun _=>none)
theorem vb {N:Nat}{a0:VJ}{a1:Bool}{r:VZ}(h:ld N a0 a1=some r):Okc Wc 170 [.agg #[iV a0.XZ,iV a0.Yf,iV a0.Ye,iV a0.Yg,Y A1 n1 c1,Y A2 n2 c2],.bool a1] ([aZ A1 n1 c1 a0.Yb,aZ A2 n2 c2 a0.Ya]) (fun u post=> ∃A0 n0 c0,u=Y A0 n0 c0/\post=[fq A0 n0 c0 r]):=by
 refine bY Tryz.func170 ?_;intro B3
 refine du fun B4=> ?_
 intro B5;refine sY ?_;obtain ⟨y6,k,h⟩:=aa h;refine gD (oR (DK k)) ?_;rintro _ _ ⟨_,⟨B7,rfl,rfl⟩,rfl⟩;refine ab ?_;refine gQ ?_ dl (jz 0 J);obtain ⟨a6,k,h⟩:=aa h;refine wl (en:=(fun x=> [.bool x.1,.agg #[iV x.2.XZ,iV x.2.N,.string x.2.S]])) (fun x st=>fc N a1 x st) (fun (st:VZ) (mz:((Option Addr×Nat×Nat)))=> [ae B4 4 [.bool a1],bh (jM .i64) 3 (.slice mz.1 mz.2.1 mz.2.2) st,ae B5 99 [.slice mz.1 mz.2.1 mz.2.2]]) [aB B7 45 (gk a0 A1 n1 c1 A2 n2 c2),aZ A1 n1 c1 a0.Yb,aZ A2 n2 c2 a0.Ya] ([]) ((none,0,0)) J J call218.out J (fun _=>J) (fun l G hY=>(yI k hY).mono fun _ _ hh=>hh.2) ((bq (jM .i64) 3 _).trans (dx [1,5,6] [] [3,0,2] 7 J)) h ?_ ?_ ?_ ?_
 ·rintro l x8 p9 je sr8 ⟨A9,n9,c9⟩ h;replace h:fc N a1 x8 p9=some (je,sr8):=h;simp only [Cl,Xq,Xr,Xs,Xk,Xl,XX,Wy]
  refine du fun b7=> ?_
  refine dU (So J J Vu) ?_
  refine qo 3 18 15 h (fun _ b9 h=> ?_) fun d0 h=> ?_
  ·refine cR h (fun _ k=>vz k) fun d1 h=> ?_
   exact gY
  refine dI h ?_ ?_<;>intro h
  ·refine ab ?_;refine gD (aL (R:=(jM .i64)) (vss:=[[iV x8.2.N]]) (xs:=[x8.2.N]) J (nA _) J J (fun _ _ hr=> .cons J All2.nil)) ?_;rintro _ _ ⟨d2,d3,d4,rfl,rfl⟩;obtain ⟨a8,h⟩:=ac h
   refine r9 (aQ 3 0 J J ak J J Vn Iw J J a8) fun b0 b5 b6=> ?_
   obtain ⟨rfl,rfl⟩:=XJ (XH h);exact D3 ((cS [2,3,4] 5).trans (gL (b0,b5,b6) J))
  refine ab ?_;obtain ⟨rfl,rfl⟩:=XJ (XH h);exact D3 ((cS [1,2,3] 4).trans (gL (A9,n9,c9) J))
 ·rintro ⟨A9,n9,c9⟩ h;refine rx ([ae B4 4 [.bool a1],fq A9 n9 c9 a6.2,ae B5 99 [Y A9 n9 c9]]) J ?_;exact eY
 ·rintro ⟨A9,n9,c9⟩ h;exact az h
 rintro i ⟨A9,n9,c9⟩ h;exact az h
def iH (a0:VJ):Option VZ:=
 (ld N a0 true).bind fun y4=>some y4
theorem ml {N:Nat}{a0:VJ}{r:VZ}(h:iH N a0=some r):Okc Wc 119 [.agg #[iV a0.XZ,iV a0.Yf,iV a0.Ye,iV a0.Yg,Y A1 n1 c1,Y A2 n2 c2]] ([aZ A1 n1 c1 a0.Yb,aZ A2 n2 c2 a0.Ya]) (fun u post=> ∃A0 n0 c0,u=Y A0 n0 c0/\post=[fq A0 n0 c0 r]):=by
 refine bY Tryz.func119 ?_;intro B3
 refine LL h (fun _ k=>vb k) fun y4 A5 n5 c5 h=> ?_
 exact eN
def sI (N:Nat)(ff:Int->Option Bool):Option Int:=
 some (-1)
def dD (N:Nat)(ff:Int->Option Bool)(a0:VZ):Nat->Int->Option Int
 |0,_=>none
 |m3+1,p4=>bif decide (p4<(a0.length:Int)) then ((ap a0 p4).bind fun x6=>(ff x6).bind fun y7=>bif y7 then (some p4) else (aE (in64 (p4+1)) ((dD N ff a0 m3) (p4+1)))) else (sI N ff)
def ls (a0:VZ)(ff:Int->Option Bool):Option Int:=
 dD N ff a0 N 0
theorem zz {N:Nat}{a0:VZ}{r:Int}(h:ls N a0 ff=some r)(hf:K1 Wc vf G (fun x=> [iV x]) (fun r=> .bool r) ff):Okc Wc 168 [Y A1 n1 c1,vf] (fH A1 n1 c1 a0::G) (fun u post=>u=iV r/\post=[]):=by
 refine bY Tryz.func168 ?_;refine ai (fun s L=>sI N ff=some r/\s=[(4,iV 0)]/\L=G) ?_ ?_
 ·refine ab ?_;refine lK (fun m s L=> ∃(p4:Int),dD N ff a0 m p4=some r/\s=[(0,Y A1 n1 c1),(1,vf),(4,iV 0),(7,iV (a0.length:Int)),(8,iV p4)]/\L=fH A1 n1 c1 a0::G) N ?_;rintro m3 _ _ ⟨p4,h,rfl,rfl⟩;rw [dD.eq_2] at h;refine ab ?_;refine au ?_;refine gH J h ?_ ?_<;>intro h
  ·refine sY ?_;obtain ⟨x6,a6,a8,b0,h⟩:=aM h;refine ab ?_;obtain ⟨y7,k,h⟩:=aa h;refine gD (E5 (a:=x6) [fH A1 n1 c1 a0] hf k J J) ?_;rintro _ _ ⟨rfl,rfl⟩;refine dI h ?_ ?_<;>intro h
   ·exact eY
   refine ab ?_;obtain ⟨q9,h⟩:=ac h;exact lY
  exact jY
 rintro _ _ ⟨h,rfl,rfl⟩;exact eY
theorem xc {r:Int}: ∀v post,((fun (u:Value) (post:Wa)=>u=iV r/\post=[])) v post-> ∀c∈post,mT c:=by
 rintro _ _ ⟨rfl,rfl⟩;exact aR
def bD (a0:VZ)(ff:Int->Option Bool):Option Bool:=
 (ls N a0 ff).bind fun y2=>some (decide (0<=y2))
theorem eQ {N:Nat}{a0:VZ}{r:Bool}(h:bD N a0 ff=some r)(hf:K1 Wc vf G (fun x=> [iV x]) (fun r=> .bool r) ff):Okc Wc 117 [Y A1 n1 c1,vf] (fH A1 n1 c1 a0::G) (fun u post=>u=.bool r/\post=[]):=by
 refine bY Tryz.func117 ?_;obtain ⟨y2,k,h⟩:=aa h;refine C7 (kV (zz k hf) J (t9 (jU (i:=0) J J) (C1 (E:=[fH A1 n1 c1 a0]) hf.1)) xc) ?_;exact eN
def ne (N:Nat)(a0:Int):Option Bool:=
 (bif decide (0<a0) then (some (decide (a0.tmod 2=1))) else (some false)).bind fun b1=>some b1
theorem wV {N:Nat}{a0:Int}{r:Bool}(h:ne N a0=some r):Okc Wc 173 [iV a0] ([]) (fun u post=>u=.bool r/\post=[]):=by
 refine bY Tryz.func173 ?_
 refine qo 4 9 5 h (fun _ g1 h=> ?_) fun b1 h=> ?_
 ·refine ab ?_;refine gT (pf J J (by decide)) J (el g1 J) J ?_;exact gY
 exact eY
def mj (a0:VJ):Option VZ:=
 (ld N a0 false).bind fun y4=>some y4
theorem uE {N:Nat}{a0:VJ}{r:VZ}(h:mj N a0=some r):Okc Wc 120 [.agg #[iV a0.XZ,iV a0.Yf,iV a0.Ye,iV a0.Yg,Y A1 n1 c1,Y A2 n2 c2]] ([aZ A1 n1 c1 a0.Yb,aZ A2 n2 c2 a0.Ya]) (fun u post=> ∃A0 n0 c0,u=Y A0 n0 c0/\post=[fq A0 n0 c0 r]):=by
 refine bY Tryz.func120 ?_;intro B3
 refine LL h (fun _ k=>vb k) fun y4 A5 n5 c5 h=> ?_
 exact eN
def pF (a0:VJ):Option Bool:=
 (iH N a0).bind fun y4=>(bD N y4 (fun x=>ne N x)).bind fun y6=>(bif y6 then (some true) else ((mj N a0).bind fun y8=>(bD N y8 (fun x=>ne N x)).bind fun a6=>some a6)).bind fun b7=>some b7
theorem DW {N:Nat}{a0:VJ}{r:Bool}(h:pF N a0=some r):Okc Wc 124 [.agg #[iV a0.XZ,iV a0.Yf,iV a0.Ye,iV a0.Yg,Y A1 n1 c1,Y A2 n2 c2]] ([aZ A1 n1 c1 a0.Yb,aZ A2 n2 c2 a0.Ya]) (fun u post=>u=.bool r/\post=[]):=by
 refine bY Tryz.func124 ?_;intro B3;refine ab ?_;obtain ⟨y4,k,h⟩:=aa h;refine gD (oR (ml k)) ?_;rintro _ _ ⟨_,⟨A5,n5,c5,rfl,rfl⟩,rfl⟩;obtain ⟨y6,k,h⟩:=aa h;refine C7 (oR (eQ k ⟨aR,173, #[], #[],J,call173.out,fun _ _ hh=>wV hh⟩)) ?_
 refine AU 4 10 6 h (fun _ g7 h=> ?_) fun b7 h=> ?_
 ·refine ab ?_;obtain ⟨y8,k,h⟩:=aa h;refine LT (oR (uE k)) J (pc g7 J) J ?_;rintro _ _ ⟨_,⟨A9,n9,c9,rfl,rfl⟩,rfl⟩;obtain ⟨a6,k,h⟩:=aa h;refine gU (oR (eQ k ⟨aR,173, #[], #[],J,call173.out,fun _ _ hh=>wV hh⟩)) (pc g7 J) ?_;exact gY
 exact eY
def kC (N:Nat)(a1:Int)(a0:VQ):Option (Bool×VQ):=
 some (true,(⟨wT a0.at_ a1 true⟩:VQ))
def cA (a0:VQ)(a1:Int)(a2:VJ):Option (Bool×VQ):=
 (sV N a1).bind fun y6=>bif !y6 then (some (false,a0)) else ((pF N a2).bind fun y8=>bif !y8 then (some (false,(⟨Dd a0.at_ a1⟩:VQ))) else (kC N a1 a0))
theorem i5 {N:Nat}{a0:VQ}{r:Bool×VQ}(h:cA N a0 a1 a2=some r):Okc Wc 188 [pV B1 0,iV a1,.agg #[iV a2.XZ,iV a2.Yf,iV a2.Ye,iV a2.Yg,Y A3 n3 c3,Y A4 n4 c4]] ([aZ A3 n3 c3 a2.Yb,aZ A4 n4 c4 a2.Ya,ae B1 186 [.map (some M2)],ax cj fv M2 a0.at_]) (fun u post=> ∃M0,u=.bool r.1/\post=[ae B1 186 [.map (some M0)],ax cj fv M0 r.2.at_]):=by
 refine bY Tryz.func188 ?_;intro B5;refine sY ?_;refine dU (dZ J Vr) ?_
 refine cR h (fun _ k=>F8 k) fun y6 h=> ?_
 refine gH J h ?_ ?_<;>intro h
 ·exact eY
 refine sY ?_
 refine cR h (fun _ k=>DW k) fun y8 h=> ?_
 refine gH J h ?_ ?_<;>intro h
 ·refine ab ?_;refine Gl (MB (a:=a1) 4 J J J Vv (dX Ex)) ?_;exact eN
 refine ab ?_;refine ai (fun s L=>kC N a1 a0=some r/\s=[(0,pV B1 0),(1,iV a1),(6,.bool false)]/\L=[ax cj fv M2 a0.at_,ae B1 186 [.map (some M2)]]) ?_ ?_
 ·refine ab ?_;refine dU (Ni J Vv) ?_;refine cE J ?_;exact jY
 rintro _ _ ⟨h,rfl,rfl⟩;refine ab ?_;refine Gl (iE (a:=a1) (b:=true) 0 J J J J Vv (dX Ex)) ?_;exact eN
theorem qt {r:Bool×VQ}{B1:Nat}: ∀v post,((fun (u:Value) (post:Wa)=> ∃M0,u=.bool r.1/\post=[ae B1 186 [.map (some M0)],ax cj fv M0 r.2.at_])) v post-> ∀c∈post,mT c:=by
 rintro _ _ ⟨_,rfl,rfl⟩;exact t9 BZ (t9 C9 (aR))
def mL (N:Nat)(a0:VU)(y17_0:Int)(a6 a8:VJ)(b0:V8):Option (Int×VU):=
 some (0,(⟨(⟨List.set (List.set a0.m_.Yd y17_0.toNat (⟨a6.XZ,a6.Yf,a6.Ye,a6.Yg,a6.Yb,a6.Ya⟩:VJ)) y17_0.toNat (⟨(⟨a6.XZ,a6.Yf,a6.Ye,a6.Yg,a6.Yb,a6.Ya⟩:VJ).XZ,(⟨a6.XZ,a6.Yf,a6.Ye,a6.Yg,a6.Yb,a6.Ya⟩:VJ).Yf,(⟨a6.XZ,a6.Yf,a6.Ye,a6.Yg,a6.Yb,a6.Ya⟩:VJ).Ye,a8.Yg,(⟨a6.XZ,a6.Yf,a6.Ye,a6.Yg,a6.Yb,a6.Ya⟩:VJ).Yb,(⟨a6.XZ,a6.Yf,a6.Ye,a6.Yg,a6.Yb,a6.Ya⟩:VJ).Ya⟩:VJ),a0.m_.Yc⟩:VR),a0.Ym,a0.Yt,(⟨b0⟩:VQ)⟩:VU))
def mK (N:Nat)(a0:VU)(y17_1:Int)(a6 a8:VJ)(b0:V8):Option (Int×VU):=
 some (0,(⟨(⟨a0.m_.Yd,List.set (List.set a0.m_.Yc y17_1.toNat (⟨a6.XZ,a6.Yf,a6.Ye,a6.Yg,a6.Yb,a6.Ya⟩:VJ)) y17_1.toNat (⟨(⟨a6.XZ,a6.Yf,a6.Ye,a6.Yg,a6.Yb,a6.Ya⟩:VJ).XZ,(⟨a6.XZ,a6.Yf,a6.Ye,a6.Yg,a6.Yb,a6.Ya⟩:VJ).Yf,(⟨a6.XZ,a6.Yf,a6.Ye,a6.Yg,a6.Yb,a6.Ya⟩:VJ).Ye,a8.Yg,(⟨a6.XZ,a6.Yf,a6.Ye,a6.Yg,a6.Yb,a6.Ya⟩:VJ).Yb,(⟨a6.XZ,a6.Yf,a6.Ye,a6.Yg,a6.Yb,a6.Ya⟩:VJ).Ya⟩:VJ)⟩:VR),a0.Ym,a0.Yt,(⟨b0⟩:VQ)⟩:VU))
def lV (a0:VU)(a1:Int)(a2:VJ):Option (Int×VU):=
 (aG N a0).bind fun b6=>bif b6 then (some (1,a0)) else ((jy N a0 a1).bind fun b7=>bif !b7 then (some (50,a0)) else ((fd N a2).bind fun b9=>bif !b9 then (some (51,a0)) else ((ic N a0 a1).bind fun c0=>zy c0 (fun y17_0=>(ap a0.m_.Yd y17_0).bind fun a6=>(dt N a2).bind fun a8=>bif decide (a1.tmod 2=0) then ((cA N a0.Ys a1 a2).bind fun d0=>mL N a0 y17_0 a8 a6 d0.2.at_) else (mL N a0 y17_0 a8 a6 a0.Ys.at_)) (fun y17_1=>(ap a0.m_.Yc y17_1).bind fun b0=>(dt N a2).bind fun b5=>bif decide (a1.tmod 2=0) then ((cA N a0.Ys a1 a2).bind fun d1=>mK N a0 y17_1 b5 b0 d1.2.at_) else (mK N a0 y17_1 b5 b0 a0.Ys.at_)))))
theorem C4 {N:Nat}{a0:VU}{r:Int×VU}(h:lV N a0 a1 a2=some r):Okc Wc 142 [pV B1 0,iV a1,.agg #[iV a2.XZ,iV a2.Yf,iV a2.Ye,iV a2.Yg,Y A8 n8 c8,Y A9 n9 c9]] ([aZ A8 n8 c8 a2.Yb,aZ A9 n9 c9 a2.Ya,ae B1 128 [Y A2 n2 c2,Y A3 n3 c3,Y A4 n4 c4,Y A5 n5 c5,pV B6 0],cL A2 n2 c2 a0.m_.Yd,cL A3 n3 c3 a0.m_.Yc,aC A4 n4 c4 a0.Ym,aC A5 n5 c5 a0.Yt,ae B6 186 [.map (some M7)],ax cj fv M7 a0.Ys.at_]) (fun u post=> ∃A0 n0 c0 A1 n1 c1 A2 n2 c2 A3 n3 c3 M4,u=iV r.1/\post=[ae B1 128 [Y A0 n0 c0,Y A1 n1 c1,Y A2 n2 c2,Y A3 n3 c3,pV B6 0],cL A0 n0 c0 r.2.m_.Yd,cL A1 n1 c1 r.2.m_.Yc,aC A2 n2 c2 r.2.Ym,aC A3 n3 c3 r.2.Yt,ae B6 186 [.map (some M4)],ax cj fv M4 r.2.Ys.at_]):=by
 refine bY Tryz.func142 ?_;intro e4;refine sY ?_
 refine cR h (fun _ k=>bW k) fun g3 h=> ?_
 refine gH J h ?_ ?_<;>intro h
 ·exact eY
 refine cR h (fun _ k=>qN k) fun g4 h=> ?_
 refine gH J h ?_ ?_<;>intro h
 ·exact eY
 refine cR h (fun _ k=>ko k) fun g5 h=> ?_
 refine gH J h ?_ ?_<;>intro h
 ·exact eY
 refine ab ?_;obtain ⟨g2,d3,h⟩:=aa h;rcases g2 with y17_0|y17_1
 ·replace h:=DQ h;refine gD (oR (fY d3)) ?_;rintro _ _ ⟨_,⟨rfl,rfl⟩,rfl⟩;obtain ⟨d1,b0,b5,b9,h⟩:=aM h;refine ab ?_;refine gR (mE 4 J ak J (toNat_lt b0 b5)) ?_;refine gR (ox 4 J ak J (toNat_lt b0 b5) tf) ?_;refine H3 (kR (u:=iV d1.Yg) 4 J ak J b9 ya (fun _ _ _ h=>by obtain ⟨_,_,_,_,_,_,e,_⟩:=h;rw [e];rfl)) ?_;obtain ⟨a6,k,h⟩:=aa h;refine gD (oR (gj k)) ?_;rintro _ _ ⟨_,⟨e5,e6,e7,e8,e9,f1,rfl,rfl⟩,rfl⟩;refine gR (mE 6 J ak J (toNat_lt b0 b5)) ?_;refine r8 (bL 0 J) ?_;refine r8 (bL 1 J) ?_;refine Gl (cF (us:=(gk a6 e5 e6 e7 e8 e9 f1)) (z:=(⟨a6.XZ,a6.Yf,a6.Ye,a6.Yg,a6.Yb,a6.Ya⟩:VJ)) 6 J J J J size45.out J (toNat_lt b0 b5) J (fun S w vs xk hk hr ho=>by obtain rfl:=XH (hk.symm.trans b9);obtain ⟨_,_,_,_,_,_,rfl,s4,s5⟩:=hr;exact ⟨_,_,_,_,_,_,rfl,ho 0 _ rfl rfl,ho 1 _ rfl rfl⟩)) ?_;have d4:=Ei (z:=(⟨a6.XZ,a6.Yf,a6.Ye,a6.Yg,a6.Yb,a6.Ya⟩:VJ)) b9;refine gR (mE 6 J ak J (su (toNat_lt b0 b5))) ?_;refine gR (ox 6 J ak J (su (toNat_lt b0 b5)) tf) ?_
  refine Gl (cF (us:=[iV d1.Yg]) (z:=(⟨(⟨a6.XZ,a6.Yf,a6.Ye,a6.Yg,a6.Yb,a6.Ya⟩:VJ).XZ,(⟨a6.XZ,a6.Yf,a6.Ye,a6.Yg,a6.Yb,a6.Ya⟩:VJ).Yf,(⟨a6.XZ,a6.Yf,a6.Ye,a6.Yg,a6.Yb,a6.Ya⟩:VJ).Ye,d1.Yg,(⟨a6.XZ,a6.Yf,a6.Ye,a6.Yg,a6.Yb,a6.Ya⟩:VJ).Yb,(⟨a6.XZ,a6.Yf,a6.Ye,a6.Yg,a6.Yb,a6.Ya⟩:VJ).Ya⟩:VJ)) 6 J J J J size3.out J (su (toNat_lt b0 b5)) J (fun S w vs xk hk hr ho=>by obtain rfl:=XH (hk.symm.trans d4);obtain ⟨_,_,_,_,_,_,rfl,s4,s5⟩:=hr;exact ⟨_,_,_,_,_,_,rfl,s4,s5⟩)) ?_;refine ai (fun s L=> ∃d6 e0,mL N a0 y17_0 a6 d1 d6=some r/\s=[(6,iV 0)]/\L=[cL A2 n2 c2 (List.set (List.set a0.m_.Yd y17_0.toNat (⟨a6.XZ,a6.Yf,a6.Ye,a6.Yg,a6.Yb,a6.Ya⟩:VJ)) y17_0.toNat (⟨(⟨a6.XZ,a6.Yf,a6.Ye,a6.Yg,a6.Yb,a6.Ya⟩:VJ).XZ,(⟨a6.XZ,a6.Yf,a6.Ye,a6.Yg,a6.Yb,a6.Ya⟩:VJ).Yf,(⟨a6.XZ,a6.Yf,a6.Ye,a6.Yg,a6.Yb,a6.Ya⟩:VJ).Ye,d1.Yg,(⟨a6.XZ,a6.Yf,a6.Ye,a6.Yg,a6.Yb,a6.Ya⟩:VJ).Yb,(⟨a6.XZ,a6.Yf,a6.Ye,a6.Yg,a6.Yb,a6.Ya⟩:VJ).Ya⟩:VJ)),cL A3 n3 c3 a0.m_.Yc,aC A4 n4 c4 a0.Ym,aC A5 n5 c5 a0.Yt,ae B1 128 [Y A2 n2 c2,Y A3 n3 c3,Y A4 n4 c4,Y A5 n5 c5,pV B6 0],ax cj fv e0 d6,ae B6 186 [.map (some e0)]]) ?_ ?_
  ·refine ab ?_;refine dU (pf J J (by decide)) ?_;refine gH J h ?_ ?_<;>intro h
   ·refine bm I ([aZ e5 e6 e7 a6.Yb,aZ e8 e9 f1 a6.Ya,ae e4 45 (gk a2 A8 n8 c8 A9 n9 c9),aZ A8 n8 c8 a2.Yb,aZ A9 n9 c9 a2.Ya,ae B1 128 [Y A2 n2 c2,Y A3 n3 c3,Y A4 n4 c4,Y A5 n5 c5,pV B6 0],cL A2 n2 c2 (List.set (List.set a0.m_.Yd y17_0.toNat (⟨a6.XZ,a6.Yf,a6.Ye,a6.Yg,a6.Yb,a6.Ya⟩:VJ)) y17_0.toNat (⟨(⟨a6.XZ,a6.Yf,a6.Ye,a6.Yg,a6.Yb,a6.Ya⟩:VJ).XZ,(⟨a6.XZ,a6.Yf,a6.Ye,a6.Yg,a6.Yb,a6.Ya⟩:VJ).Yf,(⟨a6.XZ,a6.Yf,a6.Ye,a6.Yg,a6.Yb,a6.Ya⟩:VJ).Ye,d1.Yg,(⟨a6.XZ,a6.Yf,a6.Ye,a6.Yg,a6.Yb,a6.Ya⟩:VJ).Yb,(⟨a6.XZ,a6.Yf,a6.Ye,a6.Yg,a6.Yb,a6.Ya⟩:VJ).Ya⟩:VJ)),cL A3 n3 c3 a0.m_.Yc,aC A4 n4 c4 a0.Ym,aC A5 n5 c5 a0.Yt]) (cS [0,1,2,3,4,5,6,7,8,9] 12) ?_;refine ab ?_;obtain ⟨g6,k,h⟩:=aa h
    refine It 6 J (oC (i5 k)) fun g7=> ?_
    exact jY
   exact jY
  rintro _ _ ⟨d6,e0,h,rfl,rfl⟩;exact eY
 replace h:=DP h;refine gD (oR (fY d3)) ?_;rintro _ _ ⟨_,⟨rfl,rfl⟩,rfl⟩;obtain ⟨d2,b6,b7,d0,h⟩:=aM h;refine ab ?_;refine gR (mE 5 J ak J (toNat_lt b6 b7)) ?_;refine gR (ox 5 J ak J (toNat_lt b6 b7) tf) ?_;refine H3 (kR (u:=iV d2.Yg) 5 J ak J d0 ya (fun _ _ _ h=>by obtain ⟨_,_,_,_,_,_,e,_⟩:=h;rw [e];rfl)) ?_;obtain ⟨a8,k,h⟩:=aa h;refine gD (oR (gj k)) ?_;rintro _ _ ⟨_,⟨f2,f3,f4,f9,g0,g1,rfl,rfl⟩,rfl⟩;refine gR (mE 7 J ak J (toNat_lt b6 b7)) ?_;refine r8 (bL 0 J) ?_;refine r8 (bL 1 J) ?_;refine ab ?_;refine Gl (cF (us:=(gk a8 f2 f3 f4 f9 g0 g1)) (z:=(⟨a8.XZ,a8.Yf,a8.Ye,a8.Yg,a8.Yb,a8.Ya⟩:VJ)) 7 J J J J size45.out J (toNat_lt b6 b7) J (fun S w vs xk hk hr ho=>by obtain rfl:=XH (hk.symm.trans d0);obtain ⟨_,_,_,_,_,_,rfl,s4,s5⟩:=hr;exact ⟨_,_,_,_,_,_,rfl,ho 0 _ rfl rfl,ho 1 _ rfl rfl⟩)) ?_;have e1:=Ei (z:=(⟨a8.XZ,a8.Yf,a8.Ye,a8.Yg,a8.Yb,a8.Ya⟩:VJ)) d0;refine gR (mE 7 J ak J (su (toNat_lt b6 b7))) ?_;refine gR (ox 7 J ak J (su (toNat_lt b6 b7)) tf) ?_
 refine Gl (cF (us:=[iV d2.Yg]) (z:=(⟨(⟨a8.XZ,a8.Yf,a8.Ye,a8.Yg,a8.Yb,a8.Ya⟩:VJ).XZ,(⟨a8.XZ,a8.Yf,a8.Ye,a8.Yg,a8.Yb,a8.Ya⟩:VJ).Yf,(⟨a8.XZ,a8.Yf,a8.Ye,a8.Yg,a8.Yb,a8.Ya⟩:VJ).Ye,d2.Yg,(⟨a8.XZ,a8.Yf,a8.Ye,a8.Yg,a8.Yb,a8.Ya⟩:VJ).Yb,(⟨a8.XZ,a8.Yf,a8.Ye,a8.Yg,a8.Yb,a8.Ya⟩:VJ).Ya⟩:VJ)) 7 J J J J size3.out J (su (toNat_lt b6 b7)) J (fun S w vs xk hk hr ho=>by obtain rfl:=XH (hk.symm.trans e1);obtain ⟨_,_,_,_,_,_,rfl,s4,s5⟩:=hr;exact ⟨_,_,_,_,_,_,rfl,s4,s5⟩)) ?_;refine ai (fun s L=> ∃e2 e3,mK N a0 y17_1 a8 d2 e2=some r/\s=[(6,iV 0)]/\L=[cL A2 n2 c2 a0.m_.Yd,cL A3 n3 c3 (List.set (List.set a0.m_.Yc y17_1.toNat (⟨a8.XZ,a8.Yf,a8.Ye,a8.Yg,a8.Yb,a8.Ya⟩:VJ)) y17_1.toNat (⟨(⟨a8.XZ,a8.Yf,a8.Ye,a8.Yg,a8.Yb,a8.Ya⟩:VJ).XZ,(⟨a8.XZ,a8.Yf,a8.Ye,a8.Yg,a8.Yb,a8.Ya⟩:VJ).Yf,(⟨a8.XZ,a8.Yf,a8.Ye,a8.Yg,a8.Yb,a8.Ya⟩:VJ).Ye,d2.Yg,(⟨a8.XZ,a8.Yf,a8.Ye,a8.Yg,a8.Yb,a8.Ya⟩:VJ).Yb,(⟨a8.XZ,a8.Yf,a8.Ye,a8.Yg,a8.Yb,a8.Ya⟩:VJ).Ya⟩:VJ)),aC A4 n4 c4 a0.Ym,aC A5 n5 c5 a0.Yt,ae B1 128 [Y A2 n2 c2,Y A3 n3 c3,Y A4 n4 c4,Y A5 n5 c5,pV B6 0],ax cj fv e3 e2,ae B6 186 [.map (some e3)]]) ?_ ?_
 ·refine ab ?_;refine dU (pf J J (by decide)) ?_;refine gH J h ?_ ?_<;>intro h
  ·refine bm I ([aZ f2 f3 f4 a8.Yb,aZ f9 g0 g1 a8.Ya,ae e4 45 (gk a2 A8 n8 c8 A9 n9 c9),aZ A8 n8 c8 a2.Yb,aZ A9 n9 c9 a2.Ya,ae B1 128 [Y A2 n2 c2,Y A3 n3 c3,Y A4 n4 c4,Y A5 n5 c5,pV B6 0],cL A2 n2 c2 a0.m_.Yd,cL A3 n3 c3 (List.set (List.set a0.m_.Yc y17_1.toNat (⟨a8.XZ,a8.Yf,a8.Ye,a8.Yg,a8.Yb,a8.Ya⟩:VJ)) y17_1.toNat (⟨(⟨a8.XZ,a8.Yf,a8.Ye,a8.Yg,a8.Yb,a8.Ya⟩:VJ).XZ,(⟨a8.XZ,a8.Yf,a8.Ye,a8.Yg,a8.Yb,a8.Ya⟩:VJ).Yf,(⟨a8.XZ,a8.Yf,a8.Ye,a8.Yg,a8.Yb,a8.Ya⟩:VJ).Ye,d2.Yg,(⟨a8.XZ,a8.Yf,a8.Ye,a8.Yg,a8.Yb,a8.Ya⟩:VJ).Yb,(⟨a8.XZ,a8.Yf,a8.Ye,a8.Yg,a8.Yb,a8.Ya⟩:VJ).Ya⟩:VJ)),aC A4 n4 c4 a0.Ym,aC A5 n5 c5 a0.Yt]) (cS [0,1,2,3,4,5,6,7,8,9] 12) ?_;refine ab ?_;obtain ⟨g8,k,h⟩:=aa h
   refine It 6 J (oC (i5 k)) fun g9=> ?_
   exact jY
  exact jY
 rintro _ _ ⟨e2,e3,h,rfl,rfl⟩;exact eY
def od (N:Nat)(a0:VU)(y17_0:Int)(a6 a8 a2:VJ)(b0:V8):Option (Int×VU):=
 some (0,(⟨(⟨List.set (List.set a0.m_.Yd y17_0.toNat (⟨a6.XZ,a6.Yf,a6.Ye,a6.Yg,a6.Yb,a6.Ya⟩:VJ)) y17_0.toNat (⟨(⟨a6.XZ,a6.Yf,a6.Ye,a6.Yg,a6.Yb,a6.Ya⟩:VJ).XZ,(⟨a6.XZ,a6.Yf,a6.Ye,a6.Yg,a6.Yb,a6.Ya⟩:VJ).Yf,(⟨a6.XZ,a6.Yf,a6.Ye,a6.Yg,a6.Yb,a6.Ya⟩:VJ).Ye,a8.Yg,(⟨a6.XZ,a6.Yf,a6.Ye,a6.Yg,a6.Yb,a6.Ya⟩:VJ).Yb,(⟨a6.XZ,a6.Yf,a6.Ye,a6.Yg,a6.Yb,a6.Ya⟩:VJ).Ya⟩:VJ),a0.m_.Yc⟩:VR),a0.Ym,a0.Yt,(⟨b0⟩:VQ)⟩:VU))
def oa (N:Nat)(a0:VU)(y17_1:Int)(a6 a8 a2:VJ)(b0:V8):Option (Int×VU):=
 some (0,(⟨(⟨a0.m_.Yd,List.set (List.set a0.m_.Yc y17_1.toNat (⟨a6.XZ,a6.Yf,a6.Ye,a6.Yg,a6.Yb,a6.Ya⟩:VJ)) y17_1.toNat (⟨(⟨a6.XZ,a6.Yf,a6.Ye,a6.Yg,a6.Yb,a6.Ya⟩:VJ).XZ,(⟨a6.XZ,a6.Yf,a6.Ye,a6.Yg,a6.Yb,a6.Ya⟩:VJ).Yf,(⟨a6.XZ,a6.Yf,a6.Ye,a6.Yg,a6.Yb,a6.Ya⟩:VJ).Ye,a8.Yg,(⟨a6.XZ,a6.Yf,a6.Ye,a6.Yg,a6.Yb,a6.Ya⟩:VJ).Yb,(⟨a6.XZ,a6.Yf,a6.Ye,a6.Yg,a6.Yb,a6.Ya⟩:VJ).Ya⟩:VJ)⟩:VR),a0.Ym,a0.Yt,(⟨b0⟩:VQ)⟩:VU))
def qc (a0:VU)(a1:Int)(a2:VJ):Option (Int×VU):=
 (aG N a0).bind fun b6=>bif b6 then (some (1,a0)) else ((jy N a0 a1).bind fun b7=>bif !b7 then (some (50,a0)) else ((fd N a2).bind fun b9=>bif !b9 then (some (51,a0)) else ((ic N a0 a1).bind fun c0=>zy c0 (fun y17_0=>(ap a0.m_.Yd y17_0).bind fun a6=>(dt N a2).bind fun a8=>bif decide (a1.tmod 2=0) then ((cA N a0.Ys a1 a2).bind fun d0=>od N a0 y17_0 a8 a6 a2 d0.2.at_) else (od N a0 y17_0 a8 a6 a2 a0.Ys.at_)) (fun y17_1=>(ap a0.m_.Yc y17_1).bind fun b0=>(dt N a2).bind fun b5=>bif decide (a1.tmod 2=0) then ((cA N a0.Ys a1 a2).bind fun d1=>oa N a0 y17_1 b5 b0 a2 d1.2.at_) else (oa N a0 y17_1 b5 b0 a2 a0.Ys.at_)))))
theorem AI {N:Nat}{a0:VU}{r:Int×VU}(h:qc N a0 a1 a2=some r):Okc Wc 142 [pV B1 0,iV a1,.agg #[iV a2.XZ,iV a2.Yf,iV a2.Ye,iV a2.Yg,Y A8 n8 c8,Y A9 n9 c9]] ([ae B1 128 [Y A2 n2 c2,Y A3 n3 c3,Y A4 n4 c4,Y A5 n5 c5,pV B6 0],cL A2 n2 c2 a0.m_.Yd,cL A3 n3 c3 a0.m_.Yc,aC A4 n4 c4 a0.Ym,aC A5 n5 c5 a0.Yt,ae B6 186 [.map (some M7)],ax cj fv M7 a0.Ys.at_,aC A8 n8 c8 a2.Yb,aC A9 n9 c9 a2.Ya]) (fun u post=> ∃d2 d3 d4 d6 e0 e1 e2 e3 e4 e5 e6 e7 e8,u=iV r.1/\post=[ae B1 128 [Y d2 d3 d4,Y d6 e0 e1,Y e2 e3 e4,Y e5 e6 e7,pV B6 0],cL d2 d3 d4 r.2.m_.Yd,cL d6 e0 e1 r.2.m_.Yc,aC e2 e3 e4 r.2.Ym,aC e5 e6 e7 r.2.Yt,ae B6 186 [.map (some e8)],ax cj fv e8 r.2.Ys.at_,aC A8 n8 c8 a2.Yb,aC A9 n9 c9 a2.Ya]):=by
 refine bY Tryz.func142 ?_;intro g1;refine sY ?_
 refine cR h (fun _ k=>bW k) fun h5 h=> ?_
 refine gH J h ?_ ?_<;>intro h
 ·exact eY
 refine cR h (fun _ k=>qN k) fun h6 h=> ?_
 refine gH J h ?_ ?_<;>intro h
 ·exact eY
 refine cR h (fun _ k=>ko k) fun h7 h=> ?_
 refine gH J h ?_ ?_<;>intro h
 ·exact eY
 refine ab ?_;obtain ⟨h4,e9,h⟩:=aa h;rcases h4 with y17_0|y17_1
 ·replace h:=DQ h;refine gD (oR (fY e9)) ?_;rintro _ _ ⟨_,⟨rfl,rfl⟩,rfl⟩;obtain ⟨d0,b0,b5,b9,h⟩:=aM h;refine ab ?_;refine gR (mE 2 J ak J (toNat_lt b0 b5)) ?_;refine gR (ox 2 J ak J (toNat_lt b0 b5) tf) ?_;refine H3 (kR (u:=iV d0.Yg) 2 J ak J b9 ya (fun _ _ _ h=>by obtain ⟨_,_,_,_,_,_,e,_⟩:=h;rw [e];rfl)) ?_;obtain ⟨a6,k,h⟩:=aa h;refine gD (oR (gj k)) ?_;rintro _ _ ⟨_,⟨g2,g3,g4,g5,g6,g7,rfl,rfl⟩,rfl⟩;refine gR (mE 4 J ak J (toNat_lt b0 b5)) ?_;refine r8 (bL 0 J) ?_;refine r8 (bL 1 J) ?_;refine Gl (cF (us:=(gk a6 g2 g3 g4 g5 g6 g7)) (z:=(⟨a6.XZ,a6.Yf,a6.Ye,a6.Yg,a6.Yb,a6.Ya⟩:VJ)) 4 J J J J size45.out J (toNat_lt b0 b5) J (fun S w vs xk hk hr ho=>by obtain rfl:=XH (hk.symm.trans b9);obtain ⟨_,_,_,_,_,_,rfl,s4,s5⟩:=hr;exact ⟨_,_,_,_,_,_,rfl,ho 0 _ rfl rfl,ho 1 _ rfl rfl⟩)) ?_;have f1:=Ei (z:=(⟨a6.XZ,a6.Yf,a6.Ye,a6.Yg,a6.Yb,a6.Ya⟩:VJ)) b9;refine gR (mE 4 J ak J (su (toNat_lt b0 b5))) ?_;refine gR (ox 4 J ak J (su (toNat_lt b0 b5)) tf) ?_
  refine Gl (cF (us:=[iV d0.Yg]) (z:=(⟨(⟨a6.XZ,a6.Yf,a6.Ye,a6.Yg,a6.Yb,a6.Ya⟩:VJ).XZ,(⟨a6.XZ,a6.Yf,a6.Ye,a6.Yg,a6.Yb,a6.Ya⟩:VJ).Yf,(⟨a6.XZ,a6.Yf,a6.Ye,a6.Yg,a6.Yb,a6.Ya⟩:VJ).Ye,d0.Yg,(⟨a6.XZ,a6.Yf,a6.Ye,a6.Yg,a6.Yb,a6.Ya⟩:VJ).Yb,(⟨a6.XZ,a6.Yf,a6.Ye,a6.Yg,a6.Yb,a6.Ya⟩:VJ).Ya⟩:VJ)) 4 J J J J size3.out J (su (toNat_lt b0 b5)) J (fun S w vs xk hk hr ho=>by obtain rfl:=XH (hk.symm.trans f1);obtain ⟨_,_,_,_,_,_,rfl,s4,s5⟩:=hr;exact ⟨_,_,_,_,_,_,rfl,s4,s5⟩)) ?_;refine ai (fun s L=> ∃f2 f3,od N a0 y17_0 a6 d0 a2 f2=some r/\s=[(6,iV 0)]/\L=[cL A2 n2 c2 (List.set (List.set a0.m_.Yd y17_0.toNat (⟨a6.XZ,a6.Yf,a6.Ye,a6.Yg,a6.Yb,a6.Ya⟩:VJ)) y17_0.toNat (⟨(⟨a6.XZ,a6.Yf,a6.Ye,a6.Yg,a6.Yb,a6.Ya⟩:VJ).XZ,(⟨a6.XZ,a6.Yf,a6.Ye,a6.Yg,a6.Yb,a6.Ya⟩:VJ).Yf,(⟨a6.XZ,a6.Yf,a6.Ye,a6.Yg,a6.Yb,a6.Ya⟩:VJ).Ye,d0.Yg,(⟨a6.XZ,a6.Yf,a6.Ye,a6.Yg,a6.Yb,a6.Ya⟩:VJ).Yb,(⟨a6.XZ,a6.Yf,a6.Ye,a6.Yg,a6.Yb,a6.Ya⟩:VJ).Ya⟩:VJ)),cL A3 n3 c3 a0.m_.Yc,aC A4 n4 c4 a0.Ym,aC A5 n5 c5 a0.Yt,ae B1 128 [Y A2 n2 c2,Y A3 n3 c3,Y A4 n4 c4,Y A5 n5 c5,pV B6 0],ax cj fv f3 f2,ae B6 186 [.map (some f3)],aC A8 n8 c8 a2.Yb,aC A9 n9 c9 a2.Ya]) ?_ ?_
  ·refine ab ?_;refine dU (pf J J (by decide)) ?_;refine gH J h ?_ ?_<;>intro h
   ·refine bm I ([aZ g2 g3 g4 a6.Yb,aZ g5 g6 g7 a6.Ya,ae g1 45 (gk a2 A8 n8 c8 A9 n9 c9),ae B1 128 [Y A2 n2 c2,Y A3 n3 c3,Y A4 n4 c4,Y A5 n5 c5,pV B6 0],cL A2 n2 c2 (List.set (List.set a0.m_.Yd y17_0.toNat (⟨a6.XZ,a6.Yf,a6.Ye,a6.Yg,a6.Yb,a6.Ya⟩:VJ)) y17_0.toNat (⟨(⟨a6.XZ,a6.Yf,a6.Ye,a6.Yg,a6.Yb,a6.Ya⟩:VJ).XZ,(⟨a6.XZ,a6.Yf,a6.Ye,a6.Yg,a6.Yb,a6.Ya⟩:VJ).Yf,(⟨a6.XZ,a6.Yf,a6.Ye,a6.Yg,a6.Yb,a6.Ya⟩:VJ).Ye,d0.Yg,(⟨a6.XZ,a6.Yf,a6.Ye,a6.Yg,a6.Yb,a6.Ya⟩:VJ).Yb,(⟨a6.XZ,a6.Yf,a6.Ye,a6.Yg,a6.Yb,a6.Ya⟩:VJ).Ya⟩:VJ)),cL A3 n3 c3 a0.m_.Yc,aC A4 n4 c4 a0.Ym,aC A5 n5 c5 a0.Yt,aC A8 n8 c8 a2.Yb,aC A9 n9 c9 a2.Ya]) (cS [0,1,2,3,4,5,6,7,10,11] 12) ?_;refine ab ?_;obtain ⟨h8,k,h⟩:=aa h;refine lg (cS [8,9,0,1,2,3,4,5,6,7,10,11] 12) (cS [2,3,4,5,6,7,8,9,10,11] 12) ?_
    refine It 6 J (BC 2 2 (i5 k) J J J J (t9 (pw (i:=10) J J) (t9 (pw (i:=11) J J) aR)) qt) fun h9=> ?_
    exact jY
   exact jY
  rintro _ _ ⟨f2,f3,h,rfl,rfl⟩;exact eY
 replace h:=DP h;refine gD (oR (fY e9)) ?_;rintro _ _ ⟨_,⟨rfl,rfl⟩,rfl⟩;obtain ⟨d1,b6,b7,c0,h⟩:=aM h;refine ab ?_;refine gR (mE 3 J ak J (toNat_lt b6 b7)) ?_;refine gR (ox 3 J ak J (toNat_lt b6 b7) tf) ?_;refine H3 (kR (u:=iV d1.Yg) 3 J ak J c0 ya (fun _ _ _ h=>by obtain ⟨_,_,_,_,_,_,e,_⟩:=h;rw [e];rfl)) ?_;obtain ⟨a8,k,h⟩:=aa h;refine gD (oR (gj k)) ?_;rintro _ _ ⟨_,⟨g8,g9,h0,h1,h2,h3,rfl,rfl⟩,rfl⟩;refine gR (mE 5 J ak J (toNat_lt b6 b7)) ?_;refine r8 (bL 0 J) ?_;refine r8 (bL 1 J) ?_;refine ab ?_;refine Gl (cF (us:=(gk a8 g8 g9 h0 h1 h2 h3)) (z:=(⟨a8.XZ,a8.Yf,a8.Ye,a8.Yg,a8.Yb,a8.Ya⟩:VJ)) 5 J J J J size45.out J (toNat_lt b6 b7) J (fun S w vs xk hk hr ho=>by obtain rfl:=XH (hk.symm.trans c0);obtain ⟨_,_,_,_,_,_,rfl,s4,s5⟩:=hr;exact ⟨_,_,_,_,_,_,rfl,ho 0 _ rfl rfl,ho 1 _ rfl rfl⟩)) ?_;have f4:=Ei (z:=(⟨a8.XZ,a8.Yf,a8.Ye,a8.Yg,a8.Yb,a8.Ya⟩:VJ)) c0;refine gR (mE 5 J ak J (su (toNat_lt b6 b7))) ?_;refine gR (ox 5 J ak J (su (toNat_lt b6 b7)) tf) ?_
 refine Gl (cF (us:=[iV d1.Yg]) (z:=(⟨(⟨a8.XZ,a8.Yf,a8.Ye,a8.Yg,a8.Yb,a8.Ya⟩:VJ).XZ,(⟨a8.XZ,a8.Yf,a8.Ye,a8.Yg,a8.Yb,a8.Ya⟩:VJ).Yf,(⟨a8.XZ,a8.Yf,a8.Ye,a8.Yg,a8.Yb,a8.Ya⟩:VJ).Ye,d1.Yg,(⟨a8.XZ,a8.Yf,a8.Ye,a8.Yg,a8.Yb,a8.Ya⟩:VJ).Yb,(⟨a8.XZ,a8.Yf,a8.Ye,a8.Yg,a8.Yb,a8.Ya⟩:VJ).Ya⟩:VJ)) 5 J J J J size3.out J (su (toNat_lt b6 b7)) J (fun S w vs xk hk hr ho=>by obtain rfl:=XH (hk.symm.trans f4);obtain ⟨_,_,_,_,_,_,rfl,s4,s5⟩:=hr;exact ⟨_,_,_,_,_,_,rfl,s4,s5⟩)) ?_;refine ai (fun s L=> ∃f9 g0,oa N a0 y17_1 a8 d1 a2 f9=some r/\s=[(6,iV 0)]/\L=[cL A2 n2 c2 a0.m_.Yd,cL A3 n3 c3 (List.set (List.set a0.m_.Yc y17_1.toNat (⟨a8.XZ,a8.Yf,a8.Ye,a8.Yg,a8.Yb,a8.Ya⟩:VJ)) y17_1.toNat (⟨(⟨a8.XZ,a8.Yf,a8.Ye,a8.Yg,a8.Yb,a8.Ya⟩:VJ).XZ,(⟨a8.XZ,a8.Yf,a8.Ye,a8.Yg,a8.Yb,a8.Ya⟩:VJ).Yf,(⟨a8.XZ,a8.Yf,a8.Ye,a8.Yg,a8.Yb,a8.Ya⟩:VJ).Ye,d1.Yg,(⟨a8.XZ,a8.Yf,a8.Ye,a8.Yg,a8.Yb,a8.Ya⟩:VJ).Yb,(⟨a8.XZ,a8.Yf,a8.Ye,a8.Yg,a8.Yb,a8.Ya⟩:VJ).Ya⟩:VJ)),aC A4 n4 c4 a0.Ym,aC A5 n5 c5 a0.Yt,ae B1 128 [Y A2 n2 c2,Y A3 n3 c3,Y A4 n4 c4,Y A5 n5 c5,pV B6 0],ax cj fv g0 f9,ae B6 186 [.map (some g0)],aC A8 n8 c8 a2.Yb,aC A9 n9 c9 a2.Ya]) ?_ ?_
 ·refine ab ?_;refine dU (pf J J (by decide)) ?_;refine gH J h ?_ ?_<;>intro h
  ·refine bm I ([aZ g8 g9 h0 a8.Yb,aZ h1 h2 h3 a8.Ya,ae g1 45 (gk a2 A8 n8 c8 A9 n9 c9),ae B1 128 [Y A2 n2 c2,Y A3 n3 c3,Y A4 n4 c4,Y A5 n5 c5,pV B6 0],cL A2 n2 c2 a0.m_.Yd,cL A3 n3 c3 (List.set (List.set a0.m_.Yc y17_1.toNat (⟨a8.XZ,a8.Yf,a8.Ye,a8.Yg,a8.Yb,a8.Ya⟩:VJ)) y17_1.toNat (⟨(⟨a8.XZ,a8.Yf,a8.Ye,a8.Yg,a8.Yb,a8.Ya⟩:VJ).XZ,(⟨a8.XZ,a8.Yf,a8.Ye,a8.Yg,a8.Yb,a8.Ya⟩:VJ).Yf,(⟨a8.XZ,a8.Yf,a8.Ye,a8.Yg,a8.Yb,a8.Ya⟩:VJ).Ye,d1.Yg,(⟨a8.XZ,a8.Yf,a8.Ye,a8.Yg,a8.Yb,a8.Ya⟩:VJ).Yb,(⟨a8.XZ,a8.Yf,a8.Ye,a8.Yg,a8.Yb,a8.Ya⟩:VJ).Ya⟩:VJ)),aC A4 n4 c4 a0.Ym,aC A5 n5 c5 a0.Yt,aC A8 n8 c8 a2.Yb,aC A9 n9 c9 a2.Ya]) (cS [0,1,2,3,4,5,6,7,10,11] 12) ?_;refine ab ?_;obtain ⟨i0,k,h⟩:=aa h;refine lg (cS [8,9,0,1,2,3,4,5,6,7,10,11] 12) (cS [2,3,4,5,6,7,8,9,10,11] 12) ?_
   refine It 6 J (BC 2 2 (i5 k) J J J J (t9 (pw (i:=10) J J) (t9 (pw (i:=11) J J) aR)) qt) fun i1=> ?_
   exact jY
  exact jY
 rintro _ _ ⟨f9,g0,h,rfl,rfl⟩;exact eY
theorem AH {N:Nat}{a0:VU}{r:Int×VU}(h:lV N a0 a1 a2=some r):Okc Wc 142 [pV B1 0,iV a1,.agg #[iV a2.XZ,iV a2.Yf,iV a2.Ye,iV a2.Yg,Y A2 n2 c2,Y A3 n3 c3]] ([aZ A2 n2 c2 a2.Yb,aZ A3 n3 c3 a2.Ya,oDHeap B1 a0]) (fun u post=>u=iV r.1/\post=[oDHeap B1 r.2]):=IY 2 rfl (fun _=>C4 h)
theorem yt {N:Nat}{a0:VU}{r:Int×VU}(h:qc N a0 a1 a2=some r):Okc Wc 142 [pV B1 0,iV a1,.agg #[iV a2.XZ,iV a2.Yf,iV a2.Ye,iV a2.Yg,Y A2 n2 c2,Y A3 n3 c3]] ([oDHeap B1 a0,aC A2 n2 c2 a2.Yb,aC A3 n3 c3 a2.Ya]) (fun u post=>u=iV r.1/\post=[oDHeap B1 r.2,aC A2 n2 c2 a2.Yb,aC A3 n3 c3 a2.Ya]):=IY 0 rfl (fun _=>AI h)
def cB (a0:VS)(a1:VN)(a2:VJ):Option VS:=
 (iI N a1).bind fun a6=>bif a6 then ((lV N a0.Yi a1.N a2).bind fun a8=>some (⟨a0.Yu,a0.Yn,(),a8.2,a0.Yk,a0.Yv,a0.Yo,a0.YB,a0.YC,a0.Yw,a0.Yx⟩:VS)) else (some a0)
theorem Aq {N:Nat}{a1:VN}{r:VS}(h:cB N a0 a1 a2=some r):Okc Wc 93 [pV B1 0,(aX a1),.agg #[iV a2.XZ,iV a2.Yf,iV a2.Ye,iV a2.Yg,Y A7 n7 c7,Y A8 n8 c8]] ([aZ A7 n7 c7 a2.Yb,aZ A8 n8 c8 a2.Ya,ae B1 85 (tD a0 B2 B3 A4 n4 c4 A5 n5 c5 A6 n6 c6),oDHeap B2 a0.Yi,oDTable B3 a0.Yk,iB A4 n4 c4 a0.Yv,sO A5 n5 c5 a0.Yw,iB A6 n6 c6 a0.Yx]) (fun u post=> ∃A0 n0 c0 A1 n1 c1 A2 n2 c2,u=.tuple #[]/\post=[ae B1 85 (tD r B2 B3 A0 n0 c0 A1 n1 c1 A2 n2 c2),oDHeap B2 r.Yi,oDTable B3 r.Yk,iB A0 n0 c0 r.Yv,sO A1 n1 c1 r.Yw,iB A2 n2 c2 r.Yx]):=by
 refine bY Tryz.func93 ?_;intro B9
 refine du fun a6=> ?_
 refine dU (tG J Vt) ?_
 refine cR h (fun _ k=>t7 k) fun a8 h=> ?_
 refine gH J h ?_ ?_<;>intro h
 ·refine bm I ([ae a6 45 (gk a2 A7 n7 c7 A8 n8 c8),ae B9 29 (eE a1),aZ A7 n7 c7 a2.Yb,aZ A8 n8 c8 a2.Ya,ae B1 85 (tD a0 B2 B3 A4 n4 c4 A5 n5 c5 A6 n6 c6),oDTable B3 a0.Yk,iB A4 n4 c4 a0.Yv,sO A5 n5 c5 a0.Yw,iB A6 n6 c6 a0.Yx]) (cS [0,1,2,3,4,6,7,8,9] 10) ?_;refine ab ?_;obtain ⟨b0,k,h⟩:=aa h;refine zD 7 J (oC (AH k)) ?_;rintro _ _ ⟨_,⟨rfl,rfl⟩,rfl⟩;refine bf ?_;exact eY
 exact eY
def cT (a0:VS)(a1:VN)(a2:VJ):Option VS:=
 (iI N a1).bind fun a6=>bif a6 then ((qc N a0.Yi a1.N a2).bind fun a8=>some (⟨a0.Yu,a0.Yn,(),a8.2,a0.Yk,a0.Yv,a0.Yo,a0.YB,a0.YC,a0.Yw,a0.Yx⟩:VS)) else (some a0)
theorem xM {N:Nat}{a1:VN}{r:VS}(h:cT N a0 a1 a2=some r):Okc Wc 93 [pV B1 0,(aX a1),.agg #[iV a2.XZ,iV a2.Yf,iV a2.Ye,iV a2.Yg,Y A7 n7 c7,Y A8 n8 c8]] ([ae B1 85 (tD a0 B2 B3 A4 n4 c4 A5 n5 c5 A6 n6 c6),oDHeap B2 a0.Yi,oDTable B3 a0.Yk,iB A4 n4 c4 a0.Yv,sO A5 n5 c5 a0.Yw,iB A6 n6 c6 a0.Yx,aC A7 n7 c7 a2.Yb,aC A8 n8 c8 a2.Ya]) (fun u post=> ∃a6 a8 b0 b5 b6 b7 b9 c0 d0,u=.tuple #[]/\post=[ae B1 85 (tD r B2 B3 a6 a8 b0 b5 b6 b7 b9 c0 d0),oDHeap B2 r.Yi,oDTable B3 r.Yk,iB a6 a8 b0 r.Yv,sO b5 b6 b7 r.Yw,iB b9 c0 d0 r.Yx,aC A7 n7 c7 a2.Yb,aC A8 n8 c8 a2.Ya]):=by
 refine bY Tryz.func93 ?_;intro B9
 refine du fun d1=> ?_
 refine dU (tG J Vt) ?_
 refine cR h (fun _ k=>t7 k) fun d2 h=> ?_
 refine gH J h ?_ ?_<;>intro h
 ·refine bm I ([ae d1 45 (gk a2 A7 n7 c7 A8 n8 c8),ae B9 29 (eE a1),ae B1 85 (tD a0 B2 B3 A4 n4 c4 A5 n5 c5 A6 n6 c6),oDTable B3 a0.Yk,iB A4 n4 c4 a0.Yv,sO A5 n5 c5 a0.Yw,iB A6 n6 c6 a0.Yx,aC A7 n7 c7 a2.Yb,aC A8 n8 c8 a2.Ya]) (cS [0,1,2,4,5,6,7,8,9] 10) ?_;refine ab ?_;obtain ⟨d3,k,h⟩:=aa h;refine zD 7 J (oC (yt k)) ?_;rintro _ _ ⟨_,⟨rfl,rfl⟩,rfl⟩;refine bf ?_;exact eY
 exact eY
theorem xL {N:Nat}{a1:VN}{r:VS}(h:cB N a0 a1 a2=some r){B1 B2 B3:Nat}:Okc Wc 93 [pV B1 0,(aX a1),.agg #[iV a2.XZ,iV a2.Yf,iV a2.Ye,iV a2.Yg,Y A4 n4 c4,Y A5 n5 c5]] ([aZ A4 n4 c4 a2.Yb,aZ A5 n5 c5 a2.Ya,oDWorld B1 B2 B3 a0]) (fun u post=>u=.tuple #[]/\post=[oDWorld B1 B2 B3 r]):=IY 2 rfl (fun _=>Aq h)
theorem pI {N:Nat}{a1:VN}{r:VS}(h:cT N a0 a1 a2=some r){B1 B2 B3:Nat}:Okc Wc 93 [pV B1 0,(aX a1),.agg #[iV a2.XZ,iV a2.Yf,iV a2.Ye,iV a2.Yg,Y A4 n4 c4,Y A5 n5 c5]] ([oDWorld B1 B2 B3 a0,aC A4 n4 c4 a2.Yb,aC A5 n5 c5 a2.Ya]) (fun u post=>u=.tuple #[]/\post=[oDWorld B1 B2 B3 r,aC A4 n4 c4 a2.Yb,aC A5 n5 c5 a2.Ya]):=IY 0 rfl (fun _=>xM h)
def gb (a0:VS)(a1:VN):Option VS:=
 (bU N a0 a1).bind fun y5=>zy y5 (fun y5_0=>some a0) (fun y5_1=>bif decide (aq .i64 y5_1.Yj.Ye 16=0) then ((cT N a0 a1 (⟨y5_1.Yj.XZ,y5_1.Yj.Yf,dK .i64 y5_1.Yj.Ye 16,y5_1.Yj.Yg,y5_1.Yj.Yb,y5_1.Yj.Ya⟩:VJ)).bind fun a6=>some a6) else (some a0))
theorem yb {N:Nat}{a1:VN}{r:VS}(h:gb N a0 a1=some r){B1 B2 B3:Nat}:Okc Wc 38 [pV B1 0,(aX a1)] ([oDWorld B1 B2 B3 a0]) (fun u post=>u=.tuple #[]/\post=[oDWorld B1 B2 B3 r]):=by
 refine bY Tryz.func38 ?_;intro B4;refine ab ?_;obtain ⟨y5,a6,h⟩:=aa h;rcases y5 with y5_0|y5_1
 ·replace h:=DQ h;refine gD (oR (aP a6)) ?_;rintro _ _ ⟨_,⟨rfl,rfl⟩,rfl⟩;refine ab ?_;refine cE J ?_;exact eY
 replace h:=DP h;refine gD (oR (aP a6)) ?_;rintro _ _ ⟨_,⟨B6,A7,n7,c7,A8,n8,c8,rfl,rfl⟩,rfl⟩;refine ab ?_;refine dU (cx J J) ?_;refine gH J h ?_ ?_<;>intro h
 ·refine ab ?_;refine dU (qU J J) ?_;refine bm I ([ae B6 103 [iV y5_1.Yj.XZ,iV y5_1.Yj.Yf,iV (dK .i64 y5_1.Yj.Ye 16),iV y5_1.Yj.Yg,Y A7 n7 c7,Y A8 n8 c8,pV B1 0,iV y5_1.at_.XZ,iV y5_1.at_.N,.string y5_1.at_.S],aC A7 n7 c7 y5_1.Yj.Yb,aC A8 n8 c8 y5_1.Yj.Ya,ae B4 29 (eE a1)]) (cS [0,1,2,3] 5) ?_;refine ab ?_;obtain ⟨a8,k,h⟩:=aa h;refine zD 6 J (oC (pI k)) ?_;rintro _ _ ⟨_,⟨rfl,rfl⟩,rfl⟩;refine bf ?_;exact eY
 exact eY
end
section
variable {A1 A2 A3 A4 A5 A6 A7 A8 A9:Option Addr}{B1 B2 B3 B6 M3 c1 c2 c3 c4 c5 c6 c7 c8 c9 n1 n2 n3 n4 n5 n6 n7 n8 n9:Nat}
open Go.RowKit Asn
set_option maxRecDepth 20000
def eW (a0:VS)(a1:VN)(a2:Int):Option (VN×Bool×VS):=
 (z8 N a2).bind fun y6=>(bif !y6.2 then (some true) else ((nJ N a0 a1).bind fun y9=>some (!y9))).bind fun b8=>bif b8 then (some ((⟨0,0,⟨#[]⟩⟩:VN),false,a0)) else ((o8 N a0 (⟨a2,0,1,0,([a1]:List VN),y6.1⟩:VJ)).bind fun a6=>bif !a6.2.1 then (some ((⟨0,0,⟨#[]⟩⟩:VN),false,a6.2.2)) else ((gb N a6.2.2 a1).bind fun a8=>some (a6.1,true,a8)))
theorem vm {N:Nat}{a1:VN}{a2:Int}{r:VN×Bool×VS}(h:eW N a0 a1 a2=some r){B1 B2 B3:Nat}:Okc Wc 10 [pV B1 0,(aX a1),iV a2] ([oDWorld B1 B2 B3 a0]) (fun u post=>u=.tuple #[.agg #[iV r.1.XZ,iV r.1.N,.string r.1.S],.bool r.2.1]/\post=[oDWorld B1 B2 B3 r.2.2]):=by
 refine bY Tryz.func10 ?_;intro B4
 refine du fun B5=> ?_
 obtain ⟨y6,k,h⟩:=aa h
 refine r9 (oR (Fb k)) fun A7 n7 c7=> ?_
 refine sZ ?_
 refine Lv 5 23 18 h (fun _ g8 h=> ?_) (fun _ g8 h=> ?_) fun b8 h=> ?_
 ·exact gY
 ·refine ab ?_;obtain ⟨y9,k,h⟩:=aa h;refine gU (oR (Aa k)) (pc g8 J) ?_;exact gY
 refine dI h ?_ ?_<;>intro h
 ·exact eY
 refine ab ?_
 refine r9 (aL (R:=av) (vss:=[(eE a1)]) (xs:=[a1]) J (rX _ _ _) J J (fun _ _ hr=> .cons J All2.nil)) fun a6 a8 b0=> ?_
 refine r8 (bL 0 J) ?_;refine r8 (bL 1 J) ?_;refine ab ?_;obtain ⟨b5,k,h⟩:=aa h;refine C7 (oC (xn k)) ?_;intro b6;refine sY ?_;refine gH J h ?_ ?_<;>intro h
 ·exact eY
 refine ab ?_;obtain ⟨b7,k,h⟩:=aa h;refine C7 (oC (yb k)) ?_;exact eN
def Al (N:Nat)(a0:ByteArray):Option VI:=
 some (⟨1,0,a0⟩:VI)
theorem Dm {N:Nat}{a0:ByteArray}{r:VI}(h:Al N a0=some r):Okc Wc 29 [.string a0] ([]) (fun u post=>u=(nv r)/\post=[]):=by
 refine bY Tryz.func29 ?_;intro B1;exact eY
def wH (N:Nat)(p7:Int):Option (Int×Bool):=
 bif decide (4294967294<p7) then (some (0,false)) else (some (p7,true))
def te (N:Nat)(a0:ByteArray):Nat->Int->Int->Option (Int×Bool)
 |0,_,_=>none
 |m8+1,p9,a6=>bif decide (a6<(a0.size:Int)) then ((H2 a0 a6).bind fun b0=>(bif decide (b0<48) then (some true) else ((H2 a0 a6).bind fun b5=>some (decide (57<b5)))).bind fun b6=>bif b6 then (some (0,false)) else (aE (in64 (10*p9)) ((H2 a0 a6).bind fun a8=>aE (in64 ((10*p9)+(IntKind.i64.wrap (IntKind.u8.wrap (a8 - 48))))) (aE (in64 (a6+1)) ((te N a0 m8) ((10*p9)+(IntKind.i64.wrap (IntKind.u8.wrap (a8 - 48)))) (a6+1)))))) else (wH N p9)
def uV (a0:ByteArray):Option (Int×Bool):=
 (bif a0.toList==(⟨#[]⟩:ByteArray).toList then (some true) else (some (decide (10<(a0.size:Int))))).bind fun b1=>(bif b1 then (some true) else ((H2 a0 0).bind fun x3=>(bif decide (x3=48) then (some (decide (1<(a0.size:Int)))) else (some false)).bind fun b4=>some b4)).bind fun b2=>bif b2 then (some (0,false)) else (te N a0 N 0 0)
theorem HX {N:Nat}{a0:ByteArray}{r:Int×Bool}(h:uV N a0=some r):Okc Wc 129 [.string a0] ([]) (fun u post=>u=.tuple #[iV r.1,.bool r.2]/\post=[]):=by
 refine bY Tryz.func129 ?_;refine sZ ?_;refine dU (rS J J) ?_
 refine AU 4 12 8 h (fun _ g1 h=> ?_) fun b1 h=> ?_
 ·refine ab ?_;refine gT (tg J Vs) J (pc g1 J) J ?_;exact gY
 refine ab ?_
 refine AU 9 22 13 h (fun _ g2 h=> ?_) fun b2 h=> ?_
 ·refine ab ?_;obtain ⟨x3,b7,h⟩:=aa h;refine gT (zt J J Vs b7) J (pc g2 J) J ?_;refine ab ?_
  refine qo 4 21 17 h (fun _ g4 h=> ?_) fun b4 h=> ?_
  ·refine ab ?_;refine gT (tg J Vs) J (el g4 J) J ?_;exact gY
  exact gY
 refine dI h ?_ ?_<;>intro h
 ·exact eY
 refine ab ?_;refine ai (fun s L=> ∃p7,wH N p7=some r/\s=[(2,iV 0),(3,.bool false),(4,iV p7)]/\L=[]) ?_ ?_
 ·refine ab ?_;refine dU (tg J Vs) ?_;refine lK (fun m s L=> ∃(p9:Int) (a6:Int),te N a0 m p9 a6=some r/\s=[(0,.string a0),(2,iV 0),(3,.bool false),(4,iV p9),(24,iV (a0.size:Int)),(25,iV a6)]/\L=[]) N ?_;rintro m8 _ _ ⟨p9,a6,h,rfl,rfl⟩;rw [te.eq_2] at h;refine ab ?_;refine au ?_;refine gH J h ?_ ?_<;>intro h
  ·refine sY ?_;refine sZ ?_;obtain ⟨c0,a8,h⟩:=aa h;refine dU (zt J J Vs a8) ?_
   refine AU 5 37 32 h (fun _ b9 h=> ?_) fun d0 h=> ?_
   ·refine ab ?_;obtain ⟨d1,b0,h⟩:=aa h;refine gT (zt J J Vs b0) J (pc b9 J) J ?_;exact gY
   refine dI h ?_ ?_<;>intro h
   ·exact eY
   refine ab ?_;obtain ⟨b6,h⟩:=ac h;refine dU (nw J J b6.1 b6.2) ?_;obtain ⟨d2,b5,h⟩:=aa h;refine gE (zt J J Vs b5) ?_;refine gE (Q2 J J) ?_;refine gE (Ck J J Ex) ?_;obtain ⟨d3,h⟩:=ac h;refine ab ?_;obtain ⟨d4,h⟩:=ac h;exact lY
  exact jY
 rintro _ _ ⟨p7,h,rfl,rfl⟩;refine sZ ?_;refine gH J h ?_ ?_<;>intro h
 ·exact eY
 exact eY
def cU (a0:VI):Option Bool:=
 bif decide (a0.XZ=0) then ((bif a0.S.toList==(⟨#[]⟩:ByteArray).toList then (some (decide (0<=a0.N))) else (some false)).bind fun b3=>(bif b3 then (some (decide (a0.N<=4294967294))) else (some false)).bind fun b4=>some b4) else (bif decide (a0.XZ=1) then ((uV N a0.S).bind fun y6=>(bif decide (a0.N=0) then (some (decide ((a0.S.size:Int)<=65536))) else (some false)).bind fun b7=>(bif b7 then (some (!y6.2)) else (some false)).bind fun b8=>some b8) else (bif decide (a0.XZ=2) then ((bif a0.S.toList==(⟨#[]⟩:ByteArray).toList then (some (decide (1<=a0.N))) else (some false)).bind fun a6=>some a6) else (some false)))
theorem td {N:Nat}{a0:VI}{r:Bool}(h:cU N a0=some r):Okc Wc 85 [(nv a0)] ([]) (fun u post=>u=.bool r/\post=[]):=by
 refine bY Tryz.func85 ?_;intro B1;refine sY ?_;refine gH J h ?_ ?_<;>intro h
 ·refine ab ?_;refine dU (rS J J) ?_;refine gS 4 16 12 h ?_;intro b3 h;refine ab ?_;refine gS 4 21 17 h ?_;intro b4 h;exact eY
 refine dI h ?_ ?_<;>intro h
 ·refine cR h (fun _ k=>HX k) fun y6 h=> ?_
  refine qo 5 38 33 h (fun _ g7 h=> ?_) fun b7 h=> ?_
  ·refine ab ?_;refine gT (tg J Vs) J (el g7 J) J ?_;exact gY
  refine ab ?_;refine gS 3 42 39 h ?_;intro b8 h;exact eY
 refine dI h ?_ ?_<;>intro h
 ·refine ab ?_;refine dU (rS J J) ?_;refine gS 4 52 48 h ?_;intro a6 h;exact eY
 exact eY
def bZ (N:Nat)(a0:VS):Option Unit:=
 some ()
theorem xj {N:Nat}{r:Unit}(h:bZ N a0=some r):Okc Wc 49 [pV B1 0] ([aB B1 85 (tD a0 B2 B3 A4 n4 c4 A5 n5 c5 A6 n6 c6),pDHeap B2 a0.Yi,pDTable B3 a0.Yk,iD sX (Y A4 n4 c4) a0.Yv,iD nH (Y A5 n5 c5) a0.Yw,iD sX (Y A6 n6 c6) a0.Yx]) (fun u post=>u=pV B3 0/\post=[]):=by
 refine bY Tryz.func49 ?_;refine sZ ?_;refine dU (dZ J Vt) ?_;refine cE J ?_;exact eY
theorem dj {N:Nat}{r:Unit}(h:bZ N a0=some r){B1 B2 B3:Nat}:Okc Wc 49 [pV B1 0] ([pDWorld B1 B2 B3 a0]) (fun u post=>u=pV B3 0/\post=[]):=Nz 0 rfl (fun _=>xj h)
def eS (N:Nat)(a0:VH)(a1:Int):Option Bool:=
 (bif decide (0<=a1) then (some (decide (a1<(a0.Yk.length:Int)))) else (some false)).bind fun b4=>some b4
theorem oY {N:Nat}{a0:VH}{r:Bool}(h:eS N a0 a1=some r):Okc Wc 180 [pV B1 0,iV a1] ([aB B1 191 [Y A2 n2 c2,.map (some M3)],iD bl (Y A2 n2 c2) a0.Yk,nc d9 sP M3 a0.Yy]) (fun u post=>u=.bool r/\post=[]):=by
 refine bY Tryz.func180 ?_;refine dU (tG J Tryz.underlying81) ?_;refine gS 8 19 11 h ?_;intro b4 h;exact eY
def sL (N:Nat):Option (Int×Int×Bool):=
 some (0,0,false)
def jH (N:Nat)(a0:VH)(a2:VI):Nat->Int->Int->Int->ByteArray->Int->Int->Option (Int×Int×Bool)
 |0,_,_,_,_,_,_=>none
 |b0+1,b5,p13,b6,b7,b9,a8=>bif decide (0<a8) then (bif decide ((⟨p13,b6,b7⟩:VI)=a2) then (aE (in64 (a8 - 1)) (some (a8 - 1,b9,true))) else ((ap a0.Yk b5).bind fun a6=>(jH N a0 a2 b0) a6.Up a6.Yl.XZ a6.Yl.N a6.Yl.S a6.Yh a6.YA)) else (sL N)
def dm (a0:VH)(a1:Int)(a2:VI):Option (Int×Int×Bool):=
 (eS N a0 a1).bind fun y5=>bif !y5 then (some (0,0,false)) else ((ap a0.Yk a1).bind fun x8=>jH N a0 a2 N x8.Up x8.Yl.XZ x8.Yl.N x8.Yl.S x8.Yh x8.YA)
theorem kB {N:Nat}{a0:VH}{a2:VI}{r:Int×Int×Bool}(h:dm N a0 a1 a2=some r):Okc Wc 137 [pV B1 0,iV a1,(nv a2)] ([aB B1 191 [Y A2 n2 c2,.map (some M3)],iD bl (Y A2 n2 c2) a0.Yk,nc d9 sP M3 a0.Yy]) (fun u post=>u=.tuple #[iV r.1,iV r.2.1,.bool r.2.2]/\post=[]):=by
 refine bY Tryz.func137 ?_;intro B4;refine sY ?_
 refine cR h (fun _ k=>oY k) fun y5 h=> ?_
 refine gH J h ?_ ?_<;>intro h
 ·exact eY
 refine ab ?_;refine ai (fun s L=>sL N=some r/\s=[(6,iV 0),(7,iV 0),(8,.bool false)]/\L=[]) ?_ ?_
 ·refine ab ?_;obtain ⟨x8,d2,d3,d4,h⟩:=aM h
  refine du fun B9=> ?_
  refine lK (fun m s L=> ∃(b0:Int) (p13:Int) (a6:Int) (a8:ByteArray) (b5:Int) (b6:Int) (b7:Nat),jH N a0 a2 m b0 p13 a6 a8 b5 b6=some r/\s=[(0,pV B1 0),(5,pV B4 0),(6,iV 0),(7,iV 0),(8,.bool false),(9,pV b7 0)]/\L=[ae b7 159 [iV b0,iV p13,iV a6,.string a8,iV b5,iV b6],iD bl (Y A2 n2 c2) a0.Yk,nc d9 sP M3 a0.Yy,aB B1 191 [Y A2 n2 c2,.map (some M3)],ae B4 34 (BT a2)]) N ?_;rintro d6 _ _ ⟨b0,p13,a6,a8,b5,b6,b7,h,rfl,rfl⟩;rw [jH.eq_2] at h;refine sZ ?_;refine gH J h ?_ ?_<;>intro h
  ·refine sY ?_;refine dU (OY (x:=(⟨p13,a6,a8⟩:VI)) (y:=a2) J J) ?_;refine gH J h ?_ ?_<;>intro h
   ·refine dY [] ?_;refine ab ?_;obtain ⟨e0,h⟩:=ac h;exact eY
   refine sY ?_;intro e1;refine ab ?_;refine bm I _ (ah _) ?_;refine ab ?_;obtain ⟨b9,c0,d0,d1,h⟩:=aM h;refine ab ?_;refine oV 8 J I I (ar (us:=Eh b9) (cs':=Eh b9) 0 J J J J size159.out J J J) ?_;rintro _ _ rfl;exact lY
  exact jY
 rintro _ _ ⟨h,rfl,rfl⟩;exact eY
theorem xg {N:Nat}{a0:VH}{a2:VI}{r:Int×Int×Bool}(h:dm N a0 a1 a2=some r):Okc Wc 137 [pV B1 0,iV a1,(nv a2)] ([pDTable B1 a0]) (fun u post=>u=.tuple #[iV r.1,iV r.2.1,.bool r.2.2]/\post=[]):=Nz 0 rfl (fun _=>kB h)
def mq (N:Nat)(a2:VI)(a3 a6 a8:Int)(b0:ByteArray)(b5 p21:Int)(b6:ByteArray):Option VP:=
 some (⟨a2,a3,(⟨0,0,⟨#[]⟩⟩:VN),(⟨a6,a8,b0⟩:VN),(⟨b5,p21,b6⟩:VN)⟩:VP)
def fj (a0:VO)(a1:Int)(a2:VI)(a3:Int):Option VP:=
 aE (in64 (a1+1)) (bif decide ((a0.Yj.Yb.length:Int)<=a1+1) then (some (⟨a2,a3,(⟨0,0,⟨#[]⟩⟩:VN),(⟨0,0,⟨#[]⟩⟩:VN),(⟨0,0,⟨#[]⟩⟩:VN)⟩:VP)) else (aE (in64 (a1+1)) ((ap a0.Yj.Yb (a1+1)).bind fun b5=>bif decide (aq .i64 a3 8=0) then (some (⟨a2,a3,b5,(⟨0,0,⟨#[]⟩⟩:VN),(⟨0,0,⟨#[]⟩⟩:VN)⟩:VP)) else ((aF N a0.w_ b5).bind fun a6=>bif decide ((a6.Yb.length:Int)=2) then ((ap a6.Yb 0).bind fun a8=>(ap a6.Yb 1).bind fun b0=>mq N a2 a3 a8.XZ a8.N a8.S b0.XZ b0.N b0.S) else (mq N a2 a3 0 0 (⟨#[]⟩) 0 0 (⟨#[]⟩))))))
theorem rL {N:Nat}{a0:VO}{a2:VI}{r:VP}(h:fj N a0 a1 a2 a3=some r){B6:Nat}:Okc Wc 52 [pV B1 0,iV a1,(nv a2),iV a3] ([aB B1 103 [iV a0.Yj.XZ,iV a0.Yj.Yf,iV a0.Yj.Ye,iV a0.Yj.Yg,Y A2 n2 c2,Y A3 n3 c3,pV B4 0,iV a0.at_.XZ,iV a0.at_.N,.string a0.at_.S],aZ A2 n2 c2 a0.Yj.Yb,aZ A3 n3 c3 a0.Yj.Ya,pDWorld B4 B5 B6 a0.w_]) (fun u post=>u=(pe r)/\post=[]):=by
 refine bY Tryz.func52 ?_;intro B7
 refine du fun B8=> ?_
 intro B9;refine sY ?_;obtain ⟨g5,h⟩:=ac h;refine dI h ?_ ?_<;>intro h
 ·exact eY
 refine ab ?_;obtain ⟨g6,h⟩:=ac h;refine ab ?_;obtain ⟨a8,e4,e5,e6,h⟩:=aM h
 refine du fun d3=> ?_
 refine sZ ?_;refine dU (cx J J) ?_;refine gH J h ?_ ?_<;>intro h
 ·exact eY
 refine ab ?_;refine ai (fun s L=> ∃d4 d6 e0 e1 p21 e2,mq N a2 a3 d4 d6 e0 e1 p21 e2=some r/\s=[(8,pV B8 0),(9,pV B9 0)]/\L=[ae B8 48 [iV 0,iV 0,.string (⟨#[]⟩),iV 0,iV 0,iV 0,.string (⟨#[]⟩),iV 0,iV 0,.string (⟨#[]⟩),iV 0,iV 0,.string (⟨#[]⟩)],ae B9 48 [iV a2.XZ,iV a2.N,.string a2.S,iV a3,iV 0,iV 0,.string (⟨#[]⟩),iV d4,iV d6,.string e0,iV e1,iV p21,.string e2]]) ?_ ?_
 ·refine au ?_;obtain ⟨a6,e3,h⟩:=aa h;refine gQ (t:=[(0,pV B1 0),(8,pV B8 0),(9,pV B9 0),(10,pV d3 0)]) ?_ lj (ah _)
  refine ig I 7 [] [5,6] [40,41,42,43,44,45,11] [[],[0],[1],[2],[],[3,4],[]] [aV (pV B1 0),
aV (pV B1 0),
aV (pV B1 6),
aV (pV B4 0),
aV (.agg #[iV a8.XZ,iV a8.N,.string a8.S]),
aX6 (fun (b0:Option Addr) (b5 b6:Nat) (b7:Option Addr) (b9 c0:Nat)=> .agg #[iV a6.XZ,iV a6.Yf,iV a6.Ye,iV a6.Yg,Y b0 b5 b6,Y b7 b9 c0]) (fun b0 b5 b6 b7 b9 c0=> [aC b0 b5 b6 a6.Yb,aC b7 b9 c0 a6.Ya]),
aX1 (fun (d1:Nat)=>pV d1 0) (fun d1=> [ae d1 45 [iV 0,iV 0,iV 0,iV 0,Y none 0 0,Y none 0 0]])] [] (ah _) (kU) I rfl rfl ?_ ?_ ?_
  ·exact kT
  ·refine aH J ?_ ?_
   ·refine xr (dz zero45.out J) J ?_;rintro _ _ ⟨e7,rfl,rfl⟩;exact Sr e7 (ah _)
   refine aH J ?_ ?_
   ·refine xr (oR (fJ e3)) J ?_;rintro _ _ ⟨_,⟨e8,e9,f1,f2,f3,f4,rfl,rfl⟩,rfl⟩;exact Sq e8 e9 f1 f2 f3 f4 (ah _)
   refine qR (jh (us:=[iV a8.XZ,iV a8.N,.string a8.S]) 0 J J agg29.out J) ?_;refine qR (Bp 4 J J GN J) ?_;refine qE (jW J Js) ?_;refine qE (bF J) ?_;refine qE (ao J) ?_;exact di
  intro b0 b5 b6 b7 b9 c0 d1;refine nB (t:=[(45,.agg #[iV a6.XZ,iV a6.Yf,iV a6.Ye,iV a6.Yg,Y b0 b5 b6,Y b7 b9 c0]),(11,pV d1 0),(0,pV B1 0),(8,pV B8 0),(9,pV B9 0),(10,pV d3 0)]) (L':=[aC b0 b5 b6 a6.Yb,aC b7 b9 c0 a6.Ya,ae d1 45 [iV 0,iV 0,iV 0,iV 0,Y none 0 0,Y none 0 0],ae d3 29 [iV a8.XZ,iV a8.N,.string a8.S],ae B9 48 [iV a2.XZ,iV a2.N,.string a2.S,iV a3,iV 0,iV 0,.string (⟨#[]⟩),iV 0,iV 0,.string (⟨#[]⟩),iV 0,iV 0,.string (⟨#[]⟩)],ae B8 48 [iV 0,iV 0,.string (⟨#[]⟩),iV 0,iV 0,iV 0,.string (⟨#[]⟩),iV 0,iV 0,.string (⟨#[]⟩),iV 0,iV 0,.string (⟨#[]⟩)],ae B7 34 (BT a2),aB B1 103 [iV a0.Yj.XZ,iV a0.Yj.Yf,iV a0.Yj.Ye,iV a0.Yj.Yg,Y A2 n2 c2,Y A3 n3 c3,pV B4 0,iV a0.at_.XZ,iV a0.at_.N,.string a0.at_.S],aZ A2 n2 c2 a0.Yj.Yb,aZ A3 n3 c3 a0.Yj.Ya,pDWorld B4 B5 B6 a0.w_]) ?_ lj (ah _);refine r7 7 J I (ar (us:=(gk a6 b0 b5 b6 b7 b9 c0)) (cs':=(gk a6 b0 b5 b6 b7 b9 c0)) 2 J J J J size45.out J J J) J J ?_;rintro _ _ rfl;refine yg ?_;refine lh I ?_;refine dI h ?_ ?_<;>intro h
  ·refine bm I ([aC b0 b5 b6 a6.Yb,aC b7 b9 c0 a6.Ya,ae d1 45 (gk a6 b0 b5 b6 b7 b9 c0),ae d3 29 [iV a8.XZ,iV a8.N,.string a8.S],ae B8 48 [iV 0,iV 0,.string (⟨#[]⟩),iV 0,iV 0,iV 0,.string (⟨#[]⟩),iV 0,iV 0,.string (⟨#[]⟩),iV 0,iV 0,.string (⟨#[]⟩)],ae B7 34 (BT a2),aB B1 103 [iV a0.Yj.XZ,iV a0.Yj.Yf,iV a0.Yj.Ye,iV a0.Yj.Yg,Y A2 n2 c2,Y A3 n3 c3,pV B4 0,iV a0.at_.XZ,iV a0.at_.N,.string a0.at_.S],aZ A2 n2 c2 a0.Yj.Yb,aZ A3 n3 c3 a0.Yj.Ya,pDWorld B4 B5 B6 a0.w_]) (cS [0,1,2,3,5,6,7,8,9,10] 11) ?_;refine ab ?_;obtain ⟨d0,f9,g0,g1,h⟩:=aM h;refine ab ?_;obtain ⟨d2,g2,g3,g4,h⟩:=aM h;refine ab ?_;refine zO 9 J (ar (us:=[iV d0.XZ,iV d0.N,.string d0.S]) (cs':=[iV a2.XZ,iV a2.N,.string a2.S,iV a3,iV 0,iV 0,.string (⟨#[]⟩),iV d0.XZ,iV d0.N,.string d0.S,iV 0,iV 0,.string (⟨#[]⟩)]) 4 J J J J size29.out J J J) ?_;rintro _ _ rfl;refine bf ?_;refine ab ?_;refine zO 11 J (ar (us:=[iV d2.XZ,iV d2.N,.string d2.S]) (cs':=[iV a2.XZ,iV a2.N,.string a2.S,iV a3,iV 0,iV 0,.string (⟨#[]⟩),iV d0.XZ,iV d0.N,.string d0.S,iV d2.XZ,iV d2.N,.string d2.S]) 4 J J J J size29.out J J J) ?_;rintro _ _ rfl;refine bf ?_;exact jY
  exact jY
 rintro _ _ ⟨d4,d6,e0,e1,p21,e2,h,rfl,rfl⟩;exact eY
def cJ (a0:VO)(a1:VI):Option (VP×Int×Bool):=
 (bZ N a0.w_).bind fun y9=>(dm N a0.w_.Yk a0.Yj.Yf a1).bind fun a6=>bif !a6.2.2 then (some ((⟨(⟨0,0,⟨#[]⟩⟩:VI),0,(⟨0,0,⟨#[]⟩⟩:VN),(⟨0,0,⟨#[]⟩⟩:VN),(⟨0,0,⟨#[]⟩⟩:VN)⟩:VP),0,false)) else ((fj N a0 a6.1 a1 a6.2.1).bind fun a8=>some (a8,a6.1,true))
theorem nW {N:Nat}{a0:VO}{a1:VI}{r:VP×Int×Bool}(h:cJ N a0 a1=some r){B6:Nat}:Okc Wc 89 [pV B1 0,(nv a1)] ([aB B1 103 [iV a0.Yj.XZ,iV a0.Yj.Yf,iV a0.Yj.Ye,iV a0.Yj.Yg,Y A2 n2 c2,Y A3 n3 c3,pV B4 0,iV a0.at_.XZ,iV a0.at_.N,.string a0.at_.S],aZ A2 n2 c2 a0.Yj.Yb,aZ A3 n3 c3 a0.Yj.Ya,pDWorld B4 B5 B6 a0.w_]) (fun u post=>u=.tuple #[(pe r.1),iV r.2.1,.bool r.2.2]/\post=[]):=by
 refine bY Tryz.func89 ?_;intro B7
 refine du fun B8=> ?_
 refine dY [0,1,2,3,5,6,7,8,9,10] ?_;obtain ⟨y9,k,h⟩:=aa h;refine zD 4 J (oR (dj k)) ?_;rintro _ _ ⟨_,⟨rfl,rfl⟩,rfl⟩;refine ⟨_,ah _,ah _,?_⟩;obtain ⟨a6,k,h⟩:=aa h;refine zD 11 J (oR (xg k)) ?_;rintro _ _ ⟨_,⟨rfl,rfl⟩,rfl⟩;refine ⟨_,ah _,ah _,?_⟩;refine zX [12,13,14,15,16,17,18] ?_;refine sY ?_;refine gH J h ?_ ?_<;>intro h
 ·exact eY
 refine cR h (fun _ k=>rL k) fun a8 h=> ?_
 exact eN
def nF (a0:VH)(a1:Int):Option (VW×Bool):=
 (eS N a0 a1).bind fun y5=>bif !y5 then (some ((⟨0,(⟨0,0,⟨#[]⟩⟩:VI),0,0⟩:VW),false)) else ((ap a0.Yk a1).bind fun x7=>some (x7,true))
theorem Bf {N:Nat}{a0:VH}{r:VW×Bool}(h:nF N a0 a1=some r):Okc Wc 177 [pV B1 0,iV a1] ([aB B1 191 [Y A2 n2 c2,.map (some M3)],iD bl (Y A2 n2 c2) a0.Yk,nc d9 sP M3 a0.Yy]) (fun u post=>u=.tuple #[(Qr r.1),.bool r.2]/\post=[]):=by
 refine bY Tryz.func177 ?_;intro B4;refine sY ?_
 refine cR h (fun _ k=>oY k) fun y5 h=> ?_
 refine gH J h ?_ ?_<;>intro h
 ·exact eY
 refine ab ?_;obtain ⟨x7,a6,a8,b0,h⟩:=aM h;exact eY
def eU (a0:VH)(a1:Int):Option Int:=
 (nF N a0 a1).bind fun y4=>some y4.1.YA
theorem oZ {N:Nat}{a0:VH}{r:Int}(h:eU N a0 a1=some r):Okc Wc 130 [pV B1 0,iV a1] ([aB B1 191 [Y A2 n2 c2,.map (some M3)],iD bl (Y A2 n2 c2) a0.Yk,nc d9 sP M3 a0.Yy]) (fun u post=>u=iV r/\post=[]):=by
 refine bY Tryz.func130 ?_
 refine cR h (fun _ k=>Bf k) fun y4 h=> ?_
 intro B5;exact eY
theorem xC {N:Nat}{a0:VH}{r:Int}(h:eU N a0 a1=some r):Okc Wc 130 [pV B1 0,iV a1] ([pDTable B1 a0]) (fun u post=>u=iV r/\post=[]):=Nz 0 rfl (fun _=>oZ h)
def pj (N:Nat)(a0:Int):Option Bool:=
 (bif decide (0<=a0) then (some (decide (a0<=15))) else (some false)).bind fun b1=>(bif b1 then (some (!decide (aq .i64 a0 9=9))) else (some false)).bind fun b2=>some b2
theorem Hy {N:Nat}{a0:Int}{r:Bool}(h:pj N a0=some r):Okc Wc 189 [iV a0] ([]) (fun u post=>u=.bool r/\post=[]):=by
 refine bY Tryz.func189 ?_;refine gS 3 8 5 h ?_;intro b1 h;refine ab ?_
 refine qo 4 13 9 h (fun _ g2 h=> ?_) fun b2 h=> ?_
 ·refine ab ?_;refine gT (cx J J) J (el g2 J) J ?_;exact gY
 exact eY
def fh (a0:VH)(a1:Int)(a2:VI)(a3:Int):Option Int:=
 (eS N a0 a1).bind fun y5=>bif !y5 then (some 2) else ((cU N a2).bind fun y7=>(bif !y7 then (some true) else ((pj N a3).bind fun y9=>some (!y9))).bind fun b8=>bif b8 then (some 1) else (some 0))
theorem mZ {N:Nat}{a0:VH}{a2:VI}{r:Int}(h:fh N a0 a1 a2 a3=some r):Okc Wc 143 [pV B1 0,iV a1,(nv a2),iV a3] ([aB B1 191 [Y A2 n2 c2,.map (some M3)],iD bl (Y A2 n2 c2) a0.Yk,nc d9 sP M3 a0.Yy]) (fun u post=>u=iV r/\post=[]):=by
 refine bY Tryz.func143 ?_;intro B4;refine sY ?_;refine dU (dZ J Tryz.underlying81) ?_;refine cE J ?_
 refine cR h (fun _ k=>oY k) fun y5 h=> ?_
 refine gH J h ?_ ?_<;>intro h
 ·exact eY
 refine cR h (fun _ k=>td k) fun y7 h=> ?_
 refine AU 4 25 21 h (fun _ g8 h=> ?_) fun b8 h=> ?_
 ·refine cR h (fun _ k=>Hy k) fun y9 h=> ?_
  exact gY
 refine dI h ?_ ?_<;>intro h
 ·exact eY
 exact eY
def sJ (N:Nat)(a6:Int)(p21:List VW)(a8:(List (VL×Int))):Option (Int×Int×VH):=
 some (a6,0,(⟨p21,a8⟩:VH))
def kA (N:Nat)(p7:List VW):Nat->Int->Int->(List VW)->(List (VL×Int))->Option (Int×Int×VH)
 |0,_,_,_,_=>none
 |b9+1,a8,b6,b0,b7=>bif decide (b6<(p7.length:Int)) then ((ap p7 b6).bind fun a6=>(ap b0 a8).bind fun b5=>aE (in64 (b5.YA+1)) (aE (ci (b0.length+([(⟨a8,a6.Yl,a6.Yh,b5.YA+1⟩:VW)]:List VW).length)) (aE (in64 (((b0++([(⟨a8,a6.Yl,a6.Yh,b5.YA+1⟩:VW)]:List VW)).length:Int) - 1)) (aE (in64 (b6+1)) ((kA N p7 b9) (((b0++([(⟨a8,a6.Yl,a6.Yh,b5.YA+1⟩:VW)]:List VW)).length:Int) - 1) (b6+1) (b0++([(⟨a8,a6.Yl,a6.Yh,b5.YA+1⟩:VW)]:List VW)) (wT b7 (⟨a8,a6.Yl,a6.Yh⟩:VL) (b0.length:Int))))))) else (sJ N a8 b0 b7)
def fS (a0:VH)(p6:Int)(p7:List VW):Option (Int×Int×VH):=
 aE (in64 (1073741824 - (a0.Yk.length:Int))) (bif decide (1073741824 - (a0.Yk.length:Int)<(p7.length:Int)) then (some (0,5,a0)) else (kA N p7 N p6 0 a0.Yk a0.Yy))
def lA (N:Nat)(a0:VH):Nat->Int->(List VW)->Option (Int×Int×VH)
 |0,_,_=>none
 |m8+1,p9,a6=>bif decide (0<(a6.length:Int)) then ((ap a6 0).bind fun a8=>(ap a6 0).bind fun b0=>bif !((lk a0.Yy (⟨p9,a8.Yl,b0.Yh⟩:VL)).isSome) then (fS N a0 p9 a6) else (aE ((0:Int)<=1/\(1:Int).toNat<=a6.length/\a6.length<=a6.length) ((lA N a0 m8) ((lk a0.Yy (⟨p9,a8.Yl,b0.Yh⟩:VL)).getD 0) ((a6.drop ((1:Int).toNat)).take (a6.length - (1:Int).toNat))))) else (fS N a0 p9 a6)
def jG (a0:VH)(a1:Int)(a2:List VW):Option (Int×Int×VH):=
 lA N a0 N a1 a2
theorem oX {N:Nat}{a0:VH}{a2:List VW}{r:Int×Int×VH}(h:jG N a0 a1 a2=some r):Okc Wc 144 [pV B1 0,iV a1,Y A4 n4 c4] ([iD bl (Y A4 n4 c4) a2,ae B1 191 [Y A2 n2 c2,.map (some M3)],bh bl 159 (Y A2 n2 c2) a0.Yk,ax d9 sP M3 a0.Yy]) (fun u post=> ∃A0 n0 c0 M1,u=.tuple #[iV r.1,iV r.2.1]/\post=[ae B1 191 [Y A0 n0 c0,.map (some M1)],bh bl 159 (Y A0 n0 c0) r.2.2.Yk,ax d9 sP M1 r.2.2.Yy]):=by
 refine bY Tryz.func144 ?_;refine ai (fun s L=> ∃p6 p7 A7 n7 c7,fS N a0 p6 p7=some r/\s=[(0,pV B1 0),(6,iV 0),(7,iV 0),(8,iV p6),(9,Y A7 n7 c7)]/\L=[iD bl (Y A7 n7 c7) p7,bh bl 159 (Y A2 n2 c2) a0.Yk,ax d9 sP M3 a0.Yy,ae B1 191 [Y A2 n2 c2,.map (some M3)]]) ?_ ?_
 ·refine ab ?_;refine lK (fun m s L=> ∃(p9:Int) (e1:List VW) (e4:Option Addr) (e5 e6:Nat),lA N a0 m p9 e1=some r/\s=[(0,pV B1 0),(6,iV 0),(7,iV 0),(8,iV p9),(9,Y e4 e5 e6)]/\L=[iD bl (Y e4 e5 e6) e1,bh bl 159 (Y A2 n2 c2) a0.Yk,ax d9 sP M3 a0.Yy,ae B1 191 [Y A2 n2 c2,.map (some M3)]]) N ?_;rintro m8 _ _ ⟨p9,e1,e4,e5,e6,h,rfl,rfl⟩;rw [lA.eq_2] at h;refine sZ ?_;refine gH J h ?_ ?_<;>intro h
  ·refine ab ?_;refine dY [] ?_;refine ab ?_;obtain ⟨g6,e7,e8,g7,h⟩:=aM h;refine ab ?_;refine zR 7 J (ox 0 J bS J (toNat_lt e7 e8) FK) ?_;refine ab ?_;obtain ⟨g8,e9,f1,g9,h⟩:=aM h;refine ab ?_;refine zR 11 J (ox 0 J bS J (toNat_lt e9 f1) Ch) ?_;refine ab ?_;refine zR 14 J (ua (a:=(⟨p9,g6.Yl,g8.Yh⟩:VL)) (z:=0) 2 J wD J J Tryz.underlying189 Fu zero3.out) ?_;refine sY ?_;refine gH J h ?_ ?_<;>intro h
   ·refine ab ?_;refine UK J ?_;exact jY
   refine ab ?_;refine bm I _ (ah _) ?_;refine zY [0,1] ?_;obtain ⟨e2,h⟩:=ac h;refine Dk 0 J (l:=(1:Int).toNat) (h:=e1.length) e2.2.1 e2.2.2 ?_;rintro h8 h9 i0 h0;refine zR 2 J (zd 1 J h0 J Vp size159.out J (by rw [Wt e2.1];rfl) e2.2.1) ?_;refine zX [3,4] ?_;exact lY
  exact jY
 rintro _ _ ⟨p6,p7,A7,n7,c7,h,rfl,rfl⟩;refine sZ ?_;obtain ⟨i1,h⟩:=ac h;refine dI h ?_ ?_<;>intro h
 ·exact eY
 refine ab ?_;refine ai (fun s L=> ∃f2 p21 f3 f4 f9 g0,sJ N f2 p21 f3=some r/\s=[(6,iV 0),(7,iV 0),(8,iV f2)]/\L=[bh bl 159 (Y f4 f9 g0) p21,ax d9 sP M3 f3,ae B1 191 [Y f4 f9 g0,.map (some M3)]]) ?_ ?_
 ·refine ab ?_;refine lK (fun m s L=> ∃(a8:Int) (d3:Int) (b9:List VW) (e3:(List (VL×Int))) (b0:Option Addr) (b5 b6:Nat),kA N p7 m a8 d3 b9 e3=some r/\s=[(0,pV B1 0),(6,iV 0),(7,iV 0),(8,iV a8),(51,Y A7 n7 c7),(52,iV (p7.length:Int)),(53,iV d3)]/\L=[iD bl (Y A7 n7 c7) p7,bh bl 159 (Y b0 b5 b6) b9,ax d9 sP M3 e3,ae B1 191 [Y b0 b5 b6,.map (some M3)]]) N ?_;rintro i2 _ _ ⟨a8,d3,b9,e3,b0,b5,b6,h,rfl,rfl⟩;rw [kA.eq_2] at h;refine ab ?_;refine au ?_;refine gH J h ?_ ?_<;>intro h
  ·refine sY ?_;obtain ⟨a6,h1,h2,h3,h⟩:=aM h
   refine du fun d4=> ?_
   refine dY [] ?_;refine ab ?_;refine oV 15 J I I (iE (a:=(⟨a8,a6.Yl,a6.Yh⟩:VL)) (b:=(b9.length:Int)) 3 J J J J Tryz.underlying189 Fu) ?_;rintro _ _ rfl;refine ab ?_;refine au ?_;obtain ⟨b7,d6,e0,g1,h⟩:=aM h;obtain ⟨g2,h⟩:=ac h;refine gQ (t:=[(0,pV B1 0),(6,iV 0),(7,iV 0),(8,iV a8),(13,pV d4 0),(51,Y A7 n7 c7),(52,iV (p7.length:Int)),(53,iV d3)]) ?_ lj (ah _)
   refine ig I 21 [0] [0,4,20] [72,73,74,75,76,77,78,79,80,81,82,83,84,85,86,87,88,89,90,91,92] [[],[],[1],[2],[3],[],[],[6],[],[8],[],[10],[11],[12],[],[13,14],[15],[16],[17],[5,7,9,18],[19]] [aV (pV B1 0),
aV (pV B1 0),
aV (pV B1 0),
aV (pV B1 0),
aV (Y b0 b5 b6),
aV (iV a8),
aV (pV d4 1),
aV ((nv a6.Yl)),
aV (pV d4 4),
aV (iV a6.Yh),
aV (pV B1 0),
aV (pV B1 0),
aV (pV B1 0),
aV (Y b0 b5 b6),
aV (iV a8),
aV (dh (Y b0 b5 b6) a8.toNat 6 0),
aV (dh (Y b0 b5 b6) a8.toNat 6 5),
aV (iV b7.YA),
aV (iV (b7.YA+1)),
aV (.agg #[iV a8,iV a6.Yl.XZ,iV a6.Yl.N,.string a6.Yl.S,iV a6.Yh,iV (b7.YA+1)]),
aX3 (fun (d0:Option Addr) (d1 d2:Nat)=> Y d0 d1 d2) (fun d0 d1 d2=> [bh bl 159 (Y d0 d1 d2) ([(⟨a8,a6.Yl,a6.Yh,b7.YA+1⟩:VW)]:List VW)])] [] (ah _) (ia rfl kU) I rfl rfl ?_ ?_ ?_
   ·refine gZ J ?_ ?_
    ·exact py (ao J) J (ku J (ah _))
    exact kT
   ·refine aH J ?_ ?_
    ·refine xr (aL (R:=bl) (vss:=[[iV a8,iV a6.Yl.XZ,iV a6.Yl.N,.string a6.Yl.S,iV a6.Yh,iV (b7.YA+1)]]) (xs:=[(⟨a8,a6.Yl,a6.Yh,b7.YA+1⟩:VW)]) J (Dg _ _ _ _ _ _) J J (fun _ _ hr=> .cons J All2.nil)) J ?_;rintro _ _ ⟨h4,h5,h6,rfl,rfl⟩;exact Ic h4 h5 h6 (ah _)
    refine qE (ny J (bld_159_0_1_2_3 _ _ _ _ _ _).out) ?_;refine qE (fF J J g2.1 g2.2) ?_;refine aH J ?_ ?_
    ·exact wk (kR (u:=iV b7.YA) 2 J ak J g1 ya (fun _ _ _ h=>by rw [show _=_ from h];rfl)) J (ku J (ah _))
    refine qR (ox 2 J ak J (toNat_lt d6 e0) FJ) ?_;refine qR (dp 2 J ak J J Vp size159.out d6 e0) ?_;refine qE (ao J) ?_;refine qR (bM 4 J J Ku J) ?_;refine qE (sC J Cg) ?_;refine qE (bF J) ?_;refine qE (ao J) ?_;refine qR (bM 0 J J ya J) ?_;refine qE (jW J Ch) ?_;refine qR (jh (us:=BT a6.Yl) 0 J J agg34.out J) ?_;refine qE (jW J FK) ?_;refine qE (ao J) ?_;refine qR (bM 4 J J Ku J) ?_;refine qE (sC J Cg) ?_;refine qE (bF J) ?_;refine qE (ao J) ?_;refine qE (ao J) ?_;exact di
   intro d0 d1 d2;refine nB (t:=[(72,pV B1 0),(76,Y b0 b5 b6),(92,Y d0 d1 d2),(0,pV B1 0),(6,iV 0),(7,iV 0),(8,iV a8),(13,pV d4 0),(51,Y A7 n7 c7),(52,iV (p7.length:Int)),(53,iV d3)]) (L':=[bh bl 159 (Y d0 d1 d2) ([(⟨a8,a6.Yl,a6.Yh,b7.YA+1⟩:VW)]:List VW),ae d4 159 (Eh a6),iD bl (Y A7 n7 c7) p7,bh bl 159 (Y b0 b5 b6) b9,ax d9 sP M3 (wT e3 (⟨a8,a6.Yl,a6.Yh⟩:VL) (b9.length:Int)),ae B1 191 [Y b0 b5 b6,.map (some M3)]]) ?_ lj (ah _);obtain ⟨h7,h⟩:=ac h;refine qu 21 J I (aQ 3 0 J J ak J J Vp SN J J h7) J J J ?_;rintro _ _ ⟨g3,g4,g5,rfl,rfl⟩;refine D4 22 J I (bF J) J J J ?_;refine D4 23 J I (sC J Cg) J J J ?_;refine r7 24 J I (ar (us:=[Y g3 g4 g5]) (cs':=[Y g3 g4 g5,.map (some M3)]) 5 J J J J size156.out J J J) J J ?_;rintro _ _ rfl;refine yg ?_;refine lh I ?_;refine ab ?_;obtain ⟨i8,h⟩:=ac h;refine ab ?_;obtain ⟨j0,h⟩:=ac h;exact lY
  exact jY
 rintro _ _ ⟨f2,p21,f3,f4,f9,g0,h,rfl,rfl⟩;exact eY
def i4 (a0:VH)(a1:Int)(a2:VI)(a3:Int):Option (Int×Int×VH):=
 (fh N a0 a1 a2 a3).bind fun y5=>bif !decide (y5=0) then (some (0,y5,a0)) else ((dm N a0 a1 a2).bind fun y7=>bif y7.2.2 then (some (0,4,a0)) else ((eU N a0 a1).bind fun y9=>bif decide (1024<=y9) then (some (0,9,a0)) else ((jG N a0 a1 ([(⟨0,a2,a3,0⟩:VW)]:List VW)).bind fun a6=>some (a6.1,a6.2.1,a6.2.2))))
theorem zB {N:Nat}{a0:VH}{a2:VI}{r:Int×Int×VH}(h:i4 N a0 a1 a2 a3=some r):Okc Wc 131 [pV B1 0,iV a1,(nv a2),iV a3] ([ae B1 191 [Y A2 n2 c2,.map (some M3)],bh bl 159 (Y A2 n2 c2) a0.Yk,ax d9 sP M3 a0.Yy]) (fun u post=> ∃A0 n0 c0 M1,u=.tuple #[iV r.1,iV r.2.1]/\post=[ae B1 191 [Y A0 n0 c0,.map (some M1)],bh bl 159 (Y A0 n0 c0) r.2.2.Yk,ax d9 sP M1 r.2.2.Yy]):=by
 refine bY Tryz.func131 ?_;intro B4;refine sY ?_
 refine cR h (fun _ k=>mZ k) fun y5 h=> ?_
 refine gH J h ?_ ?_<;>intro h
 ·exact eY
 refine sY ?_
 refine cR h (fun _ k=>kB k) fun y7 h=> ?_
 refine gH J h ?_ ?_<;>intro h
 ·exact eY
 refine sY ?_
 refine cR h (fun _ k=>oZ k) fun y9 h=> ?_
 refine gH J h ?_ ?_<;>intro h
 ·exact eY
 refine ab ?_;refine gD (aL (R:=bl) (vss:=[[iV 0,iV a2.XZ,iV a2.N,.string a2.S,iV a3,iV 0]]) (xs:=[(⟨0,a2,a3,0⟩:VW)]) J (Dg _ _ _ _ _ _) J J (fun _ _ hr=> .cons J All2.nil)) ?_;rintro _ _ ⟨a6,a8,b0,rfl,rfl⟩;refine r8 (bL 0 J) ?_;obtain ⟨b5,k,h⟩:=aa h;refine gD (oC (oX k)) ?_;rintro _ _ ⟨_,⟨b6,b7,b9,d0,rfl,rfl⟩,rfl⟩;exact eY
theorem xf {N:Nat}{a0:VH}{a2:VI}{r:Int×Int×VH}(h:i4 N a0 a1 a2 a3=some r):Okc Wc 131 [pV B1 0,iV a1,(nv a2),iV a3] ([oDTable B1 a0]) (fun u post=>u=.tuple #[iV r.1,iV r.2.1]/\post=[oDTable B1 r.2.2]):=IY 0 rfl (fun _=>zB h)
def iw (a0:VO)(a1:VP)(a2:VN):Option (VN×VS):=
 bif decide (aq .i64 a1.Yh 8=0) then (some (a1.Value,a0.w_)) else ((bif decide (a2.XZ=9) then ((aF N a0.w_ a2).bind fun a8=>some (decide (a8.XZ=5))) else (some false)).bind fun b0=>bif b0 then ((cB N a0.w_ a2 (⟨5,0,0,0,([a1.Yp,a1.Yr]:List VN),[]⟩:VJ)).bind fun b5=>some (a2,b5)) else ((cI N a0.w_ (⟨5,0,0,0,([a1.Yp,a1.Yr]:List VN),[]⟩:VJ)).bind fun a6=>some (a6.1,a6.2)))
theorem ng {N:Nat}{a0:VO}{a1:VP}{a2:VN}{r:VN×VS}(h:iw N a0 a1 a2=some r){B6:Nat}:Okc Wc 132 [pV B1 0,(pe a1),(aX a2)] ([ae B1 103 [iV a0.Yj.XZ,iV a0.Yj.Yf,iV a0.Yj.Ye,iV a0.Yj.Yg,Y A2 n2 c2,Y A3 n3 c3,pV B4 0,iV a0.at_.XZ,iV a0.at_.N,.string a0.at_.S],aC A2 n2 c2 a0.Yj.Yb,aC A3 n3 c3 a0.Yj.Ya,oDWorld B4 B5 B6 a0.w_]) (fun u post=>u=.agg #[iV r.1.XZ,iV r.1.N,.string r.1.S]/\post=[oDWorld B4 B5 B6 r.2,ae B1 103 [iV a0.Yj.XZ,iV a0.Yj.Yf,iV a0.Yj.Ye,iV a0.Yj.Yg,Y A2 n2 c2,Y A3 n3 c3,pV B4 0,iV a0.at_.XZ,iV a0.at_.N,.string a0.at_.S],aC A2 n2 c2 a0.Yj.Yb,aC A3 n3 c3 a0.Yj.Ya]):=by
 refine bY Tryz.func132 ?_;intro B7
 refine du fun B8=> ?_
 intro B9;refine sY ?_;refine dU (cx J J) ?_;refine gH J h ?_ ?_<;>intro h
 ·exact eY
 refine ab ?_
 refine r9 (aL (R:=av) (vss:=[(eE a1.Yp),(eE a1.Yr)]) (xs:=[a1.Yp,a1.Yr]) J (FZ _ _ _ _ _ _) J J (fun _ _ hr=> .cons J (.cons J All2.nil))) fun b0 b5 b6=> ?_
 intro b7;refine ab ?_;refine au ?_;refine dY [0,1,2,3] ?_
 refine yJ [4,5,6,7,8,9,10,11,12] 0 23 32 h (fun _ a8 h rest=> ?_) (fun _ a8 h rest=> ?_) fun b9 h=> ?_
 ·refine yY [4,5,6,7,8] ?_;obtain ⟨c0,k,h⟩:=aa h;refine Dj 9 J I (oR (fJ k)) J (el a8 J) J ?_;rintro _ _ ⟨_,⟨d0,d1,d2,d3,d4,d6,rfl,rfl⟩,rfl⟩;refine bf ?_;refine yM 10 J I (ux J (OK _ _ _ _ _ _ _ _ _ _)) (el a8 J) J ?_;refine yY [11,12] ?_;exact yS rest h
 ·refine yY [4,5,6,7,8,9,10,11,12] ?_;exact yS rest h
 refine fg I ?_;refine dI h ?_ ?_<;>intro h
 ·refine au ?_;refine bm I ([ae b7 45 [iV 5,iV 0,iV 0,iV 0,Y b0 b5 b6,Y none 0 0],ae B9 29 [iV 0,iV 0,.string (⟨#[]⟩)],ae B8 29 (eE a2),ae B7 48 (km a1),ae B1 103 [iV a0.Yj.XZ,iV a0.Yj.Yf,iV a0.Yj.Ye,iV a0.Yj.Yg,Y A2 n2 c2,Y A3 n3 c3,pV B4 0,iV a0.at_.XZ,iV a0.at_.N,.string a0.at_.S],aC A2 n2 c2 a0.Yj.Yb,aC A3 n3 c3 a0.Yj.Ya]) (cS [0,2,3,4,5,6,7] 9) ?_;refine ab ?_;refine lg (bL 1 J) (cS [0,2,3,4,5,6,7] 9) ?_;obtain ⟨e0,k,h⟩:=aa h;refine lg (qh av _) (cS [1,3,4,5,6,7,8] 10) ?_;refine zD 6 J (oC (xL k)) ?_;rintro _ _ ⟨_,⟨rfl,rfl⟩,rfl⟩;refine bf ?_;exact eY
 refine ab ?_;refine au ?_;refine bm I ([ae b7 45 [iV 5,iV 0,iV 0,iV 0,Y b0 b5 b6,Y none 0 0],ae B9 29 [iV 0,iV 0,.string (⟨#[]⟩)],ae B8 29 (eE a2),ae B7 48 (km a1),ae B1 103 [iV a0.Yj.XZ,iV a0.Yj.Yf,iV a0.Yj.Ye,iV a0.Yj.Yg,Y A2 n2 c2,Y A3 n3 c3,pV B4 0,iV a0.at_.XZ,iV a0.at_.N,.string a0.at_.S],aC A2 n2 c2 a0.Yj.Yb,aC A3 n3 c3 a0.Yj.Ya]) (cS [0,2,3,4,5,6,7] 9) ?_;refine ab ?_;refine lg (bL 1 J) (cS [0,2,3,4,5,6,7] 9) ?_;obtain ⟨a6,k,h⟩:=aa h;refine lg (qh av _) (cS [1,3,4,5,6,7,8] 10) ?_;refine zD 5 J (oC (xo k)) ?_;rintro _ _ ⟨_,⟨rfl,rfl⟩,rfl⟩;refine bf ?_;refine oV 6 J I I (ar (us:=[iV a6.1.XZ,iV a6.1.N,.string a6.1.S]) (cs':=[iV a6.1.XZ,iV a6.1.N,.string a6.1.S]) 4 J J J J size29.out J J J) ?_;rintro _ _ rfl;exact eY
def ip (N:Nat)(a0:VS):Option VS:=
 aE (in64 (a0.Yo+1)) (some (⟨a0.Yu,a0.Yn,(),a0.Yi,a0.Yk,a0.Yv,a0.Yo+1,a0.YB,a0.YC,a0.Yw,a0.Yx⟩:VS))
theorem xK {N:Nat}{r:VS}(h:ip N a0=some r):Okc Wc 136 [pV B1 0] ([ae B1 85 (tD a0 B2 B3 A4 n4 c4 A5 n5 c5 A6 n6 c6),oDHeap B2 a0.Yi,oDTable B3 a0.Yk,iB A4 n4 c4 a0.Yv,sO A5 n5 c5 a0.Yw,iB A6 n6 c6 a0.Yx]) (fun u post=> ∃A0 n0 c0 A1 n1 c1 A2 n2 c2,u=.tuple #[]/\post=[ae B1 85 (tD r B2 B3 A0 n0 c0 A1 n1 c1 A2 n2 c2),oDHeap B2 r.Yi,oDTable B3 r.Yk,iB A0 n0 c0 r.Yv,sO A1 n1 c1 r.Yw,iB A2 n2 c2 r.Yx]):=by
 refine bY Tryz.func136 ?_;refine dU (tG J Vt) ?_;refine cN J ?_;refine ab ?_;obtain ⟨q7,h⟩:=ac h;exact eY
theorem wu {N:Nat}{r:VS}(h:ip N a0=some r){B1 B2 B3:Nat}:Okc Wc 136 [pV B1 0] ([oDWorld B1 B2 B3 a0]) (fun u post=>u=.tuple #[]/\post=[oDWorld B1 B2 B3 r]):=IY 0 rfl (fun _=>xK h)
def bn (a0:VO)(a1:Bool):Option VO:=
 (cT N a0.w_ a0.at_ a0.Yj).bind fun y7=>(bif a1 then (some (!decide (aq .i64 a0.Yj.Ye 16=0))) else (some false)).bind fun b8=>bif b8 then ((ip N y7).bind fun a6=>some (⟨a0.Yj,a6,a0.at_⟩:VO)) else (some (⟨a0.Yj,y7,a0.at_⟩:VO))
theorem fK {N:Nat}{a0:VO}{a1:Bool}{r:VO}(h:bn N a0 a1=some r){B6:Nat}:Okc Wc 88 [pV B1 0,.bool a1] ([ae B1 103 [iV a0.Yj.XZ,iV a0.Yj.Yf,iV a0.Yj.Ye,iV a0.Yj.Yg,Y A2 n2 c2,Y A3 n3 c3,pV B4 0,iV a0.at_.XZ,iV a0.at_.N,.string a0.at_.S],aC A2 n2 c2 a0.Yj.Yb,aC A3 n3 c3 a0.Yj.Ya,oDWorld B4 B5 B6 a0.w_]) (fun u post=> ∃A0 n0 c0 A1 n1 c1,u=.tuple #[]/\post=[ae B1 103 [iV r.Yj.XZ,iV r.Yj.Yf,iV r.Yj.Ye,iV r.Yj.Yg,Y A0 n0 c0,Y A1 n1 c1,pV B4 0,iV r.at_.XZ,iV r.at_.N,.string r.at_.S],aC A0 n0 c0 r.Yj.Yb,aC A1 n1 c1 r.Yj.Ya,oDWorld B4 B5 B6 r.w_]):=by
 refine Gf Tryz.func88 J J ?_;simp only [uz];refine au ?_;refine bm I ([ae B1 103 [iV a0.Yj.XZ,iV a0.Yj.Yf,iV a0.Yj.Ye,iV a0.Yj.Yg,Y A2 n2 c2,Y A3 n3 c3,pV B4 0,iV a0.at_.XZ,iV a0.at_.N,.string a0.at_.S],aC A2 n2 c2 a0.Yj.Yb,aC A3 n3 c3 a0.Yj.Ya]) (cS [0,1,2] 4) ?_;refine ab ?_;obtain ⟨y7,k,h⟩:=aa h;refine zD 12 J (oC (pI k)) ?_;rintro _ _ ⟨_,⟨rfl,rfl⟩,rfl⟩;refine bf ?_;refine ab ?_
 refine qo 8 26 18 h (fun _ g8 h=> ?_) fun b8 h=> ?_
 ·refine ab ?_;refine gT (cx J J) J (el g8 J) J ?_;exact gY
 refine dI h ?_ ?_<;>intro h
 ·refine cC h (fun _ k=>wu k) fun a6 h=> ?_
  exact eN
 exact eY
def tY (N:Nat)(p8:List VW):Option (List VW):=
 some p8
def kz (N:Nat)(a0:VH):Nat->Int->(List VW)->Int->Option (List VW)
 |0,_,_,_=>none
 |b0+1,b5,a8,p13=>bif decide (0<=p13) then ((ap a0.Yk b5).bind fun a6=>(ap a8 p13).bind fun b7=>(ap (List.set a8 p13.toNat (⟨a6.Up,(⟨a6.Yl.XZ,a6.Yl.N,a6.Yl.S⟩:VI),a6.Yh,a6.YA⟩:VW)) p13).bind fun b6=>aE (in64 (p13 - 1)) ((kz N a0 b0) b6.Up (List.set a8 p13.toNat (⟨a6.Up,(⟨a6.Yl.XZ,a6.Yl.N,a6.Yl.S⟩:VI),a6.Yh,a6.YA⟩:VW)) (p13 - 1))) else (tY N a8)
def eR (a0:VH)(a1:Int):Option (List VW):=
 (eU N a0 a1).bind fun y4=>aE (0<=y4/\y4<=1000000) (aE (in64 (((List.replicate y4.toNat (⟨0,(⟨0,0,⟨#[]⟩⟩:VI),0,0⟩:VW)).length:Int) - 1)) (kz N a0 N a1 (List.replicate y4.toNat (⟨0,(⟨0,0,⟨#[]⟩⟩:VI),0,0⟩:VW)) (((List.replicate y4.toNat (⟨0,(⟨0,0,⟨#[]⟩⟩:VI),0,0⟩:VW)).length:Int) - 1)))
theorem lz {N:Nat}{a0:VH}{r:List VW}(h:eR N a0 a1=some r):Okc Wc 102 [pV B1 0,iV a1] ([aB B1 191 [Y A2 n2 c2,.map (some M3)],iD bl (Y A2 n2 c2) a0.Yk,nc d9 sP M3 a0.Yy]) (fun u post=> ∃A0 n0 c0,u=Y A0 n0 c0/\post=[bh bl 159 (Y A0 n0 c0) r]):=by
 refine bY Tryz.func102 ?_;obtain ⟨y4,k,h⟩:=aa h;refine gV (oR (oZ k)) ?_;obtain ⟨q5,h⟩:=ac h
 refine r9 (P3 (R:=bl) (zl:=[iV 0,iV 0,iV 0,.string (⟨#[]⟩),iV 0,iV 0]) (x0:=(⟨0,(⟨0,0,⟨#[]⟩⟩:VI),0,0⟩:VW)) J J Vp J J J J J (by decide) (fun _ _=>J) q5) fun A6 n6 c6=> ?_
 refine ai (fun s L=> ∃p8 A8 n8 c8,tY N p8=some r/\s=[(4,Y none 0 0),(5,Y A8 n8 c8)]/\L=[bh bl 159 (Y A8 n8 c8) p8]) ?_ ?_
 ·refine ab ?_;obtain ⟨q9,h⟩:=ac h;refine ab ?_;refine lK (fun m s L=> ∃(b7:Int) (a8:List VW) (p13:Int) (b0:Option Addr) (b5 b6:Nat),kz N a0 m b7 a8 p13=some r/\s=[(0,pV B1 0),(1,iV b7),(4,Y none 0 0),(5,Y b0 b5 b6),(6,iV p13)]/\L=[bh bl 159 (Y b0 b5 b6) a8,iD bl (Y A2 n2 c2) a0.Yk,nc d9 sP M3 a0.Yy,aB B1 191 [Y A2 n2 c2,.map (some M3)]]) N ?_;rintro d4 _ _ ⟨b7,a8,p13,b0,b5,b6,h,rfl,rfl⟩;rw [kz.eq_2] at h;refine sZ ?_;refine gH J h ?_ ?_<;>intro h
  ·refine sY ?_;obtain ⟨a6,d6,e0,e1,h⟩:=aM h;refine ab ?_;obtain ⟨e4,b9,d0,d1,h⟩:=aM h;refine ab ?_;refine Gl (cF (us:=Eh a6) (z:=(⟨a6.Up,(⟨a6.Yl.XZ,a6.Yl.N,a6.Yl.S⟩:VI),a6.Yh,a6.YA⟩:VW)) 0 J J J J size159.out J (toNat_lt b9 d0) J (fun S w vs xk hk hr ho=>by obtain rfl:=XH (hk.symm.trans d1);rw [show _=_ from hr];rfl)) ?_;obtain ⟨e2,d2,d3,e3,h⟩:=aM h;refine ab ?_;refine H3 (vh 0 J ak J (toNat_lt d2 d3) FL) ?_;obtain ⟨e5,h⟩:=ac h;refine ab ?_;exact ⟨d4,_,_,V2 _,⟨e2.Up,List.set a8 p13.toNat (⟨a6.Up,(⟨a6.Yl.XZ,a6.Yl.N,a6.Yl.S⟩:VI),a6.Yh,a6.YA⟩:VW),p13 - 1,b0,b5,b6,h,J,J⟩,sA,cS [0,1,2,3] 4⟩
  exact jY
 rintro _ _ ⟨p8,A8,n8,c8,h,rfl,rfl⟩;exact eY
def qq (N:Nat)(p5:Int):Option Int:=
 some p5
def jg (N:Nat)(a2:Int)(a0:VH):Nat->Int->Option Int
 |0,_=>none
 |m6+1,p7=>(ap a0.Yk p7).bind fun x8=>bif decide (a2<x8.YA) then ((ap a0.Yk p7).bind fun a6=>(jg N a2 a0 m6) a6.Up) else (qq N p7)
def gm (a0:VH)(a1 a2:Int):Option Int:=
 jg N a2 a0 N a1
theorem qp {N:Nat}{a0:VH}{a2 r:Int}(h:gm N a0 a1 a2=some r):Okc Wc 145 [pV B1 0,iV a1,iV a2] ([aB B1 191 [Y A2 n2 c2,.map (some M3)],iD bl (Y A2 n2 c2) a0.Yk,nc d9 sP M3 a0.Yy]) (fun u post=>u=iV r/\post=[]):=by
 refine bY Tryz.func145 ?_;refine ai (fun s L=> ∃p5,qq N p5=some r/\s=[(1,iV p5),(6,iV 0)]/\L=[]) ?_ ?_
 ·refine ab ?_;refine lK (fun m s L=> ∃(p7:Int),jg N a2 a0 m p7=some r/\s=[(0,pV B1 0),(1,iV p7),(2,iV a2),(6,iV 0)]/\L=[iD bl (Y A2 n2 c2) a0.Yk,nc d9 sP M3 a0.Yy,aB B1 191 [Y A2 n2 c2,.map (some M3)]]) N ?_;rintro m6 _ _ ⟨p7,h,rfl,rfl⟩;rw [jg.eq_2] at h;refine sZ ?_;obtain ⟨x8,b0,b5,b7,h⟩:=aM h;refine ab ?_;refine H3 (ox 0 J bS J (toNat_lt b0 b5) FJ) ?_;refine gH J h ?_ ?_<;>intro h
  ·refine ab ?_;obtain ⟨b9,a6,a8,b6,h⟩:=aM h;refine ab ?_;refine H3 (vh 0 J bS J (toNat_lt a6 a8) FL) ?_;exact lN
  exact jY
 rintro _ _ ⟨p5,h,rfl,rfl⟩;exact eY
def gn (a0:VH)(a1:Int)(a2:VI)(a3:Int):Option (Int×Int×VH):=
 (fh N a0 a1 a2 a3).bind fun y5=>bif !decide (y5=0) then (some (0,y5,a0)) else ((dm N a0 a1 a2).bind fun y7=>bif !y7.2.2 then (some (0,3,a0)) else ((eR N a0 a1).bind fun y9=>aE ((0:Int)<=y7.1/\y7.1.toNat<y9.length) ((ap (List.drop y7.1.toNat y9) 0).bind fun a6=>(gm N a0 a1 y7.1).bind fun b0=>(jG N a0 b0 (List.set (List.drop y7.1.toNat y9) ((0:Int).toNat) (⟨a6.Up,(⟨a6.Yl.XZ,a6.Yl.N,a6.Yl.S⟩:VI),a3,a6.YA⟩:VW))).bind fun a8=>some (a8.1,a8.2.1,a8.2.2))))
theorem xh {N:Nat}{a0:VH}{a2:VI}{r:Int×Int×VH}(h:gn N a0 a1 a2 a3=some r):Okc Wc 133 [pV B1 0,iV a1,(nv a2),iV a3] ([ae B1 191 [Y A2 n2 c2,.map (some M3)],bh bl 159 (Y A2 n2 c2) a0.Yk,ax d9 sP M3 a0.Yy]) (fun u post=> ∃A0 n0 c0 M1,u=.tuple #[iV r.1,iV r.2.1]/\post=[ae B1 191 [Y A0 n0 c0,.map (some M1)],bh bl 159 (Y A0 n0 c0) r.2.2.Yk,ax d9 sP M1 r.2.2.Yy]):=by
 refine bY Tryz.func133 ?_;intro B4;refine sY ?_
 refine cR h (fun _ k=>mZ k) fun y5 h=> ?_
 refine gH J h ?_ ?_<;>intro h
 ·exact eY
 refine cR h (fun _ k=>kB k) fun y7 h=> ?_
 refine sZ ?_;refine gH J h ?_ ?_<;>intro h
 ·exact eY
 refine LL h (fun _ k=>lz k) fun y9 b7 b9 d0 h=> ?_
 obtain ⟨b6,h⟩:=ac h
 refine r9 (RZ (l:=y7.1.toNat) 0 J J Vp size159.out J (by rw [Wt b6.1];rfl) b6.2) fun d1 d2 d3=> ?_
 obtain ⟨b0,a6,a8,b5,h⟩:=aM h;refine gR (dp 0 J LF J J Vp size159.out a6 a8) ?_;refine gR (ox 0 J LF J (toNat_lt a6 a8) Ch) ?_;refine Gl (MA (us:=[iV a3]) (z:=(⟨b0.Up,(⟨b0.Yl.XZ,b0.Yl.N,b0.Yl.S⟩:VI),a3,b0.YA⟩:VW)) 0 J J J J size3.out J (toNat_lt a6 a8) J (fun S w vs xk hk hr=>by obtain rfl:=XH (hk.symm.trans b5);rw [show _=_ from hr];rfl)) ?_
 refine cR h (fun _ k=>qp k) fun d4 h=> ?_
 refine r8 (Q9 0 J) ?_;refine ab ?_;obtain ⟨d6,k,h⟩:=aa h;refine gD (oC (oX k)) ?_;rintro _ _ ⟨_,⟨e0,e1,e2,e3,rfl,rfl⟩,rfl⟩;exact eY
theorem vK {N:Nat}{a0:VH}{a2:VI}{r:Int×Int×VH}(h:gn N a0 a1 a2 a3=some r):Okc Wc 133 [pV B1 0,iV a1,(nv a2),iV a3] ([oDTable B1 a0]) (fun u post=>u=.tuple #[iV r.1,iV r.2.1]/\post=[oDTable B1 r.2.2]):=IY 0 rfl (fun _=>xh h)
def nh (y9:VP×Int×Bool)(a0:VO)(a6:Int×Int×VH)(a1:VP)(a8:VY)(b0:VS):Option (Bool×VO):=
 (bn N (⟨(⟨a0.Yj.XZ,a6.1,a0.Yj.Ye,a0.Yj.Yg,a8,a0.Yj.Ya⟩:VJ),b0,a0.at_⟩:VO) true).bind fun b5=>some (true,b5)
def gy (y9:VP×Int×Bool)(a1:VP)(a0:VO)(a8:Int)(b0:VS):Option (Bool×VO):=
 aE (in64 (y9.2.1+1)) (aE (in64 (y9.2.1+1)) ((ap a0.Yj.Yb (y9.2.1+1)).bind fun b5=>(iw N (⟨(⟨a0.Yj.XZ,a8,a0.Yj.Ye,a0.Yj.Yg,a0.Yj.Yb,a0.Yj.Ya⟩:VJ),b0,a0.at_⟩:VO) a1 b5).bind fun a6=>(ap a0.Yj.Yb (y9.2.1+1)).bind fun b7=>(bn N (⟨(⟨a0.Yj.XZ,a8,a0.Yj.Ye,a0.Yj.Yg,List.set a0.Yj.Yb ((y9.2.1+1).toNat) (⟨a6.1.XZ,a6.1.N,a6.1.S⟩:VN),a0.Yj.Ya⟩:VJ),a6.2,a0.at_⟩:VO) (!decide (y9.1.Yh=a1.Yh))).bind fun b6=>some (true,b6)))
def fW (a0:VO)(a1:VP):Option (Bool×VO):=
 (bZ N a0.w_).bind fun y8=>(cJ N a0 a1.Yl).bind fun y9=>bif !y9.2.2 then ((eU N a0.w_.Yk a0.Yj.Yf).bind fun b5=>bif decide (1024<=b5) then (some (false,a0)) else ((i4 N a0.w_.Yk a0.Yj.Yf a1.Yl a1.Yh).bind fun a6=>bif !decide (a6.2.1=0) then (some (false,(⟨a0.Yj,(⟨a0.w_.Yu,a0.w_.Yn,(),a0.w_.Yi,a6.2.2,a0.w_.Yv,a0.w_.Yo,a0.w_.YB,a0.w_.YC,a0.w_.Yw,a0.w_.Yx⟩:VS),a0.at_⟩:VO))) else ((iw N (⟨(⟨a0.Yj.XZ,a6.1,a0.Yj.Ye,a0.Yj.Yg,a0.Yj.Yb,a0.Yj.Ya⟩:VJ),(⟨a0.w_.Yu,a0.w_.Yn,(),a0.w_.Yi,a6.2.2,a0.w_.Yv,a0.w_.Yo,a0.w_.YB,a0.w_.YC,a0.w_.Yw,a0.w_.Yx⟩:VS),a0.at_⟩:VO) a1 (⟨0,0,⟨#[]⟩⟩:VN)).bind fun b0=>aE (ci (a0.Yj.Yb.length+([b0.1]:List VN).length)) (nh N y9 a0 a6 a1 (a0.Yj.Yb++([b0.1]:List VN)) b0.2)))) else (bif !decide (y9.1.Yh=a1.Yh) then ((gn N a0.w_.Yk a0.Yj.Yf a1.Yl a1.Yh).bind fun a8=>bif !decide (a8.2.1=0) then (some (false,(⟨a0.Yj,(⟨a0.w_.Yu,a0.w_.Yn,(),a0.w_.Yi,a8.2.2,a0.w_.Yv,a0.w_.Yo,a0.w_.YB,a0.w_.YC,a0.w_.Yw,a0.w_.Yx⟩:VS),a0.at_⟩:VO))) else (gy N y9 a1 a0 a8.1 (⟨a0.w_.Yu,a0.w_.Yn,(),a0.w_.Yi,a8.2.2,a0.w_.Yv,a0.w_.Yo,a0.w_.YB,a0.w_.YC,a0.w_.Yw,a0.w_.Yx⟩:VS))) else (gy N y9 a1 a0 a0.Yj.Yf a0.w_))
theorem sN {N:Nat}{a0:VO}{a1:VP}{r:Bool×VO}(h:fW N a0 a1=some r){B6:Nat}:Okc Wc 86 [pV B1 0,(pe a1)] ([ae B1 103 [iV a0.Yj.XZ,iV a0.Yj.Yf,iV a0.Yj.Ye,iV a0.Yj.Yg,Y A2 n2 c2,Y A3 n3 c3,pV B4 0,iV a0.at_.XZ,iV a0.at_.N,.string a0.at_.S],aC A2 n2 c2 a0.Yj.Yb,aC A3 n3 c3 a0.Yj.Ya,oDWorld B4 B5 B6 a0.w_]) (fun u post=> ∃A0 n0 c0 A1 n1 c1,u=.bool r.1/\post=[ae B1 103 [iV r.2.Yj.XZ,iV r.2.Yj.Yf,iV r.2.Yj.Ye,iV r.2.Yj.Yg,Y A0 n0 c0,Y A1 n1 c1,pV B4 0,iV r.2.at_.XZ,iV r.2.at_.N,.string r.2.at_.S],aC A0 n0 c0 r.2.Yj.Yb,aC A1 n1 c1 r.2.Yj.Ya,oDWorld B4 B5 B6 r.2.w_]):=by
 refine bY Tryz.func86 ?_;intro B7
 refine cR h (fun _ k=>dj k) fun y8 h=> ?_
 refine cR h (fun _ k=>nW k) fun y9 h=> ?_
 intro b9;refine sY ?_;refine gH J h ?_ ?_<;>intro h
 ·refine sZ ?_
  refine cR h (fun _ k=>xC k) fun f3 h=> ?_
  refine gH J h ?_ ?_<;>intro h
  ·exact eY
  refine ab ?_;refine au ?_;refine bm I ([ae b9 48 (km y9.1),ae B7 48 (km a1),ae B1 103 [iV a0.Yj.XZ,iV a0.Yj.Yf,iV a0.Yj.Ye,iV a0.Yj.Yg,Y A2 n2 c2,Y A3 n3 c3,pV B4 0,iV a0.at_.XZ,iV a0.at_.N,.string a0.at_.S],aC A2 n2 c2 a0.Yj.Yb,aC A3 n3 c3 a0.Yj.Ya]) (cS [0,1,2,3,4] 6) ?_;refine ab ?_;refine lg ((cS [5,0,1,2,3,4] 6).trans Ay) (cS [2,3,4,5,6] 7) ?_;refine bp ?_;obtain ⟨d0,k,h⟩:=aa h;refine zD 10 J (oC (xf k)) ?_;rintro _ _ ⟨_,⟨rfl,rfl⟩,rfl⟩;refine bf ?_;refine bp ?_;refine lg (AQ) (cS [1,2,3,4,5] 6) ?_;refine bp ?_;refine sY ?_;refine gH J h ?_ ?_<;>intro h
  ·exact eY
  refine ab ?_;refine ai (fun s L=> ∃d3 d4 d6 e0 e1,nh N y9 a0 d0 a1 d3 d4=some r/\s=[(0,pV B1 0),(3,pV B7 0),(4,.bool false),(5,pV B6 0),(6,pV b9 0),(7,iV y9.2.1)]/\L=[aC d6 e0 e1 d3,aC A3 n3 c3 a0.Yj.Ya,ae B1 103 [iV a0.Yj.XZ,iV d0.1,iV a0.Yj.Ye,iV a0.Yj.Yg,Y d6 e0 e1,Y A3 n3 c3,pV B4 0,iV a0.at_.XZ,iV a0.at_.N,.string a0.at_.S],ae B7 48 (km a1),ae b9 48 (km y9.1),oDWorld B4 B5 B6 d4]) ?_ ?_
  ·refine bm I ([ae b9 48 (km y9.1),ae B7 48 (km a1),aC A3 n3 c3 a0.Yj.Ya]) (cS [1,2,5] 6) ?_;refine zY [0,1,2,3,4,6,7] ?_;refine zE 8 J (ny J bld_29_.out) ?_;refine qm 5 9 I ?_ ?_
   ·refine bX J (vT (bM 3 J J vU J)) J J J ?_;rintro _ _ ⟨rfl,rfl⟩;refine bf ?_;obtain ⟨a6,b6,h⟩:=aa h;refine zD 9 J (oC (ng b6)) ?_;rintro _ _ ⟨_,⟨rfl,rfl⟩,rfl⟩;refine bf ?_;refine bp ?_
    refine yQ 10 J (aL (R:=av) (vss:=[[iV a6.1.XZ,iV a6.1.N,.string a6.1.S]]) (xs:=[a6.1]) J (rX _ _ _) J J (fun _ _ hr=> .cons J All2.nil)) fun e6 e7 e8=> ?_
    obtain ⟨d1,h⟩:=ac h
    refine yQ 11 J (aQ 3 0 J J ak J J z9 AW J J d1) fun a8 b0 b5=> ?_
    refine zY [12,13,14] ?_;refine zO 15 J (ar (us:=[Y a8 b0 b5]) (cs':=[iV a0.Yj.XZ,iV d0.1,iV a0.Yj.Ye,iV a0.Yj.Yg,Y a8 b0 b5,Y A3 n3 c3,pV B4 0,iV a0.at_.XZ,iV a0.at_.N,.string a0.at_.S]) 2 J J J J size43.out J J J) ?_;rintro _ _ rfl;refine bf ?_;refine bp ?_;refine fg I ?_;exact jY
   obtain ⟨a6,b6,h⟩:=aa h;refine bX J (oC (ng b6)) J J J ?_;rintro _ _ ⟨_,⟨rfl,rfl⟩,rfl⟩;refine bf ?_;refine bp ?_;refine qm 5 10 I ?_ ?_
   ·refine bX J (vT (bM 1 J J vU J)) J J J ?_;rintro _ _ ⟨rfl,rfl⟩;refine bf ?_
    refine yQ 10 J (aL (R:=av) (vss:=[[iV a6.1.XZ,iV a6.1.N,.string a6.1.S]]) (xs:=[a6.1]) J (rX _ _ _) J J (fun _ _ hr=> .cons J All2.nil)) fun e6 e7 e8=> ?_
    obtain ⟨d1,h⟩:=ac h
    refine yQ 11 J (aQ 3 0 J J ak J J z9 AW J J d1) fun a8 b0 b5=> ?_
    refine zY [12,13,14] ?_;refine zO 15 J (ar (us:=[Y a8 b0 b5]) (cs':=[iV a0.Yj.XZ,iV d0.1,iV a0.Yj.Ye,iV a0.Yj.Yg,Y a8 b0 b5,Y A3 n3 c3,pV B4 0,iV a0.at_.XZ,iV a0.at_.N,.string a0.at_.S]) 2 J J J J size43.out J J J) ?_;rintro _ _ rfl;refine bf ?_;refine bp ?_;refine fg I ?_;exact jY
   refine bX J (aL (R:=av) (vss:=[[iV a6.1.XZ,iV a6.1.N,.string a6.1.S]]) (xs:=[a6.1]) J (rX _ _ _) J J (fun _ _ hr=> .cons J All2.nil)) J J J ?_;rintro _ _ ⟨e6,e7,e8,rfl,rfl⟩;refine bf ?_;refine zD 5 J (vT (bM 2 J J vU J)) ?_;rintro _ _ ⟨rfl,rfl⟩;refine bf ?_;obtain ⟨d1,h⟩:=ac h
   refine yQ 11 J (aQ 3 0 J J ak J J z9 AW J J d1) fun a8 b0 b5=> ?_
   refine zY [12,13,14] ?_;refine zO 15 J (ar (us:=[Y a8 b0 b5]) (cs':=[iV a0.Yj.XZ,iV d0.1,iV a0.Yj.Ye,iV a0.Yj.Yg,Y a8 b0 b5,Y A3 n3 c3,pV B4 0,iV a0.at_.XZ,iV a0.at_.N,.string a0.at_.S]) 2 J J J J size43.out J J J) ?_;rintro _ _ rfl;refine bf ?_;refine bp ?_;refine fg I ?_;exact jY
  rintro _ _ ⟨d3,d4,d6,e0,e1,h,rfl,rfl⟩
  refine Su h (fun _ k=>fK k) fun f4 f9 g0 g1 g2 g3 g4 h=> ?_
  exact eN
 refine ab ?_;refine ai (fun s L=> ∃d2 e2,gy N y9 a1 a0 d2 e2=some r/\s=[(0,pV B1 0),(3,pV B7 0),(4,.bool false),(7,iV y9.2.1),(11,.bool (!decide (y9.1.Yh=a1.Yh)))]/\L=[aC A2 n2 c2 a0.Yj.Yb,aC A3 n3 c3 a0.Yj.Ya,ae B1 103 [iV a0.Yj.XZ,iV d2,iV a0.Yj.Ye,iV a0.Yj.Yg,Y A2 n2 c2,Y A3 n3 c3,pV B4 0,iV a0.at_.XZ,iV a0.at_.N,.string a0.at_.S],ae B7 48 (km a1),oDWorld B4 B5 B6 e2]) ?_ ?_
 ·refine dI h ?_ ?_<;>intro h
  ·refine au ?_;refine bm I ([ae b9 48 (km y9.1),ae B7 48 (km a1),ae B1 103 [iV a0.Yj.XZ,iV a0.Yj.Yf,iV a0.Yj.Ye,iV a0.Yj.Yg,Y A2 n2 c2,Y A3 n3 c3,pV B4 0,iV a0.at_.XZ,iV a0.at_.N,.string a0.at_.S],aC A2 n2 c2 a0.Yj.Yb,aC A3 n3 c3 a0.Yj.Ya]) (cS [0,1,2,3,4] 6) ?_;refine ab ?_;refine lg ((cS [5,0,1,2,3,4] 6).trans Ay) (cS [2,3,4,5,6] 7) ?_;refine bp ?_;obtain ⟨g5,k,h⟩:=aa h;refine zD 10 J (oC (vK k)) ?_;rintro _ _ ⟨_,⟨rfl,rfl⟩,rfl⟩;refine bf ?_;refine bp ?_;refine lg (AQ) (cS [1,2,3,4,5] 6) ?_;refine bp ?_;refine sY ?_;refine gH J h ?_ ?_<;>intro h
   ·exact eY
   exact jY
  exact jY
 rintro _ _ ⟨d2,e2,h,rfl,rfl⟩;refine au ?_;refine bm I ([aC A2 n2 c2 a0.Yj.Yb,aC A3 n3 c3 a0.Yj.Ya,ae B1 103 [iV a0.Yj.XZ,iV d2,iV a0.Yj.Ye,iV a0.Yj.Yg,Y A2 n2 c2,Y A3 n3 c3,pV B4 0,iV a0.at_.XZ,iV a0.at_.N,.string a0.at_.S],ae B7 48 (km a1)]) (cS [0,1,2,3] 5) ?_;refine ab ?_;obtain ⟨g6,h⟩:=ac h;refine ab ?_;obtain ⟨g7,h⟩:=ac h;refine ab ?_;obtain ⟨g8,e9,f1,f2,h⟩:=aM h;refine ab ?_;obtain ⟨b7,k,h⟩:=aa h;refine zD 18 J (oC (ng k)) ?_;rintro _ _ ⟨_,⟨rfl,rfl⟩,rfl⟩;refine bf ?_;refine bp ?_;obtain ⟨g9,e3,e4,e5,h⟩:=aM h;refine ab ?_;refine oV 20 J I I (cF (us:=[iV b7.1.XZ,iV b7.1.N,.string b7.1.S]) (z:=(⟨b7.1.XZ,b7.1.N,b7.1.S⟩:VN)) 2 J J J J size29.out J (toNat_lt e3 e4) J (fun S w vs xk hk hr ho=>by obtain rfl:=XH (hk.symm.trans e5);rw [show _=_ from hr];rfl)) ?_;rintro _ _ rfl;refine bp ?_
 refine Su h (fun _ k=>fK k) fun h0 h1 h2 h3 h4 h5 h6 h=> ?_
 exact eN
def jP (a0:VS)(a1:VN)(a2:VI)(a3:VN)(a4:Int):Option (Bool×VS):=
 (bU N a0 a1).bind fun y7=>zy y7 (fun y7_0=>some (false,a0)) (fun y7_1=>(cU N a2).bind fun a8=>(bif !a8 then (some true) else (some (decide (a4<0)))).bind fun b0=>(bif b0 then (some true) else (some (decide (7<a4)))).bind fun b16=>bif b16 then (some (false,a0)) else ((fW N (⟨y7_1.Yj,a0,y7_1.at_⟩:VO) (⟨a2,a4,a3,(⟨0,0,⟨#[]⟩⟩:VN),(⟨0,0,⟨#[]⟩⟩:VN)⟩:VP)).bind fun a6=>some (a6.1,a6.2.w_)))
theorem vl {N:Nat}{a1:VN}{a2:VI}{a3:VN}{a4:Int}{r:Bool×VS}(h:jP N a0 a1 a2 a3 a4=some r){B1 B2 B3:Nat}:Okc Wc 28 [pV B1 0,(aX a1),(nv a2),(aX a3),iV a4] ([oDWorld B1 B2 B3 a0]) (fun u post=>u=.bool r.1/\post=[oDWorld B1 B2 B3 r.2]):=by
 refine bY Tryz.func28 ?_;intro B4
 refine du fun B5=> ?_
 intro B6;refine ab ?_;obtain ⟨y7,a6,h⟩:=aa h;rcases y7 with y7_0|y7_1
 ·replace h:=DQ h;refine gD (oR (aP a6)) ?_;rintro _ _ ⟨_,⟨rfl,rfl⟩,rfl⟩;refine sY ?_;refine cN J ?_;exact eY
 replace h:=DP h;refine gD (oR (aP a6)) ?_;rintro _ _ ⟨_,⟨B8,A9,n9,c9,a8,b0,b5,rfl,rfl⟩,rfl⟩;refine sY ?_
 refine cR h (fun _ k=>td k) fun b6 h=> ?_
 refine gS 3 29 26 h ?_;intro b7 h;refine ab ?_;refine gS 3 33 30 h ?_;intro b16 h;refine dI h ?_ ?_<;>intro h
 ·exact eY
 refine Su h (fun _ k=>sN k) fun b9 c0 d0 d1 d2 d3 d4 h=> ?_
 exact eN
end
end Go.Proofs.YthhiddkljcacaaaGreat