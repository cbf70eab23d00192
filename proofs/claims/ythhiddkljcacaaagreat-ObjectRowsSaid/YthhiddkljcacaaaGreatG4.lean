/- Merged texts: part 4. No conditions of their own. -/
import Derived.Test.YthhiddkljcacaaaGreatG3
set_option maxHeartbeats 4000000
namespace Go.Proofs.YthhiddkljcacaaaGreat
variable (N:Nat){a1:Int}{ff:Int->Option Bool}{t:V3}{a:VK}{a2:VL}{vf:Value}
theorem Vl:type_of% Tryz.underlying184:=Tryz.underlying184
theorem Vk:type_of% Tryz.underlying4:=Tryz.underlying4
theorem Vj:type_of% Tryz.underlying23:=Tryz.underlying23
variable {A1 A2 A3 A4 A5 A6 j e n:Option Addr}{B1 B2 d B6 p M7 c1 c2 c3 c4 c5 c6 l f o c n2 n3 n4 n5 n6 m i q:Nat}
open Go.RowKit Asn
set_option maxRecDepth 20000
def lD (a1:Int)(x9:VO):(Unit)->Option (Option Exit×Unit)
 |()=>(ak x9 0).bind fun a6=>(bif !decide (a6.no=7) then (some true) else ((ak x9 1).bind fun a8=>some (decide (a8.no=8)))).bind fun i=>bif i then (some (some .ret,())) else ((bif decide (a1=4) then ((ak x9 2).bind fun f=>(nV N f 7).bind fun e=>(bif !e then (some true) else ((ak x9 3).bind fun d=>(nT N d 0 9007199254740992).bind fun c=>some (!c))).bind fun a=>some a) else (some false)).bind fun b16=>bif b16 then (some (some .ret,())) else (some (none,())))
def ph (a:VO)(a1:Int):Option Bool:=
 ae (a1≠0) (bif !decide ((a.length:Int).tmod a1=0) then (some false) else ((yd N a a1).bind fun c=>(Ef N a a1 (dA (fun x st=>lD N a1 x st)) (none,())).bind fun a6=>jp a6.1 (some true) (some false) (fun _=>none)))
theorem HW {N:Nat}{a:VO}{r:Bool}(h:ph N a a1=some r):Okc V5 222 [Y A1 c c1,iV a1] ([ap A1 c c1 a]) (fun u p=>u=.bool r/\p=[]):=by
 refine av Tryz.func222 ?_;intro B2;refine bB fun d=> ?_
 refine sZ ?_;obtain ⟨m,h⟩:=ai h;refine aJ (iz J J m) ?_;refine gH J h ?_ ?_<;>intro h
 ·exact eY
 refine sY ?_;obtain ⟨D,k,h⟩:=ad h;refine gD (oR (PS k)) ?_;rintro _ _ ⟨_,⟨C,B,rfl,rfl⟩,rfl⟩;refine aa ?_;refine dx ?_ dG (kO 0 J);refine dx ?_ dG (kO 1 J);refine aa ?_;obtain ⟨X,k,h⟩:=ad h;refine KI (R:=(fun (x:VO) vs cs=> ∃j e f,vs=[Y j e f]/\cs=[ap j e f x])) (fun x st=>lD N a1 x st) (fun (st:Unit) (mz:Unit)=> [ab B2 3 [iV a1],ab d 4 [.bool false]]) [aQ C 43 [Y A1 c c1],ap A1 c c1 a,aQ B 3 [iV a1]] (()) (()) J J call252.out J (by rintro _ _ _ ⟨_,_,_,rfl,rfl⟩;rfl) (fun l t o=>(Qx k o).mono fun _ _ n=>n.2) (f0 [0,4,1] [] [3,2] 5 J) h ?_ ?_ ?_ ?_
 ·rintro l x9 _ je sr9 _ h _ _ ⟨V,U,T,rfl,rfl⟩;replace h:lD N a1 x9 ()=some (je,sr9):=h;simp only [mq,List.zip_cons_cons,List.zip_nil_left,List.zip_nil_right,List.reverse_cons,List.reverse_nil,XN,Wm];refine sY ?_;obtain ⟨S,a6,a8,b6,h⟩:=aI h;refine aa ?_;refine fS (iA 0 J bA J (toNat_lt a6 a8) oH) ?_;refine dJ 6 26 20 h (fun _ q h=> ?_) fun Q h=> ?_
  ·refine aa ?_;obtain ⟨P,A,z,b9,h⟩:=aI h;refine aa ?_;refine dF (iA 0 J bA J (toNat_lt A z) oH) J (bY q J) J ?_;exact gY
  refine aG h ?_ ?_<;>intro h
  ·refine aa ?_;obtain ⟨rfl,rfl⟩:=Xz (Xx h);exact GB ((cS [1,2] 3).trans (kf () J))
  refine aa ?_;refine bF 13 42 29 h (fun _ O h=> ?_) fun b16 h=> ?_
  ·refine aa ?_;obtain ⟨M,d0,d1,d2,h⟩:=aI h;refine cR h (fun _ k=>rE k) fun L h=> ?_
   refine dJ 6 41 35 h (fun _ K h=> ?_) fun H h=> ?_
   ·refine aa ?_;obtain ⟨F,d3,d4,Z,h⟩:=aI h;refine cR h (fun _ k=>rG k) fun E h=> ?_
    exact gY
   exact gY
  refine aG h ?_ ?_<;>intro h
  ·refine aa ?_;obtain ⟨rfl,rfl⟩:=Xz (Xx h);exact GB ((cS [1,2] 3).trans (kf () J))
  refine aa ?_;obtain ⟨rfl,rfl⟩:=Xz (Xx h);exact oY ((cS [1,2] 3).trans (kf () J))
 ·rintro _ h;refine oI ([ab B2 3 [iV a1],ab d 4 [.bool false]]) J ?_;exact eY
 ·rintro _ h;refine oI ([ab B2 3 [iV a1],ab d 4 [.bool false]]) J ?_;exact eY
 rintro i _ h;exact bO h
def yj (a:Int)(a1:VO)(c:Bool):Option Bool:=
 bif c then (some (decide ((a1.length:Int)=0))) else (bif decide (a=3) then ((bif decide ((a1.length:Int)=3) then ((ak a1 0).bind fun a6=>(nT N a6 0 9007199254740992).bind fun a8=>some a8) else (some false)).bind fun H=>(bif H then ((ak a1 1).bind fun O=>(nV N O 9).bind fun M=>some M) else (some false)).bind fun b12=>some b12) else (bif decide (a=4) then ((bif decide (1<=(a1.length:Int)) then (some (decide ((a1.length:Int)<=4097))) else (some false)).bind fun b16=>(bif b16 then ((ak a1 0).bind fun L=>(nV N L 9).bind fun K=>some K) else (some false)).bind fun F=>some F) else (bif decide (a=6) then ((bif decide ((a1.length:Int)=2) then ((ak a1 0).bind fun E=>(nT N E 0 3).bind fun D=>some D) else (some false)).bind fun C=>(bif C then ((ak a1 1).bind fun B=>(nV N B 9).bind fun A=>some A) else (some false)).bind fun z=>some z) else (bif decide (a=7) then ((bif decide (4<=(a1.length:Int)) then ((ak a1 2).bind fun u=>(nT N u 0 1).bind fun t=>some t) else (some false)).bind fun q=>(bif q then ((ak a1 3).bind fun p=>(nT N p 0 9007199254740992).bind fun o=>some o) else (some false)).bind fun n=>some n) else (bif decide (a=8) then ((ph N a1 2).bind fun m=>some m) else (bif decide (a=10) then ((bif decide (1<=(a1.length:Int)) then ((ak a1 0).bind fun l=>some (decide (l.no=7))) else (some false)).bind fun j=>(bif j then (ae ((0:Int)<=1/\(1:Int).toNat<=a1.length/\a1.length<=a1.length) ((ph N ((a1.drop ((1:Int).toNat)).take (a1.length - (1:Int).toNat)) 4).bind fun y42=>some y42)) else (some false)).bind fun i=>some i) else (bif decide (a=9) then ((bif decide (2<=(a1.length:Int)) then ((ak a1 0).bind fun f=>(nT N f 0 2).bind fun e=>some e) else (some false)).bind fun d=>some d) else (some true))))))))
def uC (a:Int)(a1:VO):Option Bool:=
 bif decide (1048576<(a1.length:Int)) then (some false) else (bif decide (a=2) then (some (decide ((a1.length:Int)<=4096))) else (bif decide (a=1) then (yj N a a1 (decide (a=1))) else (yj N a a1 (decide (a=5)))))
theorem Qi {N:Nat}{a:Int}{a1:VO}{r:Bool}(h:uC N a a1=some r):Okc V5 187 [iV a,Y A1 c c1] ([ap A1 c c1 a1]) (fun u p=>u=.bool r/\p=[]):=by
 refine av Tryz.func187 ?_;refine sZ ?_;refine gH J h ?_ ?_<;>intro h
 ·exact eY
 refine sY ?_;refine gH J h ?_ ?_<;>intro h
 ·exact eY
 refine aF (fun s L=> ∃d,yj N a a1 d=some r/\s=[(1,Y A1 c c1),(4,.bool false),(8,iV a),(14,.bool d)]/\L=[ap A1 c c1 a1]) ?_ ?_
 ·refine aG h ?_ ?_<;>intro h
  ·exact jY
  exact jY
 rintro _ _ ⟨d,h,rfl,rfl⟩;refine gH J h ?_ ?_<;>intro h
 ·exact eY
 refine aG h ?_ ?_<;>intro h
 ·refine aa ?_;refine bF 5 30 25 h (fun _ g9 h=> ?_) fun b9 h=> ?_
  ·refine aa ?_;obtain ⟨g5,b5,b6,b7,h⟩:=aI h;refine cR h (fun _ k=>rG k) fun g6 h=> ?_
   exact gY
  refine aa ?_;refine bF 5 36 31 h (fun _ g7 h=> ?_) fun b12 h=> ?_
  ·refine aa ?_;obtain ⟨g8,c0,d0,d1,h⟩:=aI h;refine cR h (fun _ k=>rE k) fun h0 h=> ?_
   exact gY
  exact eY
 refine aG h ?_ ?_<;>intro h
 ·refine aa ?_;refine gS 4 46 42 h ?_;intro b16 h;refine aa ?_;refine bF 5 52 47 h (fun _ h1 h=> ?_) fun h2 h=> ?_
  ·refine aa ?_;obtain ⟨h3,d2,d3,d4,h⟩:=aI h;refine cR h (fun _ k=>rE k) fun h4 h=> ?_
   exact gY
  exact eY
 refine aG h ?_ ?_<;>intro h
 ·refine aa ?_;refine bF 5 63 58 h (fun _ h5 h=> ?_) fun Z h=> ?_
  ·refine aa ?_;obtain ⟨X,e0,e1,e2,h⟩:=aI h;refine cR h (fun _ k=>rG k) fun V h=> ?_
   exact gY
  refine aa ?_;refine bF 5 69 64 h (fun _ U h=> ?_) fun T h=> ?_
  ·refine aa ?_;obtain ⟨S,e3,e4,e5,h⟩:=aI h;refine cR h (fun _ k=>rE k) fun R h=> ?_
   exact gY
  exact eY
 refine aG h ?_ ?_<;>intro h
 ·refine aa ?_;refine bF 5 80 75 h (fun _ Q h=> ?_) fun P h=> ?_
  ·refine aa ?_;obtain ⟨O,e6,e7,e8,h⟩:=aI h;refine cR h (fun _ k=>rG k) fun M h=> ?_
   exact gY
  refine aa ?_;refine bF 5 86 81 h (fun _ K h=> ?_) fun H h=> ?_
  ·refine aa ?_;obtain ⟨F,e9,f1,f2,h⟩:=aI h;refine cR h (fun _ k=>rG k) fun E h=> ?_
   exact gY
  exact eY
 refine aG h ?_ ?_<;>intro h
 ·refine cR h (fun _ k=>HW k) fun D h=> ?_
  exact eN
 refine aG h ?_ ?_<;>intro h
 ·refine aa ?_;refine bF 6 102 96 h (fun _ i h=> ?_) fun C h=> ?_
  ·refine aa ?_;obtain ⟨B,a8,j,f9,h⟩:=aI h;refine aa ?_;refine dF (iA 0 J bA J (toNat_lt a8 j) oH) J (be i J) J ?_;exact gY
  refine aa ?_;refine bF 4 107 103 h (fun _ f h=> ?_) fun A h=> ?_
  ·refine aa ?_;obtain ⟨a6,h⟩:=ai h;refine GR 0 J (l:=(1:Int).toNat) (h:=a1.length) a6.2.1 a6.2.2 ?_;rintro z t q e;refine dF (oJ 1 J e J z9 size29.out J (by rw [Wh a6.1];rfl) a6.2.1) J (be f J) J ?_;refine cR h (fun _ k=>HW k) fun y42 h=> ?_
   exact gY
  exact eY
 refine aG h ?_ ?_<;>intro h
 ·refine aa ?_;refine bF 5 118 113 h (fun _ o h=> ?_) fun n h=> ?_
  ·refine aa ?_;obtain ⟨m,g2,g3,g4,h⟩:=aI h;refine cR h (fun _ k=>rG k) fun k2 h=> ?_
   exact gY
  exact eY
 exact eY
def nO (a:VL)(a6:Bool×VH):(Unit)->Option (Option Exit×Unit)
 |()=>(Ap N a6.2).bind fun a8=>bif !a8 then (some (some .ret,())) else (some (none,()))
def lL (a:VL):Option Bool:=
 (bif decide (a.no<1) then (some true) else (some (decide (11<a.no)))).bind fun j=>(bif j then (some true) else (some (decide (a.XV<0)))).bind fun i=>(bif i then (some true) else (some (decide (a.XU<0)))).bind fun f=>(bif f then (some true) else (some (decide (63<a.XU)))).bind fun b8=>(bif b8 then (some true) else ((bif !decide (a.XW=0) then (some (!decide (a.XW=1))) else (some false)).bind fun a6=>some a6)).bind fun e=>bif e then (some false) else ((vy N a).bind fun m=>(uY N a (dA (fun x st=>nO N a x st)) (none,())).bind fun a8=>jp a8.1 ((uz N a).bind fun l=>(bif l then ((uC N a.no a.XP).bind fun d=>some d) else (some false)).bind fun c=>some c) (some false) (fun _=>none))
theorem rI {N:Nat}{a:VL}{r:Bool}(h:lL N a=some r):Okc V5 141 [.agg #[iV a.no,iV a.XV,iV a.XU,iV a.XW,Y A1 c c1,Y A2 n2 c2]] ([ap A1 c c1 a.XQ,ap A2 n2 c2 a.XP]) (fun u p=>u=.bool r/\p=[]):=by
 refine av Tryz.func141 ?_;intro d;refine bB fun e=> ?_
 refine sZ ?_;refine gS 4 12 8 h ?_;intro K h;refine aa ?_;refine gS 4 17 13 h ?_;intro H h;refine aa ?_;refine gS 4 22 18 h ?_;intro F h;refine aa ?_;refine gS 4 27 23 h ?_;intro b8 h;refine aa ?_;refine dJ 9 37 28 h (fun _ m h=> ?_) fun E h=> ?_
 ·refine aa ?_;refine gS 4 36 32 h ?_;intro L h;exact gY
 refine aG h ?_ ?_<;>intro h
 ·exact eY
 refine sY ?_;obtain ⟨D,k,h⟩:=ad h;refine gD (oR (JC k)) ?_;rintro _ _ ⟨_,⟨a6,rfl,rfl⟩,rfl⟩;refine aa ?_;refine dx ?_ dG (kO 0 J);obtain ⟨C,k,h⟩:=ad h;refine vQ (en:=(fun x=> [.bool x.1,.agg #[iV x.2.no,iV x.2.N,.string x.2.S]])) (fun x st=>nO N a x st) (fun (st:Unit) (mz:Unit)=> [ap A1 c c1 a.XQ,ap A2 n2 c2 a.XP,ab d 45 (bw a A1 c c1 A2 n2 c2),ab e 4 [.bool false]]) [aQ a6 45 (bw a A1 c c1 A2 n2 c2),ap A1 c c1 a.XQ,ap A2 n2 c2 a.XP] (()) (()) J J call218.out J (fun _=>J) (fun l t j=>(IF k j).mono fun _ _ f=>f.2) (f0 [0,3,4] [] [3,4,2,1] 5 J) h ?_ ?_ ?_ ?_
 ·rintro l a8 _ je sr14 _ h;replace h:nO N a a8 ()=some (je,sr14):=h;simp only [mq,List.zip_cons_cons,List.zip_nil_left,List.zip_nil_right,List.reverse_cons,List.reverse_nil,XN,Wm];refine bB fun B=> ?_
  refine cR h (fun _ k=>RO k) fun A h=> ?_
  refine gH J h ?_ ?_<;>intro h
  ·refine aa ?_;obtain ⟨rfl,rfl⟩:=Xz (Xx h);exact GB ((cS [1,2,3,4] 5).trans (kf () J))
  refine aa ?_;obtain ⟨rfl,rfl⟩:=Xz (Xx h);exact oY ((cS [1,2,3,4] 5).trans (kf () J))
 ·rintro _ h;refine oI ([ap A1 c c1 a.XQ,ap A2 n2 c2 a.XP,ab d 45 (bw a A1 c c1 A2 n2 c2),ab e 4 [.bool false]]) J ?_;refine cR h (fun _ k=>P0 k) fun z h=> ?_
  refine bF 6 53 47 h (fun _ q h=> ?_) fun o h=> ?_
  ·refine cR h (fun _ k=>Qi k) fun n h=> ?_
   exact gY
  exact eY
 ·rintro _ h;refine oI ([ap A1 c c1 a.XQ,ap A2 n2 c2 a.XP,ab d 45 (bw a A1 c c1 A2 n2 c2),ab e 4 [.bool false]]) J ?_;exact eY
 rintro i _ h;exact bO h
def kK (N:Nat)(a:VO):Option VO:=
 ae (bC (([]:List VH).length+a.length)) (some (([]:List VH)++a))
theorem pA {N:Nat}{a r:VO}(h:kK N a=some r):Okc V5 91 [Y A1 c c1] ([ap A1 c c1 a]) (fun u p=> ∃i e f,u=Y i e f/\p=[aj i e f r]):=by
 refine av Tryz.func91 ?_;refine sZ ?_;refine aJ (R1 J z9) ?_;refine GG J (fun d=> ?_) (fun d=> ?_)
 ·replace d:(A1).isNone=true:=by simpa using d
  refine aa1 0 J bA d (fun l=> ?_);subst l;replace h:ae (bC (([]:List VH).length+([]:List VH).length)) (some (([]:List VH)++([]:List VH)))=some r:=h;replace h:some []=some r:=by simpa [ae] using h
  refine aa ?_;obtain rfl:=bn h;exact dV J J ((ck ca 29 _).trans (cS [0] 2)) ⟨_,_,_,J,J⟩
 refine aa ?_;refine bN (cB (R:=ca) (vss:=[]) (xs:=[]) J (UP) J J (fun _ _ hr=>All2.nil)) fun A4 n4 c4=> ?_
 obtain ⟨j,h⟩:=ai h;refine bN (cG 0 1 J J bA J J z9 nm J J j) fun A6 n6 c6=> ?_
 exact eN
theorem yn {r:VO}: ∀v post,((fun (u:Value) (post:V3)=> ∃e a d,u=Y e a d/\post=[aj e a d r])) v post-> ∀c∈post,bP c:=by
 rintro _ _ ⟨_,_,_,rfl,rfl⟩;exact t9 iU (aW)
def iP (a:VL):Option VL:=
 (kK N a.XQ).bind fun d=>(kK N a.XP).bind fun c=>some (⟨a.no,a.XV,a.XU,a.XW,d,c⟩:VL)
theorem mN {N:Nat}{a r:VL}(h:iP N a=some r):Okc V5 104 [.agg #[iV a.no,iV a.XV,iV a.XU,iV a.XW,Y A1 c c1,Y A2 n2 c2]] ([ap A1 c c1 a.XQ,ap A2 n2 c2 a.XP]) (fun u p=> ∃m j l A1 c c1,u=.agg #[iV r.no,iV r.XV,iV r.XU,iV r.XW,Y m j l,Y A1 c c1]/\p=[aj m j l r.XQ,aj A1 c c1 r.XP]):=by
 refine av Tryz.func104 ?_;intro d;refine bB fun q=> ?_
 refine dY [0,1,3,4] ?_;obtain ⟨o,k,h⟩:=ad h;refine fk 2 J (oR (pA k)) fun A6 n6 c6=> ?_
 refine zY [6] ?_;obtain ⟨n,k,h⟩:=ad h;refine fk 5 J (oR (pA k)) fun e i f=> ?_
 refine iu 7 J I I (bL (us:=[Y A6 n6 c6]) (cs':=(bw a A6 n6 c6 A2 n2 c2)) 3 J J J J size43.out J J J) ?_;rintro _ _ rfl;refine zY [8] ?_;refine iu 9 J I I (bL (us:=[Y e i f]) (cs':=(bw a A6 n6 c6 e i f)) 3 J J J J size43.out J J J) ?_;rintro _ _ rfl;refine cJ I ?_;exact eY
def rn (a:Vz)(a1:VL):Option (Int×Int×Vz):=
 (fJ N a).bind fun a8=>bif a8 then (some (0,1,a)) else ((lL N a1).bind fun c=>bif !c then (some (0,51,a)) else ((iP N a1).bind fun a6=>ae (bC (a.m_.XS.length+([(⟨a6.no,a6.XV,a6.XU,0,a6.XQ,a6.XP⟩:VL)]:List VL).length)) (ae (in64 (2*((a.m_.XS++([(⟨a6.no,a6.XV,a6.XU,0,a6.XQ,a6.XP⟩:VL)]:List VL)).length:Int))) (ae (in64 ((2*((a.m_.XS++([(⟨a6.no,a6.XV,a6.XU,0,a6.XQ,a6.XP⟩:VL)]:List VL)).length:Int)) - 1)) (some ((2*((a.m_.XS++([(⟨a6.no,a6.XV,a6.XU,0,a6.XQ,a6.XP⟩:VL)]:List VL)).length:Int)) - 1,0,(⟨(⟨a.m_.XS++([(⟨a6.no,a6.XV,a6.XU,0,a6.XQ,a6.XP⟩:VL)]:List VL),a.m_.XR⟩:Vw),a.Yb,a.Yg,a.Yf⟩:Vz)))))))
theorem P5 {N:Nat}{a:Vz}{a1:VL}{r:Int×Int×Vz}(h:rn N a a1=some r):Okc V5 92 [pV B1 0,.agg #[iV a1.no,iV a1.XV,iV a1.XU,iV a1.XW,Y e i f,Y n q o]] ([ap e i f a1.XQ,ap n q o a1.XP,ab B1 128 [Y A2 n2 c2,Y A3 n3 c3,Y A4 n4 c4,Y A5 n5 c5,pV B6 0],aC A2 n2 c2 a.m_.XS,aC A3 n3 c3 a.m_.XR,aj A4 n4 c4 a.Yb,aj A5 n5 c5 a.Yg,ab B6 186 [.map (some M7)],aA ax aU M7 a.Yf.at_]) (fun u p=> ∃P E M A1 c c1 A2 n2 c2 A3 n3 c3 O,u=.tuple #[iV r.1,iV r.2.1]/\p=[ab B1 128 [Y P E M,Y A1 c c1,Y A2 n2 c2,Y A3 n3 c3,pV B6 0],aC P E M r.2.2.m_.XS,aC A1 c c1 r.2.2.m_.XR,aj A2 n2 c2 r.2.2.Yb,aj A3 n3 c3 r.2.2.Yg,ab B6 186 [.map (some O)],aA ax aU O r.2.2.Yf.at_]):=by
 refine av Tryz.func92 ?_;intro D;refine sY ?_;refine cR h (fun _ k=>kI k) fun Z h=> ?_
 refine gH J h ?_ ?_<;>intro h
 ·exact eY
 refine cR h (fun _ k=>rI k) fun X h=> ?_
 refine gH J h ?_ ?_<;>intro h
 ·exact eY
 refine qA h (fun _ k=>mN k) fun a6 C B A z m l h=> ?_
 refine aH ?_;refine dx ?_ dG (cu 0 J);refine aa ?_;refine dx ?_ dG (cu 1 J);refine dx (t:=[(0,pV B1 0),(3,pV D 0),(4,iV 0),(5,iV 0)]) ?_ cL (ah _);refine fv I 8 [0] [0,5,7] [16,17,18,19,20,21,22,23] [[],[],[1],[2],[3],[4],[],[6]] [aV (pV B1 0),
aV (pV B1 0),
aV (pV B1 0),
aV (pV B1 0),
aV (pV B1 0),
aV (Y A2 n2 c2),
aV (.agg #[iV a6.no,iV a6.XV,iV a6.XU,iV 0,Y C B A,Y z m l]),
aX3 (fun (a8:Option Addr) (j d:Nat)=> Y a8 j d) (fun a8 j d=> [aC a8 j d ([(⟨a6.no,a6.XV,a6.XU,0,a6.XQ,a6.XP⟩:VL)]:List VL)])] [] (ah _) (ft rfl fB) I rfl rfl ?_ ?_ ?_
 ·refine fu J ?_ ?_
  ·exact fC (ay J) J (bj J (ah _))
  exact fz
 ·refine bl J ?_ ?_
  ·refine fi (cB (R:=dL) (vss:=[[iV a6.no,iV a6.XV,iV a6.XU,iV 0,Y C B A,Y z m l]]) (xs:=[(⟨a6.no,a6.XV,a6.XU,0,a6.XQ,a6.XP⟩:VL)]) J (vJ _ _ _ _ _ _ _ _ _ _) J J (fun _ _ hr=> .cons (⟨_,_,_,_,_,_,J,hr 0 _ J J,hr 1 _ J J⟩) All2.nil)) J ?_;rintro _ _ ⟨U,T,S,rfl,rfl⟩;exact lp U T S (ah _)
  refine qR (db (us:=[iV a6.no,iV a6.XV,iV a6.XU,iV 0,Y C B A,Y z m l]) 2 J J agg45.out J) ?_;refine qR (cn 5 J J sR J) ?_;refine qE (fb J AX) ?_;refine qE (fb J kj) ?_;refine qE (cr J) ?_;refine qE (ay J) ?_;refine qE (ay J) ?_;exact fq
 intro a8 j d;refine eF (t:=[(16,pV B1 0),(21,Y A2 n2 c2),(23,Y a8 j d),(0,pV B1 0),(3,pV D 0),(4,iV 0),(5,iV 0)]) (L':=[aC a8 j d ([(⟨a6.no,a6.XV,a6.XU,0,a6.XQ,a6.XP⟩:VL)]:List VL),ap C B A a6.XQ,ap z m l a6.XP,ab D 45 [iV a6.no,iV a6.XV,iV a6.XU,iV 0,Y C B A,Y z m l],ap e i f a1.XQ,ap n q o a1.XP,ab B1 128 [Y A2 n2 c2,Y A3 n3 c3,Y A4 n4 c4,Y A5 n5 c5,pV B6 0],aC A2 n2 c2 a.m_.XS,aC A3 n3 c3 a.m_.XR,aj A4 n4 c4 a.Yb,aj A5 n5 c5 a.Yg,ab B6 186 [.map (some M7)],aA ax aU M7 a.Yf.at_]) ?_ cL (ah _);obtain ⟨Q,h⟩:=ai h;refine gP 8 J I (cG 7 0 J J aw J J Ve oZ J J Q) J J J ?_;rintro _ _ ⟨L,K,H,rfl,rfl⟩;refine jt 9 J I (cr J) J J J ?_;refine jt 10 J I (fb J kj) J J J ?_;refine jt 11 J I (fb J AX) J J J ?_;refine gv 12 J I (bL (us:=[Y L K H]) (cs':=[Y L K H,Y A3 n3 c3,Y A4 n4 c4,Y A5 n5 c5,pV B6 0]) 6 J J J J size123.out J J J) J J ?_;rintro _ _ rfl;refine jo ?_;refine fw I ?_;refine aa ?_;obtain ⟨F,h⟩:=ai h;refine gE (gq J J F.1 F.2) ?_;obtain ⟨V,h⟩:=ai h;exact eY
theorem DN {N:Nat}{a:Vz}{a1:VL}{r:Int×Int×Vz}(h:rn N a a1=some r):Okc V5 92 [pV B1 0,.agg #[iV a1.no,iV a1.XV,iV a1.XU,iV a1.XW,Y A2 n2 c2,Y A3 n3 c3]] ([ap A2 n2 c2 a1.XQ,ap A3 n3 c3 a1.XP,oDHeap B1 a]) (fun u p=>u=.tuple #[iV r.1,iV r.2.1]/\p=[oDHeap B1 r.2.2]):=il 2 rfl (fun _=>P5 h)
def Dl (a:VK)(a8 e:Int)(d:ByteArray)(c:Int):Option (VH×VK):=
 (rn N a.XX (⟨1,0,c,0,([(⟨a8,e,d⟩:VH)]:List VH),[]⟩:VL)).bind fun a6=>some ((⟨7,a6.1,⟨#[]⟩⟩:VH),(⟨a.Yj,a.Ye,(),a6.2.2,a.Ya,a.Yk,a.Yh,a.Yr,a.Ys,a.Yl,a.Ym⟩:VK))
def tV (a1:Int)(a:VK)(a6 a8:Int)(c:ByteArray):Option (VH×VK):=
 bif decide (a1=17) then (Dl N a a6 a8 c 1) else (Dl N a a6 a8 c 17)
def Dm (a1:Int)(a:VK)(c:Bool):Option (VH×VK):=
 bif c then ((jx N a.XX 3).bind fun a6=>tV N a1 a a6.no a6.N a6.S) else ((jx N a.XX 0).bind fun a8=>tV N a1 a a8.no a8.N a8.S)
def xx (a1:Int)(a:VK)(a8:Bool):Option (VH×VK):=
 bif a8 then ((jx N a.XX 5).bind fun a6=>tV N a1 a a6.no a6.N a6.S) else (bif decide (a1=4) then (Dm N a1 a (decide (a1=4))) else (Dm N a1 a (decide (a1=16))))
def HF (a:VK)(a1:Int):Option (VH×VK):=
 bif decide (a1=0) then (tV N a1 a 1 0 (⟨#[]⟩)) else (bif decide (a1=6) then (xx N a1 a (decide (a1=6))) else (bif decide (a1=7) then (xx N a1 a (decide (a1=7))) else (xx N a1 a (decide (a1=8)))))
theorem HE {N:Nat}{r:VH×VK}(h:HF N a a1=some r):Okc V5 78 [pV B1 0,iV a1] ([ab B1 85 (cF a B2 d A4 n4 c4 A5 n5 c5 A6 n6 c6),oDHeap B2 a.XX,oDTable d a.Ya,bi A4 n4 c4 a.Yk,cx A5 n5 c5 a.Yl,bi A6 n6 c6 a.Ym]) (fun u p=> ∃B z A A1 c c1 A2 n2 c2,u=.agg #[iV r.1.no,iV r.1.N,.string r.1.S]/\p=[ab B1 85 (cF r.2 B2 d B z A A1 c c1 A2 n2 c2),oDHeap B2 r.2.XX,oDTable d r.2.Ya,bi B z A r.2.Yk,cx A1 c c1 r.2.Yl,bi A2 n2 c2 r.2.Ym]):=by
 refine av Tryz.func78 ?_;intro e;refine bB fun j=> ?_
 refine aF (fun s L=> ∃a6 a8 i,tV N a1 a a6 a8 i=some r/\s=[(0,pV B1 0),(1,iV a1),(4,pV e 0),(5,pV j 0)]/\L=[bi A4 n4 c4 a.Yk,cx A5 n5 c5 a.Yl,bi A6 n6 c6 a.Ym,ab B1 85 (cF a B2 d A4 n4 c4 A5 n5 c5 A6 n6 c6),ab e 29 [iV 0,iV 0,.string (⟨#[]⟩)],ab j 29 [iV a6,iV a8,.string i],oDHeap B2 a.XX,oDTable d a.Ya]) ?_ ?_
 ·refine aG h ?_ ?_<;>intro h
  ·exact jY
  refine aF (fun s L=> ∃t,xx N a1 a t=some r/\s=[(0,pV B1 0),(1,iV a1),(4,pV e 0),(5,pV j 0),(10,iV a1),(18,.bool t)]/\L=[bi A4 n4 c4 a.Yk,cx A5 n5 c5 a.Yl,bi A6 n6 c6 a.Ym,ab B1 85 (cF a B2 d A4 n4 c4 A5 n5 c5 A6 n6 c6),ab e 29 [iV 0,iV 0,.string (⟨#[]⟩)],ab j 29 [iV 1,iV 0,.string (⟨#[]⟩)],oDHeap B2 a.XX,oDTable d a.Ya]) ?_ ?_
  ·refine aG h ?_ ?_<;>intro h
   ·exact jY
   refine aG h ?_ ?_<;>intro h
   ·exact jY
   exact jY
  rintro _ _ ⟨t,h,rfl,rfl⟩;refine gH J h ?_ ?_<;>intro h
  ·refine cR h (fun _ k=>qS k) fun F h=> ?_
   exact jN
  refine aF (fun s L=> ∃f,Dm N a1 a f=some r/\s=[(0,pV B1 0),(1,iV a1),(4,pV e 0),(5,pV j 0),(27,.bool f)]/\L=[bi A4 n4 c4 a.Yk,cx A5 n5 c5 a.Yl,bi A6 n6 c6 a.Ym,ab B1 85 (cF a B2 d A4 n4 c4 A5 n5 c5 A6 n6 c6),ab e 29 [iV 0,iV 0,.string (⟨#[]⟩)],ab j 29 [iV 1,iV 0,.string (⟨#[]⟩)],oDHeap B2 a.XX,oDTable d a.Ya]) ?_ ?_
  ·refine aG h ?_ ?_<;>intro h
   ·exact jY
   exact jY
  rintro _ _ ⟨f,h,rfl,rfl⟩;refine gH J h ?_ ?_<;>intro h
  ·refine cR h (fun _ k=>qS k) fun E h=> ?_
   exact jN
  refine cR h (fun _ k=>qS k) fun D h=> ?_
  exact jN
 rintro _ _ ⟨a6,a8,i,h,rfl,rfl⟩;refine aa ?_;refine bN (cB (R:=ca) (vss:=[[iV a6,iV a8,.string i]]) (xs:=[(⟨a6,a8,i⟩:VH)]) J (qf _ _ _) J J (fun _ _ hr=> .cons J All2.nil)) fun q o n=> ?_
 intro m;refine aa ?_;refine aF (fun s L=> ∃l,Dl N a a6 a8 i l=some r/\s=[(0,pV B1 0),(4,pV e 0),(6,pV m 0)]/\L=[bi A4 n4 c4 a.Yk,cx A5 n5 c5 a.Yl,bi A6 n6 c6 a.Ym,ab B1 85 (cF a B2 d A4 n4 c4 A5 n5 c5 A6 n6 c6),ab e 29 [iV 0,iV 0,.string (⟨#[]⟩)],aj q o n ([(⟨a6,a8,i⟩:VH)]:List VH),ab m 45 [iV 1,iV 0,iV l,iV 0,Y q o n,Y none 0 0],oDHeap B2 a.XX,oDTable d a.Ya]) ?_ ?_
 ·refine aG h ?_ ?_<;>intro h
  ·exact jY
  exact jY
 rintro _ _ ⟨l,h,rfl,rfl⟩;refine aH ?_;refine cy I ([bi A4 n4 c4 a.Yk,cx A5 n5 c5 a.Yl,bi A6 n6 c6 a.Ym,ab B1 85 (cF a B2 d A4 n4 c4 A5 n5 c5 A6 n6 c6),ab e 29 [iV 0,iV 0,.string (⟨#[]⟩)],ab m 45 [iV 1,iV 0,iV l,iV 0,Y q o n,Y none 0 0],oDTable d a.Ya]) (cS [0,1,2,3,4,6,8] 9) ?_;refine aa ?_;refine fg (cu 5 J) (cS [0,1,2,3,4,6,8] 9) ?_;obtain ⟨C,k,h⟩:=ad h;refine fg (km ca _) (cS [1,2,3,4,5,7,9] 10) ?_;refine zD 5 J (oC (DN k)) ?_;rintro _ _ ⟨_,⟨rfl,rfl⟩,rfl⟩;refine bE ?_;exact eY
def rp (a:Vz)(a1:VH):Option (Int×Vz):=
 (fJ N a).bind fun c=>bif c then (some (0,a)) else (ae (bC (a.Yb.length+([a1]:List VH).length)) (ae (in64 (((a.Yb++([a1]:List VH)).length:Int) - 1)) (some (((a.Yb++([a1]:List VH)).length:Int) - 1,(⟨a.m_,a.Yb++([a1]:List VH),a.Yg,a.Yf⟩:Vz)))))
theorem Qc {N:Nat}{a:Vz}{a1:VH}{r:Int×Vz}(h:rp N a a1=some r):Okc V5 39 [pV B1 0,(bS a1)] ([ab B1 128 [Y A2 n2 c2,Y A3 n3 c3,Y A4 n4 c4,Y A5 n5 c5,pV B6 0],aC A2 n2 c2 a.m_.XS,aC A3 n3 c3 a.m_.XR,aj A4 n4 c4 a.Yb,aj A5 n5 c5 a.Yg,ab B6 186 [.map (some M7)],aA ax aU M7 a.Yf.at_]) (fun u p=> ∃o f i A1 c c1 A2 n2 c2 A3 n3 c3 n,u=iV r.1/\p=[ab B1 128 [Y o f i,Y A1 c c1,Y A2 n2 c2,Y A3 n3 c3,pV B6 0],aC o f i r.2.m_.XS,aC A1 c c1 r.2.m_.XR,aj A2 n2 c2 r.2.Yb,aj A3 n3 c3 r.2.Yg,ab B6 186 [.map (some n)],aA ax aU n r.2.Yf.at_]):=by
 refine av Tryz.func39 ?_;intro e;refine sY ?_;refine cR h (fun _ k=>kI k) fun C h=> ?_
 refine gH J h ?_ ?_<;>intro h
 ·exact eY
 refine aa ?_;refine aH ?_;refine dx (t:=[(0,pV B1 0),(3,pV e 0),(4,iV 0)]) ?_ cL (ah _);refine fv I 7 [0] [0,4,6] [7,8,9,10,11,12,13] [[],[],[1],[2],[3],[],[5]] [aV (pV B1 0),
aV (pV B1 0),
aV (pV B1 0),
aV (pV B1 2),
aV (Y A4 n4 c4),
aV ((bS a1)),
aX3 (fun (a6:Option Addr) (a8 d:Nat)=> Y a6 a8 d) (fun a6 a8 d=> [aj a6 a8 d ([a1]:List VH)])] [] (ah _) (ft rfl fB) I rfl rfl ?_ ?_ ?_
 ·refine fu J ?_ ?_
  ·exact fC (ay J) J (bj J (ah _))
  exact fz
 ·refine bl J ?_ ?_
  ·refine fi (cB (R:=ca) (vss:=[(ee a1)]) (xs:=[a1]) J (qf _ _ _) J J (fun _ _ hr=> .cons J All2.nil)) J ?_;rintro _ _ ⟨B,A,z,rfl,rfl⟩;exact lp B A z (ah _)
  refine qR (db (us:=ee a1) 0 J J agg29.out J) ?_;refine qR (cn 1 J J gt J) ?_;refine qE (bW J lS) ?_;refine qE (cr J) ?_;refine qE (ay J) ?_;refine qE (ay J) ?_;exact fq
 intro a6 a8 d;refine eF (t:=[(7,pV B1 0),(11,Y A4 n4 c4),(13,Y a6 a8 d),(0,pV B1 0),(3,pV e 0),(4,iV 0)]) (L':=[aj a6 a8 d ([a1]:List VH),ab e 29 (ee a1),ab B1 128 [Y A2 n2 c2,Y A3 n3 c3,Y A4 n4 c4,Y A5 n5 c5,pV B6 0],aC A2 n2 c2 a.m_.XS,aC A3 n3 c3 a.m_.XR,aj A4 n4 c4 a.Yb,aj A5 n5 c5 a.Yg,ab B6 186 [.map (some M7)],aA ax aU M7 a.Yf.at_]) ?_ cL (ah _);obtain ⟨q,h⟩:=ai h;refine gP 7 J I (cG 5 0 J J aw J J z9 nm J J q) J J J ?_;rintro _ _ ⟨m,l,j,rfl,rfl⟩;refine jt 8 J I (cr J) J J J ?_;refine jt 9 J I (bW J lS) J J J ?_;refine gv 10 J I (bL (us:=[Y m l j]) (cs':=[Y A2 n2 c2,Y A3 n3 c3,Y m l j,Y A5 n5 c5,pV B6 0]) 2 J J J J size43.out J J J) J J ?_;rintro _ _ rfl;refine fw I ?_;refine aa ?_;obtain ⟨D,h⟩:=ai h;exact eY
theorem pj {N:Nat}{a:Vz}{a1:VH}{r:Int×Vz}(h:rp N a a1=some r):Okc V5 39 [pV B1 0,(bS a1)] ([oDHeap B1 a]) (fun u p=>u=iV r.1/\p=[oDHeap B1 r.2]):=il 0 rfl (fun _=>Qc h)
def mG (a:VK)(a1:VL):Option (VH×VK):=
 (rn N a.XX a1).bind fun a6=>bif !decide (a6.2.1=0) then (some ((⟨0,0,⟨#[]⟩⟩:VH),(⟨a.Yj,a.Ye,(),a6.2.2,a.Ya,a.Yk,a.Yh,a.Yr,a.Ys,a.Yl,a.Ym⟩:VK))) else (some ((⟨9,a6.1,⟨#[]⟩⟩:VH),(⟨a.Yj,a.Ye,(),a6.2.2,a.Ya,a.Yk,a.Yh,a.Yr,a.Ys,a.Yl,a.Ym⟩:VK)))
theorem um {N:Nat}{a1:VL}{r:VH×VK}(h:mG N a a1=some r):Okc V5 79 [pV B1 0,.agg #[iV a1.no,iV a1.XV,iV a1.XU,iV a1.XW,Y j m l,Y e i f]] ([ap j m l a1.XQ,ap e i f a1.XP,ab B1 85 (cF a B2 d A4 n4 c4 A5 n5 c5 A6 n6 c6),oDHeap B2 a.XX,oDTable d a.Ya,bi A4 n4 c4 a.Yk,cx A5 n5 c5 a.Yl,bi A6 n6 c6 a.Ym]) (fun u p=> ∃q n o A1 c c1 A2 n2 c2,u=.agg #[iV r.1.no,iV r.1.N,.string r.1.S]/\p=[ab B1 85 (cF r.2 B2 d q n o A1 c c1 A2 n2 c2),oDHeap B2 r.2.XX,oDTable d r.2.Ya,bi q n o r.2.Yk,cx A1 c c1 r.2.Yl,bi A2 n2 c2 r.2.Ym]):=by
 refine av Tryz.func79 ?_;intro t;refine bB fun a6=> ?_
 refine sZ ?_;refine aJ (gC J Vj) ?_;refine d8 J ?_;refine aa ?_;refine aH ?_;refine cy I ([ab a6 29 [iV 0,iV 0,.string (⟨#[]⟩)],ab t 45 (bw a1 j m l e i f),ap j m l a1.XQ,ap e i f a1.XP,ab B1 85 (cF a B2 d A4 n4 c4 A5 n5 c5 A6 n6 c6),oDTable d a.Ya,bi A4 n4 c4 a.Yk,cx A5 n5 c5 a.Yl,bi A6 n6 c6 a.Ym]) (cS [0,1,2,3,4,6,7,8,9] 10) ?_;refine aa ?_;obtain ⟨a8,k,h⟩:=ad h;refine zD 5 J (oC (DN k)) ?_;rintro _ _ ⟨_,⟨rfl,rfl⟩,rfl⟩;refine bE ?_;refine sY ?_;refine gH J h ?_ ?_<;>intro h
 ·exact eY
 exact eY
theorem Pk {N:Nat}{a1:VL}{r:VH×VK}(h:mG N a a1=some r){B1 B2 d:Nat}:Okc V5 79 [pV B1 0,.agg #[iV a1.no,iV a1.XV,iV a1.XU,iV a1.XW,Y A4 n4 c4,Y A5 n5 c5]] ([ap A4 n4 c4 a1.XQ,ap A5 n5 c5 a1.XP,oDWorld B1 B2 d a]) (fun u p=>u=.agg #[iV r.1.no,iV r.1.N,.string r.1.S]/\p=[oDWorld B1 B2 d r.2]):=il 2 rfl (fun _=>um h)
def IW (N:Nat)(a6 a8 z u t q p o n m:Int)(l:List ByteArray)(j i f:Int)(e:List Vv)(d:List ByteArray)(c:Vz)(a:VC):Option (Int ⊕ (VK×Int)):=
 some (.inr ((⟨(⟨a6,a8,z⟩:VJ),(⟨u,t,q,p,o,n,m⟩:VM),(),c,a,l,j,i,f,e,d⟩:VK),0))
def IY (B A z u t q p o n m:Int)(l:List ByteArray)(j i f:Int)(e:List Vv)(d:List ByteArray)(c:Vz)(a:VC):Option (Int ⊕ (VK×Int)):=
 (mG N (⟨(⟨B,A,z⟩:VJ),(⟨u,t,q,p,o,n,m⟩:VM),(),c,a,l,j,i,f,e,d⟩:VK) (⟨11,0,0,0,[],[]⟩:VL)).bind fun a6=>(rp N a6.2.XX a6.1).bind fun a8=>IW N a6.2.Yj.Yw a6.2.Yj.Yx a6.2.Yj.Yz a6.2.Ye.YD a6.2.Ye.Yy a6.2.Ye.Yq a6.2.Ye.YC a6.2.Ye.XS a6.2.Ye.YB a6.2.Ye.YE a6.2.Yk a6.2.Yh a6.2.Yr a6.2.Ys a6.2.Yl a6.2.Ym a8.2 a6.2.Ya
def Je (B A z c u t q p o n:Int)(m:List ByteArray)(a l j:Int)(i:List Vv)(f:List ByteArray)(e:Vz)(d:VC):Option (Int ⊕ (VK×Int)):=
 (mG N (⟨(⟨B,A,z⟩:VJ),(⟨c,u,t,q,p,o,n⟩:VM),(),e,d,m,a,l,j,i,f⟩:VK) (⟨11,0,0,0,[],[]⟩:VL)).bind fun a6=>(rp N a6.2.XX a6.1).bind fun a8=>IY N a6.2.Yj.Yw a6.2.Yj.Yx a6.2.Yj.Yz a6.2.Ye.YD a6.2.Ye.Yy a6.2.Ye.Yq a6.2.Ye.YC a6.2.Ye.XS a6.2.Ye.YB a6.2.Ye.YE a6.2.Yk a6.2.Yh a6.2.Yr a6.2.Ys a6.2.Yl a6.2.Ym a8.2 a6.2.Ya
def I0 (N:Nat)(a6:Int->Int->Int->Int->Int->Int->Int->Int->Int->Int->Int->(List ByteArray)->Int->Int->Int->(List Vv)->(List ByteArray)->Vz->VC->Option (Int ⊕ (VK×Int)))(a8 B A z u t q p o n m:Int)(l:List ByteArray)(j i f:Int)(e:List Vv)(d:List ByteArray)(c:Vz)(a:VC):Option (Int ⊕ (VK×Int)):=
 ae (in64 (a8+1)) (a6 (a8+1) B A z u t q p o n m l j i f e d c a)
def zB (N:Nat):Nat->Int->Int->Int->Int->Int->Int->Int->Int->Int->Int->Int->(List ByteArray)->Int->Int->Int->(List Vv)->(List ByteArray)->Vz->VC->Option (Int ⊕ (VK×Int))
 |0,_,_,_,_,_,_,_,_,_,_,_,_,_,_,_,_,_,_,_=>none
 |D+1,a8,B,A,z,u,t,q,p,o,n,m,l,j,i,f,e,d,c,a=>bif decide (a8<18) then ((HF N (⟨(⟨B,A,z⟩:VJ),(⟨u,t,q,p,o,n,m⟩:VM),(),c,a,l,j,i,f,e,d⟩:VK) a8).bind fun a6=>(rp N a6.2.XX a6.1).bind fun C=>I0 N (zB N D) a8 a6.2.Yj.Yw a6.2.Yj.Yx a6.2.Yj.Yz a6.2.Ye.YD a6.2.Ye.Yy a6.2.Ye.Yq a6.2.Ye.YC a6.2.Ye.XS a6.2.Ye.YB a6.2.Ye.YE a6.2.Yk a6.2.Yh a6.2.Yr a6.2.Ys a6.2.Yl a6.2.Ym C.2 a6.2.Ya) else (Je N B A z u t q p o n m l j i f e d c a)
def EW (a:VM):Option (Int ⊕ (VK×Int)):=
 (Ja N a).bind fun e=>bif !e then (some (.inl 1)) else ((E3 N).bind fun d=>(EQ N).bind fun c=>zB N N 0 0 0 0 a.YD a.Yy a.Yq a.YC a.XS a.YB a.YE [] 0 0 0 [] [] d c)
theorem Rr {N:Nat}{a:VM}{r:(Int ⊕ (VK×Int))}(h:EW N a=some r):Okc V5 25 [(FH a)] ([]) (fun u p=>nu (fun (r:Int)=>u=.tuple #[.pointer none,iV r]/\p=[]) (fun (r:VK×Int)=> ∃B0 B1 B2 A3 n3 c3 A4 n4 c4 A5 n5 c5,u=.tuple #[pV B0 0,iV r.2]/\p=[ab B0 85 (cF r.1 B1 B2 A3 n3 c3 A4 n4 c4 A5 n5 c5),oDHeap B1 r.1.XX,oDTable B2 r.1.Ya,bi A3 n3 c3 r.1.Yk,cx A4 n4 c4 r.1.Yl,bi A5 n5 c5 r.1.Ym]) r):=by
 refine av Tryz.func25 ?_;intro B1;refine sY ?_;obtain ⟨y2,k,h⟩:=ad h;refine cV (oR (QG k)) ?_;refine gH J h ?_ ?_<;>intro h
 ·exact eY
 refine aa ?_;refine dY [] ?_;refine aa ?_;obtain ⟨y4,k,h⟩:=ad h;refine o9 1 J (oC (Q4 k)) fun e=> ?_
 obtain ⟨y6,k,h⟩:=ad h;refine o9 2 J (oC (QQ k)) fun d=> ?_
 refine aa ?_;refine o9 4 J (sS J J) fun c=> ?_
 refine aa ?_;refine aF (fun s L=> ∃g7 g8 g9 i h0 h1 h2 h3 h4 h5 h6 f h7 h8 h9 i0 i1 i2 i3 i4 i5 i6 i7 i8 i9 j0 j1,Je N g7 g8 g9 i h0 h1 h2 h3 h4 h5 h6 f h7 h8 h9 i0 i1 i2=some r/\s=[(2,.pointer none),(3,iV 0),(4,pV c 0)]/\L=[bi i3 i4 i5 h6,cx i6 i7 i8 h9,bi i9 j0 j1 i0,ab c 85 [iV g7,iV g8,iV g9,iV i,iV h0,iV h1,iV h2,iV h3,iV h4,iV h5,.nilIface,pV e 0,pV d 0,Y i3 i4 i5,iV f,iV h7,iV h8,Y i6 i7 i8,Y i9 j0 j1],oDHeap e i1,oDTable d i2]) ?_ ?_
 ·refine aa ?_;refine dU (fun m s L=> ∃j j2 j3 j4 j5 j6 j7 j8 j9 k0 k2 k3 k4 k5 k6 k7 k8 k9 l0 l1 l2 l3 l4 l5 l6 l7 l8 l9,zB N m j j2 j3 j4 j5 j6 j7 j8 j9 k0 k2 k3 k4 k5 k6 k7 k8 k9 l0=some r/\s=[(2,.pointer none),(3,iV 0),(4,pV c 0),(14,iV j)]/\L=[bi l1 l2 l3 k3,cx l4 l5 l6 k7,bi l7 l8 l9 k8,ab c 85 [iV j2,iV j3,iV j4,iV j5,iV j6,iV j7,iV j8,iV j9,iV k0,iV k2,.nilIface,pV e 0,pV d 0,Y l1 l2 l3,iV k4,iV k5,iV k6,Y l4 l5 l6,Y l7 l8 l9],oDHeap e k9,oDTable d l0]) N _ _ ⟨0,0,0,0,a.YD,a.Yy,a.Yq,a.YC,a.XS,a.YB,a.YE,[],0,0,0,[],[],y4,y6,none,0,0,none,0,0,none,0,0,h,J,J⟩ sA ((ck eS 9 _).trans ((ck jE 319 _).trans ((ck eS 9 _).trans (cS [2,1,0,3,5,4] 7)))) ?_;rintro (_|v2)
  all_goals (refine fun s L=>Zb fun j j2 j3 j4 j5 j6=>Zb fun j7 j8 j9 k0 k2 k3=>Zb fun k4 k5 k6 k7 k8 k9=>Zb fun l0 l1 l2 l3 l4 l5=>Za fun l6 l7 l8=>ac fun l9=>d7 fun h=> ?_)
  ·exact bO h
  rw [zB.eq_2] at h;refine aa ?_;refine aH ?_;refine gH J h ?_ ?_<;>intro h
  ·refine aa ?_;refine aF (fun s L=> ∃m0 m1 m2 m3 m4 m5 m6 m7 m8 m9 n0 o0 o1 o2 o3 o4 o5 p0 p1 p2 p3 p4 p5 p6 p7 p8 q0,I0 N (zB N v2) j m0 m1 m2 m3 m4 m5 m6 m7 m8 m9 n0 o0 o1 o2 o3 o4 o5 p0=some r/\s=[(2,.pointer none),(3,iV 0),(4,pV c 0),(14,iV j)]/\L=[bi p1 p2 p3 n0,cx p4 p5 p6 o3,bi p7 p8 q0 o4,ab c 85 [iV m0,iV m1,iV m2,iV m3,iV m4,iV m5,iV m6,iV m7,iV m8,iV m9,.nilIface,pV e 0,pV d 0,Y p1 p2 p3,iV o0,iV o1,iV o2,Y p4 p5 p6,Y p7 p8 q0],oDHeap e o5,oDTable d p0]) ?_ ?_
   ·refine aa ?_;refine cy I ([]) (cS [] 6) ?_;refine zY [0,1,2,4,5] ?_;refine nh 3 6 I ?_ ?_
    ·refine iS J (jH (cn 3 J J mh J)) J J J ?_;rintro _ _ ⟨rfl,rfl⟩;refine bE ?_;obtain ⟨v6,b5,h⟩:=ad h;refine zD 6 J (oC (HE b5)) ?_;rintro _ _ ⟨_,⟨v7,v8,w0,w1,w2,w3,w4,w5,w6,rfl,rfl⟩,rfl⟩;refine bE ?_;refine bX ?_;obtain ⟨w7,b6,h⟩:=ad h;refine zD 7 J (oC (pj b6)) ?_;rintro _ _ ⟨_,⟨rfl,rfl⟩,rfl⟩;refine bE ?_;refine bX ?_;refine cJ I ?_;exact jY
    obtain ⟨v6,b5,h⟩:=ad h;refine iS J (oC (HE b5)) J J J ?_;rintro _ _ ⟨_,⟨v7,v8,w0,w1,w2,w3,w4,w5,w6,rfl,rfl⟩,rfl⟩;refine bE ?_;refine bX ?_;refine zD 3 J (jH (cn 0 J J mh J)) ?_;rintro _ _ ⟨rfl,rfl⟩;refine bE ?_;obtain ⟨w7,b6,h⟩:=ad h;refine zD 7 J (oC (pj b6)) ?_;rintro _ _ ⟨_,⟨rfl,rfl⟩,rfl⟩;refine bE ?_;refine bX ?_;refine cJ I ?_;exact jY
   refine fun s L=>Zb fun m0 m1 m2 m3 m4 m5=>Zb fun m6 m7 m8 m9 n0 o0=>Zb fun o1 o2 o3 o4 o5 p0=>Zb fun p1 p2 p3 p4 p5 p6=>Za fun p7 p8 q0=>d7 fun h=> ?_
   refine aa ?_;obtain ⟨x9,h⟩:=ai h;exact lY
  exact jY
 refine fun s L=>Zb fun g7 g8 g9 i h0 h1=>Zb fun h2 h3 h4 h5 h6 f=>Zb fun h7 h8 h9 i0 i1 i2=>Zb fun i3 i4 i5 i6 i7 i8=>Za fun i9 j0 j1=>d7 fun h=> ?_
 refine aF (fun s L=> ∃Z X V U T S R Q P O r1 M K H F E D C s2 B A z t q o n l,IY N Z X V U T S R Q P O r1 M K H F E D C=some r/\s=[(2,.pointer none),(3,iV 0),(4,pV c 0)]/\L=[bi s2 B A r1,cx z t q F,bi o n l E,ab c 85 [iV Z,iV X,iV V,iV U,iV T,iV S,iV R,iV Q,iV P,iV O,.nilIface,pV e 0,pV d 0,Y s2 B A,iV M,iV K,iV H,Y z t q,Y o n l],oDHeap e D,oDTable d C]) ?_ ?_
 ·refine cy I ([]) (cS [] 6) ?_;refine zY [0,1,2,4] ?_;refine zE 5 J (iW J (bld_45_0 _).out) ?_;refine nh 3 6 I ?_ ?_
  ·refine iS J (jH (cn 3 J J mh J)) J J J ?_;rintro _ _ ⟨rfl,rfl⟩;refine bE ?_;obtain ⟨w8,b7,h⟩:=ad h;refine fg (km ca _) (cS [] 7) ?_;refine fg (km ca _) (cS [] 8) ?_;refine zD 6 J (oC (um b7)) ?_;rintro _ _ ⟨_,⟨w9,x1,x2,x3,x4,x5,x6,x7,x8,rfl,rfl⟩,rfl⟩;refine bE ?_;refine bX ?_;obtain ⟨t2,a6,h⟩:=ad h;refine zD 7 J (oC (pj a6)) ?_;rintro _ _ ⟨_,⟨rfl,rfl⟩,rfl⟩;refine bE ?_;refine bX ?_;refine cJ I ?_;exact jY
  obtain ⟨w8,b7,h⟩:=ad h;refine BG (km ca _) (cS [] 7) ?_;refine BG (km ca _) (cS [] 8) ?_;refine iS J (oC (um b7)) J J J ?_;rintro _ _ ⟨_,⟨w9,x1,x2,x3,x4,x5,x6,x7,x8,rfl,rfl⟩,rfl⟩;refine bE ?_;refine bX ?_;refine zD 3 J (jH (cn 0 J J mh J)) ?_;rintro _ _ ⟨rfl,rfl⟩;refine bE ?_;obtain ⟨t2,a6,h⟩:=ad h;refine zD 7 J (oC (pj a6)) ?_;rintro _ _ ⟨_,⟨rfl,rfl⟩,rfl⟩;refine bE ?_;refine bX ?_;refine cJ I ?_;exact jY
 refine fun s L=>Zb fun Z X V U T S=>Zb fun R Q P O r1 M=>Zb fun K H F E D C=>Zb fun s2 B A z t q=>Za fun o n l=>d7 fun h=> ?_
 refine aF (fun s L=> ∃b9 c0 d0 d1 d2 d3 d4 e0 e1 e2 e3 e4 e5 e6 e7 e8 e9 f1 f2 f3 f9 g0 g1 g2 g3 g4 g5,IW N b9 c0 d0 d1 d2 d3 d4 e0 e1 e2 e3 e4 e5 e6 e7 e8 e9 f1=some r/\s=[(2,.pointer none),(3,iV 0),(4,pV c 0)]/\L=[bi f2 f3 f9 e3,cx g0 g1 g2 e7,bi g3 g4 g5 e8,ab c 85 [iV b9,iV c0,iV d0,iV d1,iV d2,iV d3,iV d4,iV e0,iV e1,iV e2,.nilIface,pV e 0,pV d 0,Y f2 f3 f9,iV e4,iV e5,iV e6,Y g0 g1 g2,Y g3 g4 g5],oDHeap e e9,oDTable d f1]) ?_ ?_
 ·refine cy I ([]) (cS [] 6) ?_;refine zY [0,1,2,4] ?_;refine zE 5 J (iW J (bld_45_0 _).out) ?_;refine nh 3 6 I ?_ ?_
  ·refine iS J (jH (cn 3 J J mh J)) J J J ?_;rintro _ _ ⟨rfl,rfl⟩;refine bE ?_;obtain ⟨u0,a8,h⟩:=ad h;refine fg (km ca _) (cS [] 7) ?_;refine fg (km ca _) (cS [] 8) ?_;refine zD 6 J (oC (um a8)) ?_;rintro _ _ ⟨_,⟨u1,u2,u3,u4,u5,u6,u7,u8,u9,rfl,rfl⟩,rfl⟩;refine bE ?_;refine bX ?_;obtain ⟨v1,b0,h⟩:=ad h;refine zD 7 J (oC (pj b0)) ?_;rintro _ _ ⟨_,⟨rfl,rfl⟩,rfl⟩;refine bE ?_;refine bX ?_;refine cJ I ?_;exact jY
  obtain ⟨u0,a8,h⟩:=ad h;refine BG (km ca _) (cS [] 7) ?_;refine BG (km ca _) (cS [] 8) ?_;refine iS J (oC (um a8)) J J J ?_;rintro _ _ ⟨_,⟨u1,u2,u3,u4,u5,u6,u7,u8,u9,rfl,rfl⟩,rfl⟩;refine bE ?_;refine bX ?_;refine zD 3 J (jH (cn 0 J J mh J)) ?_;rintro _ _ ⟨rfl,rfl⟩;refine bE ?_;obtain ⟨v1,b0,h⟩:=ad h;refine zD 7 J (oC (pj b0)) ?_;rintro _ _ ⟨_,⟨rfl,rfl⟩,rfl⟩;refine bE ?_;refine bX ?_;refine cJ I ?_;exact jY
 refine fun s L=>Zb fun b9 c0 d0 d1 d2 d3=>Zb fun d4 e0 e1 e2 e3 e4=>Zb fun e5 e6 e7 e8 e9 f1=>Zb fun f2 f3 f9 g0 g1 g2=>Za fun g3 g4 g5=>d7 fun h=> ?_
 exact eY
theorem II {N:Nat}{a:VM}{r:(Int ⊕ (VK×Int))}(h:EW N a=some r):Okc V5 25 [(FH a)] ([]) (fun u p=>nu (fun (r:Int)=>u=.tuple #[.pointer none,iV r]/\p=[]) (fun (r:VK×Int)=> ∃c B1 B2,u=.tuple #[pV c 0,iV r.2]/\p=[oDWorld c B1 B2 r.1]) r):=by
 rcases r with _|_<;>exact Hr (Rr h)
def sf:Option (Unit ⊕ VK):=
 (EW N (⟨0,1000,10,1000,1,3,1⟩:VM)).bind fun a=>dB a (fun y1_0=>bif !decide (y1_0=0) then (some (.inl ())) else (some (.inl ()))) (fun y1_1=>bif !decide (y1_1.2=0) then (some (.inl ())) else (some (.inr y1_1.1)))
theorem RJ {N:Nat}{r:(Unit ⊕ VK)}(h:sf N=some r):Okc V5 6 [] ([]) (fun u p=>nu (fun (r:Unit)=>u=.pointer none/\p=[]) (fun (r:VK)=> ∃a B1 B2,u=pV a 0/\p=[oDWorld a B1 B2 r]) r):=by
 refine av Tryz.func6 ?_;obtain ⟨c,a6,h⟩:=ad h;rcases c with y1_0|y1_1
 ·replace h:=gk h;refine cV (oC (II a6)) ?_;refine sZ ?_;refine gH J h ?_ ?_<;>intro h
  ·exact eY
  exact eY
 replace h:=gj h;refine gD (oC (II a6)) ?_;rintro _ _ ⟨_,⟨d,f,e,rfl,rfl⟩,rfl⟩;refine sY ?_;refine gH J h ?_ ?_<;>intro h
 ·exact eY
 exact eY
def rN:Option VK:=
 (sf N).bind fun s=>dB s (fun _=>none) some
theorem IH {N:Nat}{r:VK}(h:rN N=some r):Okc V5 6 [] ([]) (fun u p=> ∃a B1 B2,u=pV a 0/\p=[oDWorld a B1 B2 r]):=by
 have e:sf N=some (.inr r):=by
  unfold rN at h
  cases q:sf N with
  |none=>rw [q] at h;cases h
  |some s=>
   rw [q] at h
   cases s with
   |inl _=>cases h
   |inr w=>cases h;rfl
 exact RJ e
def dW (N:Nat)(a a1:Int):Option Bool:=
 ae ((a1:Int)≠0/\in64 (a.tdiv a1)) (some (decide ((a.tdiv a1).tmod 2=1)))
theorem gl {N:Nat}{a:Int}{r:Bool}(h:dW N a a1=some r):Okc V5 82 [iV a,iV a1] ([]) (fun u p=>u=.bool r/\p=[]):=by
 refine av Tryz.func82 ?_;obtain ⟨c,h⟩:=ai h;refine gE (mb J J c.1 c.2.1 c.2.2) ?_;refine aJ (iz J J (by decide)) ?_;exact eN
def dC (a:VE)(a1:Int):Option Bool:=
 (dW N a.Has a1).bind fun c=>some c
theorem eW {N:Nat}{a:VE}{r:Bool}(h:dC N a a1=some r):Okc V5 83 [(gL a),iV a1] ([]) (fun u p=>u=.bool r/\p=[]):=by
 refine av Tryz.func83 ?_;intro B1;refine cR h (fun _ k=>gl k) fun c h=> ?_
 exact eN
def mU (a:VE):Option Bool:=
 (dC N a 1).bind fun d=>(bif d then (some true) else ((dC N a 2).bind fun c=>some c)).bind fun b3=>some b3
theorem ES {N:Nat}{a:VE}{r:Bool}(h:mU N a=some r):Okc V5 80 [(gL a)] ([]) (fun u p=>u=.bool r/\p=[]):=by
 refine av Tryz.func80 ?_;intro B1;refine cR h (fun _ k=>eW k) fun d h=> ?_
 refine dJ 3 8 5 h (fun _ e h=> ?_) fun b3 h=> ?_
 ·refine cR h (fun _ k=>eW k) fun c h=> ?_
  exact gY
 exact eY
def lG (a:VE):Option Bool:=
 (dC N a 4).bind fun d=>(bif d then (some true) else ((dC N a 8).bind fun c=>some c)).bind fun b3=>some b3
theorem yE {N:Nat}{a:VE}{r:Bool}(h:lG N a=some r):Okc V5 81 [(gL a)] ([]) (fun u p=>u=.bool r/\p=[]):=by
 refine av Tryz.func81 ?_;intro B1;refine cR h (fun _ k=>eW k) fun d h=> ?_
 refine dJ 3 8 5 h (fun _ e h=> ?_) fun b3 h=> ?_
 ·refine cR h (fun _ k=>eW k) fun c h=> ?_
  exact gY
 exact eY
def vz (N:Nat)(a:VH)(a1:Bool):Option Bool:=
 bif !a1 then (some (decide (a=(⟨0,0,⟨#[]⟩⟩:VH)))) else ((bif decide (a.no=0) then (some true) else (some (decide (a.no=7)))).bind fun b3=>some b3)
theorem Jq {N:Nat}{a:VH}{a1 r:Bool}(h:vz N a a1=some r):Okc V5 84 [(bS a),.bool a1] ([]) (fun u p=>u=.bool r/\p=[]):=by
 refine av Tryz.func84 ?_;intro B1;refine sY ?_;refine gH J h ?_ ?_<;>intro h
 ·refine aa ?_;refine aJ (vN (x:=a) (y:=(⟨0,0,⟨#[]⟩⟩:VH)) J J) ?_;exact eN
 refine aa ?_;refine gS 4 17 13 h ?_;intro b3 h;exact eY
def Ab (a:VE):Option Bool:=
 (bif decide (a.Has<0) then (some true) else (some (decide (63<a.Has)))).bind fun b2=>(bif b2 then (some true) else (some (decide (a.XT<0)))).bind fun b3=>(bif b3 then (some true) else (some (decide (7<a.XT)))).bind fun b4=>(bif b4 then (some true) else ((mU N a).bind fun d=>(bif d then ((lG N a).bind fun c=>some c) else (some false)).bind fun D=>some D)).bind fun F=>bif F then (some false) else ((dW N a.XT 1).bind fun a6=>(bif a6 then ((dC N a 2).bind fun a8=>some (!a8)) else (some false)).bind fun H=>(bif H then (some true) else ((dW N a.XT 2).bind fun E=>(bif E then ((dC N a 16).bind fun C=>some (!C)) else (some false)).bind fun B=>some B)).bind fun A=>(bif A then (some true) else ((dW N a.XT 4).bind fun z=>(bif z then ((dC N a 32).bind fun u=>some (!u)) else (some false)).bind fun t=>some t)).bind fun q=>bif q then (some false) else ((dC N a 1).bind fun p=>(bif !p then (some (!decide (a.Value=(⟨0,0,⟨#[]⟩⟩:VH)))) else (some false)).bind fun o=>(bif o then (some true) else (some (decide (a.Value.no<0)))).bind fun n=>(bif n then (some true) else (some (decide (7<a.Value.no)))).bind fun m=>bif m then (some false) else ((dC N a 4).bind fun l=>(vz N a.Yc l).bind fun j=>(bif j then ((dC N a 8).bind fun i=>(vz N a.Yd i).bind fun f=>some f) else (some false)).bind fun e=>some e)))
theorem Re {N:Nat}{a:VE}{r:Bool}(h:Ab N a=some r):Okc V5 26 [(gL a)] ([]) (fun u p=>u=.bool r/\p=[]):=by
 refine av Tryz.func26 ?_;intro B1;refine sY ?_;refine gS 4 10 6 h ?_;intro b2 h;refine aa ?_;refine gS 4 15 11 h ?_;intro b3 h;refine aa ?_;refine gS 4 20 16 h ?_;intro b4 h;refine aa ?_;obtain ⟨Q,q,h⟩:=ad h;refine eD 7 28 Q ?_ ?_
 ·clear h;refine eE 21 J (fun d=> ?_) (fun d=> ?_)
  ·have h:=du d q;exact gY
  have h:=dt d q;refine aa ?_;obtain ⟨S,k,h⟩:=ad h;refine gU (oR (ES k)) (bY d J) ?_;refine aa ?_;obtain ⟨P,o,h⟩:=ad h;refine eD 3 27 P ?_ ?_
  ·clear h;refine eE 24 J (fun c=> ?_) (fun c=> ?_)
   ·have h:=du c o;refine aa ?_;obtain ⟨R,k,h⟩:=ad h;refine gU (oR (yE k)) (be c J) ?_;exact gY
   have h:=dt c o;exact gY
  exact gY
 refine aG h ?_ ?_<;>intro h
 ·exact eY
 refine sY ?_;obtain ⟨f3,k,h⟩:=ad h;refine cV (oR (gl k)) ?_;obtain ⟨O,a8,h⟩:=ad h;refine eD 4 36 O ?_ ?_
 ·clear h;refine eE 32 J (fun n=> ?_) (fun n=> ?_)
  ·have h:=du n a8;refine aa ?_;obtain ⟨f9,k,h⟩:=ad h;refine gU (oR (eW k)) (be n J) ?_;exact gY
  have h:=dt n a8;exact gY
 refine aa ?_;obtain ⟨M,D,h⟩:=ad h;refine eD 9 46 M ?_ ?_
 ·clear h;refine eE 37 J (fun m=> ?_) (fun m=> ?_)
  ·have h:=du m D;exact gY
  have h:=dt m D;refine aa ?_;obtain ⟨g0,k,h⟩:=ad h;refine gU (oR (gl k)) (bY m J) ?_;refine aa ?_;obtain ⟨L,C,h⟩:=ad h;refine eD 4 45 L ?_ ?_
  ·clear h;refine eE 41 J (fun j=> ?_) (fun j=> ?_)
   ·have h:=du j C;refine aa ?_;obtain ⟨g1,k,h⟩:=ad h;refine gU (oR (eW k)) (be j J) ?_;exact gY
   have h:=dt j C;exact gY
  exact gY
 refine aa ?_;obtain ⟨K,B,h⟩:=ad h;refine eD 9 56 K ?_ ?_
 ·clear h;refine eE 47 J (fun i=> ?_) (fun i=> ?_)
  ·have h:=du i B;exact gY
  have h:=dt i B;refine aa ?_;obtain ⟨g2,k,h⟩:=ad h;refine gU (oR (gl k)) (bY i J) ?_;refine aa ?_;obtain ⟨H,A,h⟩:=ad h;refine eD 4 55 H ?_ ?_
  ·clear h;refine eE 51 J (fun f=> ?_) (fun f=> ?_)
   ·have h:=du f A;refine aa ?_;obtain ⟨g3,k,h⟩:=ad h;refine gU (oR (eW k)) (be f J) ?_;exact gY
   have h:=dt f A;exact gY
  exact gY
 refine aG h ?_ ?_<;>intro h
 ·exact eY
 refine sY ?_;obtain ⟨g4,k,h⟩:=ad h;refine cV (oR (eW k)) ?_;obtain ⟨F,z,h⟩:=ad h;refine eD 5 65 F ?_ ?_
 ·clear h;refine eE 60 J (fun e=> ?_) (fun e=> ?_)
  ·have h:=du e z;refine aa ?_;refine bR (Kk (x:=a.Value) (y:=(⟨0,0,⟨#[]⟩⟩:VH)) J J) J (be e J) J ?_;exact gY
  have h:=dt e z;exact gY
 refine aa ?_;refine gS 5 71 66 h ?_;intro g6 h;refine aa ?_;refine gS 5 77 72 h ?_;intro Z h;refine aG h ?_ ?_<;>intro h
 ·exact eY
 refine aa ?_;refine dY [0,1,2] ?_;obtain ⟨X,k,h⟩:=ad h;refine zD 3 J (oR (eW k)) ?_;rintro _ _ ⟨_,⟨rfl,rfl⟩,rfl⟩;refine ⟨_,ah _,ah _,?_⟩;obtain ⟨V,k,h⟩:=ad h;refine zD 4 J (oR (Jq k)) ?_;rintro _ _ ⟨_,⟨rfl,rfl⟩,rfl⟩;refine ⟨_,ah _,ah _,?_⟩;refine zY [5] ?_;obtain ⟨E,t,h⟩:=ad h;refine vR (fun l=>((((((l.setIfInBounds 6 true).setIfInBounds 7 true).setIfInBounds 8 true).setIfInBounds 9 true).setIfInBounds 10 true).setIfInBounds 11 true)) 1 89 E (fun rest=> ?_) ?_
 ·clear h;refine wq 83 J (fun a6=> ?_) (fun a6=> ?_)
  ·have h:=du a6 t;refine ei 6 J I (bW J Nl) (be a6 J) J ?_;refine gb 7 J I (db (us:=ee a.Yd) 0 J J agg29.out J) (be a6 J) J ?_;refine gb 8 J I (db (us:=iJ a) 0 J J agg36.out J) (be a6 J) J ?_;obtain ⟨U,k,h⟩:=ad h;refine iI 9 J I (oR (eW k)) J (be a6 J) J ?_;rintro _ _ ⟨_,⟨rfl,rfl⟩,rfl⟩;refine ⟨_,ah _,ah _,?_⟩;obtain ⟨T,k,h⟩:=ad h;refine iI 10 J I (oR (Jq k)) J (be a6 J) J ?_;rintro _ _ ⟨_,⟨rfl,rfl⟩,rfl⟩;refine ⟨_,ah _,ah _,?_⟩;refine zE 11 J (oh a6 J J) ?_;obtain rfl:=bn h;exact jg rest (jB J (bc (bc (bc (bc (bc (bc dG J) J) J) J) J) J)) (ah _) (ah _)
  have h:=dt a6 t;refine cT 6 J I (eK a6 J) J ?_;refine cT 7 J I (eK a6 J) J ?_;refine cT 8 J I (eK a6 J) J ?_;refine cT 9 J I (eK a6 J) J ?_;refine cT 10 J I (eK a6 J) J ?_;refine zE 11 J (pY a6 J J) ?_;obtain rfl:=bn h;exact jg rest (jB J (bc (bc (bc (bc (bc (bc dG J) J) J) J) J) J)) (ah _) (ah _)
 refine zX [12] ?_;exact eY
def od (N:Nat)(a1:Int)(a:VH)(c:Bool):Option Bool:=
 bif c then ((bif decide (a.N=0) then (some (a.S.toList==(⟨#[]⟩:ByteArray).toList)) else (some false)).bind fun e=>some e) else (bif decide (a.no=3) then ((bif a.S.toList==(⟨#[]⟩:ByteArray).toList then (some (decide ((-9007199254740992)<=a.N))) else (some false)).bind fun d=>(bif d then (some (decide (a.N<=9007199254740992))) else (some false)).bind fun a6=>some a6) else (bif decide (a.no=5) then ((bif decide (a.N=0) then (some (decide ((a.S.size:Int)<=65536))) else (some false)).bind fun b12=>some b12) else (bif decide (a.no=7) then ((bif a.S.toList==(⟨#[]⟩:ByteArray).toList then (some (decide (0<=a.N))) else (some false)).bind fun a8=>(bif a8 then (some (decide (a.N<a1))) else (some false)).bind fun f=>some f) else (some false))))
def pN (a:VH)(a1:Int):Option Bool:=
 bif decide (a.no=0) then (od N a1 a (decide (a.no=0))) else (bif decide (a.no=1) then (od N a1 a (decide (a.no=1))) else (od N a1 a (decide (a.no=4))))
theorem zT {N:Nat}{a:VH}{r:Bool}(h:pN N a a1=some r):Okc V5 27 [(bS a),iV a1] ([]) (fun u p=>u=.bool r/\p=[]):=by
 refine av Tryz.func27 ?_;intro B1;refine sY ?_;refine aF (fun s L=> ∃c,od N a1 a c=some r/\s=[(1,iV a1),(2,pV B1 0),(4,.bool false),(6,iV a.no),(7,.bool c)]/\L=[ab B1 29 (ee a)]) ?_ ?_
 ·refine aG h ?_ ?_<;>intro h
  ·exact jY
  refine aG h ?_ ?_<;>intro h
  ·exact jY
  exact jY
 rintro _ _ ⟨c,h,rfl,rfl⟩;refine gH J h ?_ ?_<;>intro h
 ·refine aa ?_;refine bF 4 18 14 h (fun _ d h=> ?_) fun f h=> ?_
  ·refine aa ?_;refine bR (kh J J) J (be d J) J ?_;exact gY
  exact eY
 refine aG h ?_ ?_<;>intro h
 ·refine aa ?_;refine aJ (kh J J) ?_;refine gS 4 28 24 h ?_;intro e h;refine aa ?_;refine gS 4 33 29 h ?_;intro a8 h;exact eY
 refine aG h ?_ ?_<;>intro h
 ·refine aa ?_;refine bF 5 44 39 h (fun _ a6 h=> ?_) fun b12 h=> ?_
  ·refine aa ?_;refine bR (jD J Vi) J (be a6 J) J ?_;exact gY
  exact eY
 refine aG h ?_ ?_<;>intro h
 ·refine aa ?_;refine aJ (kh J J) ?_;refine gS 4 54 50 h ?_;intro j h;refine aa ?_;refine gS 5 60 55 h ?_;intro i h;exact eY
 exact eY
end Go.Proofs.YthhiddkljcacaaaGreat
namespace Go.Proofs.YthhiddkljcacaaaGreat
variable (N:Nat){a1:Int}{ff:Int->Option Bool}{z:V3}{c:VK}{a2:VL}{vf:Value}
variable {A1 A2 A3 A4 A5 A6 e f m:Option Addr}{B1 B2 a B6 i M7 c1 c2 c3 c4 c5 c6 q j n d n2 n3 n4 n5 n6 t l o:Nat}
open Go.RowKit Asn
set_option maxRecDepth 20000
def Fe (N:Nat):Option Int:=
 some 1
def At (N:Nat)(a1:Int)(c:List Vx):Nat->Int->Int->Option Int
 |0,_,_=>none
 |e+1,d,a=>bif decide (a<(c.length:Int)) then ((ak c a).bind fun x8=>ae (in64 ((x8.K.S.size:Int)+(x8.V.S.size:Int))) (ae (in64 (((x8.K.S.size:Int)+(x8.V.S.size:Int))+(x8.D.Value.S.size:Int))) (ae (in64 (d+(((x8.K.S.size:Int)+(x8.V.S.size:Int))+(x8.D.Value.S.size:Int)))) (bif decide (70000<d+(((x8.K.S.size:Int)+(x8.V.S.size:Int))+(x8.D.Value.S.size:Int))) then (some 0) else ((bif decide (x8.O<0) then (some true) else (some (decide (a1<=x8.O)))).bind fun a6=>(bif a6 then (some true) else (some (decide (x8.P<(-1))))).bind fun a8=>(bif a8 then (some true) else (some (decide (a1<=x8.P)))).bind fun b16=>(bif b16 then (some true) else ((Ab N x8.D).bind fun t=>some (!t))).bind fun q=>(bif q then (some true) else ((pN N x8.V a1).bind fun p=>some (!p))).bind fun o=>(bif o then (some true) else ((pN N x8.D.Value a1).bind fun n=>some (!n))).bind fun m=>(bif m then (some true) else ((pN N x8.D.Yc a1).bind fun l=>some (!l))).bind fun j=>(bif j then (some true) else ((pN N x8.D.Yd a1).bind fun i=>some (!i))).bind fun f=>bif f then (some 0) else (ae (in64 (a+1)) ((At N a1 c e) (d+(((x8.K.S.size:Int)+(x8.V.S.size:Int))+(x8.D.Value.S.size:Int))) (a+1)))))))) else (Fe N)
def vI (c:List Vx)(a1:Int):Option Int:=
 bif decide (40<(c.length:Int)) then (some 0) else (At N a1 c N 0 0)
theorem Sf {N:Nat}{c:List Vx}{r:Int}(h:vI N c a1=some r):Okc V5 7 [Y A1 d c1,iV a1] ([aL lq (Y A1 d c1) c]) (fun u p=>u=iV r/\p=[]):=by
 refine av Tryz.func7 ?_;refine sZ ?_;refine gH J h ?_ ?_<;>intro h
 ·exact eY
 refine aa ?_;refine aF (fun s L=>Fe N=some r/\s=[(4,iV 0)]/\L=[]) ?_ ?_
 ·refine aa ?_;refine lK (fun m s L=> ∃(e:Int) (a:Int),At N a1 c m e a=some r/\s=[(0,Y A1 d c1),(1,iV a1),(4,iV 0),(5,iV e),(6,iV a)]/\L=[aL lq (Y A1 d c1) c]) N ?_;rintro f _ _ ⟨e,a,h,rfl,rfl⟩;rw [At.eq_2] at h;refine sZ ?_;refine gH J h ?_ ?_<;>intro h
  ·refine sY ?_;obtain ⟨x8,a6,a8,S,h⟩:=aI h;refine bB fun T=> ?_
   refine aJ (jD J Vi) ?_;refine gE (jD J Vi) ?_;obtain ⟨R,h⟩:=ai h;refine aa ?_;refine gE (jD J Vi) ?_;obtain ⟨Q,h⟩:=ai h;refine aa ?_;obtain ⟨P,h⟩:=ai h;refine sY ?_;refine gH J h ?_ ?_<;>intro h
   ·exact eY
   refine aa ?_;refine gS 5 48 43 h ?_;intro O h;refine aa ?_;refine gS 4 53 49 h ?_;intro M h;refine aa ?_;refine gS 5 59 54 h ?_;intro b16 h;refine aa ?_;refine dJ 5 65 60 h (fun _ K h=> ?_) fun H h=> ?_
   ·refine cR h (fun _ k=>Re k) fun F h=> ?_
    exact gY
   refine aa ?_;refine dJ 6 72 66 h (fun _ E h=> ?_) fun D h=> ?_
   ·refine cR h (fun _ k=>zT k) fun C h=> ?_
    exact gY
   refine aa ?_;refine dJ 7 80 73 h (fun _ B h=> ?_) fun A h=> ?_
   ·refine cR h (fun _ k=>zT k) fun z h=> ?_
    exact gY
   refine aa ?_;refine dJ 7 88 81 h (fun _ t h=> ?_) fun q h=> ?_
   ·refine cR h (fun _ k=>zT k) fun o h=> ?_
    exact gY
   refine aa ?_;refine dJ 7 96 89 h (fun _ n h=> ?_) fun l h=> ?_
   ·refine cR h (fun _ k=>zT k) fun j h=> ?_
    exact gY
   refine aG h ?_ ?_<;>intro h
   ·exact eY
   refine aa ?_;obtain ⟨i,h⟩:=ai h;exact lY
  exact jY
 rintro _ _ ⟨h,rfl,rfl⟩;exact eY
theorem Rf {r:Int}: ∀v post,((fun (u:Value) (post:V3)=>u=iV r/\post=[])) v post-> ∀c∈post,bP c:=by
 rintro _ _ ⟨rfl,rfl⟩;exact aW
def Em (N:Nat)(c:Int)(a:Bool):Option (VO×Bool):=
 bif a then (some (([(⟨3,0,⟨#[]⟩⟩:VH),(⟨0,0,⟨#[]⟩⟩:VH)]:List VH),true)) else (bif decide (c=7) then (some (([(⟨0,0,⟨#[]⟩⟩:VH),(⟨0,0,⟨#[]⟩⟩:VH),(⟨3,0,⟨#[]⟩⟩:VH),(⟨3,0,⟨#[]⟩⟩:VH)]:List VH),true)) else (some ([],false)))
def zg (c:Int)(a:Bool):Option (VO×Bool):=
 bif a then (some ([],true)) else (bif decide (c=6) then (Em N c (decide (c=6))) else (Em N c (decide (c=9))))
def IX (c:Int):Option (VO×Bool):=
 bif decide (c=1) then (zg N c (decide (c=1))) else (bif decide (c=2) then (zg N c (decide (c=2))) else (zg N c (decide (c=8))))
theorem QM {N:Nat}{c:Int}{r:VO×Bool}(h:IX N c=some r):Okc V5 35 [iV c] ([]) (fun u p=> ∃i e f,u=.tuple #[Y i e f,.bool r.2]/\p=[aj i e f r.1]):=by
 refine av Tryz.func35 ?_;intro B1;refine sY ?_;refine aF (fun s L=> ∃d,zg N c d=some r/\s=[(2,Y none 0 0),(3,.bool false),(4,pV B1 0),(6,iV c),(7,.bool d)]/\L=[ab B1 29 [iV 3,iV 0,.string (⟨#[]⟩)]]) ?_ ?_
 ·refine aG h ?_ ?_<;>intro h
  ·exact jY
  refine aG h ?_ ?_<;>intro h
  ·exact jY
  exact jY
 rintro _ _ ⟨d,h,rfl,rfl⟩;refine gH J h ?_ ?_<;>intro h
 ·refine aa ?_;obtain rfl:=bn h;exact kY J J J ((ck ca 29 _).trans (cS [0] 2)) ⟨_,_,_,J,J⟩
 refine aF (fun s L=> ∃a,Em N c a=some r/\s=[(2,Y none 0 0),(3,.bool false),(4,pV B1 0),(6,iV c),(11,.bool a)]/\L=[ab B1 29 [iV 3,iV 0,.string (⟨#[]⟩)]]) ?_ ?_
 ·refine aG h ?_ ?_<;>intro h
  ·exact jY
  exact jY
 rintro _ _ ⟨a,h,rfl,rfl⟩;refine gH J h ?_ ?_<;>intro h
 ·refine aa ?_;refine bN (cB (R:=ca) (vss:=[[iV 3,iV 0,.string (⟨#[]⟩)],[iV 0,iV 0,.string (⟨#[]⟩)]]) (xs:=[(⟨3,0,⟨#[]⟩⟩:VH),(⟨0,0,⟨#[]⟩⟩:VH)]) J (Lo _ _ _ _ _ _) J J (fun _ _ hr=> .cons J (.cons J All2.nil))) fun a6 a8 n=> ?_
  exact eN
 refine aG h ?_ ?_<;>intro h
 ·refine aa ?_;refine bN (cB (R:=ca) (vss:=[[iV 0,iV 0,.string (⟨#[]⟩)],[iV 0,iV 0,.string (⟨#[]⟩)],[iV 3,iV 0,.string (⟨#[]⟩)],[iV 3,iV 0,.string (⟨#[]⟩)]]) (xs:=[(⟨0,0,⟨#[]⟩⟩:VH),(⟨0,0,⟨#[]⟩⟩:VH),(⟨3,0,⟨#[]⟩⟩:VH),(⟨3,0,⟨#[]⟩⟩:VH)]) J (Uy _ _ _ _ _ _ _ _ _ _ _ _) J J (fun _ _ hr=> .cons J (.cons J (.cons J (.cons J All2.nil))))) fun m l j=> ?_
  exact eN
 refine aa ?_;obtain rfl:=bn h;exact kY J J J ((ck ca 29 _).trans (cS [0] 2)) ⟨_,_,_,J,J⟩
def nS (N:Nat)(c:VH):Option Bool:=
 (bif decide (c.no=7) then (some true) else (some (decide (c.no=9)))).bind fun b2=>some b2
theorem Ed {N:Nat}{c:VH}{r:Bool}(h:nS N c=some r):Okc V5 54 [(bS c)] ([]) (fun u p=>u=.bool r/\p=[]):=by
 refine av Tryz.func54 ?_;intro B1;refine aa ?_;refine gS 4 10 6 h ?_;intro b2 h;exact eY
theorem Ql {r:Bool}: ∀v post,((fun (u:Value) (post:V3)=>u=.bool r/\post=[])) v post-> ∀c∈post,bP c:=by
 rintro _ _ ⟨rfl,rfl⟩;exact aW
def yR (N:Nat)(a1:Int)(c:VX)(a:Int):Option (VX×Int×Bool):=
 (bif decide (0<a1) then (some (decide (a<(c.length:Int)))) else (some false)).bind fun a6=>some (c,a,a6)
def uR (c:Vw)(a1:Int):Option (VX×Int×Bool):=
 ae (in64 (a1.tdiv 2)) (bif decide (a1.tmod 2=0) then (ae (in64 (a1.tdiv 2)) (ae (in64 ((a1.tdiv 2) - 1)) (yR N a1 c.XR ((a1.tdiv 2) - 1)))) else (yR N a1 c.XS (a1.tdiv 2)))
theorem IQ {N:Nat}{c:Vw}{r:VX×Int×Bool}(h:uR N c a1=some r):Okc V5 194 [.agg #[Y A1 d c1,Y A2 n2 c2],iV a1] ([aq A1 d c1 c.XS,aq A2 n2 c2 c.XR]) (fun u p=> ∃n l m,u=.tuple #[Y n l m,iV r.2.1,.bool r.2.2]/\p=[aq n l m r.1]):=by
 refine av Tryz.func194 ?_;intro a;refine aa ?_;obtain ⟨j,h⟩:=ai h;refine aJ (mb J J (by decide) j.1 j.2) ?_;refine aF (fun s L=> ∃f e A6 n6 c6,yR N a1 f e=some r/\s=[(1,iV a1),(4,Y none 0 0),(5,iV 0),(6,.bool false),(7,Y A6 n6 c6),(8,iV e)]/\L=[aq A6 n6 c6 f]) ?_ ?_
 ·refine aa ?_;refine aJ (iz J J (by decide)) ?_;refine gH J h ?_ ?_<;>intro h
  ·refine aa ?_;obtain ⟨i,h⟩:=ai h;refine gE (mb J J (by decide) i.1 i.2) ?_;obtain ⟨a6,h⟩:=ai h;exact jY
  exact jY
 rintro _ _ ⟨f,e,A6,n6,c6,h,rfl,rfl⟩;refine aa ?_;refine gS 5 30 25 h ?_;intro a8 h;exact eY
def mO (c:Vw)(a1:Int):Option Bool:=
 (uR N c a1).bind fun a=>some a.2.2
theorem rR {N:Nat}{c:Vw}{r:Bool}(h:mO N c a1=some r):Okc V5 164 [.agg #[Y A1 d c1,Y A2 n2 c2],iV a1] ([aq A1 d c1 c.XS,aq A2 n2 c2 c.XR]) (fun u p=>u=.bool r/\p=[]):=by
 refine av Tryz.func164 ?_;intro a;refine Hj h (fun _ k=>IQ k) fun e A5 n5 c5 h=> ?_
 exact eN
def nM (c:Vz)(a1:Int):Option Bool:=
 (fJ N c).bind fun a=>(bif !a then ((mO N c.m_ a1).bind fun a6=>some a6) else (some false)).bind fun d=>some d
theorem uA {N:Nat}{c:Vz}{r:Bool}(h:nM N c a1=some r):Okc V5 103 [pV B1 0,iV a1] ([aQ B1 128 [Y A2 n2 c2,Y A3 n3 c3,Y A4 n4 c4,Y A5 n5 c5,pV B6 0],aq A2 n2 c2 c.m_.XS,aq A3 n3 c3 c.m_.XR,ap A4 n4 c4 c.Yb,ap A5 n5 c5 c.Yg,aQ B6 186 [.map (some M7)],cK ax aU M7 c.Yf.at_]) (fun u p=>u=.bool r/\p=[]):=by
 refine av Tryz.func103 ?_;refine cR h (fun _ k=>kI k) fun a h=> ?_
 refine bF 7 15 8 h (fun _ d h=> ?_) fun e h=> ?_
 ·refine cR h (fun _ k=>rR k) fun a6 h=> ?_
  exact gY
 exact eY
def rj (N:Nat)(c:Vz)(a1:Int):Option (Int ⊕ Int):=
 bif decide (a1.tmod 2=1) then (ae (in64 (a1.tdiv 2)) ((ak c.m_.XS (a1.tdiv 2)).bind fun a6=>some (.inl (a1.tdiv 2)))) else (ae (in64 (a1.tdiv 2)) (ae (in64 ((a1.tdiv 2) - 1)) ((ak c.m_.XR ((a1.tdiv 2) - 1)).bind fun a8=>some (.inr ((a1.tdiv 2) - 1)))))
theorem rc {N:Nat}{c:Vz}{r:(Int ⊕ Int)}(h:rj N c a1=some r):Okc V5 105 [pV B1 0,iV a1] ([aQ B1 128 [Y A2 n2 c2,Y A3 n3 c3,Y A4 n4 c4,Y A5 n5 c5,pV B6 0],aq A2 n2 c2 c.m_.XS,aq A3 n3 c3 c.m_.XR,ap A4 n4 c4 c.Yb,ap A5 n5 c5 c.Yg,aQ B6 186 [.map (some M7)],cK ax aU M7 c.Yf.at_]) (fun u p=>nu (fun (r:Int)=>u=bD (Y A2 n2 c2) r.toNat 6 0/\p=[]) (fun (r:Int)=>u=bD (Y A3 n3 c3) r.toNat 6 0/\p=[]) r):=by
 refine av Tryz.func105 ?_;refine sZ ?_;refine aJ (iz J J (by decide)) ?_;refine gH J h ?_ ?_<;>intro h
 ·refine aa ?_;obtain ⟨a,h⟩:=ai h;refine gE (mb J J (by decide) a.1 a.2) ?_;obtain ⟨f,a8,n,m,h⟩:=aI h;exact eY
 refine aa ?_;obtain ⟨a6,h⟩:=ai h;refine gE (mb J J (by decide) a6.1 a6.2) ?_;obtain ⟨e,h⟩:=ai h;refine aa ?_;obtain ⟨d,l,j,i,h⟩:=aI h;exact eY
def uJ (c:Vz)(a1:Int):Option (VL×Bool):=
 (nM N c a1).bind fun a=>bif !a then (some ((⟨0,0,0,0,[],[]⟩:VL),false)) else ((rj N c a1).bind fun a6=>dB a6 (fun y13_0=>(ak c.m_.XS y13_0).bind fun a8=>(iP N a8).bind fun f=>some (f,true)) (fun y13_1=>(ak c.m_.XR y13_1).bind fun e=>(iP N e).bind fun d=>some (d,true)))
theorem QA {N:Nat}{c:Vz}{r:VL×Bool}(h:uJ N c a1=some r):Okc V5 55 [pV B1 0,iV a1] ([aQ B1 128 [Y A2 n2 c2,Y A3 n3 c3,Y A4 n4 c4,Y A5 n5 c5,pV B6 0],aq A2 n2 c2 c.m_.XS,aq A3 n3 c3 c.m_.XR,ap A4 n4 c4 c.Yb,ap A5 n5 c5 c.Yg,aQ B6 186 [.map (some M7)],cK ax aU M7 c.Yf.at_]) (fun u p=> ∃j a i A1 d c1,u=.tuple #[.agg #[iV r.1.no,iV r.1.XV,iV r.1.XU,iV r.1.XW,Y j a i,Y A1 d c1],.bool r.2]/\p=[aj j a i r.1.XQ,aj A1 d c1 r.1.XP]):=by
 refine av Tryz.func55 ?_;intro B8;refine sY ?_;refine cR h (fun _ k=>uA k) fun P h=> ?_
 refine gH J h ?_ ?_<;>intro h
 ·refine aa ?_;obtain rfl:=bn h;exact me (rs:=[.cell 4 45,.tmp 5]) (vs:=[.agg #[iV 0,iV 0,iV 0,iV 0,Y none 0 0,Y none 0 0],.bool false]) J (.cons (lV 0 J J agg45.out) (.cons (ng J) .nil)) J ((ck ca 29 _).trans ((ck ca 29 _).trans (cS [1,0] 10))) ⟨_,_,_,_,_,_,J,J⟩
 refine aa ?_;obtain ⟨F,a6,h⟩:=ad h;rcases F with y13_0|y13_1
 ·replace h:=gk h;refine gD (oR (rc a6)) ?_;rintro _ _ ⟨_,⟨rfl,rfl⟩,rfl⟩;obtain ⟨f,a8,O,M,h⟩:=aI h;refine gR (dR 2 J bA J (toNat_lt a8 O)) ?_;refine kW 2 J M (kc f) ?_;rintro _ _ ⟨E,D,C,B,A,z,rfl,rfl⟩;refine gR (kl (us:=(bw f E D C B A z)) 0 J J agg45.out J) ?_;refine qA h (fun _ k=>mN k) fun f1 f2 f3 f9 g0 g1 Z h=> ?_
  exact eN
 replace h:=gj h;refine gD (oR (rc a6)) ?_;rintro _ _ ⟨_,⟨rfl,rfl⟩,rfl⟩;obtain ⟨e,L,K,H,h⟩:=aI h;refine gR (dR 3 J bA J (toNat_lt L K)) ?_;refine kW 3 J H (kc e) ?_;rintro _ _ ⟨t,q,o,n,m,l,rfl,rfl⟩;refine gR (kl (us:=(bw e t q o n m l)) 0 J J agg45.out J) ?_;refine qA h (fun _ k=>mN k) fun X V U T S R Q h=> ?_
 exact eN
theorem P8 {r:VL×Bool}: ∀v post,((fun (u:Value) (post:V3)=> ∃f a e A1 d c1,u=.tuple #[.agg #[iV r.1.no,iV r.1.XV,iV r.1.XU,iV r.1.XW,Y f a e,Y A1 d c1],.bool r.2]/\post=[aj f a e r.1.XQ,aj A1 d c1 r.1.XP])) v post-> ∀c∈post,bP c:=by
 rintro _ _ ⟨_,_,_,_,_,_,rfl,rfl⟩;exact t9 iU (t9 iU (aW))
theorem P9 {N:Nat}{c:Vz}{r:VL×Bool}(h:uJ N c a1=some r):Okc V5 55 [pV B1 0,iV a1] ([pDHeap B1 c]) (fun u p=> ∃f a e A1 d c1,u=.tuple #[.agg #[iV r.1.no,iV r.1.XV,iV r.1.XU,iV r.1.XW,Y f a e,Y A1 d c1],.bool r.2]/\p=[aj f a e r.1.XQ,aj A1 d c1 r.1.XP]):=jR 0 rfl (fun _=>QA h)
theorem PK {r:VL×Bool}: ∀v post,((fun (u:Value) (post:V3)=> ∃f a e A1 d c1,u=.tuple #[.agg #[iV r.1.no,iV r.1.XV,iV r.1.XU,iV r.1.XW,Y f a e,Y A1 d c1],.bool r.2]/\post=[aj f a e r.1.XQ,aj A1 d c1 r.1.XP])) v post-> ∀c∈post,bP c:=P8
def HV (N:Nat)(a6 a8 e d:Int)(c a:VO):Option VL:=
 some (⟨a6,a8,e,d,c,a⟩:VL)
def gZ (c:VK)(a1:VH):Option VL:=
 (nS N a1).bind fun a=>bif !a then (some (⟨0,0,0,0,[],[]⟩:VL)) else ((uJ N c.XX a1.N).bind fun a6=>HV N a6.1.no a6.1.XV a6.1.XU a6.1.XW a6.1.XQ a6.1.XP)
theorem ug {N:Nat}{a1:VH}{r:VL}(h:gZ N c a1=some r):Okc V5 17 [pV B1 0,(bS a1)] ([aQ B1 85 (cF c B2 a A4 n4 c4 A5 n5 c5 A6 n6 c6),pDHeap B2 c.XX,pDTable a c.Ya,aL eS (Y A4 n4 c4) c.Yk,aL jE (Y A5 n5 c5) c.Yl,aL eS (Y A6 n6 c6) c.Ym]) (fun u p=> ∃Q M O A1 d c1,u=.agg #[iV r.no,iV r.XV,iV r.XU,iV r.XW,Y Q M O,Y A1 d c1]/\p=[aj Q M O r.XQ,aj A1 d c1 r.XP]):=by
 refine gQ Tryz.func17 J J ?_;simp only [fe];refine G ?_;refine gB (sS J J) fun T=> ?_
 refine gB (iq zero45.out J) fun P=> ?_
 refine G ?_;refine aH ?_;refine G ?_;refine gE (gC J Vj) ?_;refine G ?_;refine gR (db (us:=ee a1) 1 J J agg29.out J) ?_;obtain ⟨S,k,h⟩:=ad h;refine gV (co (Ed k) J (aW) Ql) ?_;refine G ?_;refine gH J h ?_ ?_<;>intro h
 ·refine G ?_;refine gE (iW J bld_45_.out) ?_;refine gW (bL (us:=[iV 0,iV 0,iV 0,iV 0,Y none 0 0,Y none 0 0]) (cs':=[iV 0,iV 0,iV 0,iV 0,Y none 0 0,Y none 0 0]) 0 J J J J size45.out J J J) ?_;refine G ?_;obtain rfl:=bn h;exact me (rs:=[.cell 4 45]) (vs:=[.agg #[iV 0,iV 0,iV 0,iV 0,Y none 0 0,Y none 0 0]]) J (.cons (lV 0 J J agg45.out) .nil) J ((ck ca 29 _).trans ((ck ca 29 _).trans (cS [1,0] 10))) ⟨_,_,_,_,_,_,J,J⟩
 refine G ?_;refine aF (fun s L=> ∃a8 t q o K H F n m l j f e,HV N a8 t q o K H=some r/\s=[(4,pV P 0),(5,pV F 0)]/\L=[aj n m l K,aj j f e H,ab F 45 [iV a8,iV t,iV q,iV o,Y n m l,Y j f e],ab P 45 [iV 0,iV 0,iV 0,iV 0,Y none 0 0,Y none 0 0]]) ?_ ?_
 ·refine cy I _ (ah _) ?_;refine zE 0 J (ay J) ?_;refine zE 1 J (cr J) ?_;refine zE 2 J (bW J BN) ?_;refine zR 3 J (lT 2 J J mh J) ?_;refine zE 4 J (bW J wr) ?_;refine zR 5 J (cn 1 J J eo J) ?_;refine aB 10 J J ?_;obtain ⟨a6,k,h⟩:=ad h;refine aD 6 (co (P9 k) J (t9 (bK (i:=3) J J) aW) PK) ?_;rintro _ _ ⟨_,⟨E,D,C,B,A,z,rfl,rfl⟩,rfl⟩;refine cj (cS [2,3,4,5,6,7,8,9] 10) ?_;refine aY [7,8,9] ?_;refine aE 10 fun R=> ?_
  refine zO 11 J (bL (us:=(bw a6.1 E D C B A z)) (cs':=(bw a6.1 E D C B A z)) 0 J J J J size45.out J J J) ?_;rintro _ _ rfl;refine cj (cS [3,4,5,6,7,8,9,10] 11) ?_;refine zE 12 J (dQ J) ?_;refine cJ I ?_;refine d5 ?_;exact ⟨_,_,⟨a6.1.no,a6.1.XV,a6.1.XU,a6.1.XW,a6.1.XQ,a6.1.XP,R,E,D,C,B,A,z,h,J,J⟩,sA,cS [1,2,0,3] 11⟩
 refine fun s L=>Zb fun a8 t q o K H=>Zb fun F n m l j f=>ac fun e=>d7 fun h=> ?_
 refine G ?_;refine gR (db (us:=[iV a8,iV t,iV q,iV o,Y n m l,Y j f e]) 2 J J agg45.out J) ?_;refine gW (bL (us:=[iV a8,iV t,iV q,iV o,Y n m l,Y j f e]) (cs':=[iV a8,iV t,iV q,iV o,Y n m l,Y j f e]) 3 J J J J size45.out J J J) ?_;refine G ?_;obtain rfl:=bn h;exact me (rs:=[.cell 4 45]) (vs:=[.agg #[iV a8,iV t,iV q,iV o,Y n m l,Y j f e]]) J (.cons (lV 3 J J agg45.out) .nil) J (cS [0,1] 4) ⟨_,_,_,_,_,_,J,J⟩
theorem Pr {r:VL}: ∀v post,((fun (u:Value) (post:V3)=> ∃f a e A1 d c1,u=.agg #[iV r.no,iV r.XV,iV r.XU,iV r.XW,Y f a e,Y A1 d c1]/\post=[aj f a e r.XQ,aj A1 d c1 r.XP])) v post-> ∀c∈post,bP c:=by
 rintro _ _ ⟨_,_,_,_,_,_,rfl,rfl⟩;exact t9 iU (t9 iU (aW))
theorem Dy {N:Nat}{a1:VH}{r:VL}(h:gZ N c a1=some r){B1 B2 a:Nat}:Okc V5 17 [pV B1 0,(bS a1)] ([pDWorld B1 B2 a c]) (fun u p=> ∃i e f A1 d c1,u=.agg #[iV r.no,iV r.XV,iV r.XU,iV r.XW,Y i e f,Y A1 d c1]/\p=[aj i e f r.XQ,aj A1 d c1 r.XP]):=jR 0 rfl (fun _=>ug h)
theorem O2 {r:VL}: ∀v post,((fun (u:Value) (post:V3)=> ∃f a e A1 d c1,u=.agg #[iV r.no,iV r.XV,iV r.XU,iV r.XW,Y f a e,Y A1 d c1]/\post=[aj f a e r.XQ,aj A1 d c1 r.XP])) v post-> ∀c∈post,bP c:=Pr
def ia (c:VK)(a1:VH):Option (Unit ⊕ VA):=
 bif !decide (a1.no=7) then (some (.inl ())) else ((gZ N c a1).bind fun a=>(bif decide ((a.XQ.length:Int)=0) then (some true) else ((ak a.XQ 0).bind fun a6=>(bif !decide (a6.no=1) then ((ak a.XQ 0).bind fun a8=>some (!decide (a8.no=7))) else (some false)).bind fun b12=>some b12)).bind fun d=>bif d then (some (.inl ())) else (some (.inr (⟨a,c,a1⟩:VA))))
theorem eP {N:Nat}{a1:VH}{r:(Unit ⊕ VA)}(h:ia N c a1=some r){B1 B2 a:Nat}:Okc V5 48 [pV B1 0,(bS a1)] ([pDWorld B1 B2 a c]) (fun u p=>nu (fun (r:Unit)=>u=.tuple #[.pointer none,.bool false]/\p=[]) (fun (r:VA)=> ∃C A1 d c1 A2 n2 c2,u=.tuple #[pV C 0,.bool true]/\p=[ab C 103 [iV r.XY.no,iV r.XY.XV,iV r.XY.XU,iV r.XY.XW,Y A1 d c1,Y A2 n2 c2,pV B1 0,iV r.at_.no,iV r.at_.N,.string r.at_.S],aj A1 d c1 r.XY.XQ,aj A2 n2 c2 r.XY.XP]) r):=by
 refine gQ Tryz.func48 J J ?_;simp only [fe];refine G ?_;refine gB (sS J J) fun L=> ?_
 refine G ?_;refine aH ?_;refine G ?_;refine gE (gC J Vj) ?_;refine G ?_;refine gH J h ?_ ?_<;>intro h
 ·refine G ?_;obtain rfl:=bn h;exact kY J J J (cS [] 2) ⟨J,J⟩
 refine G ?_;refine aH ?_;refine cy I _ (ah _) ?_;refine yY [0,1,3,4] ?_;obtain ⟨F,k,h⟩:=ad h;refine zD 2 J (co (Dy k) J (t9 (bK (i:=1) J J) aW) O2) ?_;rintro _ _ ⟨_,⟨e,t,q,f,l,j,rfl,rfl⟩,rfl⟩;refine cj (cS [2,3] 4) ?_;refine zE 5 J (iW J (bld_103_0_1_2 _ _ _ _ _ _ _ _ _ _ _ _ _ _).out) ?_;refine zD 6 J (sS J J) ?_;rintro _ _ ⟨K,rfl,rfl⟩;refine cj (cS [3,4] 5) ?_;refine zE 7 J (dQ J) ?_;refine cJ I ?_;refine d5 ?_;refine aH ?_;refine G ?_;refine gR (ie 1 J aw J z9) ?_;refine G ?_;refine iF 21 49 28 h (fun _ n h=> ?_) (fun _ n h=> ?_) fun H h=> ?_
 ·refine G ?_;obtain rfl:=bn h;exact fN sA (cS [0,1,2,3,4] 5)
 ·refine G ?_;obtain ⟨E,a6,h⟩:=ad h;obtain ⟨B,A,a6⟩:=jz a6;refine dF (cH 1 J aw J J z9 size29.out B A) J (bY n J) J ?_;refine dF (iA 1 J aw J (toNat_lt B A) oH) J (bY n J) J ?_;refine dF (fZ (u:=iV E.no) 1 J aw J a6 eo (fun _ _ _ h=>by rw [show _=_ from h];rfl)) J (bY n J) J ?_;refine G ?_;refine iF 10 48 38 h (fun _ m h=> ?_) (fun _ m h=> ?_) fun b12 h=> ?_
  ·refine G ?_;obtain ⟨D,a8,h⟩:=ad h;obtain ⟨z,o,a8⟩:=jz a8;refine dF (cH 1 J aw J J z9 size29.out z o) J (be m J) J ?_;refine dF (iA 1 J aw J (toNat_lt z o) oH) J (be m J) J ?_;refine dF (fZ (u:=iV D.no) 1 J aw J a8 eo (fun _ _ _ h=>by rw [show _=_ from h];rfl)) J (be m J) J ?_;refine G ?_;obtain rfl:=bn h;exact fN sA (cS [0,1,2,3,4] 5)
  ·refine G ?_;obtain rfl:=bn h;exact fN sA (cS [0,1,2,3,4] 5)
  refine G ?_;obtain rfl:=bn h;exact fN sA (cS [0,1,2,3,4] 5)
 refine G ?_;refine gH J h ?_ ?_<;>intro h
 ·refine G ?_;obtain rfl:=bn h;exact kY J J J (cS [] 5) ⟨J,J⟩
 refine G ?_;obtain rfl:=bn h;exact kY J J J (cS [0,1,2] 5) ⟨_,_,_,_,_,_,_,J,J⟩
def rT (c:VK)(a1:VH):Option Bool:=
 bif decide (a1.no=1) then (some true) else ((ia N c a1).bind fun a=>dB a (fun y6_0=>some false) (fun y6_1=>some true))
theorem I4 {N:Nat}{a1:VH}{r:Bool}(h:rT N c a1=some r){B1 B2 a:Nat}:Okc V5 36 [pV B1 0,(bS a1)] ([pDWorld B1 B2 a c]) (fun u p=>u=.bool r/\p=[]):=by
 refine av Tryz.func36 ?_;intro i;refine sY ?_;refine gH J h ?_ ?_<;>intro h
 ·refine aa ?_;refine aJ (sr J Vj) ?_;exact eN
 refine aa ?_;obtain ⟨d,a6,h⟩:=ad h;rcases d with y6_0|y6_1
 ·replace h:=gk h;refine gD (oR (eP a6)) ?_;rintro _ _ ⟨_,⟨rfl,rfl⟩,rfl⟩;exact eY
 replace h:=gj h;refine gD (oR (eP a6)) ?_;rintro _ _ ⟨_,⟨e,f,l,j,m,o,n,rfl,rfl⟩,rfl⟩;exact eY
def DQ (c:VK)(a1:VL):Option (VH×Bool×VK):=
 bif decide (c.Ye.YC<=c.Yj.Yx) then (some ((⟨0,0,⟨#[]⟩⟩:VH),false,c)) else ((rn N c.XX a1).bind fun a6=>bif !decide (a6.2.1=0) then (some ((⟨0,0,⟨#[]⟩⟩:VH),false,(⟨c.Yj,c.Ye,(),a6.2.2,c.Ya,c.Yk,c.Yh,c.Yr,c.Ys,c.Yl,c.Ym⟩:VK))) else (ae (in64 (c.Yj.Yx+1)) (some ((⟨7,a6.1,⟨#[]⟩⟩:VH),true,(⟨(⟨c.Yj.Yw,c.Yj.Yx+1,c.Yj.Yz⟩:VJ),c.Ye,(),a6.2.2,c.Ya,c.Yk,c.Yh,c.Yr,c.Ys,c.Yl,c.Ym⟩:VK)))))
theorem PJ {N:Nat}{a1:VL}{r:VH×Bool×VK}(h:DQ N c a1=some r):Okc V5 37 [pV B1 0,.agg #[iV a1.no,iV a1.XV,iV a1.XU,iV a1.XW,Y e t q,Y f l j]] ([ap e t q a1.XQ,ap f l j a1.XP,ab B1 85 (cF c B2 a A4 n4 c4 A5 n5 c5 A6 n6 c6),oDHeap B2 c.XX,oDTable a c.Ya,bi A4 n4 c4 c.Yk,cx A5 n5 c5 c.Yl,bi A6 n6 c6 c.Ym]) (fun u p=> ∃n i m A1 d c1 A2 n2 c2,u=.tuple #[.agg #[iV r.1.no,iV r.1.N,.string r.1.S],.bool r.2.1]/\p=[ab B1 85 (cF r.2.2 B2 a n i m A1 d c1 A2 n2 c2),oDHeap B2 r.2.2.XX,oDTable a r.2.2.Ya,bi n i m r.2.2.Yk,cx A1 d c1 r.2.2.Yl,bi A2 n2 c2 r.2.2.Ym]):=by
 refine av Tryz.func37 ?_;intro o;refine bB fun a6=> ?_
 refine aH ?_;refine dY [] ?_;refine aa ?_;refine zE 1 J (gC J Vj) ?_;refine aG h ?_ ?_<;>intro h
 ·exact eY
 refine aa ?_;refine aH ?_;refine cy I ([ab a6 29 [iV 0,iV 0,.string (⟨#[]⟩)],ab o 45 (bw a1 e t q f l j),ap e t q a1.XQ,ap f l j a1.XP,ab B1 85 (cF c B2 a A4 n4 c4 A5 n5 c5 A6 n6 c6),oDTable a c.Ya,bi A4 n4 c4 c.Yk,cx A5 n5 c5 c.Yl,bi A6 n6 c6 c.Ym]) (cS [0,1,2,3,4,6,7,8,9] 10) ?_;refine aa ?_;obtain ⟨a8,k,h⟩:=ad h;refine zD 5 J (oC (DN k)) ?_;rintro _ _ ⟨_,⟨rfl,rfl⟩,rfl⟩;refine bE ?_;refine sY ?_;refine gH J h ?_ ?_<;>intro h
 ·exact eY
 refine aa ?_;obtain ⟨z,h⟩:=ai h;exact eY
theorem Pc {N:Nat}{a1:VL}{r:VH×Bool×VK}(h:DQ N c a1=some r){B1 B2 a:Nat}:Okc V5 37 [pV B1 0,.agg #[iV a1.no,iV a1.XV,iV a1.XU,iV a1.XW,Y A4 n4 c4,Y A5 n5 c5]] ([ap A4 n4 c4 a1.XQ,ap A5 n5 c5 a1.XP,oDWorld B1 B2 a c]) (fun u p=>u=.tuple #[.agg #[iV r.1.no,iV r.1.N,.string r.1.S],.bool r.2.1]/\p=[oDWorld B1 B2 a r.2.2]):=il 2 rfl (fun _=>PJ h)
def rV (N:Nat)(c:Int):Option Bool:=
 (bif decide (0<c) then (some (decide (c.tmod 2=0))) else (some false)).bind fun b1=>some b1
theorem I7 {N:Nat}{c:Int}{r:Bool}(h:rV N c=some r):Okc V5 122 [iV c] ([]) (fun u p=>u=.bool r/\p=[]):=by
 refine av Tryz.func122 ?_;refine bF 4 9 5 h (fun _ a h=> ?_) fun b1 h=> ?_
 ·refine aa ?_;refine bR (iz J J (by decide)) J (be a J) J ?_;exact gY
 exact eY
def rQ (N:Nat)(c:VH):Option Bool:=
 (bif decide (c.no=7) then (some true) else (some (decide (c.no=9)))).bind fun b2=>some b2
theorem EB {N:Nat}{c:VH}{r:Bool}(h:rQ N c=some r):Okc V5 209 [(bS c)] ([]) (fun u p=>u=.bool r/\p=[]):=by
 refine av Tryz.func209 ?_;intro B1;refine aa ?_;refine gS 4 10 6 h ?_;intro b2 h;exact eY
def po (a1:Bool)(x8:Bool×VH):(VW)->Option (Option Exit×VW)
 |a=>(bif x8.1==a1 then ((rQ N x8.2).bind fun a6=>some a6) else (some false)).bind fun a8=>bif a8 then (ae (bC (a.length+([x8.2.N]:List Int).length)) (some (none,a++([x8.2.N]:List Int)))) else (some (none,a))
def uB (c:VL)(a1:Bool):Option VW:=
 (vy N c).bind fun a=>(uY N c (dA (fun x st=>po N a1 x st)) (none,[])).bind fun a6=>jp a6.1 (some a6.2) none (fun _=>none)
theorem If {N:Nat}{c:VL}{a1:Bool}{r:VW}(h:uB N c a1=some r):Okc V5 170 [.agg #[iV c.no,iV c.XV,iV c.XU,iV c.XW,Y A1 d c1,Y A2 n2 c2],.bool a1] ([ap A1 d c1 c.XQ,ap A2 n2 c2 c.XP]) (fun u p=> ∃t e f,u=Y t e f/\p=[aR t e f r]):=by
 refine av Tryz.func170 ?_;intro a;refine bB fun q=> ?_
 intro j;refine sY ?_;obtain ⟨K,k,h⟩:=ad h;refine gD (oR (JC k)) ?_;rintro _ _ ⟨_,⟨H,rfl,rfl⟩,rfl⟩;refine aa ?_;refine dx ?_ dG (kO 0 J);obtain ⟨a6,k,h⟩:=ad h;refine vQ (en:=(fun x=> [.bool x.1,.agg #[iV x.2.no,iV x.2.N,.string x.2.S]])) (fun x st=>po N a1 x st) (fun (st:VW) (mz:((Option Addr×Nat×Nat)))=> [ab q 4 [.bool a1],aK (df .i64) 3 (.slice mz.1 mz.2.1 mz.2.2) st,ab j 99 [.slice mz.1 mz.2.1 mz.2.2]]) [aQ H 45 (bw c A1 d c1 A2 n2 c2),ap A1 d c1 c.XQ,ap A2 n2 c2 c.XP] ([]) ((none,0,0)) J J call218.out J (fun _=>J) (fun l z C=>(IF k C).mono fun _ _ B=>B.2) ((ck (df .i64) 3 _).trans (f0 [1,5,6] [] [3,0,2] 7 J)) h ?_ ?_ ?_ ?_
 ·rintro l x8 A je sr8 ⟨m,o,n⟩ h;replace h:po N a1 x8 A=some (je,sr8):=h;simp only [mq,List.zip_cons_cons,List.zip_nil_left,List.zip_nil_right,List.reverse_cons,List.reverse_nil,XN,Wm];refine bB fun T=> ?_
  refine aJ (ab3 J J Vk) ?_;refine bF 3 18 15 h (fun _ S h=> ?_) fun Q h=> ?_
  ·refine cR h (fun _ k=>EB k) fun P h=> ?_
   exact gY
  refine aG h ?_ ?_<;>intro h
  ·refine aa ?_;refine gD (cB (R:=(df .i64)) (vss:=[[iV x8.2.N]]) (xs:=[x8.2.N]) J (lQ _) J J (fun _ _ hr=> .cons J All2.nil)) ?_;rintro _ _ ⟨O,M,L,rfl,rfl⟩;obtain ⟨a8,h⟩:=ai h;refine bN (cG 3 0 J J aw J J Vd iE J J a8) fun F E D=> ?_
   obtain ⟨rfl,rfl⟩:=Xz (Xx h);exact oY ((cS [2,3,4] 5).trans (kf (F,E,D) J))
  refine aa ?_;obtain ⟨rfl,rfl⟩:=Xz (Xx h);exact oY ((cS [1,2,3] 4).trans (kf (m,o,n) J))
 ·rintro ⟨m,o,n⟩ h;refine oI ([ab q 4 [.bool a1],aR m o n a6.2,ab j 99 [Y m o n]]) J ?_;exact eY
 ·rintro ⟨m,o,n⟩ h;exact bO h
 rintro i ⟨m,o,n⟩ h;exact bO h
def lO (c:VL):Option VW:=
 (uB N c true).bind fun a=>some a
theorem pG {N:Nat}{c:VL}{r:VW}(h:lO N c=some r):Okc V5 119 [.agg #[iV c.no,iV c.XV,iV c.XU,iV c.XW,Y A1 d c1,Y A2 n2 c2]] ([ap A1 d c1 c.XQ,ap A2 n2 c2 c.XP]) (fun u p=> ∃i e f,u=Y i e f/\p=[aR i e f r]):=by
 refine av Tryz.func119 ?_;intro a;refine kG h (fun _ k=>If k) fun j A5 n5 c5 h=> ?_
 exact eN
def HY (N:Nat)(ff:Int->Option Bool):Option Int:=
 some (-1)
def pg (N:Nat)(ff:Int->Option Bool)(c:VW):Nat->Int->Option Int
 |0,_=>none
 |e+1,a=>bif decide (a<(c.length:Int)) then ((ak c a).bind fun x6=>(ff x6).bind fun d=>bif d then (some a) else (ae (in64 (a+1)) ((pg N ff c e) (a+1)))) else (HY N ff)
def ya (c:VW)(ff:Int->Option Bool):Option Int:=
 pg N ff c N 0
theorem PT {N:Nat}{c:VW}{r:Int}(h:ya N c ff=some r)(f:wP V5 vf z (fun x=> [iV x]) (fun r=> .bool r) ff):Okc V5 168 [Y A1 d c1,vf] (aX A1 d c1 c::z) (fun u p=>u=iV r/\p=[]):=by
 refine av Tryz.func168 ?_;refine aF (fun s L=>HY N ff=some r/\s=[(4,iV 0)]/\L=z) ?_ ?_
 ·refine aa ?_;refine lK (fun m s L=> ∃(e:Int),pg N ff c m e=some r/\s=[(0,Y A1 d c1),(1,vf),(4,iV 0),(7,iV (c.length:Int)),(8,iV e)]/\L=aX A1 d c1 c::z) N ?_;rintro l _ _ ⟨e,h,rfl,rfl⟩;rw [pg.eq_2] at h;refine aa ?_;refine aH ?_;refine gH J h ?_ ?_<;>intro h
  ·refine sY ?_;obtain ⟨x6,a6,a8,n,h⟩:=aI h;refine aa ?_;obtain ⟨i,k,h⟩:=ad h;refine gD (LH (a:=x6) [aX A1 d c1 c] f k J J) ?_;rintro _ _ ⟨rfl,rfl⟩;refine aG h ?_ ?_<;>intro h
   ·exact eY
   refine aa ?_;obtain ⟨j,h⟩:=ai h;exact lY
  exact jY
 rintro _ _ ⟨h,rfl,rfl⟩;exact eY
theorem Po {r:Int}: ∀v post,((fun (u:Value) (post:V3)=>u=iV r/\post=[])) v post-> ∀c∈post,bP c:=by
 rintro _ _ ⟨rfl,rfl⟩;exact aW
def kH (c:VW)(ff:Int->Option Bool):Option Bool:=
 (ya N c ff).bind fun a=>some (decide (0<=a))
theorem qN {N:Nat}{c:VW}{r:Bool}(h:kH N c ff=some r)(a:wP V5 vf z (fun x=> [iV x]) (fun r=> .bool r) ff):Okc V5 117 [Y A1 d c1,vf] (aX A1 d c1 c::z) (fun u p=>u=.bool r/\p=[]):=by
 refine av Tryz.func117 ?_;obtain ⟨e,k,h⟩:=ad h;refine cV (co (PT k a) J (t9 (bK (i:=0) J J) (Fn (E:=[aX A1 d c1 c]) a.1)) Po) ?_;exact eN
def uK (N:Nat)(c:Int):Option Bool:=
 (bif decide (0<c) then (some (decide (c.tmod 2=1))) else (some false)).bind fun b1=>some b1
theorem Ix {N:Nat}{c:Int}{r:Bool}(h:uK N c=some r):Okc V5 173 [iV c] ([]) (fun u p=>u=.bool r/\p=[]):=by
 refine av Tryz.func173 ?_;refine bF 4 9 5 h (fun _ a h=> ?_) fun b1 h=> ?_
 ·refine aa ?_;refine bR (iz J J (by decide)) J (be a J) J ?_;exact gY
 exact eY
def pE (c:VL):Option VW:=
 (uB N c false).bind fun a=>some a
theorem yW {N:Nat}{c:VL}{r:VW}(h:pE N c=some r):Okc V5 120 [.agg #[iV c.no,iV c.XV,iV c.XU,iV c.XW,Y A1 d c1,Y A2 n2 c2]] ([ap A1 d c1 c.XQ,ap A2 n2 c2 c.XP]) (fun u p=> ∃i e f,u=Y i e f/\p=[aR i e f r]):=by
 refine av Tryz.func120 ?_;intro a;refine kG h (fun _ k=>If k) fun j A5 n5 c5 h=> ?_
 exact eN
def uL (c:VL):Option Bool:=
 (lO N c).bind fun e=>(kH N e (fun x=>uK N x)).bind fun d=>(bif d then (some true) else ((pE N c).bind fun a=>(kH N a (fun x=>uK N x)).bind fun a6=>some a6)).bind fun f=>some f
theorem It {N:Nat}{c:VL}{r:Bool}(h:uL N c=some r):Okc V5 124 [.agg #[iV c.no,iV c.XV,iV c.XU,iV c.XW,Y A1 d c1,Y A2 n2 c2]] ([ap A1 d c1 c.XQ,ap A2 n2 c2 c.XP]) (fun u p=>u=.bool r/\p=[]):=by
 refine av Tryz.func124 ?_;intro a;refine aa ?_;obtain ⟨l,k,h⟩:=ad h;refine gD (oR (pG k)) ?_;rintro _ _ ⟨_,⟨A5,n5,c5,rfl,rfl⟩,rfl⟩;obtain ⟨j,k,h⟩:=ad h;refine cV (oR (qN k ⟨aW,173, #[], #[],J,call173.out,fun _ _ e=>Ix e⟩)) ?_;refine dJ 4 10 6 h (fun _ f h=> ?_) fun q h=> ?_
 ·refine aa ?_;obtain ⟨i,k,h⟩:=ad h;refine tl (oR (yW k)) J (bY f J) J ?_;rintro _ _ ⟨_,⟨m,o,n,rfl,rfl⟩,rfl⟩;obtain ⟨a6,k,h⟩:=ad h;refine gU (oR (qN k ⟨aW,173, #[], #[],J,call173.out,fun _ _ e=>Ix e⟩)) (bY f J) ?_;exact gY
 exact eY
def xJ (N:Nat)(a1:Int)(c:Vu):Option (Bool×Vu):=
 some (true,(⟨dp c.at_ a1 true⟩:Vu))
def lE (c:Vu)(a1:Int)(a2:VL):Option (Bool×Vu):=
 (rV N a1).bind fun d=>bif !d then (some (false,c)) else ((uL N a2).bind fun a=>bif !a then (some (false,(⟨jM c.at_ a1⟩:Vu))) else (xJ N a1 c))
theorem uq {N:Nat}{c:Vu}{r:Bool×Vu}(h:lE N c a1 a2=some r):Okc V5 188 [pV B1 0,iV a1,.agg #[iV a2.no,iV a2.XV,iV a2.XU,iV a2.XW,Y A3 n3 c3,Y A4 n4 c4]] ([ap A3 n3 c3 a2.XQ,ap A4 n4 c4 a2.XP,ab B1 186 [.map (some i)],aA ax aU i c.at_]) (fun u p=> ∃d,u=.bool r.1/\p=[ab B1 186 [.map (some d)],aA ax aU d r.2.at_]):=by
 refine av Tryz.func188 ?_;intro j;refine sY ?_;refine aJ (gC J Vh) ?_;refine cR h (fun _ k=>I7 k) fun f h=> ?_
 refine gH J h ?_ ?_<;>intro h
 ·exact eY
 refine sY ?_;refine cR h (fun _ k=>It k) fun e h=> ?_
 refine gH J h ?_ ?_<;>intro h
 ·refine aa ?_;refine fm (TL (a:=a1) 4 J J J Vl (jy Ex)) ?_;exact eN
 refine aa ?_;refine aF (fun s L=>xJ N a1 c=some r/\s=[(0,pV B1 0),(1,iV a1),(6,.bool false)]/\L=[aA ax aU i c.at_,ab B1 186 [.map (some i)]]) ?_ ?_
 ·refine aa ?_;refine aJ (TG J Vl) ?_;refine d8 J ?_;exact jY
 rintro _ _ ⟨h,rfl,rfl⟩;refine aa ?_;refine fm (pJ (a:=a1) (b:=true) 0 J J J J Vl (jy Ex)) ?_;exact eN
theorem HS {r:Bool×Vu}{B1:Nat}: ∀v post,((fun (u:Value) (post:V3)=> ∃a,u=.bool r.1/\post=[ab B1 186 [.map (some a)],aA ax aU a r.2.at_])) v post-> ∀c∈post,bP c:=by
 rintro _ _ ⟨_,rfl,rfl⟩;exact t9 Bn (t9 Fs (aW))
def yp (N:Nat)(c:Vz)(y17_0:Int)(a6 a8:VL)(a:VY):Option (Int×Vz):=
 some (0,(⟨(⟨List.set (List.set c.m_.XS y17_0.toNat (⟨a6.no,a6.XV,a6.XU,a6.XW,a6.XQ,a6.XP⟩:VL)) y17_0.toNat (⟨(⟨a6.no,a6.XV,a6.XU,a6.XW,a6.XQ,a6.XP⟩:VL).no,(⟨a6.no,a6.XV,a6.XU,a6.XW,a6.XQ,a6.XP⟩:VL).XV,(⟨a6.no,a6.XV,a6.XU,a6.XW,a6.XQ,a6.XP⟩:VL).XU,a8.XW,(⟨a6.no,a6.XV,a6.XU,a6.XW,a6.XQ,a6.XP⟩:VL).XQ,(⟨a6.no,a6.XV,a6.XU,a6.XW,a6.XQ,a6.XP⟩:VL).XP⟩:VL),c.m_.XR⟩:Vw),c.Yb,c.Yg,(⟨a⟩:Vu)⟩:Vz))
def yr (N:Nat)(c:Vz)(y17_1:Int)(a6 a8:VL)(a:VY):Option (Int×Vz):=
 some (0,(⟨(⟨c.m_.XS,List.set (List.set c.m_.XR y17_1.toNat (⟨a6.no,a6.XV,a6.XU,a6.XW,a6.XQ,a6.XP⟩:VL)) y17_1.toNat (⟨(⟨a6.no,a6.XV,a6.XU,a6.XW,a6.XQ,a6.XP⟩:VL).no,(⟨a6.no,a6.XV,a6.XU,a6.XW,a6.XQ,a6.XP⟩:VL).XV,(⟨a6.no,a6.XV,a6.XU,a6.XW,a6.XQ,a6.XP⟩:VL).XU,a8.XW,(⟨a6.no,a6.XV,a6.XU,a6.XW,a6.XQ,a6.XP⟩:VL).XQ,(⟨a6.no,a6.XV,a6.XU,a6.XW,a6.XQ,a6.XP⟩:VL).XP⟩:VL)⟩:Vw),c.Yb,c.Yg,(⟨a⟩:Vu)⟩:Vz))
def uE (c:Vz)(a1:Int)(a2:VL):Option (Int×Vz):=
 (fJ N c).bind fun m=>bif m then (some (1,c)) else ((nM N c a1).bind fun l=>bif !l then (some (50,c)) else ((lL N a2).bind fun j=>bif !j then (some (51,c)) else ((rj N c a1).bind fun i=>dB i (fun y17_0=>(ak c.m_.XS y17_0).bind fun a6=>(iP N a2).bind fun a8=>bif decide (a1.tmod 2=0) then ((lE N c.Yf a1 a2).bind fun f=>yp N c y17_0 a8 a6 f.2.at_) else (yp N c y17_0 a8 a6 c.Yf.at_)) (fun y17_1=>(ak c.m_.XR y17_1).bind fun d=>(iP N a2).bind fun a=>bif decide (a1.tmod 2=0) then ((lE N c.Yf a1 a2).bind fun e=>yr N c y17_1 a d e.2.at_) else (yr N c y17_1 a d c.Yf.at_)))))
theorem Qq {N:Nat}{c:Vz}{r:Int×Vz}(h:uE N c a1 a2=some r):Okc V5 142 [pV B1 0,iV a1,.agg #[iV a2.no,iV a2.XV,iV a2.XU,iV a2.XW,Y f l j,Y m o n]] ([ap f l j a2.XQ,ap m o n a2.XP,ab B1 128 [Y A2 n2 c2,Y A3 n3 c3,Y A4 n4 c4,Y A5 n5 c5,pV B6 0],aC A2 n2 c2 c.m_.XS,aC A3 n3 c3 c.m_.XR,aj A4 n4 c4 c.Yb,aj A5 n5 c5 c.Yg,ab B6 186 [.map (some M7)],aA ax aU M7 c.Yf.at_]) (fun u p=> ∃A0 R c0 A1 d c1 A2 n2 c2 A3 n3 c3 M4,u=iV r.1/\p=[ab B1 128 [Y A0 R c0,Y A1 d c1,Y A2 n2 c2,Y A3 n3 c3,pV B6 0],aC A0 R c0 r.2.m_.XS,aC A1 d c1 r.2.m_.XR,aj A2 n2 c2 r.2.Yb,aj A3 n3 c3 r.2.Yg,ab B6 186 [.map (some M4)],aA ax aU M4 r.2.Yf.at_]):=by
 refine av Tryz.func142 ?_;intro e5;refine sY ?_;refine cR h (fun _ k=>kI k) fun g5 h=> ?_
 refine gH J h ?_ ?_<;>intro h
 ·exact eY
 refine cR h (fun _ k=>uA k) fun g6 h=> ?_
 refine gH J h ?_ ?_<;>intro h
 ·exact eY
 refine cR h (fun _ k=>rI k) fun g7 h=> ?_
 refine gH J h ?_ ?_<;>intro h
 ·exact eY
 refine aa ?_;obtain ⟨g4,d3,h⟩:=ad h;rcases g4 with y17_0|y17_1
 ·replace h:=gk h;refine gD (oR (rc d3)) ?_;rintro _ _ ⟨_,⟨rfl,rfl⟩,rfl⟩;obtain ⟨D,B,A,Q,h⟩:=aI h;refine aa ?_;refine gR (dR 4 J aw J (toNat_lt B A)) ?_;refine gR (dc 4 J aw J (toNat_lt B A) na) ?_;refine fS (fZ (u:=iV D.XW) 4 J aw J Q eo (fun _ _ _ h=>by obtain ⟨_,_,_,_,_,_,e,_⟩:=h;rw [e];rfl)) ?_;obtain ⟨a6,k,h⟩:=ad h;refine gD (oR (mN k)) ?_;rintro _ _ ⟨_,⟨e6,e7,e8,e9,f1,f2,rfl,rfl⟩,rfl⟩;refine gR (dR 6 J aw J (toNat_lt B A)) ?_;refine d6 (cu 0 J) ?_;refine d6 (cu 1 J) ?_;refine fm (dX (us:=(bw a6 e6 e7 e8 e9 f1 f2)) (z:=(⟨a6.no,a6.XV,a6.XU,a6.XW,a6.XQ,a6.XP⟩:VL)) 6 J J J J size45.out J (toNat_lt B A) J (fun S w vs xk i hr a=>by obtain rfl:=Xx (i.symm.trans Q);obtain ⟨_,_,_,_,_,_,rfl,F,E⟩:=hr;exact ⟨_,_,_,_,_,_,rfl,a 0 _ rfl rfl,a 1 _ rfl rfl⟩)) ?_;have d4:=BO (z:=(⟨a6.no,a6.XV,a6.XU,a6.XW,a6.XQ,a6.XP⟩:VL)) Q;refine gR (dR 6 J aw J (kq (toNat_lt B A))) ?_;refine gR (dc 6 J aw J (kq (toNat_lt B A)) na) ?_;refine fm (dX (us:=[iV D.XW]) (z:=(⟨(⟨a6.no,a6.XV,a6.XU,a6.XW,a6.XQ,a6.XP⟩:VL).no,(⟨a6.no,a6.XV,a6.XU,a6.XW,a6.XQ,a6.XP⟩:VL).XV,(⟨a6.no,a6.XV,a6.XU,a6.XW,a6.XQ,a6.XP⟩:VL).XU,D.XW,(⟨a6.no,a6.XV,a6.XU,a6.XW,a6.XQ,a6.XP⟩:VL).XQ,(⟨a6.no,a6.XV,a6.XU,a6.XW,a6.XQ,a6.XP⟩:VL).XP⟩:VL)) 6 J J J J size3.out J (kq (toNat_lt B A)) J (fun S w vs xk i hr a=>by obtain rfl:=Xx (i.symm.trans d4);obtain ⟨_,_,_,_,_,_,rfl,F,E⟩:=hr;exact ⟨_,_,_,_,_,_,rfl,F,E⟩)) ?_;refine aF (fun s L=> ∃O M,yp N c y17_0 a6 D O=some r/\s=[(6,iV 0)]/\L=[aC A2 n2 c2 (List.set (List.set c.m_.XS y17_0.toNat (⟨a6.no,a6.XV,a6.XU,a6.XW,a6.XQ,a6.XP⟩:VL)) y17_0.toNat (⟨(⟨a6.no,a6.XV,a6.XU,a6.XW,a6.XQ,a6.XP⟩:VL).no,(⟨a6.no,a6.XV,a6.XU,a6.XW,a6.XQ,a6.XP⟩:VL).XV,(⟨a6.no,a6.XV,a6.XU,a6.XW,a6.XQ,a6.XP⟩:VL).XU,D.XW,(⟨a6.no,a6.XV,a6.XU,a6.XW,a6.XQ,a6.XP⟩:VL).XQ,(⟨a6.no,a6.XV,a6.XU,a6.XW,a6.XQ,a6.XP⟩:VL).XP⟩:VL)),aC A3 n3 c3 c.m_.XR,aj A4 n4 c4 c.Yb,aj A5 n5 c5 c.Yg,ab B1 128 [Y A2 n2 c2,Y A3 n3 c3,Y A4 n4 c4,Y A5 n5 c5,pV B6 0],aA ax aU M O,ab B6 186 [.map (some M)]]) ?_ ?_
  ·refine aa ?_;refine aJ (iz J J (by decide)) ?_;refine gH J h ?_ ?_<;>intro h
   ·refine cy I ([ap e6 e7 e8 a6.XQ,ap e9 f1 f2 a6.XP,ab e5 45 (bw a2 f l j m o n),ap f l j a2.XQ,ap m o n a2.XP,ab B1 128 [Y A2 n2 c2,Y A3 n3 c3,Y A4 n4 c4,Y A5 n5 c5,pV B6 0],aC A2 n2 c2 (List.set (List.set c.m_.XS y17_0.toNat (⟨a6.no,a6.XV,a6.XU,a6.XW,a6.XQ,a6.XP⟩:VL)) y17_0.toNat (⟨(⟨a6.no,a6.XV,a6.XU,a6.XW,a6.XQ,a6.XP⟩:VL).no,(⟨a6.no,a6.XV,a6.XU,a6.XW,a6.XQ,a6.XP⟩:VL).XV,(⟨a6.no,a6.XV,a6.XU,a6.XW,a6.XQ,a6.XP⟩:VL).XU,D.XW,(⟨a6.no,a6.XV,a6.XU,a6.XW,a6.XQ,a6.XP⟩:VL).XQ,(⟨a6.no,a6.XV,a6.XU,a6.XW,a6.XQ,a6.XP⟩:VL).XP⟩:VL)),aC A3 n3 c3 c.m_.XR,aj A4 n4 c4 c.Yb,aj A5 n5 c5 c.Yg]) (cS [0,1,2,3,4,5,6,7,8,9] 12) ?_;refine aa ?_;obtain ⟨g8,k,h⟩:=ad h;refine o9 6 J (oC (uq k)) fun g9=> ?_
    exact jY
   exact jY
  rintro _ _ ⟨O,M,h,rfl,rfl⟩;exact eY
 replace h:=gj h;refine gD (oR (rc d3)) ?_;rintro _ _ ⟨_,⟨rfl,rfl⟩,rfl⟩;obtain ⟨C,t,q,P,h⟩:=aI h;refine aa ?_;refine gR (dR 5 J aw J (toNat_lt t q)) ?_;refine gR (dc 5 J aw J (toNat_lt t q) na) ?_;refine fS (fZ (u:=iV C.XW) 5 J aw J P eo (fun _ _ _ h=>by obtain ⟨_,_,_,_,_,_,e,_⟩:=h;rw [e];rfl)) ?_;obtain ⟨a8,k,h⟩:=ad h;refine gD (oR (mN k)) ?_;rintro _ _ ⟨_,⟨f3,Z,X,V,U,T,rfl,rfl⟩,rfl⟩;refine gR (dR 7 J aw J (toNat_lt t q)) ?_;refine d6 (cu 0 J) ?_;refine d6 (cu 1 J) ?_;refine aa ?_;refine fm (dX (us:=(bw a8 f3 Z X V U T)) (z:=(⟨a8.no,a8.XV,a8.XU,a8.XW,a8.XQ,a8.XP⟩:VL)) 7 J J J J size45.out J (toNat_lt t q) J (fun S w vs xk i hr a=>by obtain rfl:=Xx (i.symm.trans P);obtain ⟨_,_,_,_,_,_,rfl,F,E⟩:=hr;exact ⟨_,_,_,_,_,_,rfl,a 0 _ rfl rfl,a 1 _ rfl rfl⟩)) ?_;have e2:=BO (z:=(⟨a8.no,a8.XV,a8.XU,a8.XW,a8.XQ,a8.XP⟩:VL)) P;refine gR (dR 7 J aw J (kq (toNat_lt t q))) ?_;refine gR (dc 7 J aw J (kq (toNat_lt t q)) na) ?_;refine fm (dX (us:=[iV C.XW]) (z:=(⟨(⟨a8.no,a8.XV,a8.XU,a8.XW,a8.XQ,a8.XP⟩:VL).no,(⟨a8.no,a8.XV,a8.XU,a8.XW,a8.XQ,a8.XP⟩:VL).XV,(⟨a8.no,a8.XV,a8.XU,a8.XW,a8.XQ,a8.XP⟩:VL).XU,C.XW,(⟨a8.no,a8.XV,a8.XU,a8.XW,a8.XQ,a8.XP⟩:VL).XQ,(⟨a8.no,a8.XV,a8.XU,a8.XW,a8.XQ,a8.XP⟩:VL).XP⟩:VL)) 7 J J J J size3.out J (kq (toNat_lt t q)) J (fun S w vs xk i hr a=>by obtain rfl:=Xx (i.symm.trans e2);obtain ⟨_,_,_,_,_,_,rfl,F,E⟩:=hr;exact ⟨_,_,_,_,_,_,rfl,F,E⟩)) ?_;refine aF (fun s L=> ∃K H,yr N c y17_1 a8 C K=some r/\s=[(6,iV 0)]/\L=[aC A2 n2 c2 c.m_.XS,aC A3 n3 c3 (List.set (List.set c.m_.XR y17_1.toNat (⟨a8.no,a8.XV,a8.XU,a8.XW,a8.XQ,a8.XP⟩:VL)) y17_1.toNat (⟨(⟨a8.no,a8.XV,a8.XU,a8.XW,a8.XQ,a8.XP⟩:VL).no,(⟨a8.no,a8.XV,a8.XU,a8.XW,a8.XQ,a8.XP⟩:VL).XV,(⟨a8.no,a8.XV,a8.XU,a8.XW,a8.XQ,a8.XP⟩:VL).XU,C.XW,(⟨a8.no,a8.XV,a8.XU,a8.XW,a8.XQ,a8.XP⟩:VL).XQ,(⟨a8.no,a8.XV,a8.XU,a8.XW,a8.XQ,a8.XP⟩:VL).XP⟩:VL)),aj A4 n4 c4 c.Yb,aj A5 n5 c5 c.Yg,ab B1 128 [Y A2 n2 c2,Y A3 n3 c3,Y A4 n4 c4,Y A5 n5 c5,pV B6 0],aA ax aU H K,ab B6 186 [.map (some H)]]) ?_ ?_
 ·refine aa ?_;refine aJ (iz J J (by decide)) ?_;refine gH J h ?_ ?_<;>intro h
  ·refine cy I ([ap f3 Z X a8.XQ,ap V U T a8.XP,ab e5 45 (bw a2 f l j m o n),ap f l j a2.XQ,ap m o n a2.XP,ab B1 128 [Y A2 n2 c2,Y A3 n3 c3,Y A4 n4 c4,Y A5 n5 c5,pV B6 0],aC A2 n2 c2 c.m_.XS,aC A3 n3 c3 (List.set (List.set c.m_.XR y17_1.toNat (⟨a8.no,a8.XV,a8.XU,a8.XW,a8.XQ,a8.XP⟩:VL)) y17_1.toNat (⟨(⟨a8.no,a8.XV,a8.XU,a8.XW,a8.XQ,a8.XP⟩:VL).no,(⟨a8.no,a8.XV,a8.XU,a8.XW,a8.XQ,a8.XP⟩:VL).XV,(⟨a8.no,a8.XV,a8.XU,a8.XW,a8.XQ,a8.XP⟩:VL).XU,C.XW,(⟨a8.no,a8.XV,a8.XU,a8.XW,a8.XQ,a8.XP⟩:VL).XQ,(⟨a8.no,a8.XV,a8.XU,a8.XW,a8.XQ,a8.XP⟩:VL).XP⟩:VL)),aj A4 n4 c4 c.Yb,aj A5 n5 c5 c.Yg]) (cS [0,1,2,3,4,5,6,7,8,9] 12) ?_;refine aa ?_;obtain ⟨h0,k,h⟩:=ad h;refine o9 6 J (oC (uq k)) fun h1=> ?_
   exact jY
  exact jY
 rintro _ _ ⟨K,H,h,rfl,rfl⟩;exact eY
def DO (N:Nat)(c:Vz)(y17_0:Int)(a6 a8 a2:VL)(a:VY):Option (Int×Vz):=
 some (0,(⟨(⟨List.set (List.set c.m_.XS y17_0.toNat (⟨a6.no,a6.XV,a6.XU,a6.XW,a6.XQ,a6.XP⟩:VL)) y17_0.toNat (⟨(⟨a6.no,a6.XV,a6.XU,a6.XW,a6.XQ,a6.XP⟩:VL).no,(⟨a6.no,a6.XV,a6.XU,a6.XW,a6.XQ,a6.XP⟩:VL).XV,(⟨a6.no,a6.XV,a6.XU,a6.XW,a6.XQ,a6.XP⟩:VL).XU,a8.XW,(⟨a6.no,a6.XV,a6.XU,a6.XW,a6.XQ,a6.XP⟩:VL).XQ,(⟨a6.no,a6.XV,a6.XU,a6.XW,a6.XQ,a6.XP⟩:VL).XP⟩:VL),c.m_.XR⟩:Vw),c.Yb,c.Yg,(⟨a⟩:Vu)⟩:Vz))
def DM (N:Nat)(c:Vz)(y17_1:Int)(a6 a8 a2:VL)(a:VY):Option (Int×Vz):=
 some (0,(⟨(⟨c.m_.XS,List.set (List.set c.m_.XR y17_1.toNat (⟨a6.no,a6.XV,a6.XU,a6.XW,a6.XQ,a6.XP⟩:VL)) y17_1.toNat (⟨(⟨a6.no,a6.XV,a6.XU,a6.XW,a6.XQ,a6.XP⟩:VL).no,(⟨a6.no,a6.XV,a6.XU,a6.XW,a6.XQ,a6.XP⟩:VL).XV,(⟨a6.no,a6.XV,a6.XU,a6.XW,a6.XQ,a6.XP⟩:VL).XU,a8.XW,(⟨a6.no,a6.XV,a6.XU,a6.XW,a6.XQ,a6.XP⟩:VL).XQ,(⟨a6.no,a6.XV,a6.XU,a6.XW,a6.XQ,a6.XP⟩:VL).XP⟩:VL)⟩:Vw),c.Yb,c.Yg,(⟨a⟩:Vu)⟩:Vz))
def DY (c:Vz)(a1:Int)(a2:VL):Option (Int×Vz):=
 (fJ N c).bind fun m=>bif m then (some (1,c)) else ((nM N c a1).bind fun l=>bif !l then (some (50,c)) else ((lL N a2).bind fun j=>bif !j then (some (51,c)) else ((rj N c a1).bind fun i=>dB i (fun y17_0=>(ak c.m_.XS y17_0).bind fun a6=>(iP N a2).bind fun a8=>bif decide (a1.tmod 2=0) then ((lE N c.Yf a1 a2).bind fun f=>DO N c y17_0 a8 a6 a2 f.2.at_) else (DO N c y17_0 a8 a6 a2 c.Yf.at_)) (fun y17_1=>(ak c.m_.XR y17_1).bind fun d=>(iP N a2).bind fun a=>bif decide (a1.tmod 2=0) then ((lE N c.Yf a1 a2).bind fun e=>DM N c y17_1 a d a2 e.2.at_) else (DM N c y17_1 a d a2 c.Yf.at_)))))
theorem PZ {N:Nat}{c:Vz}{r:Int×Vz}(h:DY N c a1 a2=some r):Okc V5 142 [pV B1 0,iV a1,.agg #[iV a2.no,iV a2.XV,iV a2.XU,iV a2.XW,Y f l j,Y m o n]] ([ab B1 128 [Y A2 n2 c2,Y A3 n3 c3,Y A4 n4 c4,Y A5 n5 c5,pV B6 0],aC A2 n2 c2 c.m_.XS,aC A3 n3 c3 c.m_.XR,aj A4 n4 c4 c.Yb,aj A5 n5 c5 c.Yg,ab B6 186 [.map (some M7)],aA ax aU M7 c.Yf.at_,aj f l j a2.XQ,aj m o n a2.XP]) (fun u p=> ∃d2 d3 d4 e0 e1 e2 e3 e4 e5 e6 e7 e8 e9,u=iV r.1/\p=[ab B1 128 [Y d2 d3 d4,Y e0 e1 e2,Y e3 e4 e5,Y e6 e7 e8,pV B6 0],aC d2 d3 d4 r.2.m_.XS,aC e0 e1 e2 r.2.m_.XR,aj e3 e4 e5 r.2.Yb,aj e6 e7 e8 r.2.Yg,ab B6 186 [.map (some e9)],aA ax aU e9 r.2.Yf.at_,aj f l j a2.XQ,aj m o n a2.XP]):=by
 refine av Tryz.func142 ?_;intro g3;refine sY ?_;refine cR h (fun _ k=>kI k) fun h7 h=> ?_
 refine gH J h ?_ ?_<;>intro h
 ·exact eY
 refine cR h (fun _ k=>uA k) fun h8 h=> ?_
 refine gH J h ?_ ?_<;>intro h
 ·exact eY
 refine cR h (fun _ k=>rI k) fun h9 h=> ?_
 refine gH J h ?_ ?_<;>intro h
 ·exact eY
 refine aa ?_;obtain ⟨h6,f1,h⟩:=ad h;rcases h6 with y17_0|y17_1
 ·replace h:=gk h;refine gD (oR (rc f1)) ?_;rintro _ _ ⟨_,⟨rfl,rfl⟩,rfl⟩;obtain ⟨D,B,A,Q,h⟩:=aI h;refine aa ?_;refine gR (dR 2 J aw J (toNat_lt B A)) ?_;refine gR (dc 2 J aw J (toNat_lt B A) na) ?_;refine fS (fZ (u:=iV D.XW) 2 J aw J Q eo (fun _ _ _ h=>by obtain ⟨_,_,_,_,_,_,e,_⟩:=h;rw [e];rfl)) ?_;obtain ⟨a6,k,h⟩:=ad h;refine gD (oR (mN k)) ?_;rintro _ _ ⟨_,⟨g4,g5,g6,g7,g8,g9,rfl,rfl⟩,rfl⟩;refine gR (dR 4 J aw J (toNat_lt B A)) ?_;refine d6 (cu 0 J) ?_;refine d6 (cu 1 J) ?_;refine fm (dX (us:=(bw a6 g4 g5 g6 g7 g8 g9)) (z:=(⟨a6.no,a6.XV,a6.XU,a6.XW,a6.XQ,a6.XP⟩:VL)) 4 J J J J size45.out J (toNat_lt B A) J (fun S w vs xk d hr a=>by obtain rfl:=Xx (d.symm.trans Q);obtain ⟨_,_,_,_,_,_,rfl,F,E⟩:=hr;exact ⟨_,_,_,_,_,_,rfl,a 0 _ rfl rfl,a 1 _ rfl rfl⟩)) ?_;have f2:=BO (z:=(⟨a6.no,a6.XV,a6.XU,a6.XW,a6.XQ,a6.XP⟩:VL)) Q;refine gR (dR 4 J aw J (kq (toNat_lt B A))) ?_;refine gR (dc 4 J aw J (kq (toNat_lt B A)) na) ?_;refine fm (dX (us:=[iV D.XW]) (z:=(⟨(⟨a6.no,a6.XV,a6.XU,a6.XW,a6.XQ,a6.XP⟩:VL).no,(⟨a6.no,a6.XV,a6.XU,a6.XW,a6.XQ,a6.XP⟩:VL).XV,(⟨a6.no,a6.XV,a6.XU,a6.XW,a6.XQ,a6.XP⟩:VL).XU,D.XW,(⟨a6.no,a6.XV,a6.XU,a6.XW,a6.XQ,a6.XP⟩:VL).XQ,(⟨a6.no,a6.XV,a6.XU,a6.XW,a6.XQ,a6.XP⟩:VL).XP⟩:VL)) 4 J J J J size3.out J (kq (toNat_lt B A)) J (fun S w vs xk d hr a=>by obtain rfl:=Xx (d.symm.trans f2);obtain ⟨_,_,_,_,_,_,rfl,F,E⟩:=hr;exact ⟨_,_,_,_,_,_,rfl,F,E⟩)) ?_;refine aF (fun s L=> ∃O M,DO N c y17_0 a6 D a2 O=some r/\s=[(6,iV 0)]/\L=[aC A2 n2 c2 (List.set (List.set c.m_.XS y17_0.toNat (⟨a6.no,a6.XV,a6.XU,a6.XW,a6.XQ,a6.XP⟩:VL)) y17_0.toNat (⟨(⟨a6.no,a6.XV,a6.XU,a6.XW,a6.XQ,a6.XP⟩:VL).no,(⟨a6.no,a6.XV,a6.XU,a6.XW,a6.XQ,a6.XP⟩:VL).XV,(⟨a6.no,a6.XV,a6.XU,a6.XW,a6.XQ,a6.XP⟩:VL).XU,D.XW,(⟨a6.no,a6.XV,a6.XU,a6.XW,a6.XQ,a6.XP⟩:VL).XQ,(⟨a6.no,a6.XV,a6.XU,a6.XW,a6.XQ,a6.XP⟩:VL).XP⟩:VL)),aC A3 n3 c3 c.m_.XR,aj A4 n4 c4 c.Yb,aj A5 n5 c5 c.Yg,ab B1 128 [Y A2 n2 c2,Y A3 n3 c3,Y A4 n4 c4,Y A5 n5 c5,pV B6 0],aA ax aU M O,ab B6 186 [.map (some M)],aj f l j a2.XQ,aj m o n a2.XP]) ?_ ?_
  ·refine aa ?_;refine aJ (iz J J (by decide)) ?_;refine gH J h ?_ ?_<;>intro h
   ·refine cy I ([ap g4 g5 g6 a6.XQ,ap g7 g8 g9 a6.XP,ab g3 45 (bw a2 f l j m o n),ab B1 128 [Y A2 n2 c2,Y A3 n3 c3,Y A4 n4 c4,Y A5 n5 c5,pV B6 0],aC A2 n2 c2 (List.set (List.set c.m_.XS y17_0.toNat (⟨a6.no,a6.XV,a6.XU,a6.XW,a6.XQ,a6.XP⟩:VL)) y17_0.toNat (⟨(⟨a6.no,a6.XV,a6.XU,a6.XW,a6.XQ,a6.XP⟩:VL).no,(⟨a6.no,a6.XV,a6.XU,a6.XW,a6.XQ,a6.XP⟩:VL).XV,(⟨a6.no,a6.XV,a6.XU,a6.XW,a6.XQ,a6.XP⟩:VL).XU,D.XW,(⟨a6.no,a6.XV,a6.XU,a6.XW,a6.XQ,a6.XP⟩:VL).XQ,(⟨a6.no,a6.XV,a6.XU,a6.XW,a6.XQ,a6.XP⟩:VL).XP⟩:VL)),aC A3 n3 c3 c.m_.XR,aj A4 n4 c4 c.Yb,aj A5 n5 c5 c.Yg,aj f l j a2.XQ,aj m o n a2.XP]) (cS [0,1,2,3,4,5,6,7,10,11] 12) ?_;refine aa ?_;obtain ⟨i0,k,h⟩:=ad h;refine fg (cS [8,9,0,1,2,3,4,5,6,7,10,11] 12) (cS [2,3,4,5,6,7,8,9,10,11] 12) ?_;refine o9 6 J (Bj 2 2 (uq k) J J J J (t9 (ot (i:=10) J J) (t9 (ot (i:=11) J J) aW)) HS) fun i1=> ?_
    exact jY
   exact jY
  rintro _ _ ⟨O,M,h,rfl,rfl⟩;exact eY
 replace h:=gj h;refine gD (oR (rc f1)) ?_;rintro _ _ ⟨_,⟨rfl,rfl⟩,rfl⟩;obtain ⟨C,t,q,P,h⟩:=aI h;refine aa ?_;refine gR (dR 3 J aw J (toNat_lt t q)) ?_;refine gR (dc 3 J aw J (toNat_lt t q) na) ?_;refine fS (fZ (u:=iV C.XW) 3 J aw J P eo (fun _ _ _ h=>by obtain ⟨_,_,_,_,_,_,e,_⟩:=h;rw [e];rfl)) ?_;obtain ⟨a8,k,h⟩:=ad h;refine gD (oR (mN k)) ?_;rintro _ _ ⟨_,⟨Z,X,V,U,T,R,rfl,rfl⟩,rfl⟩;refine gR (dR 5 J aw J (toNat_lt t q)) ?_;refine d6 (cu 0 J) ?_;refine d6 (cu 1 J) ?_;refine aa ?_;refine fm (dX (us:=(bw a8 Z X V U T R)) (z:=(⟨a8.no,a8.XV,a8.XU,a8.XW,a8.XQ,a8.XP⟩:VL)) 5 J J J J size45.out J (toNat_lt t q) J (fun S w vs xk d hr a=>by obtain rfl:=Xx (d.symm.trans P);obtain ⟨_,_,_,_,_,_,rfl,F,E⟩:=hr;exact ⟨_,_,_,_,_,_,rfl,a 0 _ rfl rfl,a 1 _ rfl rfl⟩)) ?_;have g0:=BO (z:=(⟨a8.no,a8.XV,a8.XU,a8.XW,a8.XQ,a8.XP⟩:VL)) P;refine gR (dR 5 J aw J (kq (toNat_lt t q))) ?_;refine gR (dc 5 J aw J (kq (toNat_lt t q)) na) ?_;refine fm (dX (us:=[iV C.XW]) (z:=(⟨(⟨a8.no,a8.XV,a8.XU,a8.XW,a8.XQ,a8.XP⟩:VL).no,(⟨a8.no,a8.XV,a8.XU,a8.XW,a8.XQ,a8.XP⟩:VL).XV,(⟨a8.no,a8.XV,a8.XU,a8.XW,a8.XQ,a8.XP⟩:VL).XU,C.XW,(⟨a8.no,a8.XV,a8.XU,a8.XW,a8.XQ,a8.XP⟩:VL).XQ,(⟨a8.no,a8.XV,a8.XU,a8.XW,a8.XQ,a8.XP⟩:VL).XP⟩:VL)) 5 J J J J size3.out J (kq (toNat_lt t q)) J (fun S w vs xk d hr a=>by obtain rfl:=Xx (d.symm.trans g0);obtain ⟨_,_,_,_,_,_,rfl,F,E⟩:=hr;exact ⟨_,_,_,_,_,_,rfl,F,E⟩)) ?_;refine aF (fun s L=> ∃K H,DM N c y17_1 a8 C a2 K=some r/\s=[(6,iV 0)]/\L=[aC A2 n2 c2 c.m_.XS,aC A3 n3 c3 (List.set (List.set c.m_.XR y17_1.toNat (⟨a8.no,a8.XV,a8.XU,a8.XW,a8.XQ,a8.XP⟩:VL)) y17_1.toNat (⟨(⟨a8.no,a8.XV,a8.XU,a8.XW,a8.XQ,a8.XP⟩:VL).no,(⟨a8.no,a8.XV,a8.XU,a8.XW,a8.XQ,a8.XP⟩:VL).XV,(⟨a8.no,a8.XV,a8.XU,a8.XW,a8.XQ,a8.XP⟩:VL).XU,C.XW,(⟨a8.no,a8.XV,a8.XU,a8.XW,a8.XQ,a8.XP⟩:VL).XQ,(⟨a8.no,a8.XV,a8.XU,a8.XW,a8.XQ,a8.XP⟩:VL).XP⟩:VL)),aj A4 n4 c4 c.Yb,aj A5 n5 c5 c.Yg,ab B1 128 [Y A2 n2 c2,Y A3 n3 c3,Y A4 n4 c4,Y A5 n5 c5,pV B6 0],aA ax aU H K,ab B6 186 [.map (some H)],aj f l j a2.XQ,aj m o n a2.XP]) ?_ ?_
 ·refine aa ?_;refine aJ (iz J J (by decide)) ?_;refine gH J h ?_ ?_<;>intro h
  ·refine cy I ([ap Z X V a8.XQ,ap U T R a8.XP,ab g3 45 (bw a2 f l j m o n),ab B1 128 [Y A2 n2 c2,Y A3 n3 c3,Y A4 n4 c4,Y A5 n5 c5,pV B6 0],aC A2 n2 c2 c.m_.XS,aC A3 n3 c3 (List.set (List.set c.m_.XR y17_1.toNat (⟨a8.no,a8.XV,a8.XU,a8.XW,a8.XQ,a8.XP⟩:VL)) y17_1.toNat (⟨(⟨a8.no,a8.XV,a8.XU,a8.XW,a8.XQ,a8.XP⟩:VL).no,(⟨a8.no,a8.XV,a8.XU,a8.XW,a8.XQ,a8.XP⟩:VL).XV,(⟨a8.no,a8.XV,a8.XU,a8.XW,a8.XQ,a8.XP⟩:VL).XU,C.XW,(⟨a8.no,a8.XV,a8.XU,a8.XW,a8.XQ,a8.XP⟩:VL).XQ,(⟨a8.no,a8.XV,a8.XU,a8.XW,a8.XQ,a8.XP⟩:VL).XP⟩:VL)),aj A4 n4 c4 c.Yb,aj A5 n5 c5 c.Yg,aj f l j a2.XQ,aj m o n a2.XP]) (cS [0,1,2,3,4,5,6,7,10,11] 12) ?_;refine aa ?_;obtain ⟨i2,k,h⟩:=ad h;refine fg (cS [8,9,0,1,2,3,4,5,6,7,10,11] 12) (cS [2,3,4,5,6,7,8,9,10,11] 12) ?_;refine o9 6 J (Bj 2 2 (uq k) J J J J (t9 (ot (i:=10) J J) (t9 (ot (i:=11) J J) aW)) HS) fun i3=> ?_
   exact jY
  exact jY
 rintro _ _ ⟨K,H,h,rfl,rfl⟩;exact eY
theorem PU {N:Nat}{c:Vz}{r:Int×Vz}(h:uE N c a1 a2=some r):Okc V5 142 [pV B1 0,iV a1,.agg #[iV a2.no,iV a2.XV,iV a2.XU,iV a2.XW,Y A2 n2 c2,Y A3 n3 c3]] ([ap A2 n2 c2 a2.XQ,ap A3 n3 c3 a2.XP,oDHeap B1 c]) (fun u p=>u=iV r.1/\p=[oDHeap B1 r.2]):=il 2 rfl (fun _=>Qq h)
theorem Ps {N:Nat}{c:Vz}{r:Int×Vz}(h:DY N c a1 a2=some r):Okc V5 142 [pV B1 0,iV a1,.agg #[iV a2.no,iV a2.XV,iV a2.XU,iV a2.XW,Y A2 n2 c2,Y A3 n3 c3]] ([oDHeap B1 c,aj A2 n2 c2 a2.XQ,aj A3 n3 c3 a2.XP]) (fun u p=>u=iV r.1/\p=[oDHeap B1 r.2,aj A2 n2 c2 a2.XQ,aj A3 n3 c3 a2.XP]):=il 0 rfl (fun _=>PZ h)
def lF (c:VK)(a1:VH)(a2:VL):Option VK:=
 (nS N a1).bind fun a6=>bif a6 then ((uE N c.XX a1.N a2).bind fun a8=>some (⟨c.Yj,c.Ye,(),a8.2,c.Ya,c.Yk,c.Yh,c.Yr,c.Ys,c.Yl,c.Ym⟩:VK)) else (some c)
theorem P3 {N:Nat}{a1:VH}{r:VK}(h:lF N c a1 a2=some r):Okc V5 93 [pV B1 0,(bS a1),.agg #[iV a2.no,iV a2.XV,iV a2.XU,iV a2.XW,Y e t q,Y f l j]] ([ap e t q a2.XQ,ap f l j a2.XP,ab B1 85 (cF c B2 a A4 n4 c4 A5 n5 c5 A6 n6 c6),oDHeap B2 c.XX,oDTable a c.Ya,bi A4 n4 c4 c.Yk,cx A5 n5 c5 c.Yl,bi A6 n6 c6 c.Ym]) (fun u p=> ∃n i m A1 d c1 A2 n2 c2,u=.tuple #[]/\p=[ab B1 85 (cF r B2 a n i m A1 d c1 A2 n2 c2),oDHeap B2 r.XX,oDTable a r.Ya,bi n i m r.Yk,cx A1 d c1 r.Yl,bi A2 n2 c2 r.Ym]):=by
 refine av Tryz.func93 ?_;intro o;refine bB fun a6=> ?_
 refine aJ (sr J Vj) ?_;refine cR h (fun _ k=>Ed k) fun a8 h=> ?_
 refine gH J h ?_ ?_<;>intro h
 ·refine cy I ([ab a6 45 (bw a2 e t q f l j),ab o 29 (ee a1),ap e t q a2.XQ,ap f l j a2.XP,ab B1 85 (cF c B2 a A4 n4 c4 A5 n5 c5 A6 n6 c6),oDTable a c.Ya,bi A4 n4 c4 c.Yk,cx A5 n5 c5 c.Yl,bi A6 n6 c6 c.Ym]) (cS [0,1,2,3,4,6,7,8,9] 10) ?_;refine aa ?_;obtain ⟨z,k,h⟩:=ad h;refine zD 7 J (oC (PU k)) ?_;rintro _ _ ⟨_,⟨rfl,rfl⟩,rfl⟩;refine bE ?_;exact eY
 exact eY
def nD (c:VK)(a1:VH)(a2:VL):Option VK:=
 (nS N a1).bind fun a6=>bif a6 then ((DY N c.XX a1.N a2).bind fun a8=>some (⟨c.Yj,c.Ye,(),a8.2,c.Ya,c.Yk,c.Yh,c.Yr,c.Ys,c.Yl,c.Ym⟩:VK)) else (some c)
theorem Py {N:Nat}{a1:VH}{r:VK}(h:nD N c a1 a2=some r):Okc V5 93 [pV B1 0,(bS a1),.agg #[iV a2.no,iV a2.XV,iV a2.XU,iV a2.XW,Y e t q,Y f l j]] ([ab B1 85 (cF c B2 a A4 n4 c4 A5 n5 c5 A6 n6 c6),oDHeap B2 c.XX,oDTable a c.Ya,bi A4 n4 c4 c.Yk,cx A5 n5 c5 c.Yl,bi A6 n6 c6 c.Ym,aj e t q a2.XQ,aj f l j a2.XP]) (fun u p=> ∃a6 a8 A z o n m i d,u=.tuple #[]/\p=[ab B1 85 (cF r B2 a a6 a8 A z o n m i d),oDHeap B2 r.XX,oDTable a r.Ya,bi a6 a8 A r.Yk,cx z o n r.Yl,bi m i d r.Ym,aj e t q a2.XQ,aj f l j a2.XP]):=by
 refine av Tryz.func93 ?_;intro C;refine bB fun B=> ?_
 refine aJ (sr J Vj) ?_;refine cR h (fun _ k=>Ed k) fun E h=> ?_
 refine gH J h ?_ ?_<;>intro h
 ·refine cy I ([ab B 45 (bw a2 e t q f l j),ab C 29 (ee a1),ab B1 85 (cF c B2 a A4 n4 c4 A5 n5 c5 A6 n6 c6),oDTable a c.Ya,bi A4 n4 c4 c.Yk,cx A5 n5 c5 c.Yl,bi A6 n6 c6 c.Ym,aj e t q a2.XQ,aj f l j a2.XP]) (cS [0,1,2,4,5,6,7,8,9] 10) ?_;refine aa ?_;obtain ⟨D,k,h⟩:=ad h;refine zD 7 J (oC (Ps k)) ?_;rintro _ _ ⟨_,⟨rfl,rfl⟩,rfl⟩;refine bE ?_;exact eY
 exact eY
theorem PE {N:Nat}{a1:VH}{r:VK}(h:lF N c a1 a2=some r){B1 B2 a:Nat}:Okc V5 93 [pV B1 0,(bS a1),.agg #[iV a2.no,iV a2.XV,iV a2.XU,iV a2.XW,Y A4 n4 c4,Y A5 n5 c5]] ([ap A4 n4 c4 a2.XQ,ap A5 n5 c5 a2.XP,oDWorld B1 B2 a c]) (fun u p=>u=.tuple #[]/\p=[oDWorld B1 B2 a r]):=il 2 rfl (fun _=>P3 h)
theorem HJ {N:Nat}{a1:VH}{r:VK}(h:nD N c a1 a2=some r){B1 B2 a:Nat}:Okc V5 93 [pV B1 0,(bS a1),.agg #[iV a2.no,iV a2.XV,iV a2.XU,iV a2.XW,Y A4 n4 c4,Y A5 n5 c5]] ([oDWorld B1 B2 a c,aj A4 n4 c4 a2.XQ,aj A5 n5 c5 a2.XP]) (fun u p=>u=.tuple #[]/\p=[oDWorld B1 B2 a r,aj A4 n4 c4 a2.XQ,aj A5 n5 c5 a2.XP]):=il 0 rfl (fun _=>Py h)
def mM (c:VK)(a1:VH):Option VK:=
 (ia N c a1).bind fun a=>dB a (fun y5_0=>some c) (fun y5_1=>bif decide (aM .i64 y5_1.XY.XU 16=0) then ((nD N c a1 (⟨y5_1.XY.no,y5_1.XY.XV,dD .i64 y5_1.XY.XU 16,y5_1.XY.XW,y5_1.XY.XQ,y5_1.XY.XP⟩:VL)).bind fun a6=>some a6) else (some c))
theorem IU {N:Nat}{a1:VH}{r:VK}(h:mM N c a1=some r){B1 B2 a:Nat}:Okc V5 38 [pV B1 0,(bS a1)] ([oDWorld B1 B2 a c]) (fun u p=>u=.tuple #[]/\p=[oDWorld B1 B2 a r]):=by
 refine av Tryz.func38 ?_;intro i;refine aa ?_;obtain ⟨d,a6,h⟩:=ad h;rcases d with y5_0|y5_1
 ·replace h:=gk h;refine gD (oR (eP a6)) ?_;rintro _ _ ⟨_,⟨rfl,rfl⟩,rfl⟩;refine aa ?_;refine d8 J ?_;exact eY
 replace h:=gj h;refine gD (oR (eP a6)) ?_;rintro _ _ ⟨_,⟨B6,e,t,q,f,l,j,rfl,rfl⟩,rfl⟩;refine aa ?_;refine aJ (fL J J) ?_;refine gH J h ?_ ?_<;>intro h
 ·refine aa ?_;refine aJ (qc J J) ?_;refine cy I ([ab B6 103 [iV y5_1.XY.no,iV y5_1.XY.XV,iV (dD .i64 y5_1.XY.XU 16),iV y5_1.XY.XW,Y e t q,Y f l j,pV B1 0,iV y5_1.at_.no,iV y5_1.at_.N,.string y5_1.at_.S],aj e t q y5_1.XY.XQ,aj f l j y5_1.XY.XP,ab i 29 (ee a1)]) (cS [0,1,2,3] 5) ?_;refine aa ?_;obtain ⟨a8,k,h⟩:=ad h;refine zD 6 J (oC (HJ k)) ?_;rintro _ _ ⟨_,⟨rfl,rfl⟩,rfl⟩;refine bE ?_;exact eY
 exact eY
