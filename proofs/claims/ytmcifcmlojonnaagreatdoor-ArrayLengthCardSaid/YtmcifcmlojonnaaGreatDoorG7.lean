/- Merged texts: part 7. No conditions of their own. -/
import Derived.Test.YtmcifcmlojonnaaGreatDoorG6
set_option maxHeartbeats 4000000
namespace Go.Proofs.YtmcifcmlojonnaaGreatDoor
variable (N:Nat){l:Nat}{σ:Type}{a1:W5}{a0:WI}
section
theorem Wz:type_of% Tryz.underlying46:=Tryz.underlying46
theorem Wy:type_of% Tryz.func3:=Tryz.func3
theorem Wx:type_of% Tryz.underlying216:=Tryz.underlying216
variable {A1 A2 A3 A4 A6 A7:Option Addr}{B1 B2 B3 B6 M2 M5 c1 c2 c3 c4 c6 c7 n1 n2 n3 n4 n6 n7:Nat}
open Go.RowKit Asn
set_option maxRecDepth 20000
def tK (p9 a6:W6)(a7:W5)(a8:(List (Int×Unit)))(p13:Int):Option WF:=
 (iF N (⟨(⟨p9,a6⟩:WK),a7,a8,p13⟩:WF)).bind fun b0=>some b0
def jV (N:Nat)(a1:WW):Nat->Int->W6->W6->W5->(List (Int×Unit))->Int->Option WF
 |0,_,_,_,_,_,_=>none
 |b7+1,p15,a7,a8,b0,b5,b6=>bif decide (p15<(a1.length:Int)) then ((aq a1 p15).bind fun b9=>(qZ N b9 (⟨(⟨a7,a8⟩:WK),b0,b5,b6⟩:WF)).bind fun a6=>aL (in64 (p15+1)) ((jV N a1 b7) (p15+1) a6.m_.Zh a6.m_.Zj a6.Zx a6.ZJ a6.ZI)) else (tK N a7 a8 b0 b5 b6)
def oH (a0:WK)(a1:WW):Option WF:=
 jV N a1 N 0 a0.Zh a0.Zj [] ([]:(List (Int×Unit))) 0
theorem EI {N:Nat}{a0:WK}{a1:WW}{r:WF}(h:oH N a0 a1=some r):Okc Xa 190 [.agg #[W A1 n1 c1,W A2 n2 c2],W A3 n3 c3] ([iI A1 n1 c1 a0.Zh,iI A2 n2 c2 a0.Zj,aY A3 n3 c3 a1]) (fun u post=> ∃B0 A1 n1 c1 A2 n2 c2 A3 n3 c3 M4,u=pV B0 0/\post=[ah B0 249 [W A1 n1 c1,W A2 n2 c2,W A3 n3 c3,.map (some M4),iV r.ZI],iI A1 n1 c1 r.m_.Zh,iI A2 n2 c2 r.m_.Zj,ur A3 n3 c3 r.Zx,bB jK Dx M4 r.ZJ]):=by
 refine ce Tryz.func190 ?_;intro B4;refine ab ?_;refine gD (tY (ek:=jK) (ev:=Dx)) ?_;rintro _ _ ⟨M5,rfl,rfl⟩
 refine cl fun B6=> ?_
 intro B7;refine ab ?_;refine fY (jd J) ?_;refine am (fun s L=> ∃p9 a6 a7 a8 p13 A9 n9 c9 b0 b5 b6 b7 b9 c8 d0,tK N p9 a6 a7 a8 p13=some r/\s=[(4,.pointer none),(5,pV B7 0)]/\L=[ah B7 245 [pV B6 0],iI A9 n9 c9 p9,iI b0 b5 b6 a6,ur b7 b9 c8 a7,bB jK Dx d0 a8,ah B6 249 [W A9 n9 c9,W b0 b5 b6,W b7 b9 c8,.map (some d0),iV p13]]) ?_ ?_
 ·refine ab ?_;refine iX (fun m s L=> ∃p15 d1 d2 d3 d4 d6 e0 e1 e2 e3 e4 e5 e6 e7 e8 e9,jV N a1 m p15 d1 d2 d3 d4 d6=some r/\s=[(4,.pointer none),(5,pV B7 0),(6,.func (.func 206) #[] #[pV B7 0]),(14,W A3 n3 c3),(15,iV (a1.length:Int)),(16,iV p15)]/\L=[aY A3 n3 c3 a1,ah B7 245 [pV B6 0],iI e0 e1 e2 d1,iI e3 e4 e5 d2,ur e6 e7 e8 d3,bB jK Dx e9 d4,ah B6 249 [W e0 e1 e2,W e3 e4 e5,W e6 e7 e8,.map (some e9),iV d6]]) N _ _ ⟨0,a0.Zh,a0.Zj,[],([]:(List (Int×Unit))),0,A1,n1,c1,A2,n2,c2,none,0,0,M5,h,J,J⟩ sA ((ci (nH .i64) 3 _).trans (cS [7,1,5,6,0,3,2] 8)) ?_;rintro (_|f3)
  all_goals (refine fun s L=>aQ fun p15=>aQ fun d1=>aQ fun d2=>aQ fun d3=>aQ fun d4=>aQ fun d6=>aQ fun e0=>aQ fun e1=>aQ fun e2=>aQ fun e3=>aQ fun e4=>aQ fun e5=>aQ fun e6=>aQ fun e7=>aQ fun e8=>aQ fun e9=>K9 fun h=> ?_)
  ·exact aJ h
  rw [jV.eq_2] at h;refine ab ?_;refine aA ?_;refine gH J h ?_ ?_<;>intro h
  ·refine sY ?_;obtain ⟨f4,f0,f1,f2,h⟩:=bz h
   refine cl fun f6=> ?_
   obtain ⟨f9,k,h⟩:=aa h;refine gD (qh (Be k) J J J (bH [3,4] [2,7,5,6] [0,1,3,4] 8 J)) ?_;rintro _ _ ⟨_,⟨g0,g1,g2,g3,g4,g5,g6,g7,g8,g9,rfl,rfl⟩,rfl⟩;refine ab ?_;obtain ⟨h0,h⟩:=ae h;exact lY
  exact jY
 refine fun s L=>aQ fun p9=>aQ fun a6=>aQ fun a7=>aQ fun a8=>aQ fun p13=>aQ fun A9=>aQ fun n9=>aQ fun c9=>aQ fun b0=>aQ fun b5=>aQ fun b6=>aQ fun b7=>aQ fun b9=>aQ fun c8=>aQ fun d0=>K9 fun h=> ?_
 refine ab ?_;obtain ⟨h1,k,h⟩:=aa h;refine gD (oC (rT k)) ?_;rintro _ _ ⟨_,⟨h2,h3,h4,h5,h6,h7,h8,h9,i0,i1,rfl,rfl⟩,rfl⟩;exact eY
def vj (a0:WI):Option Bool:=
 (bif decide (a0.Za=8) then ((gG N a0).bind fun y5=>some y5) else (some false)).bind fun b4=>some b4
theorem El {N:Nat}{r:Bool}(h:vj N a0=some r):Okc Xa 165 [.agg #[iV a0.Za,iV a0.Zi,iV a0.Ze,iV a0.Zg,W A1 n1 c1,W A2 n2 c2]] ([aY A1 n1 c1 a0.Zc,aY A2 n2 c2 a0.Zb]) (fun u post=>u=.bool r/\post=[]):=by
 refine ce Tryz.func165 ?_;intro B3;refine ab ?_
 refine ou 3 9 6 h (fun _ g4 h=> ?_) fun b4 h=> ?_
 ·refine cR h (fun _ k=>mI k) fun y5 h=> ?_
  exact gY
 exact eY
def eI (N:Nat){σ:Type}(fy:(WV×WV)->σ->Option (Bool×σ))(a1:WI):Nat->Int->σ->Option σ
 |0,_,_=>none
 |m4+1,p5,p6=>aL (in64 (p5+1)) (bif decide (p5+1<(a1.Zb.length:Int)) then ((aq a1.Zb p5).bind fun x9=>aL (in64 (p5+1)) ((aq a1.Zb (p5+1)).bind fun a7=>(fy (x9,a7) p6).bind fun a6=>bif !a6.1 then (some a6.2) else (aL (in64 (p5+2)) ((eI N fy a1 m4) (p5+2) a6.2)))) else (some p6))
def kc (a1:WI)(fy:(WV×WV)->σ->Option (Bool×σ))(s0:σ):Option σ:=
 eI N fy a1 N 0 s0
theorem tu {N:Nat}{a1:WI}{fy:(WV×WV)->σ->Option (Bool×σ)}{s0 r:σ}(h:kc N a1 fy s0=some r){G:σ->W8}(hY:tg Xa l G (fun x=> [.agg #[iV x.1.Za,iV x.1.N,.string x.1.S],.agg #[iV x.2.Za,iV x.2.N,.string x.2.S]]) fy):Okc Xa 221 [.func (.yield l) #[] #[],pV B1 0] (aW B1 94 (iS a1 A2 n2 c2 A3 n3 c3)::aY A2 n2 c2 a1.Zc::aY A3 n3 c3 a1.Zb::(G s0)) (fun u post=>u=.tuple #[]/\post=G r):=by
 refine ce Tryz.func221 ?_;refine lK (fun m s L=> ∃(p5:Int) (p6:σ),eI N fy a1 m p5 p6=some r/\s=[(0,.func (.yield l) #[] #[]),(1,pV B1 0),(3,iV p5)]/\L=aY A2 n2 c2 a1.Zc::aY A3 n3 c3 a1.Zb::aW B1 94 (iS a1 A2 n2 c2 A3 n3 c3)::(G p6)) N ?_;rintro m4 _ _ ⟨p5,p6,h,rfl,rfl⟩;rw [eI.eq_2] at h;refine sZ ?_;obtain ⟨q7,h⟩:=ae h;refine dv h ?_ ?_<;>intro h
 ·refine sY ?_;refine aA ?_;obtain ⟨x9,b6,b7,b9,h⟩:=bz h;obtain ⟨b5,h⟩:=ae h;obtain ⟨a6,a7,a8,b0,h⟩:=bz h;refine gw (t:=[(0,.func (.yield l) #[] #[]),(1,pV B1 0),(3,iV p5)]) ?_ mh (ad _)
  refine iW O 12 [] [0,5,11] [12,13,14,15,16,17,18,19,20,21,22,23] [[],[],[1],[],[2,3],[4],[],[6],[],[8],[7,9],[10]] [aV (.func (.yield l) #[] #[]),
 aV (pV B1 5),
 aV (W A3 n3 c3),
 aV (iV p5),
 aV (dF (W A3 n3 c3) p5.toNat 3 0),
 aV (.agg #[iV x9.Za,iV x9.N,.string x9.S]),
 aV (pV B1 5),
 aV (W A3 n3 c3),
 aV (iV p5),
 aV (iV (p5+1)),
 aV (dF (W A3 n3 c3) ((p5+1).toNat) 3 0),
 aV (.agg #[iV a6.Za,iV a6.N,.string a6.S])] [] (ad _) (mc) O rfl rfl ?_ ?_ ?_
  ·exact mb
  ·refine aF J ?_ ?_
   ·exact yE (ee (us:=[iV a6.Za,iV a6.N,.string a6.S]) 1 J bj J b0 agg28.out (fun _ _ _ h=>by rw [show _=_ from h];rfl)) J (iL J (ad _))
   refine qR (cM 1 J bj J J t9 size28.out a7 a8) ?_;refine qE (iz J J b5.1 b5.2) ?_;refine qE (ap J) ?_;refine qR (Bg 2 J J sC J) ?_;refine qE (kH J wB) ?_;refine aF J ?_ ?_
   ·exact yE (ee (us:=[iV x9.Za,iV x9.N,.string x9.S]) 1 J bj J b9 agg28.out (fun _ _ _ h=>by rw [show _=_ from h];rfl)) J (iL J (ad _))
   refine qR (cM 1 J bj J J t9 size28.out b6 b7) ?_;refine qE (ap J) ?_;refine qR (Bg 2 J J sC J) ?_;refine qE (kH J wB) ?_;refine qE (ap J) ?_;exact dH
  refine oe (t:=[(12,.func (.yield l) #[] #[]),(17,.agg #[iV x9.Za,iV x9.N,.string x9.S]),(23,.agg #[iV a6.Za,iV a6.N,.string a6.S]),(0,.func (.yield l) #[] #[]),(1,pV B1 0),(3,iV p5)]) (L':=aY A2 n2 c2 a1.Zc::aY A3 n3 c3 a1.Zb::aW B1 94 (iS a1 A2 n2 c2 A3 n3 c3)::(G p6)) ?_ mh (ad _);obtain ⟨c8,k,h⟩:=aa h;refine uk 12 J O (vD (a:=(x9,a6)) [aY A2 n2 c2 a1.Zc,aY A3 n3 c3 a1.Zb,aW B1 94 (iS a1 A2 n2 c2 A3 n3 c3)] hY k J J) J J J ?_;rintro _ _ ⟨rfl,rfl⟩;refine Cn 13 J O (La J) J J J ?_;refine mg O ?_;refine dv h ?_ ?_<;>intro h
  ·exact eY
  refine ab ?_;obtain ⟨c9,h⟩:=ae h;exact lY
 exact eY
def ne (N:Nat)(a0:WI):Option Unit:=
 some ()
theorem wN {N:Nat}{r:Unit}(h:ne N a0=some r):Okc Xa 195 [.agg #[iV a0.Za,iV a0.Zi,iV a0.Ze,iV a0.Zg,W A1 n1 c1,W A2 n2 c2]] ([aY A1 n1 c1 a0.Zc,aY A2 n2 c2 a0.Zb]) (fun u post=> ∃a6,u=.func (.func 221) #[] #[pV a6 0]/\post=[ah a6 94 (iS a0 A1 n1 c1 A2 n2 c2)]):=by
 refine ce Tryz.func195 ?_;intro B3;refine ab ?_;refine fY (jd J) ?_;exact eN
def wO (N:Nat):Option Int:=
 some (-1)
def mi (N:Nat)(a1:Int)(a0:W5):Nat->Int->Option Int
 |0,_=>none
 |m3+1,p4=>bif decide (p4<(a0.length:Int)) then ((aq a0 p4).bind fun x6=>bif decide (a1=x6) then (some p4) else (aL (in64 (p4+1)) ((mi N a1 a0 m3) (p4+1)))) else (wO N)
def tC (a0:W5)(a1:Int):Option Int:=
 mi N a1 a0 N 0
theorem DJ {N:Nat}{a0:W5}{a1 r:Int}(h:tC N a0 a1=some r):Okc Xa 196 [W A1 n1 c1,iV a1] ([xp A1 n1 c1 a0]) (fun u post=>u=iV r/\post=[]):=by
 refine ce Tryz.func196 ?_;refine am (fun s L=>wO N=some r/\s=[(4,iV 0)]/\L=[]) ?_ ?_
 ·refine ab ?_;refine lK (fun m s L=> ∃(p4:Int),mi N a1 a0 m p4=some r/\s=[(0,W A1 n1 c1),(1,iV a1),(4,iV 0),(7,iV (a0.length:Int)),(8,iV p4)]/\L=[xp A1 n1 c1 a0]) N ?_;rintro m3 _ _ ⟨p4,h,rfl,rfl⟩;rw [mi.eq_2] at h;refine ab ?_;refine aA ?_;refine gH J h ?_ ?_<;>intro h
  ·refine sY ?_;obtain ⟨x6,a6,a7,a8,h⟩:=bz h;refine dv h ?_ ?_<;>intro h
   ·exact eY
   refine ab ?_;obtain ⟨q8,h⟩:=ae h;exact lY
  exact jY
 rintro _ _ ⟨h,rfl,rfl⟩;exact eY
def kf (a0:W5)(a1:Int):Option Bool:=
 (tC N a0 a1).bind fun y2=>some (decide (0<=y2))
theorem tD {N:Nat}{a0:W5}{a1:Int}{r:Bool}(h:kf N a0 a1=some r):Okc Xa 168 [W A1 n1 c1,iV a1] ([xp A1 n1 c1 a0]) (fun u post=>u=.bool r/\post=[]):=by
 refine ce Tryz.func168 ?_
 refine cR h (fun _ k=>DJ k) fun y2 h=> ?_
 exact eN
def jr (a1:W5)(a6:WV×WV):(W5)->Option (Option Exit×W5)
 |p13=>(bif decide (a6.2.Za=7) then (some true) else (some (decide (a6.2.Za=9)))).bind fun a7=>(bif a7 then ((kf N a1 a6.1.N).bind fun a8=>some a8) else (some false)).bind fun b0=>bif b0 then (aL (cF (p13.length+([a6.2.N]:List Int).length)) (some (none,p13++([a6.2.N]:List Int)))) else (some (none,p13))
def sG (a0:WI)(a1:W5):Option W5:=
 (vj N a0).bind fun y6=>bif !y6 then (some []) else ((ne N a0).bind fun a7=>(kc N a0 (cN (fun x st=>jr N a1 x st)) (none,[])).bind fun a6=>qT a6.1 (some a6.2) none (fun _=>none))
theorem F8 {N:Nat}{r:W5}(h:sG N a0 a1=some r):Okc Xa 209 [.agg #[iV a0.Za,iV a0.Zi,iV a0.Ze,iV a0.Zg,W A1 n1 c1,W A2 n2 c2],W A3 n3 c3] ([aY A1 n1 c1 a0.Zc,aY A2 n2 c2 a0.Zb,xp A3 n3 c3 a1]) (fun u post=> ∃A0 n0 c0,u=W A0 n0 c0/\post=[ur A0 n0 c0 r]):=by
 refine ce Tryz.func209 ?_;intro B4
 refine cl fun B5=> ?_
 refine sZ ?_
 refine cR h (fun _ k=>El k) fun y6 h=> ?_
 refine gH J h ?_ ?_<;>intro h
 ·refine ab ?_;obtain rfl:=bD h;exact od J J ((ci (nH .i64) 3 _).trans (cS [0] 6)) ⟨_,_,_,J,J⟩
 refine cl fun B9=> ?_
 refine sZ ?_;obtain ⟨d0,k,h⟩:=aa h;refine gD (oR (wN k)) ?_;rintro _ _ ⟨_,⟨b5,rfl,rfl⟩,rfl⟩;refine ab ?_;refine gw ?_ bQ (lr 0 J);obtain ⟨b6,k,h⟩:=aa h;refine ul (en:=(fun x=> [.agg #[iV x.1.Za,iV x.1.N,.string x.1.S],.agg #[iV x.2.Za,iV x.2.N,.string x.2.S]])) (fun x st=>jr N a1 x st) (fun (st:W5) (mz:((Option Addr×Nat×Nat)))=> [xp A3 n3 c3 a1,ah B5 144 [W A3 n3 c3],bd (nH .i64) 3 (.slice mz.1 mz.2.1 mz.2.2) st,ah B9 144 [.slice mz.1 mz.2.1 mz.2.2]]) [aW b5 94 (iS a0 A1 n1 c1 A2 n2 c2),aY A1 n1 c1 a0.Zc,aY A2 n2 c2 a0.Zb] ([]) ((none,0,0)) J J call221.out J (fun _=>J) (fun l G hY=>(tu k hY).mono fun _ _ hh=>hh.2) ((ci (nH .i64) 3 _).trans (bH [1,5,6] [] [7,3,0,2] 8 J)) h ?_ ?_ ?_ ?_
 ·rintro l b0 p13 je sr12 ⟨a6,a7,a8⟩ h;replace h:jr N a1 b0 p13=some (je,sr12):=h;simp only [AH,Yu,Yv,Yw,Yo,Yp,Y4,Xu]
  refine cl fun d1=> ?_
  intro d2;refine ab ?_;refine gS 4 22 18 h ?_;intro d3 h;refine ab ?_
  refine ou 5 28 23 h (fun _ d4 h=> ?_) fun d6 h=> ?_
  ·refine cR h (fun _ k=>tD k) fun e0 h=> ?_
   exact gY
  refine dv h ?_ ?_<;>intro h
  ·refine ab ?_;refine gD (aB (R:=(nH .i64)) (vss:=[[iV b0.2.N]]) (xs:=[b0.2.N]) J (ru _) J J (fun _ _ hr=> .cons J All2.nil)) ?_;rintro _ _ ⟨e1,e2,e3,rfl,rfl⟩;obtain ⟨b7,h⟩:=ae h
   refine vc (aX 5 0 J J ao J J Wl Sg J J b7) fun b9 c8 c9=> ?_
   obtain ⟨rfl,rfl⟩:=YO (YM h);exact Da ((cS [3,4,5,6] 7).trans (fZ (b9,c8,c9) J))
  refine ab ?_;obtain ⟨rfl,rfl⟩:=YO (YM h);exact Da ((cS [2,3,4,5] 6).trans (fZ (a6,a7,a8) J))
 ·rintro ⟨a6,a7,a8⟩ h;refine qG ([xp A3 n3 c3 a1,ah B5 144 [W A3 n3 c3],ur a6 a7 a8 b6.2,ah B9 144 [W a6 a7 a8]]) J ?_;exact eY
 ·rintro ⟨a6,a7,a8⟩ h;exact aJ h
 rintro i ⟨a6,a7,a8⟩ h;exact aJ h
theorem DH {r:W5}: ∀v post,((fun (u:Value) (post:W8)=> ∃A0 n0 c0,u=W A0 n0 c0/\post=[ur A0 n0 c0 r])) v post-> ∀c∈post,ij c:=by
 rintro _ _ ⟨_,_,_,rfl,rfl⟩;exact t5 qv (au)
def uz (N:Nat)(a0:WF)(p7 p8:W6)(p9:W5)(a6:(List (Int×Unit)))(a7:Int):Option (Bool×WF):=
 some (decide ((a0.Zx.length:Int)<(p9.length:Int)),(⟨(⟨p7,p8⟩:WK),p9,a6,a7⟩:WF))
def lT (N:Nat)(a6:Int->W6->W6->W5->(List (Int×Unit))->Int->Option (Bool×WF))(a0:WF)(a7:Int)(a8 b0:W6)(b5:W5)(b6:(List (Int×Unit)))(b7:Int):Option (Bool×WF):=
 aL (in64 (a7+1)) (a6 (a7+1) a8 b0 b5 b6 b7)
def dC (N:Nat)(a0:WF):Nat->Int->W6->W6->W5->(List (Int×Unit))->Int->Option (Bool×WF)
 |0,_,_,_,_,_,_=>none
 |b7+1,a8,p15,b0,a6,b5,b6=>bif decide (a8<((List.take a0.Zx.length a0.Zx).length:Int)) then ((aq (List.take a0.Zx.length a6) a8).bind fun c8=>(lU N (⟨p15,b0⟩:WK) c8).bind fun b9=>bif decide (b9.Za=8) then ((sG N b9 a6).bind fun c9=>(eG N (⟨(⟨p15,b0⟩:WK),a6,b5,b6⟩:WF) c9).bind fun a7=>lT N (dC N a0 b7) a0 a8 a7.m_.Zh a7.m_.Zj a7.Zx a7.ZJ a7.ZI) else (lT N (dC N a0 b7) a0 a8 p15 b0 a6 b5 b6)) else (uz N a0 p15 b0 a6 b5 b6)
def li (a0:WF):Option (Bool×WF):=
 dC N a0 N 0 a0.m_.Zh a0.m_.Zj a0.Zx a0.ZJ a0.ZI
theorem Bd {N:Nat}{a0:WF}{r:Bool×WF}(h:li N a0=some r):Okc Xa 191 [pV B1 0] ([iI A2 n2 c2 a0.m_.Zh,iI A3 n3 c3 a0.m_.Zj,ah B1 249 [W A2 n2 c2,W A3 n3 c3,W A4 n4 c4,.map (some M5),iV a0.ZI],ur A4 n4 c4 a0.Zx,bB jK Dx M5 a0.ZJ]) (fun u post=> ∃A0 n0 c0 A1 n1 c1 A2 n2 c2 M3,u=.bool r.1/\post=[ah B1 249 [W A0 n0 c0,W A1 n1 c1,W A2 n2 c2,.map (some M3),iV r.2.ZI],iI A0 n0 c0 r.2.m_.Zh,iI A1 n1 c1 r.2.m_.Zj,ur A2 n2 c2 r.2.Zx,bB jK Dx M3 r.2.ZJ]):=by
 refine ce Tryz.func191 ?_;refine am (fun s L=> ∃p7 p8 p9 e9 f0 A7 n7 c7 A8 n8 c8 A9 n9 c9 f1,uz N a0 p7 p8 p9 e9 f0=some r/\s=[(0,pV B1 0),(2,.bool false),(3,iV (a0.Zx.length:Int))]/\L=[iI A7 n7 c7 p7,iI A8 n8 c8 p8,ur A9 n9 c9 p9,bB jK Dx f1 e9,ah B1 249 [W A7 n7 c7,W A8 n8 c8,W A9 n9 c9,.map (some f1),iV f0]]) ?_ ?_
 ·refine ab ?_;refine mO (PO 3 J) ?_;refine gD (QP (n:=a0.Zx.length) 3 J J Wl size3.out J J J (YB _)) ?_;rintro _ _ ⟨b5,rfl,rfl⟩;refine K7 (lj 3 J FT J Wl) ?_;refine lK (fun m s L=> ∃(b6:Int) (p15:W6) (d6:W6) (e0:W5) (e1:(List (Int×Unit))) (e2:Int) (b7:Option Addr) (b9 d0:Nat) (d1:Option Addr) (d2 d3:Nat) (a7:Option Addr) (a8 b0:Nat) (d4:Nat),dC N a0 m b6 p15 d6 e0 e1 e2=some r/\s=[(0,pV B1 0),(2,.bool false),(3,iV (a0.Zx.length:Int)),(18,.slice b5 a0.Zx.length a0.Zx.length),(19,iV ((List.take a0.Zx.length a0.Zx).length:Int)),(20,iV b6)]/\L=[iI b7 b9 d0 p15,iI d1 d2 d3 d6,nz (nH .i64) 3 (W a7 a8 b0) e0 (.slice b5 a0.Zx.length a0.Zx.length) a0.Zx.length,bB jK Dx d4 e1,ah B1 249 [W b7 b9 d0,W d1 d2 d3,W a7 a8 b0,.map (some d4),iV e2]]) N ?_;intro h4
  refine fun s L=>aQ fun b6=>aQ fun p15=>aQ fun d6=>aQ fun e0=>aQ fun e1=>aQ fun e2=>aQ fun b7=>aQ fun b9=>aQ fun d0=>aQ fun d1=>aQ fun d2=>aQ fun d3=>aQ fun a7=>aQ fun a8=>aQ fun b0=>aQ fun d4=>K9 fun h=> ?_
  rw [dC.eq_2] at h;refine ab ?_;refine aA ?_;refine gH J h ?_ ?_<;>intro h
  ·refine ab ?_;refine am (fun s L=> ∃f2 f3 f4 f6 f9 g0 g1 g2 g3 g4 g5 g6 g7 g8 g9,lT N (dC N a0 h4) a0 b6 f2 f3 f4 f6 f9=some r/\s=[(0,pV B1 0),(2,.bool false),(3,iV (a0.Zx.length:Int)),(18,.slice b5 a0.Zx.length a0.Zx.length),(19,iV ((List.take a0.Zx.length a0.Zx).length:Int)),(20,iV b6)]/\L=[iI g0 g1 g2 f2,iI g3 g4 g5 f3,nz (nH .i64) 3 (W g6 g7 g8) f4 (.slice b5 a0.Zx.length a0.Zx.length) a0.Zx.length,bB jK Dx g9 f6,ah B1 249 [W g0 g1 g2,W g3 g4 g5,W g6 g7 g8,.map (some g9),iV f9]]) ?_ ?_
   ·refine ab ?_;obtain ⟨h5,h0,h1,h2,h⟩:=bz h;refine gR (cM 2 J FT J J Wl size3.out h0 h1) ?_;refine K7 (mq (u:=iV h5) 2 J FT J h2 va (fun _ _ _ h=>by rw [show _=_ from h];rfl)) ?_
    refine Ix h (fun _ k=>xK k) fun a6 e3 e4 e5 e6 e7 e8 h=> ?_
    intro h3;refine dv h ?_ ?_<;>intro h
    ·refine gw (t:=[(0,pV B1 0),(2,.bool false),(3,iV (a0.Zx.length:Int)),(6,pV h3 0),(18,.slice b5 a0.Zx.length a0.Zx.length),(19,iV ((List.take a0.Zx.length a0.Zx).length:Int)),(20,iV b6)]) ?_ mh (ad _)
     refine iW O 6 [0] [0,1,5] [33,34,35,36,37,38] [[],[],[],[2],[3],[4]] [aV (pV B1 0),
 aV (.agg #[iV a6.Za,iV a6.Zi,iV a6.Ze,iV a6.Zg,W e3 e4 e5,W e6 e7 e8]),
 aV (pV B1 0),
 aV (pV B1 0),
 aV (pV B1 2),
 aV (W a7 a8 b0)] [] (ad _) (fA rfl mc) O rfl rfl ?_ ?_ ?_
     ·refine fz J ?_ ?_
      ·exact nD (ap J) J (iL J (ad _))
      exact mb
     ·refine qR (ck 7 J J KK J) ?_;refine qE (kH J FG) ?_;refine qE (dE J) ?_;refine qE (ap J) ?_;refine qR (ax (us:=(iS a6 e3 e4 e5 e6 e7 e8)) 0 J J agg94.out J) ?_;refine qE (ap J) ?_;exact dH
     refine oe (t:=[(33,pV B1 0),(34,.agg #[iV a6.Za,iV a6.Zi,iV a6.Ze,iV a6.Zg,W e3 e4 e5,W e6 e7 e8]),(38,W a7 a8 b0),(0,pV B1 0),(2,.bool false),(3,iV (a0.Zx.length:Int)),(6,pV h3 0),(18,.slice b5 a0.Zx.length a0.Zx.length),(19,iV ((List.take a0.Zx.length a0.Zx).length:Int)),(20,iV b6)]) (L':=[ah h3 94 (iS a6 e3 e4 e5 e6 e7 e8),bf e3 e4 e5 a6.Zc,bf e6 e7 e8 a6.Zb,iI b7 b9 d0 p15,iI d1 d2 d3 d6,nz (nH .i64) 3 (W a7 a8 b0) e0 (.slice b5 a0.Zx.length a0.Zx.length) a0.Zx.length,bB jK Dx d4 e1,ah B1 249 [W b7 b9 d0,W d1 d2 d3,W a7 a8 b0,.map (some d4),iV e2]]) ?_ mh (ad _);obtain ⟨h6,k,h⟩:=aa h;refine uk 6 J O (aH (F8 k) J (t5 (jw (i:=1) J) (t5 (jw (i:=2) J) (t5 (NC (i:=5) J) au))) DH) J J J ?_;rintro _ _ ⟨_,⟨h7,h8,h9,rfl,rfl⟩,rfl⟩;refine oe ?_ bQ (bv 0 J);obtain ⟨i0,k,h⟩:=aa h;refine uk 7 J O (oC (Al k)) J J J ?_;rintro _ _ ⟨_,⟨i1,i2,i3,i4,i5,i6,i7,i8,i9,j0,rfl,rfl⟩,rfl⟩;refine mg O ?_;exact jY
    exact jY
   refine fun s L=>aQ fun f2=>aQ fun f3=>aQ fun f4=>aQ fun f6=>aQ fun f9=>aQ fun g0=>aQ fun g1=>aQ fun g2=>aQ fun g3=>aQ fun g4=>aQ fun g5=>aQ fun g6=>aQ fun g7=>aQ fun g8=>aQ fun g9=>K9 fun h=> ?_
   refine ab ?_;obtain ⟨j1,h⟩:=ae h;exact lY
  refine ab ?_;exact ⟨_,_,⟨p15,d6,e0,e1,e2,b7,b9,d0,d1,d2,d3,a7,a8,b0,d4,h,J,J⟩,sA,(N1 2 J).trans (cS [0,1,2,3,4] 5)⟩
 refine fun s L=>aQ fun p7=>aQ fun p8=>aQ fun p9=>aQ fun e9=>aQ fun f0=>aQ fun A7=>aQ fun n7=>aQ fun c7=>aQ fun A8=>aQ fun n8=>aQ fun c8=>aQ fun A9=>aQ fun n9=>aQ fun c9=>aQ fun f1=>K9 fun h=> ?_
 exact eY
def sf (N:Nat)(a7 p13:W6)(a6:W5)(p15:(List (Int×Unit)))(a8:Int):Option W5:=
 some a6
def mn (N:Nat):Nat->W6->W6->W5->(List (Int×Unit))->Int->Option W5
 |0,_,_,_,_,_=>none
 |a8+1,b0,b5,b6,p21,b7=>(li N (⟨(⟨b0,b5⟩:WK),b6,p21,b7⟩:WF)).bind fun a6=>bif a6.1 then ((iF N a6.2).bind fun a7=>(mn N a8) a7.m_.Zh a7.m_.Zj a7.Zx a7.ZJ a7.ZI) else (sf N a6.2.m_.Zh a6.2.m_.Zj a6.2.Zx a6.2.ZJ a6.2.ZI)
def mC (a0:WK)(a1:WW):Option W5:=
 (oH N a0 a1).bind fun y5=>mn N N y5.m_.Zh y5.m_.Zj y5.Zx y5.ZJ y5.ZI
theorem EJ {N:Nat}{a0:WK}{a1:WW}{r:W5}(h:mC N a0 a1=some r):Okc Xa 161 [.agg #[W A1 n1 c1,W A2 n2 c2],W A3 n3 c3] ([iI A1 n1 c1 a0.Zh,iI A2 n2 c2 a0.Zj,aY A3 n3 c3 a1]) (fun u post=> ∃A0 n0 c0,u=W A0 n0 c0/\post=[ur A0 n0 c0 r]):=by
 refine ce Tryz.func161 ?_;intro B4;refine ab ?_;obtain ⟨y5,k,h⟩:=aa h;refine gD (oC (EI k)) ?_;rintro _ _ ⟨_,⟨B6,A7,n7,c7,A8,n8,c8,A9,n9,c9,f3,rfl,rfl⟩,rfl⟩;refine ab ?_;refine am (fun s L=> ∃a6 p13 a7 p15 a8 b0 b5 b6 b7 b9 d0 d1 d2 d3 d4,sf N a6 p13 a7 p15 a8=some r/\s=[(4,W none 0 0),(5,pV B6 0)]/\L=[iI b0 b5 b6 a6,iI b7 b9 d0 p13,ur d1 d2 d3 a7,bB jK Dx d4 p15,ah B6 249 [W b0 b5 b6,W b7 b9 d0,W d1 d2 d3,.map (some d4),iV a8]]) ?_ ?_
 ·refine ab ?_;refine lK (fun m s L=> ∃(d6:W6) (e0:W6) (e1:W5) (p21:(List (Int×Unit))) (e2:Int) (e3:Option Addr) (e4 e5:Nat) (e6:Option Addr) (e7 e8:Nat) (e9:Option Addr) (f0 f1:Nat) (f2:Nat),mn N m d6 e0 e1 p21 e2=some r/\s=[(4,W none 0 0),(5,pV B6 0)]/\L=[iI e3 e4 e5 d6,iI e6 e7 e8 e0,ur e9 f0 f1 e1,bB jK Dx f2 p21,ah B6 249 [W e3 e4 e5,W e6 e7 e8,W e9 f0 f1,.map (some f2),iV e2]]) N ?_;intro f4
  refine fun s L=>aQ fun d6=>aQ fun e0=>aQ fun e1=>aQ fun p21=>aQ fun e2=>aQ fun e3=>aQ fun e4=>aQ fun e5=>aQ fun e6=>aQ fun e7=>aQ fun e8=>aQ fun e9=>aQ fun f0=>aQ fun f1=>aQ fun f2=>K9 fun h=> ?_
  rw [mn.eq_2] at h;refine sZ ?_;obtain ⟨f6,k,h⟩:=aa h;refine gD (oC (Bd k)) ?_;rintro _ _ ⟨_,⟨f9,g0,g1,g2,g3,g4,g5,g6,g7,g8,rfl,rfl⟩,rfl⟩;refine dv h ?_ ?_<;>intro h
  ·refine ab ?_;obtain ⟨g9,k,h⟩:=aa h;refine gD (oC (rT k)) ?_;rintro _ _ ⟨_,⟨h0,h1,h2,h3,h4,h5,h6,h7,h8,h9,rfl,rfl⟩,rfl⟩;exact lY
  exact jY
 refine fun s L=>aQ fun a6=>aQ fun p13=>aQ fun a7=>aQ fun p15=>aQ fun a8=>aQ fun b0=>aQ fun b5=>aQ fun b6=>aQ fun b7=>aQ fun b9=>aQ fun d0=>aQ fun d1=>aQ fun d2=>aQ fun d3=>aQ fun d4=>K9 fun h=> ?_
 exact eY
def nG (a0:WK)(a1:WW):Option W5:=
 (mC N a0 a1).bind fun y5=>(ry N y5).bind fun y7=>some y7
theorem Ge {N:Nat}{a0:WK}{a1:WW}{r:W5}(h:nG N a0 a1=some r):Okc Xa 123 [.agg #[W A1 n1 c1,W A2 n2 c2],W A3 n3 c3] ([iI A1 n1 c1 a0.Zh,iI A2 n2 c2 a0.Zj,aY A3 n3 c3 a1]) (fun u post=> ∃A0 n0 c0,u=W A0 n0 c0/\post=[ur A0 n0 c0 r]):=by
 refine ce Tryz.func123 ?_;intro B4
 refine MB h (fun _ k=>EJ k) fun y5 A6 n6 c6 h=> ?_
 refine cC h (fun _ k=>Eu k) fun y7 h=> ?_
 exact eN
def qm (N:Nat)(a6:Int->Int->σ->Option σ)(fy:(Int×Int)->σ->Option (Bool×σ))(p6:Int)(a1:W5)(a7:Int)(a8:σ):Option σ:=
 aL (in64 (p6+1)) (a6 a7 (p6+1) a8)
def me (N:Nat)(b0 a6:Int->Int->σ->Option σ)(fy:(Int×Int)->σ->Option (Bool×σ))(b5 p6:Int)(a1:W5)(p15 a7:Int)(a8:σ):Option σ:=
 aL (in64 (p15+1)) (a6 a7 (p15+1) a8)
def cZ (N:Nat){σ:Type}(a6:Int->Int->σ->Option σ)(fy:(Int×Int)->σ->Option (Bool×σ))(a7 p6:Int)(a1:W5):Nat->Int->Int->σ->Option σ
 |0,_,_,_=>none
 |b6+1,a8,p15,b0=>bif decide (p15<(a1.length:Int)) then ((aq a1 p15).bind fun b7=>bif !decide (b7.tmod 2=a7) then (me N a6 (cZ N a6 fy a7 p6 a1 b6) fy a7 p6 a1 p15 a8 b0) else ((fy (a8,b7) b0).bind fun b5=>bif !b5.1 then (some b5.2) else (aL (in64 (a8+1)) (me N a6 (cZ N a6 fy a7 p6 a1 b6) fy a7 p6 a1 p15 (a8+1) b5.2)))) else (qm N a6 fy p6 a1 a8 b0)
def fB (N:Nat){σ:Type}(fy:(Int×Int)->σ->Option (Bool×σ))(a1:W5):Nat->Int->Int->σ->Option σ
 |0,_,_,_=>none
 |m4+1,p5,p6,p7=>bif decide (p6<(([0,1]:List Int).length:Int)) then ((aq ([0,1]:List Int) p6).bind fun a6=>cZ N (fB N fy a1 m4) fy a6 p6 a1 N p5 0 p7) else (some p7)
def gq (a1:W5)(fy:(Int×Int)->σ->Option (Bool×σ))(s0:σ):Option σ:=
 fB N fy a1 N 0 0 s0
theorem uK {N:Nat}{fy:(Int×Int)->σ->Option (Bool×σ)}{s0 r:σ}(h:gq N a1 fy s0=some r){G:σ->W8}(hY:tg Xa l G (fun x=> [iV x.1,iV x.2]) fy):Okc Xa 163 [.func (.yield l) #[] #[],pV B1 0] (aW B1 144 [W A2 n2 c2]::xp A2 n2 c2 a1::(G s0)) (fun u post=>u=.tuple #[]/\post=G r):=by
 refine ce Tryz.func163 ?_
 refine vc (aB (R:=(nH .i64)) (vss:=[[iV 0],[iV 1]]) (xs:=[0,1]) J (N6 _ _) J J (fun _ _ hr=> .cons J (.cons J All2.nil))) fun A3 n3 c3=> ?_
 refine lK (fun m s L=> ∃(p5:Int) (p6:Int) (p7:σ),fB N fy a1 m p5 p6 p7=some r/\s=[(0,.func (.yield l) #[] #[]),(1,pV B1 0),(3,iV p5),(8,W A3 n3 c3),(9,iV (([0,1]:List Int).length:Int)),(10,iV p6)]/\L=ur A3 n3 c3 ([0,1]:List Int)::xp A2 n2 c2 a1::aW B1 144 [W A2 n2 c2]::(G p7)) N ?_;rintro m4 _ _ ⟨p5,p6,p7,h,rfl,rfl⟩;rw [fB.eq_2] at h;refine ab ?_;refine aA ?_;refine gH J h ?_ ?_<;>intro h
 ·refine ab ?_;refine am (fun s L=> ∃a8 b0,qm N (fB N fy a1 m4) fy p6 a1 a8 b0=some r/\s=[(0,.func (.yield l) #[] #[]),(1,pV B1 0),(3,iV a8),(8,W A3 n3 c3),(9,iV (([0,1]:List Int).length:Int)),(10,iV p6)]/\L=ur A3 n3 c3 ([0,1]:List Int)::xp A2 n2 c2 a1::aW B1 144 [W A2 n2 c2]::(G b0)) ?_ ?_
  ·refine ab ?_;obtain ⟨a6,b9,c8,c9,h⟩:=bz h;refine ab ?_;refine lK (fun m s L=> ∃(a7:Int) (p15:Int) (b5:σ),cZ N (fB N fy a1 m4) fy a6 p6 a1 m a7 p15 b5=some r/\s=[(0,.func (.yield l) #[] #[]),(1,pV B1 0),(3,iV a7),(5,iV a6),(8,W A3 n3 c3),(9,iV (([0,1]:List Int).length:Int)),(10,iV p6),(14,W A2 n2 c2),(15,iV (a1.length:Int)),(16,iV p15)]/\L=ur A3 n3 c3 ([0,1]:List Int)::xp A2 n2 c2 a1::aW B1 144 [W A2 n2 c2]::(G b5)) N ?_;rintro d0 _ _ ⟨a7,p15,b5,h,rfl,rfl⟩;rw [cZ.eq_2] at h;refine ab ?_;refine aA ?_;refine gH J h ?_ ?_<;>intro h
   ·refine ab ?_;refine am (fun s L=> ∃b6 b7,me N (fB N fy a1 m4) (cZ N (fB N fy a1 m4) fy a6 p6 a1 d0) fy a6 p6 a1 p15 b6 b7=some r/\s=[(0,.func (.yield l) #[] #[]),(1,pV B1 0),(3,iV b6),(5,iV a6),(8,W A3 n3 c3),(9,iV (([0,1]:List Int).length:Int)),(10,iV p6),(14,W A2 n2 c2),(15,iV (a1.length:Int)),(16,iV p15)]/\L=ur A3 n3 c3 ([0,1]:List Int)::xp A2 n2 c2 a1::aW B1 144 [W A2 n2 c2]::(G b7)) ?_ ?_
    ·refine ab ?_;obtain ⟨d1,d2,d3,d4,h⟩:=bz h;refine sY ?_;refine fY (sn J J (by decide)) ?_;refine gH J h ?_ ?_<;>intro h
     ·exact jY
     refine sY ?_;obtain ⟨d6,k,h⟩:=aa h;refine gD (vD (a:=(a7,d1)) [ur A3 n3 c3 ([0,1]:List Int),xp A2 n2 c2 a1,aW B1 144 [W A2 n2 c2]] hY k J J) ?_;rintro _ _ ⟨rfl,rfl⟩;refine dv h ?_ ?_<;>intro h
     ·exact eY
     refine ab ?_;obtain ⟨e0,h⟩:=ae h;exact jY
    rintro _ _ ⟨b6,b7,h,rfl,rfl⟩;refine ab ?_;obtain ⟨e1,h⟩:=ae h;exact lY
   exact jY
  rintro _ _ ⟨a8,b0,h,rfl,rfl⟩;refine ab ?_;obtain ⟨e2,h⟩:=ae h;exact lY
 exact eY
def mG (N:Nat)(a0:W5):Option Unit:=
 some ()
theorem yb {N:Nat}{a0:W5}{r:Unit}(h:mG N a0=some r):Okc Xa 124 [W A1 n1 c1] ([xp A1 n1 c1 a0]) (fun u post=> ∃a6,u=.func (.func 163) #[] #[pV a6 0]/\post=[ah a6 144 [W A1 n1 c1]]):=by
 refine ce Tryz.func124 ?_;intro B2;refine ab ?_;refine fY (jd J) ?_;exact eN
def jS (a0:WV)(a1:W5):Option Bool:=
 (kf N a1 a0.N).bind fun y4=>some y4
theorem Cr {N:Nat}{a0:WV}{r:Bool}(h:jS N a0 a1=some r):Okc Xa 167 [(aE a0),pV B1 0] ([aW B1 144 [W A2 n2 c2],xp A2 n2 c2 a1]) (fun u post=>u=.bool r/\post=[]):=by
 refine ce Tryz.func167 ?_;intro B3
 refine cR h (fun _ k=>tD k) fun y4 h=> ?_
 exact eN
def kB (N:Nat)(ff:WV->Option Bool)(y6:WI)(a6:WV×WV):(WW)->Option (Option Exit×WW)
 |p13=>(ff a6.1).bind fun a7=>bif a7 then (aL (cF (p13.length+([a6.1,a6.2]:List WV).length)) (some (none,p13++([a6.1,a6.2]:List WV)))) else (some (none,p13))
def xr (a0:WI)(ff:WV->Option Bool):Option WI:=
 (fS N a0).bind fun y6=>(ne N a0).bind fun a7=>(kc N a0 (cN (fun x st=>kB N ff y6 x st)) (none,[])).bind fun a6=>qT a6.1 (some (⟨y6.Za,y6.Zi,y6.Ze,y6.Zg,y6.Zc,a6.2⟩:WI)) none (fun _=>none)
theorem HG {N:Nat}{ff:WV->Option Bool}{r:WI}(h:xr N a0 ff=some r){vf:Value}{G:W8}(hf:Qm Xa vf G (fun x=> [.agg #[iV x.Za,iV x.N,.string x.S]]) (fun r=> .bool r) ff):Okc Xa 166 [.agg #[iV a0.Za,iV a0.Zi,iV a0.Ze,iV a0.Zg,W A1 n1 c1,W A2 n2 c2],vf] (aY A1 n1 c1 a0.Zc::aY A2 n2 c2 a0.Zb::G) (fun u post=> ∃A0 n0 c0 A1 n1 c1,u=.agg #[iV r.Za,iV r.Zi,iV r.Ze,iV r.Zg,W A0 n0 c0,W A1 n1 c1]/\post=[bf A0 n0 c0 r.Zc,bf A1 n1 c1 r.Zb]):=by
 refine ce Tryz.func166 ?_;intro B3
 refine Wc (rf J (Pn hf)) fun B4=> ?_
 intro B5
 refine Ix h (fun _ k=>iU k) fun y6 A7 n7 c7 A8 n8 c8 h=> ?_
 intro B9;refine sY ?_;obtain ⟨d3,k,h⟩:=aa h;refine gD (oR (wN k)) ?_;rintro _ _ ⟨_,⟨b5,rfl,rfl⟩,rfl⟩;refine ab ?_;refine gw ?_ bQ (lr 0 J);refine ab ?_;obtain ⟨b6,k,h⟩:=aa h;refine ul (en:=(fun x=> [.agg #[iV x.1.Za,iV x.1.N,.string x.1.S],.agg #[iV x.2.Za,iV x.2.N,.string x.2.S]])) (fun x st=>kB N ff y6 x st) (fun (st:WW) (mz:((Option Addr×Nat×Nat)))=> [ah B4 26 [vf],ah B5 94 [iV 0,iV 0,iV 0,iV 0,W none 0 0,W none 0 0],bf A7 n7 c7 y6.Zc,bd ay 28 (.slice mz.1 mz.2.1 mz.2.2) st,ah B9 94 (iS y6 A7 n7 c7 mz.1 mz.2.1 mz.2.2)]++G) [aW b5 94 (iS a0 A1 n1 c1 A2 n2 c2),aY A1 n1 c1 a0.Zc,aY A2 n2 c2 a0.Zb] ([]) ((none,0,0)) J J call221.out J (fun _=>J) (fun l G hY=>(tu k hY).mono fun _ _ hh=>hh.2) ((ci ay 28 _).trans (bH [1,8,9] [] [6,5,3,0,2] 10 J)) h ?_ ?_ ?_ ?_
 ·rintro l a6 p13 je sr12 ⟨a7,a8,b0⟩ h;replace h:kB N ff y6 a6 p13=some (je,sr12):=h;simp only [AH,Yu,Yv,Yw,Yo,Yp,Y4,Xu]
  refine cl fun b7=> ?_
  intro b9;refine ab ?_;obtain ⟨d4,k,h⟩:=aa h;refine gD (Ji (a:=a6.1) [ah b9 28 [iV a6.2.Za,iV a6.2.N,.string a6.2.S],ah b7 28 [iV a6.1.Za,iV a6.1.N,.string a6.1.S],ah B4 26 [vf],ah B5 94 [iV 0,iV 0,iV 0,iV 0,W none 0 0,W none 0 0],bf A7 n7 c7 y6.Zc,bf a7 a8 b0 p13,ah B9 94 (iS y6 A7 n7 c7 a7 a8 b0)] hf k J J) ?_;rintro _ _ ⟨rfl,rfl⟩;refine dv h ?_ ?_<;>intro h
  ·refine ab ?_;refine gD (aB (R:=ay) (vss:=[[iV a6.1.Za,iV a6.1.N,.string a6.1.S],[iV a6.2.Za,iV a6.2.N,.string a6.2.S]]) (xs:=[a6.1,a6.2]) J (JY _ _ _ _ _ _) J J (fun _ _ hr=> .cons J (.cons J All2.nil))) ?_;rintro _ _ ⟨d6,e0,e1,rfl,rfl⟩;obtain ⟨c9,h⟩:=ae h
   refine vc (aX 6 0 J J ao J J t9 sd J J c9) fun d0 d1 d2=> ?_
   obtain ⟨rfl,rfl⟩:=YO (YM h);exact Da ((cS [3,4,5,6,7] 8).trans (fZ (d0,d1,d2) J))
  refine ab ?_;obtain ⟨rfl,rfl⟩:=YO (YM h);exact Da ((cS [2,3,4,5,6] 7).trans (fZ (a7,a8,b0) J))
 ·rintro ⟨a7,a8,b0⟩ h;refine qG (ah B4 26 [vf]::ah B5 94 [iV 0,iV 0,iV 0,iV 0,W none 0 0,W none 0 0]::bf A7 n7 c7 y6.Zc::bf a7 a8 b0 b6.2::ah B9 94 (iS y6 A7 n7 c7 a7 a8 b0)::G) J ?_;refine ab ?_;obtain rfl:=bD h;exact kI (rs:=[.cell 4 94]) (vs:=[.agg #[iV y6.Za,iV y6.Zi,iV y6.Ze,iV y6.Zg,W A7 n7 c7,W a7 a8 b0]]) J (.cons (dy 1 J J agg94.out) .nil) J (R2 [2,3] 5 J J) ⟨_,_,_,_,_,_,J,J⟩
 ·rintro ⟨a7,a8,b0⟩ h;exact aJ h
 rintro i ⟨a7,a8,b0⟩ h;exact aJ h
def pR (a0:WI)(a1:W5):Option WI:=
 (vj N a0).bind fun y7=>bif !y7 then (some (⟨0,0,0,0,[],[]⟩:WI)) else ((xr N a0 (fun x=>jS N x a1)).bind fun a6=>some a6)
theorem F9 {N:Nat}{r:WI}(h:pR N a0 a1=some r):Okc Xa 126 [.agg #[iV a0.Za,iV a0.Zi,iV a0.Ze,iV a0.Zg,W A1 n1 c1,W A2 n2 c2],W A3 n3 c3] ([aY A1 n1 c1 a0.Zc,aY A2 n2 c2 a0.Zb,xp A3 n3 c3 a1]) (fun u post=> ∃A0 n0 c0 A1 n1 c1,u=.agg #[iV r.Za,iV r.Zi,iV r.Ze,iV r.Zg,W A0 n0 c0,W A1 n1 c1]/\post=[bf A0 n0 c0 r.Zc,bf A1 n1 c1 r.Zb]):=by
 refine ce Tryz.func126 ?_;intro B4
 refine cl fun B5=> ?_
 intro B6;refine sY ?_
 refine cR h (fun _ k=>El k) fun y7 h=> ?_
 refine gH J h ?_ ?_<;>intro h
 ·refine ab ?_;obtain rfl:=bD h;exact kI (rs:=[.cell 4 94]) (vs:=[.agg #[iV 0,iV 0,iV 0,iV 0,W none 0 0,W none 0 0]]) J (.cons (dy 0 J J agg94.out) .nil) J ((ci ay 28 _).trans ((ci ay 28 _).trans (cS [1,0] 8))) ⟨_,_,_,_,_,_,J,J⟩
 refine ab ?_;refine gE (jd J) ?_;obtain ⟨a6,k,h⟩:=aa h
 refine Su (oR (HG k ⟨t5 J (t5 J au),167, #[], #[pV B5 0],J,call167.out,fun _ _ hh=>Cr hh⟩)) fun a7 a8 b0 b5 b6 b7=> ?_
 exact eN
def uN (a0:WI):Option Bool:=
 (bif decide (a0.Za=10) then ((gG N a0).bind fun y5=>some y5) else (some false)).bind fun b4=>some b4
theorem Ih {N:Nat}{r:Bool}(h:uN N a0=some r):Okc Xa 169 [.agg #[iV a0.Za,iV a0.Zi,iV a0.Ze,iV a0.Zg,W A1 n1 c1,W A2 n2 c2]] ([aY A1 n1 c1 a0.Zc,aY A2 n2 c2 a0.Zb]) (fun u post=>u=.bool r/\post=[]):=by
 refine ce Tryz.func169 ?_;intro B3;refine ab ?_
 refine ou 3 9 6 h (fun _ g4 h=> ?_) fun b4 h=> ?_
 ·refine cR h (fun _ k=>mI k) fun y5 h=> ?_
  exact gY
 exact eY
theorem FE {r:Bool}: ∀v post,((fun (u:Value) (post:W8)=>u=.bool r/\post=[])) v post-> ∀c∈post,ij c:=by
 rintro _ _ ⟨rfl,rfl⟩;exact au
def vd (a0:WI):Option WI:=
 (dz N a0.Zc).bind fun y5=>(aq a0.Zb 0).bind fun x7=>some (⟨a0.Za,a0.Zi,a0.Ze,a0.Zg,y5,([x7]:List WV)⟩:WI)
theorem FF {N:Nat}{r:WI}(h:vd N a0=some r):Okc Xa 170 [.agg #[iV a0.Za,iV a0.Zi,iV a0.Ze,iV a0.Zg,W A1 n1 c1,W A2 n2 c2]] ([aY A1 n1 c1 a0.Zc,aY A2 n2 c2 a0.Zb]) (fun u post=> ∃A0 n0 c0 A1 n1 c1,u=.agg #[iV r.Za,iV r.Zi,iV r.Ze,iV r.Zg,W A0 n0 c0,W A1 n1 c1]/\post=[bf A0 n0 c0 r.Zc,bf A1 n1 c1 r.Zb]):=by
 refine ce Tryz.func170 ?_;intro B3
 refine cl fun B4=> ?_
 refine MB h (fun _ k=>jT k) fun y5 A6 n6 c6 h=> ?_
 obtain ⟨x7,a6,a7,a8,h⟩:=bz h;refine ab ?_
 refine vc (aB (R:=ay) (vss:=[[iV x7.Za,iV x7.N,.string x7.S]]) (xs:=[x7]) J (jA _ _ _) J J (fun _ _ hr=> .cons J All2.nil)) fun A8 n8 c8=> ?_
 exact eN
theorem CZ {r:WI}: ∀v post,((fun (u:Value) (post:W8)=> ∃A0 n0 c0 A1 n1 c1,u=.agg #[iV r.Za,iV r.Zi,iV r.Ze,iV r.Zg,W A0 n0 c0,W A1 n1 c1]/\post=[bf A0 n0 c0 r.Zc,bf A1 n1 c1 r.Zb])) v post-> ∀c∈post,ij c:=by
 rintro _ _ ⟨_,_,_,_,_,_,rfl,rfl⟩;exact t5 qv (t5 qv (au))
def ib (N:Nat){σ:Type}(fy:(Int×WW)->σ->Option (Bool×σ))(a1:WI):Nat->Int->σ->Option σ
 |0,_,_=>none
 |m4+1,p5,p6=>aL (in64 (p5+4)) (bif decide (p5+4<=(a1.Zb.length:Int)) then (aL (in64 (p5+4)) (aL (in64 (p5+4)) (aL ((0:Int)<=p5/\(0:Int)<=p5+4/\p5.toNat<=(p5+4).toNat/\(p5+4).toNat<=a1.Zb.length) ((fy (p5,(a1.Zb.drop p5.toNat).take ((p5+4).toNat - p5.toNat)) p6).bind fun a6=>bif !a6.1 then (some a6.2) else (aL (in64 (p5+4)) ((ib N fy a1 m4) (p5+4) a6.2)))))) else (some p6))
def ov (a1:WI)(fy:(Int×WW)->σ->Option (Bool×σ))(s0:σ):Option σ:=
 ib N fy a1 N 1 s0
theorem yj {N:Nat}{a1:WI}{fy:(Int×WW)->σ->Option (Bool×σ)}{s0 r:σ}(h:ov N a1 fy s0=some r){G:σ->W8}(hY:vT Xa l G (fun (x:Int×WW) vs cs=> ∃A1 n1 c1,vs=[iV x.1,W A1 n1 c1]/\cs=[aY A1 n1 c1 x.2]) fy):Okc Xa 197 [.func (.yield l) #[] #[],pV B1 0] (aW B1 94 (iS a1 A2 n2 c2 A3 n3 c3)::aY A2 n2 c2 a1.Zc::aY A3 n3 c3 a1.Zb::(G s0)) (fun u post=>u=.tuple #[]/\post=G r):=by
 refine ce Tryz.func197 ?_;refine lK (fun m s L=> ∃(p5:Int) (p6:σ),ib N fy a1 m p5 p6=some r/\s=[(0,.func (.yield l) #[] #[]),(1,pV B1 0),(3,iV p5)]/\L=aY A2 n2 c2 a1.Zc::aY A3 n3 c3 a1.Zb::aW B1 94 (iS a1 A2 n2 c2 A3 n3 c3)::(G p6)) N ?_;rintro m4 _ _ ⟨p5,p6,h,rfl,rfl⟩;rw [ib.eq_2] at h;refine sZ ?_;obtain ⟨q7,h⟩:=ae h;refine dv h ?_ ?_<;>intro h
 ·refine sY ?_;obtain ⟨q9,h⟩:=ae h;refine ab ?_;obtain ⟨b6,h⟩:=ae h;refine ab ?_;obtain ⟨a6,h⟩:=ae h;refine Qk 1 J (l:=p5.toNat) (h:=(p5+4).toNat) a6.2.2.1 a6.2.2.2 ?_;rintro a7 a8 b0 b5;refine gR (LJ 2 J b5 J t9 size28.out J (by rw [Xp a6.1];rfl) (by rw [Xp a6.2.1];rfl) (by rw [Xp a6.2.1];rfl) a6.2.2.1 a6.2.2.2) ?_;obtain ⟨b7,k,h⟩:=aa h;refine gD (GR (a:=(p5,(a1.Zb.drop p5.toNat).take ((p5+4).toNat - p5.toNat))) [aY a7 a8 b0 ((a1.Zb.drop p5.toNat).take ((p5+4).toNat - p5.toNat)),aY A2 n2 c2 a1.Zc,aY A3 n3 c3 a1.Zb,aW B1 94 (iS a1 A2 n2 c2 A3 n3 c3)] hY k J J ⟨_,_,_,J,J⟩ (Lh 0 J J)) ?_;rintro _ _ ⟨rfl,rfl⟩;refine dv h ?_ ?_<;>intro h
  ·exact eY
  refine ab ?_;obtain ⟨b9,h⟩:=ae h;exact lY
 exact eY
def rl (N:Nat)(a0:WI):Option Unit:=
 some ()
theorem BV {N:Nat}{r:Unit}(h:rl N a0=some r):Okc Xa 171 [.agg #[iV a0.Za,iV a0.Zi,iV a0.Ze,iV a0.Zg,W A1 n1 c1,W A2 n2 c2]] ([aY A1 n1 c1 a0.Zc,aY A2 n2 c2 a0.Zb]) (fun u post=> ∃a6,u=.func (.func 197) #[] #[pV a6 0]/\post=[ah a6 94 (iS a0 A1 n1 c1 A2 n2 c2)]):=by
 refine ce Tryz.func171 ?_;intro B3;refine ab ?_;refine fY (jd J) ?_;exact eN
theorem zF {A1:Option Addr}{n1 c1:Nat}{A2:Option Addr}{n2 c2:Nat}: ∀v post,((fun (u:Value) (post:W8)=> ∃a6,u=.func (.func 197) #[] #[pV a6 0]/\post=[ah a6 94 [iV a0.Za,iV a0.Zi,iV a0.Ze,iV a0.Zg,W A1 n1 c1,W A2 n2 c2]])) v post-> ∀c∈post,ij c:=by
 rintro _ _ ⟨_,rfl,rfl⟩;exact t5 BT (au)
def nP (N:Nat)(a6:Int×WW)(a0:WI)(c9:(List (Int×Bool)))(d0:WI)(a7 c8:WW)(a8 b0:Int)(b5:ByteArray):Option (Option Exit×WW×WW):=
 (aq a6.2 0).bind fun b6=>(aq a6.2 1).bind fun b7=>(aq a6.2 3).bind fun b9=>aL (cF (a7.length+([b6,b7,(⟨a8,b0,b5⟩:WV),b9]:List WV).length)) (some (none,(a7++([b6,b7,(⟨a8,b0,b5⟩:WV),b9]:List WV),c8)))
def gv (a0:WI)(a8:(List (Int×Bool)))(b6:WI)(a6:Int×WW):(WW×WW)->Option (Option Exit×(WW×WW))
 |(b5,b0)=>(aq a6.2 0).bind fun c9=>bif !((lk a8 c9.N).getD false) then ((aq a0.Zb 0).bind fun b7=>(aq a6.2 1).bind fun b9=>(aq a6.2 3).bind fun c8=>aL (cF (b0.length+([b7,b9,c8]:List WV).length)) (some (none,(b5,b0++([b7,b9,c8]:List WV))))) else ((aq a6.2 2).bind fun a7=>(bif decide (a7.Za=7) then (some (!((lk a8 a7.N).getD false))) else (some false)).bind fun d0=>bif d0 then (nP N a6 a0 a8 b6 b5 b0 0 0 (⟨#[]⟩)) else (nP N a6 a0 a8 b6 b5 b0 a7.Za a7.N a7.S))
def rn (a0:WI)(a8:(List (Int×Bool))):Option (WI×WW):=
 (vd N a0).bind fun a6=>(rl N a0).bind fun b0=>(ov N a0 (cN (fun x st=>gv N a0 a8 a6 x st)) (none,(a6.Zb,[]))).bind fun a7=>qT a7.1 (some ((⟨a6.Za,a6.Zi,a6.Ze,a6.Zg,a6.Zc,a7.2.1⟩:WI),a7.2.2)) none (fun _=>none)
def jn (N:Nat)(a1:W5)(a0:WI):Nat->Int->(List (Int×Bool))->Option (WI×WW)
 |0,_,_=>none
 |a8+1,a6,a7=>bif decide (a6<(a1.length:Int)) then ((aq a1 a6).bind fun b0=>aL (in64 (a6+1)) ((jn N a1 a0 a8) (a6+1) (yI a7 b0 true))) else (rn N a0 a7)
def nA (a0:WI)(a1:W5):Option (WI×WW):=
 (uN N a0).bind fun y6=>bif !y6 then (some ((⟨0,0,0,0,[],[]⟩:WI),[])) else (jn N a1 a0 N 0 ([]:(List (Int×Bool))))
theorem DS {N:Nat}{r:WI×WW}(h:nA N a0 a1=some r):Okc Xa 127 [.agg #[iV a0.Za,iV a0.Zi,iV a0.Ze,iV a0.Zg,W A1 n1 c1,W A2 n2 c2],W A3 n3 c3] ([aY A1 n1 c1 a0.Zc,aY A2 n2 c2 a0.Zb,xp A3 n3 c3 a1]) (fun u post=> ∃A0 n0 c0 A1 n1 c1 A2 n2 c2,u=.tuple #[.agg #[iV r.1.Za,iV r.1.Zi,iV r.1.Ze,iV r.1.Zg,W A0 n0 c0,W A1 n1 c1],W A2 n2 c2]/\post=[bf A0 n0 c0 r.1.Zc,bf A1 n1 c1 r.1.Zb,bf A2 n2 c2 r.2]):=by
 refine CJ Tryz.func127 J J ?_;simp only [qQ];refine Y ?_
 refine gB (rf J J) fun B4=> ?_
 refine gB (bw zero94.out J) fun B5=> ?_
 refine Y ?_;refine aA ?_;refine Y ?_;refine gR (ax (us:=(iS a0 A1 n1 c1 A2 n2 c2)) 1 J J agg94.out J) ?_;obtain ⟨y6,k,h⟩:=aa h;refine gV (aH (Ih k) J (t5 (dc (i:=2) J J) (t5 (dc (i:=3) J J) au)) FE) ?_;refine Y ?_;refine gH J h ?_ ?_<;>intro h
 ·refine Y ?_;refine gE (nB J bld_94_.out) ?_;refine gW (aj (us:=[iV 0,iV 0,iV 0,iV 0,W none 0 0,W none 0 0]) (cs':=[iV 0,iV 0,iV 0,iV 0,W none 0 0,W none 0 0]) 0 J J J J size94.out J J J) ?_;refine Y ?_;obtain rfl:=bD h;exact kI (rs:=[.cell 4 94,.tmp 5]) (vs:=[.agg #[iV 0,iV 0,iV 0,iV 0,W none 0 0,W none 0 0],W none 0 0]) J (.cons (dy 0 J J agg94.out) (.cons (dP J) .nil)) J ((ci ay 28 _).trans ((ci ay 28 _).trans ((ci ay 28 _).trans (cS [2,1,0] 8)))) ⟨_,_,_,_,_,_,_,_,_,J,J⟩
 refine Y ?_;refine gR (lj 4 J bj J Wl) ?_;refine gD (Jh (ek:=jK) (ev:=qP) J Wv) ?_;rintro _ _ ⟨a7,rfl,rfl⟩
 refine gB (bw zero211.out J) fun d1=> ?_
 refine gW (aj (us:=[.map (some a7)]) (cs':=[.map (some a7)]) 0 J J J J size211.out J J J) ?_;refine Y ?_;refine am (fun s L=> ∃d3,rn N a0 d3=some r/\s=[(2,pV B4 0),(4,pV B5 0),(5,W none 0 0),(6,pV d1 0)]/\L=[aY A1 n1 c1 a0.Zc,aY A2 n2 c2 a0.Zb,ah B4 94 (iS a0 A1 n1 c1 A2 n2 c2),ah B5 94 [iV 0,iV 0,iV 0,iV 0,W none 0 0,W none 0 0],bB jK qP a7 d3,ah d1 211 [.map (some a7)]]) ?_ ?_
 ·refine Y ?_;refine gR (lj 6 J bj J Wl) ?_;refine Y ?_;refine iX (fun m s L=> ∃f6 f2,jn N a1 a0 m f6 f2=some r/\s=[(2,pV B4 0),(4,pV B5 0),(5,W none 0 0),(6,pV d1 0),(21,W A3 n3 c3),(22,iV (a1.length:Int)),(23,iV f6)]/\L=[xp A3 n3 c3 a1,aY A1 n1 c1 a0.Zc,aY A2 n2 c2 a0.Zb,ah B4 94 (iS a0 A1 n1 c1 A2 n2 c2),ah B5 94 [iV 0,iV 0,iV 0,iV 0,W none 0 0,W none 0 0],bB jK qP a7 f2,ah d1 211 [.map (some a7)]]) N _ _ ⟨0,([]:(List (Int×Bool))),h,J,J⟩ sA (cS [6,4,5,3,2,1,0] 7) ?_;rintro (_|j4) _ _ ⟨f6,f2,h,rfl,rfl⟩
  ·exact aJ h
  rw [jn.eq_2] at h;refine Y ?_;refine aA ?_;refine gH J h ?_ ?_<;>intro h
  ·refine Y ?_;refine aA ?_;refine Y ?_;obtain ⟨g4,g5,g6,g7,h⟩:=bz h;refine gR (cM 0 J bj J J Wl size3.out g5 g6) ?_;refine gR (mq (u:=iV g4) 0 J bj J g7 va (fun _ _ _ h=>by rw [show _=_ from h];rfl)) ?_;refine Y ?_;refine gW (md (a:=g4) (b:=true) 5 J J J J Wv (lq Wp)) ?_;refine im ?_;refine Y ?_;obtain ⟨j2,h⟩:=ae h;refine gE (iz J J j2.1 j2.2) ?_;refine Y ?_;exact ⟨j4,_,_,W0 _,⟨f6+1,yI f2 g4 true,h,J,J⟩,sA,cS [0,1,2,3,4,5,6] 7⟩
  refine Y ?_;exact ⟨_,_,⟨f2,h,J,J⟩,sA,cS [1,2,3,4,5,6] 7⟩
 rintro _ _ ⟨d3,h,rfl,rfl⟩;refine Y ?_;refine gR (ax (us:=(iS a0 A1 n1 c1 A2 n2 c2)) 2 J J agg94.out J) ?_;obtain ⟨a6,k,h⟩:=aa h;refine gD (aH (FF k) J (t5 (dc (i:=0) J J) (t5 (dc (i:=1) J J) au)) CZ) ?_;rintro _ _ ⟨_,⟨a8,b0,b5,g8,g9,h0,rfl,rfl⟩,rfl⟩
 refine gB (bw zero94.out J) fun e4=> ?_
 refine gW (aj (us:=(iS a6 a8 b0 b5 g8 g9 h0)) (cs':=(iS a6 a8 b0 b5 g8 g9 h0)) 0 J J J J size94.out J J J) ?_;refine Y ?_
 refine gB (bw zero22.out J) fun e5=> ?_
 refine Y ?_;refine aA ?_;refine Y ?_;refine gR (ax (us:=(iS a0 A1 n1 c1 A2 n2 c2)) 6 J J agg94.out J) ?_;obtain ⟨l2,k,h⟩:=aa h;refine gD (aH (BV k) J (t5 (dc (i:=4) J J) (t5 (dc (i:=5) J J) au)) zF) ?_;rintro _ _ ⟨_,⟨j5,rfl,rfl⟩,rfl⟩;refine Aa ?_;refine qk ?_;refine gw ?_ bQ (lr 0 J);obtain ⟨f9,k,h⟩:=aa h;refine Hz (R:=(fun (x:Int×WW) vs cs=> ∃A1 n1 c1,vs=[iV x.1,W A1 n1 c1]/\cs=[aY A1 n1 c1 x.2])) (fun x st=>gv N a0 d3 a6 x st) (fun (st:WW×WW) (mz:((Option Addr×Nat×Nat)×(Option Addr×Nat×Nat)))=> [aY A1 n1 c1 a0.Zc,aY A2 n2 c2 a0.Zb,ah B4 94 (iS a0 A1 n1 c1 A2 n2 c2),ah B5 94 [iV 0,iV 0,iV 0,iV 0,W none 0 0,W none 0 0],bB jK qP a7 d3,ah d1 211 [.map (some a7)],bf a8 b0 b5 a6.Zc,bd ay 28 (.slice mz.1.1 mz.1.2.1 mz.1.2.2) st.1,ah e4 94 (iS a6 a8 b0 b5 mz.1.1 mz.1.2.1 mz.1.2.2),bd ay 28 (.slice mz.2.1 mz.2.2.1 mz.2.2.2) st.2,ah e5 22 [.slice mz.2.1 mz.2.2.1 mz.2.2.2]]) [aW j5 94 (iS a0 A1 n1 c1 A2 n2 c2),aY A1 n1 c1 a0.Zc,aY A2 n2 c2 a0.Zb] ((a6.Zb,[])) (((g8,g9,h0),(none,0,0))) J J call197.out J (by rintro _ _ _ ⟨_,_,_,rfl,rfl⟩;rfl) (fun l G hY=>(yj k hY).mono fun _ _ hh=>hh.2) ((ci ay 28 _).trans (bH [1,6,7] [] [6,7,8,9,10,11,4,5,3,0,2] 12 J)) h ?_ ?_ ?_ ?_
 ·rintro l f3 ⟨g0,f4⟩ je sr28 ⟨⟨c8,c9,d0⟩,⟨b6,b7,b9⟩⟩ h _ _ ⟨e1,e2,e3,rfl,rfl⟩;replace h:gv N a0 d3 a6 f3 (g0,f4)=some (je,sr28):=h;simp only [AH,Yu,Yv,Yw,Yo,Yp,Y4,Xu];refine Y ?_;refine aA ?_;refine dY [0,1] ?_;obtain ⟨j6,h1,h2,j7,h⟩:=bz h;refine zY [2] ?_;refine zR 3 J (uB 0 J bj J (toNat_lt h1 h2) Mn) ?_;refine zY [4] ?_;refine zR 5 J (EK (a:=j6.N) (z:=false) 5 J CP J J Wv (lq Wp) zero4.out) ?_;refine zX [6] ?_;refine qk ?_;refine gH J h ?_ ?_<;>intro h
  ·refine aA ?_;obtain ⟨d4,h3,h4,h5,h⟩:=bz h;obtain ⟨d6,h6,h7,h8,h⟩:=bz h;obtain ⟨e0,h9,i0,i1,h⟩:=bz h;refine gw (t:=[(2,pV B4 0),(4,pV B5 0),(5,W none 0 0),(6,pV d1 0),(9,pV e4 0),(10,pV e5 0),(12,W e1 e2 e3)]) ?_ mh (ad _)
   refine iW O 12 [] [0,11] [43,44,45,46,47,48,49,50,51,52,53,54] [[],[],[1],[2],[3],[],[5],[6],[],[8],[9],[4,7,10]] [aV (W b6 b7 b9),
aV (pV B4 5),
aV (W A2 n2 c2),
aV (dF (W A2 n2 c2) ((0:Int).toNat) 3 0),
aV (.agg #[iV d4.Za,iV d4.N,.string d4.S]),
aV (W e1 e2 e3),
aV (dF (W e1 e2 e3) ((1:Int).toNat) 3 0),
aV (.agg #[iV d6.Za,iV d6.N,.string d6.S]),
aV (W e1 e2 e3),
aV (dF (W e1 e2 e3) ((3:Int).toNat) 3 0),
aV (.agg #[iV e0.Za,iV e0.N,.string e0.S]),
aX3 (fun (e6:Option Addr) (e7 e8:Nat)=> W e6 e7 e8) (fun e6 e7 e8=> [bf e6 e7 e8 ([d4,d6,e0]:List WV)])] [] (ad _) (mc) O rfl rfl ?_ ?_ ?_
   ·exact mb
   ·refine aF J ?_ ?_
    ·refine th (aB (R:=ay) (vss:=[[iV d4.Za,iV d4.N,.string d4.S],[iV d6.Za,iV d6.N,.string d6.S],[iV e0.Za,iV e0.N,.string e0.S]]) (xs:=[d4,d6,e0]) J (Cg _ _ _ _ _ _ _ _ _) J J (fun _ _ hr=> .cons J (.cons J (.cons J All2.nil)))) J ?_;rintro _ _ ⟨j8,j9,k0,rfl,rfl⟩;exact NZ j8 j9 k0 (ad _)
    refine aF J ?_ ?_
    ·exact yE (ee (us:=[iV e0.Za,iV e0.N,.string e0.S]) 0 J bj J i1 agg28.out (fun _ _ _ h=>by rw [show _=_ from h];rfl)) J (iL J (ad _))
    refine qR (cM 0 J bj J J t9 size28.out h9 i0) ?_;refine qE (ap J) ?_;refine aF J ?_ ?_
    ·exact yE (ee (us:=[iV d6.Za,iV d6.N,.string d6.S]) 0 J bj J h8 agg28.out (fun _ _ _ h=>by rw [show _=_ from h];rfl)) J (iL J (ad _))
    refine qR (cM 0 J bj J J t9 size28.out h6 h7) ?_;refine qE (ap J) ?_;refine aF J ?_ ?_
    ·exact yE (ee (us:=[iV d4.Za,iV d4.N,.string d4.S]) 2 J bj J h5 agg28.out (fun _ _ _ h=>by rw [show _=_ from h];rfl)) J (iL J (ad _))
    refine qR (cM 2 J bj J J t9 size28.out h3 h4) ?_;refine qR (ck 3 J J sC J) ?_;refine qE (kH J wB) ?_;refine qR (ck 11 J J sC J) ?_;exact dH
   intro e6 e7 e8;refine oe (t:=[(43,W b6 b7 b9),(54,W e6 e7 e8),(2,pV B4 0),(4,pV B5 0),(5,W none 0 0),(6,pV d1 0),(9,pV e4 0),(10,pV e5 0),(12,W e1 e2 e3)]) (L':=[bf e6 e7 e8 ([d4,d6,e0]:List WV),aY e1 e2 e3 f3.2,aY A1 n1 c1 a0.Zc,aY A2 n2 c2 a0.Zb,ah B4 94 (iS a0 A1 n1 c1 A2 n2 c2),ah B5 94 [iV 0,iV 0,iV 0,iV 0,W none 0 0,W none 0 0],bB jK qP a7 d3,ah d1 211 [.map (some a7)],bf a8 b0 b5 a6.Zc,bf c8 c9 d0 g0,ah e4 94 (iS a6 a8 b0 b5 c8 c9 d0),bf b6 b7 b9 f4,ah e5 22 [W b6 b7 b9]]) ?_ mh (ad _);obtain ⟨k1,h⟩:=ae h;refine uk 12 J O (aX 11 0 J J ao J J t9 sd J J k1) J J J ?_;rintro _ _ ⟨i2,i3,i4,rfl,rfl⟩;refine zW ?_;refine pO 13 J O (aj (us:=[W i2 i3 i4]) (cs':=[W i2 i3 i4]) 12 J J J J size22.out J J J) J J ?_;rintro _ _ rfl;refine mg O ?_;refine Y ?_;obtain ⟨rfl,rfl⟩:=YO (YM h);exact Da ((cS [2,3,4,5,6,7,8,9,10,11,12] 13).trans (fZ ((c8,c9,d0),(i2,i3,i4)) J))
  refine Y ?_;obtain ⟨d2,i5,i6,i7,h⟩:=bz h;refine gR (cM 0 J bj J J t9 size28.out i5 i6) ?_;refine gR (ee (us:=[iV d2.Za,iV d2.N,.string d2.S]) 0 J bj J i7 agg28.out (fun _ _ _ h=>by rw [show _=_ from h];rfl)) ?_
  refine gB (bw zero28.out J) fun i8=> ?_
  refine gW (aj (us:=[iV d2.Za,iV d2.N,.string d2.S]) (cs':=[iV d2.Za,iV d2.N,.string d2.S]) 0 J J J J size28.out J J J) ?_;refine Y ?_;refine am (fun s L=> ∃e9 f0 f1,nP N f3 a0 d3 a6 g0 f4 e9 f0 f1=some (je,sr28)/\s=[(2,pV B4 0),(4,pV B5 0),(5,W none 0 0),(6,pV d1 0),(9,pV e4 0),(10,pV e5 0),(12,W e1 e2 e3),(13,pV i8 0)]/\L=[aY e1 e2 e3 f3.2,aY A1 n1 c1 a0.Zc,aY A2 n2 c2 a0.Zb,ah B4 94 (iS a0 A1 n1 c1 A2 n2 c2),ah B5 94 [iV 0,iV 0,iV 0,iV 0,W none 0 0,W none 0 0],bB jK qP a7 d3,ah d1 211 [.map (some a7)],bf a8 b0 b5 a6.Zc,bf c8 c9 d0 g0,ah e4 94 (iS a6 a8 b0 b5 c8 c9 d0),bf b6 b7 b9 f4,ah e5 22 [W b6 b7 b9],ah i8 28 [iV e9,iV f0,.string f1]]) ?_ ?_
  ·refine Y ?_
   refine JA 6 68 62 h (fun _ j3 h=> ?_) (fun _ j3 h=> ?_) fun l3 h=> ?_
   ·refine Y ?_;refine sc (EK (a:=d2.N) (z:=false) 6 J CP J J Wv (lq Wp) zero4.out) J (ca j3 J) J ?_;refine Y ?_;obtain rfl:=bD h;exact aU sA (cS [0,1,2,3,4,5,6,7,8,9,10,11,12] 13)
   ·refine Y ?_;obtain rfl:=bD h;exact aU sA (cS [0,1,2,3,4,5,6,7,8,9,10,11,12] 13)
   refine Y ?_;refine gH J h ?_ ?_<;>intro h
   ·refine jF ?_;refine gE (nB J bld_28_.out) ?_;refine gW (aj (us:=[iV 0,iV 0,.string (⟨#[]⟩)]) (cs':=[iV 0,iV 0,.string (⟨#[]⟩)]) 0 J J J J size28.out J J J) ?_;refine im ?_;refine Y ?_;exact ⟨_,_,⟨0,0,⟨#[]⟩,h,J,J⟩,sA,cS [1,2,3,4,5,6,7,8,9,10,11,12,0] 13⟩
   refine Y ?_;exact ⟨_,_,⟨d2.Za,d2.N,d2.S,h,J,J⟩,sA,cS [1,2,3,4,5,6,7,8,9,10,11,12,0] 13⟩
  rintro _ _ ⟨e9,f0,f1,h,rfl,rfl⟩;refine bh O ([aY e1 e2 e3 f3.2,aY A1 n1 c1 a0.Zc,aY A2 n2 c2 a0.Zb,ah B4 94 (iS a0 A1 n1 c1 A2 n2 c2),ah B5 94 [iV 0,iV 0,iV 0,iV 0,W none 0 0,W none 0 0],bB jK qP a7 d3,ah d1 211 [.map (some a7)],bf a8 b0 b5 a6.Zc,ah e4 94 (iS a6 a8 b0 b5 c8 c9 d0),bf b6 b7 b9 f4,ah e5 22 [W b6 b7 b9],ah i8 28 [iV e9,iV f0,.string f1]]) (cS [0,1,2,3,4,5,6,7,9,10,11,12] 13) ?_;refine zY [0,1,2] ?_;obtain ⟨g1,k2,k3,k4,h⟩:=bz h;refine zY [3,4,5] ?_;obtain ⟨g2,k5,k6,k7,h⟩:=bz h;refine zY [6,7,8,9] ?_;obtain ⟨g3,k8,k9,l0,h⟩:=bz h;refine zY [10,11] ?_
  refine Dc 12 J (aB (R:=ay) (vss:=[[iV g1.Za,iV g1.N,.string g1.S],[iV g2.Za,iV g2.N,.string g2.S],[iV e9,iV f0,.string f1],[iV g3.Za,iV g3.N,.string g3.S]]) (xs:=[g1,g2,(⟨e9,f0,f1⟩:WV),g3]) J (PZ _ _ _ _ _ _ _ _ _ _ _ _) J J (fun _ _ hr=> .cons J (.cons J (.cons J (.cons J All2.nil))))) fun l4 l5 l6=> ?_
  obtain ⟨l1,h⟩:=ae h
  refine Dc 13 J (aX 9 0 J J ao J J t9 sd J J l1) fun i9 j0 j1=> ?_
  refine zY [14] ?_;refine gI 15 J O O (aj (us:=[W i9 j0 j1]) (cs':=(iS a6 a8 b0 b5 i9 j0 j1)) 10 J J J J size22.out J J J) ?_;rintro _ _ rfl;refine bq O ?_;refine R5 ?_;obtain ⟨rfl,rfl⟩:=YO (YM h);exact Da ((cS [2,3,4,5,6,7,8,9,10,11,12] 14).trans (fZ ((i9,j0,j1),(b6,b7,b9)) J))
 ·rintro ⟨⟨c8,c9,d0⟩,⟨b6,b7,b9⟩⟩ h;refine qG ([aY A1 n1 c1 a0.Zc,aY A2 n2 c2 a0.Zb,ah B4 94 (iS a0 A1 n1 c1 A2 n2 c2),ah B5 94 [iV 0,iV 0,iV 0,iV 0,W none 0 0,W none 0 0],bB jK qP a7 d3,ah d1 211 [.map (some a7)],bf a8 b0 b5 a6.Zc,bf c8 c9 d0 f9.2.1,ah e4 94 (iS a6 a8 b0 b5 c8 c9 d0),bf b6 b7 b9 f9.2.2,ah e5 22 [W b6 b7 b9]]) J ?_;refine Y ?_;refine aA ?_;refine bh O ([aY A1 n1 c1 a0.Zc,aY A2 n2 c2 a0.Zb,ah B4 94 (iS a0 A1 n1 c1 A2 n2 c2),bB jK qP a7 d3,ah d1 211 [.map (some a7)],bf a8 b0 b5 a6.Zc,bf c8 c9 d0 f9.2.1,ah e4 94 (iS a6 a8 b0 b5 c8 c9 d0),bf b6 b7 b9 f9.2.2,ah e5 22 [W b6 b7 b9]]) (cS [0,1,2,4,5,6,7,8,9,10] 11) ?_;refine zY [0,1] ?_;refine zO 2 J (aj (us:=(iS a6 a8 b0 b5 c8 c9 d0)) (cs':=(iS a6 a8 b0 b5 c8 c9 d0)) 3 J J J J size94.out J J J) ?_;rintro _ _ rfl;refine bY ?_;refine zX [3] ?_;refine Y ?_;obtain rfl:=bD h;exact kI (rs:=[.cell 4 94,.tmp 5]) (vs:=[.agg #[iV a6.Za,iV a6.Zi,iV a6.Ze,iV a6.Zg,W a8 b0 b5,W c8 c9 d0],W b6 b7 b9]) J (.cons (dy 3 J J agg94.out) (.cons (dP J) .nil)) J (cS [6,7,9] 11) ⟨_,_,_,_,_,_,_,_,_,J,J⟩
 ·rintro ⟨⟨c8,c9,d0⟩,⟨b6,b7,b9⟩⟩ h;exact aJ h
 rintro i ⟨⟨c8,c9,d0⟩,⟨b6,b7,b9⟩⟩ h;exact aJ h
def yc (N:Nat)(p4:WW):Option WW:=
 some p4
def o4 (N:Nat)(a7:WW->Int->Option WW)(a0:WW)(p7:Int)(a1:(List (Int×Int)))(p6:WW)(a6:WV)(p13:Int):Option WW:=
 aL (cF (p6.length+([(⟨a6.Za,p13,a6.S⟩:WV)]:List WV).length)) (aL (in64 (p7+1)) (a7 (p6++([(⟨a6.Za,p13,a6.S⟩:WV)]:List WV)) (p7+1)))
def gZ (N:Nat)(a0:WW)(a1:(List (Int×Int))):Nat->WW->Int->Option WW
 |0,_,_=>none
 |m5+1,p6,p7=>bif decide (p7<(a0.length:Int)) then ((aq a0 p7).bind fun a6=>(bif (lk a1 a6.N).isSome then ((bif decide (a6.Za=7) then (some true) else (some (decide (a6.Za=9)))).bind fun a7=>some a7) else (some false)).bind fun a8=>bif a8 then (o4 N (gZ N a0 a1 m5) a0 p7 a1 p6 a6 ((lk a1 a6.N).getD 0)) else (o4 N (gZ N a0 a1 m5) a0 p7 a1 p6 a6 a6.N)) else (yc N p6)
def ej (a0:WW)(a1:(List (Int×Int))):Option WW:=
 gZ N a0 a1 N [] 0
theorem qn {N:Nat}{a0:WW}{a1:(List (Int×Int))}{r:WW}(h:ej N a0 a1=some r):Okc Xa 128 [W A1 n1 c1,.map (some M2)] ([aY A1 n1 c1 a0,qJ jK vV M2 a1]) (fun u post=> ∃A0 n0 c0,u=W A0 n0 c0/\post=[bf A0 n0 c0 r]):=by
 refine CJ Tryz.func128 J J ?_;simp only [qQ];refine Y ?_;refine am (fun s L=> ∃p4 A4 n4 c4,yc N p4=some r/\s=[(4,W none 0 0),(5,W A4 n4 c4)]/\L=[bf A4 n4 c4 p4]) ?_ ?_
 ·refine Y ?_;refine gR (lj 0 J bj J t9) ?_;refine Y ?_;refine iX (fun m s L=> ∃p6 p7 A6 n6 c6,gZ N a0 a1 m p6 p7=some r/\s=[(1,.map (some M2)),(4,W none 0 0),(5,W A6 n6 c6),(10,W A1 n1 c1),(11,iV (a0.length:Int)),(12,iV p7)]/\L=[qJ jK vV M2 a1,bf A6 n6 c6 p6,aY A1 n1 c1 a0]) N _ _ ⟨[],0,none,0,0,h,J,J⟩ sA ((ci ay 28 _).trans (cS [2,0,1] 3)) ?_;rintro (_|m5) _ _ ⟨p6,p7,A6,n6,c6,h,rfl,rfl⟩
  ·exact aJ h
  rw [gZ.eq_2] at h;refine Y ?_;refine aA ?_;refine gH J h ?_ ?_<;>intro h
  ·refine Y ?_;refine aA ?_;refine Y ?_;obtain ⟨a6,a7,a8,b0,h⟩:=bz h;refine gR (cM 2 J bj J J t9 size28.out a7 a8) ?_;refine gR (ee (us:=[iV a6.Za,iV a6.N,.string a6.S]) 2 J bj J b0 agg28.out (fun _ _ _ h=>by rw [show _=_ from h];rfl)) ?_
   refine gB (bw zero28.out J) fun b5=> ?_
   refine gW (aj (us:=[iV a6.Za,iV a6.N,.string a6.S]) (cs':=[iV a6.Za,iV a6.N,.string a6.S]) 0 J J J J size28.out J J J) ?_;refine Y ?_;refine am (fun s L=> ∃p13,o4 N (gZ N a0 a1 m5) a0 p7 a1 p6 a6 p13=some r/\s=[(1,.map (some M2)),(4,W none 0 0),(5,W A6 n6 c6),(7,pV b5 0),(10,W A1 n1 c1),(11,iV (a0.length:Int)),(12,iV p7)]/\L=[qJ jK vV M2 a1,bf A6 n6 c6 p6,aY A1 n1 c1 a0,ah b5 28 [iV a6.Za,iV p13,.string a6.S]]) ?_ ?_
   ·refine Y ?_;refine gR (Bh (a:=a6.N) (z:=0) 1 J Td J J Tryz.underlying182 (lq Wp) zero3.out) ?_;refine Y ?_
    refine JA 9 33 24 h (fun _ b7 h=> ?_) (fun _ b7 h=> ?_) fun d2 h=> ?_
    ·refine Y ?_
     refine JA 4 32 28 h (fun _ b9 h=> ?_) (fun _ b9 h=> ?_) fun d3 h=> ?_
     ·refine Y ?_;obtain rfl:=bD h;exact aU sA (cS [0,1,2,3] 4)
     ·refine Y ?_;obtain rfl:=bD h;exact aU sA (cS [0,1,2,3] 4)
     refine Y ?_;obtain rfl:=bD h;exact aU sA (cS [0,1,2,3] 4)
    ·refine Y ?_;obtain rfl:=bD h;exact aU sA (cS [0,1,2,3] 4)
    refine Y ?_;refine gH J h ?_ ?_<;>intro h
    ·refine Y ?_;refine gW (aj (us:=[iV ((lk a1 a6.N).getD 0)]) (cs':=[iV a6.Za,iV ((lk a1 a6.N).getD 0),.string a6.S]) 0 J J J J size3.out J J J) ?_;refine Y ?_;exact ⟨_,_,⟨(lk a1 a6.N).getD 0,h,J,J⟩,sA,cS [1,2,3,0] 4⟩
    refine Y ?_;exact ⟨_,_,⟨a6.N,h,J,J⟩,sA,cS [1,2,3,0] 4⟩
   rintro _ _ ⟨p13,h,rfl,rfl⟩;refine Y ?_;refine gR (ax (us:=[iV a6.Za,iV p13,.string a6.S]) 3 J J agg28.out J) ?_;refine gD (aB (R:=ay) (vss:=[[iV a6.Za,iV p13,.string a6.S]]) (xs:=[(⟨a6.Za,p13,a6.S⟩:WV)]) J (jA _ _ _) J J (fun _ _ hr=> .cons J All2.nil)) ?_;rintro _ _ ⟨d4,d6,e0,rfl,rfl⟩;obtain ⟨c8,h⟩:=ae h;refine gD (aX 2 0 J J ao J J t9 sd J J c8) ?_;rintro _ _ ⟨c9,d0,d1,rfl,rfl⟩;refine im ?_;refine Y ?_;obtain ⟨b6,h⟩:=ae h;refine gE (iz J J b6.1 b6.2) ?_;refine Y ?_;exact ⟨m5,_,_,W0 _,⟨p6++([(⟨a6.Za,p13,a6.S⟩:WV)]:List WV),p7+1,c9,d0,d1,h,J,J⟩,sA,cS [1,2,3] 5⟩
  refine Y ?_;exact ⟨_,_,⟨p6,A6,n6,c6,h,J,J⟩,sA,cS [1] 3⟩
 rintro _ _ ⟨p4,A4,n4,c4,h,rfl,rfl⟩;refine Y ?_;obtain rfl:=bD h;exact od J J (cS [0] 1) ⟨_,_,_,J,J⟩
end
section
variable {A1 A2 A3 A4 A5 A6 A7:Option Addr}{B1 B2 B3 B6 B8 M2 M7 M9 c1 c2 c3 c4 c5 c6 c7 n1 n2 n3 n4 n5 n6 n7:Nat}
open Go.RowKit Asn
set_option maxRecDepth 20000
def kp (a1:WW)(a0:WK)(a6:W6)(d1:W5)(a7:(Option Exit×(List (Int×Int))))(c8:WW)(a8 b0 b5 b6:Int)(c9 d0:WW):Option (Option Exit×W6×WW):=
 (ej N c9 a7.2).bind fun b7=>(ej N d0 a7.2).bind fun b9=>aL (cF (a6.length+([(⟨a8,b0,b5,b6,b7,b9⟩:WI)]:List WI).length)) (some (none,(a6++([(⟨a8,b0,b5,b6,b7,b9⟩:WI)]:List WI),c8)))
def mV (a1:WW)(a0:WK)(b0:W5)(b6:(Option Exit×(List (Int×Int))))(b9:Int×Int):(W6×WW)->Option (Option Exit×(W6×WW))
 |(b7,b5)=>(lU N a0 b9.2).bind fun a6=>bif decide (a6.Za=8) then ((pR N a6 b0).bind fun a8=>kp N a1 a0 b7 b0 b6 b5 a8.Za a8.Zi a8.Ze a8.Zg a8.Zc a8.Zb) else (bif decide (a6.Za=10) then ((nA N a6 b0).bind fun a7=>aL (cF (b5.length+a7.2.length)) (kp N a1 a0 b7 b0 b6 (b5++a7.2) a7.1.Za a7.1.Zi a7.1.Ze a7.1.Zg a7.1.Zc a7.1.Zb)) else (kp N a1 a0 b7 b0 b6 b5 a6.Za a6.Zi a6.Ze a6.Zg a6.Zc a6.Zb))
def mW (N:Nat)(a1:WW)(a0:WK)(a7:W5)(a6:Int×Int):((List (Int×Int)))->Option (Option Exit×(List (Int×Int)))
 |p21=>aL (in64 (2*a6.1)) (aL (in64 ((2*a6.1)+2)) (some (none,yI p21 a6.2 ((2*a6.1)+2))))
def o6 (a0:WK)(a1:WW):Option (WK×WW×WW×Int):=
 (mH N a0 a1).bind fun y7=>bif !decide (y7=0) then (some ((⟨[],[]⟩:WK),[],[],y7)) else ((nG N a0 a1).bind fun a6=>(mG N a6).bind fun b6=>(gq N a6 (cN (fun x st=>mW N a1 a0 a6 x st)) (none,([]:(List (Int×Int))))).bind fun a7=>qT a7.1 ((mG N a6).bind fun b7=>(gq N a6 (cN (fun x st=>mV N a1 a0 a6 a7 x st)) (none,([],[]))).bind fun a8=>qT a8.1 ((ej N a1 a7.2).bind fun b0=>(ej N a8.2.2 a7.2).bind fun b5=>some ((⟨[],a8.2.1⟩:WK),b0,b5,0)) none (fun _=>none)) none (fun _=>none))
def kV (a1:WW)(a0:WK)(a6:W6)(d1:W5)(a7:(Option Exit×(List (Int×Int))))(c8:WW)(a8 b0 b5 b6:Int)(c9 d0:WW):Option (Option Exit×W6×WW):=
 (ej N c9 a7.2).bind fun b7=>(ej N d0 a7.2).bind fun b9=>aL (cF (a6.length+([(⟨a8,b0,b5,b6,b7,b9⟩:WI)]:List WI).length)) (some (none,(a6++([(⟨a8,b0,b5,b6,b7,b9⟩:WI)]:List WI),c8)))
def kW (a1:WW)(a0:WK)(b0:W5)(b6:(Option Exit×(List (Int×Int))))(b9:Int×Int):(W6×WW)->Option (Option Exit×(W6×WW))
 |(b7,b5)=>(lU N a0 b9.2).bind fun a6=>bif decide (a6.Za=8) then ((pR N a6 b0).bind fun a8=>kV N a1 a0 b7 b0 b6 b5 a8.Za a8.Zi a8.Ze a8.Zg a8.Zc a8.Zb) else (bif decide (a6.Za=10) then ((nA N a6 b0).bind fun a7=>aL (cF (b5.length+a7.2.length)) (kV N a1 a0 b7 b0 b6 (b5++a7.2) a7.1.Za a7.1.Zi a7.1.Ze a7.1.Zg a7.1.Zc a7.1.Zb)) else (kV N a1 a0 b7 b0 b6 b5 a6.Za a6.Zi a6.Ze a6.Zg a6.Zc a6.Zb))
def kX (N:Nat)(a1:WW)(a0:WK)(a7:W5)(a6:Int×Int):((List (Int×Int)))->Option (Option Exit×(List (Int×Int)))
 |p21=>aL (in64 (2*a6.1)) (aL (in64 ((2*a6.1)+2)) (some (none,yI p21 a6.2 ((2*a6.1)+2))))
def dr (a0:WK)(a1:WW):Option ((WK×WW×WW×Int) ⊕ (WK×WW×WW)):=
 (mH N a0 a1).bind fun y7=>bif !decide (y7=0) then (some (.inl ((⟨[],[]⟩:WK),[],[],y7))) else ((nG N a0 a1).bind fun a6=>(mG N a6).bind fun b6=>(gq N a6 (cN (fun x st=>kX N a1 a0 a6 x st)) (none,([]:(List (Int×Int))))).bind fun a7=>qT a7.1 ((mG N a6).bind fun b7=>(gq N a6 (cN (fun x st=>kW N a1 a0 a6 a7 x st)) (none,([],[]))).bind fun a8=>qT a8.1 ((ej N a1 a7.2).bind fun b0=>(ej N a8.2.2 a7.2).bind fun b5=>some (.inr ((⟨[],a8.2.1⟩:WK),b0,b5))) none (fun _=>none)) none (fun _=>none))
theorem t7 {N:Nat}{a0:WK}{a1:WW}{r:((WK×WW×WW×Int) ⊕ (WK×WW×WW))}(h:dr N a0 a1=some r):Okc Xa 82 [.agg #[W A1 n1 c1,W A2 n2 c2],W A3 n3 c3] ([aY A3 n3 c3 a1,iJ A1 n1 c1 a0.Zh,iJ A2 n2 c2 a0.Zj]) (fun u post=>SM (fun (r:WK×WW×WW×Int)=> ∃c8 c9 d0 d1 d2 d3 d4 d6 e0 e1 e2 e3,u=.tuple #[.agg #[W c8 c9 d0,W d1 d2 d3],W d4 d6 e0,W e1 e2 e3,iV r.2.2.2]/\post=[iJ c8 c9 d0 r.1.Zh,iJ d1 d2 d3 r.1.Zj,bf d4 d6 e0 r.2.1,bf e1 e2 e3 r.2.2.1,iJ A1 n1 c1 a0.Zh,iJ A2 n2 c2 a0.Zj]) (fun (r:WK×WW×WW)=> ∃c8 c9 d0 d1 d2 d3 d4 d6 e0 e1 e2 e3,u=.tuple #[.agg #[W c8 c9 d0,W d1 d2 d3],W d4 d6 e0,W e1 e2 e3,iV 0]/\post=[iJ c8 c9 d0 r.1.Zh,iJ d1 d2 d3 r.1.Zj,bf d4 d6 e0 r.2.1,bf e1 e2 e3 r.2.2,iJ A1 n1 c1 a0.Zh,iJ A2 n2 c2 a0.Zj]) r):=by
 refine ce Tryz.func82 ?_;intro B4
 refine cl fun B5=> ?_
 intro B6;refine sY ?_
 refine cR h (fun _ k=>Fh k) fun y7 h=> ?_
 refine gH J h ?_ ?_<;>intro h
 ·refine ab ?_;obtain rfl:=bD h;exact kI (rs:=[.cell 4 121,.tmp 5,.cell 6 22,.tmp 7]) (vs:=[.agg #[W none 0 0,W none 0 0],W none 0 0,W none 0 0,iV y7]) J (.cons (dy 1 J J agg121.out) (.cons (dP J) (.cons (HR 0 J J sC) (.cons (dP J) .nil)))) J ((ci jO 94 _).trans ((ci jO 94 _).trans ((ci ay 28 _).trans ((ci ay 28 _).trans (cS [3,2,1,0,8,9] 10))))) ⟨_,_,_,_,_,_,_,_,_,_,_,_,J,J⟩
 refine MB h (fun _ k=>Ge k) fun b5 a6 a7 a8 h=> ?_
 intro e7;refine ab ?_;refine gD (tY (ek:=jK) (ev:=vV)) ?_;rintro _ _ ⟨b0,rfl,rfl⟩
 refine cl fun e8=> ?_
 refine sZ ?_;obtain ⟨k4,k,h⟩:=aa h;refine gD (oR (yb k)) ?_;rintro _ _ ⟨_,⟨i7,rfl,rfl⟩,rfl⟩;refine ab ?_;refine gw ?_ bQ (lr 0 J);refine gw ?_ bQ (bv 4 J);refine ab ?_;obtain ⟨f3,k,h⟩:=aa h;refine ul (en:=(fun x=> [iV x.1,iV x.2])) (fun x st=>kX N a1 a0 b5 x st) (fun (st:(List (Int×Int))) (mz:Unit)=> [aY A3 n3 c3 a1,iJ A1 n1 c1 a0.Zh,iJ A2 n2 c2 a0.Zj,ah B4 121 [W A1 n1 c1,W A2 n2 c2],ah B5 121 [W none 0 0,W none 0 0],ah B6 22 [W none 0 0],xp a6 a7 a8 b5,ah e7 144 [W a6 a7 a8],bB jK vV b0 st,ah e8 182 [.map (some b0)]]) [aW i7 144 [W a6 a7 a8],xp a6 a7 a8 b5] (([]:(List (Int×Int)))) (()) J J call163.out J (fun _=>J) (fun l G hY=>(uK k hY).mono fun _ _ hh=>hh.2) (bH [0,4] [] [8,9,10,7,6,5,4,3,2,1] 11 J) h ?_ ?_ ?_ ?_
 ·rintro l h7 p21 je sr20 _ h;replace h:kX N a1 a0 b5 h7 p21=some (je,sr20):=h;simp only [AH,Yu,Yv,Yw,Yo,Yp,Y4,Xu];refine ab ?_;obtain ⟨i5,h⟩:=ae h;refine gE (rp J J i5.1 i5.2) ?_;obtain ⟨k5,h⟩:=ae h;refine ab ?_;refine G8 (md (a:=h7.2) (b:=(2*h7.1)+2) 8 J J J J Tryz.underlying182 (lq Wp)) ?_;obtain ⟨rfl,rfl⟩:=YO (YM h);exact Da ((cS [0,1,2,3,4,5,6,7,8,9] 10).trans (fZ () J))
 ·rintro _ h;refine qG ([aY A3 n3 c3 a1,iJ A1 n1 c1 a0.Zh,iJ A2 n2 c2 a0.Zj,ah B4 121 [W A1 n1 c1,W A2 n2 c2],ah B5 121 [W none 0 0,W none 0 0],ah B6 22 [W none 0 0],xp a6 a7 a8 b5,ah e7 144 [W a6 a7 a8],bB jK vV b0 f3.2,ah e8 182 [.map (some b0)]]) J ?_;refine sY ?_;obtain ⟨k6,k,h⟩:=aa h;refine gD (oR (yb k)) ?_;rintro _ _ ⟨_,⟨i8,rfl,rfl⟩,rfl⟩;refine ab ?_;refine gw ?_ bQ (lr 0 J);obtain ⟨i6,k,h⟩:=aa h;refine ul (en:=(fun x=> [iV x.1,iV x.2])) (fun x st=>kW N a1 a0 b5 f3 x st) (fun (st:W6×WW) (mz:((Option Addr×Nat×Nat)×(Option Addr×Nat×Nat)))=> [aY A3 n3 c3 a1,iJ A1 n1 c1 a0.Zh,iJ A2 n2 c2 a0.Zj,ah B4 121 [W A1 n1 c1,W A2 n2 c2],bd jO 94 (.slice mz.1.1 mz.1.2.1 mz.1.2.2) st.1,ah B5 121 [W none 0 0,.slice mz.1.1 mz.1.2.1 mz.1.2.2],bd ay 28 (.slice mz.2.1 mz.2.2.1 mz.2.2.2) st.2,ah B6 22 [.slice mz.2.1 mz.2.2.1 mz.2.2.2],xp a6 a7 a8 b5,ah e7 144 [W a6 a7 a8],bB jK vV b0 f3.2,ah e8 182 [.map (some b0)]]) [aW i8 144 [W a6 a7 a8],xp a6 a7 a8 b5] (([],[])) (((none,0,0),(none,0,0))) J J call163.out J (fun _=>J) (fun l G hY=>(uK k hY).mono fun _ _ hh=>hh.2) ((ci jO 94 _).trans ((ci ay 28 _).trans (bH [2,9] [] [3,4,5,6,1,7,0,8,9,10,11,12] 13 J))) h ?_ ?_ ?_ ?_
  ·rintro l i9 ⟨h3,j0⟩ je sr27 ⟨⟨b6,b7,b9⟩,⟨h0,h1,h2⟩⟩ h;replace h:kW N a1 a0 b5 f3 i9 (h3,j0)=some (je,sr27):=h;simp only [AH,Yu,Yv,Yw,Yo,Yp,Y4,Xu]
   refine Ix h (fun _ k=>xK k) fun k7 k8 k9 l0 l1 l2 l3 h=> ?_
   intro e9;refine ab ?_;refine am (fun s L=> ∃h4 f4 f6 f9 g0 h5 h6 g4 g5 g6 g7 g8 g9 g1 g2 g3,kV N a1 a0 h3 b5 f3 h4 f4 f6 f9 g0 h5 h6=some (je,sr27)/\s=[(1,W A3 n3 c3),(2,pV B4 0),(4,pV B5 0),(5,W none 0 0),(6,pV B6 0),(7,iV 0),(9,pV e7 0),(10,pV e8 0),(15,pV e9 0)]/\L=[aY A3 n3 c3 a1,iJ A1 n1 c1 a0.Zh,iJ A2 n2 c2 a0.Zj,ah B4 121 [W A1 n1 c1,W A2 n2 c2],iJ b6 b7 b9 h3,ah B5 121 [W none 0 0,W b6 b7 b9],bf g4 g5 g6 h4,ah B6 22 [W g4 g5 g6],xp a6 a7 a8 b5,ah e7 144 [W a6 a7 a8],bB jK vV b0 f3.2,ah e8 182 [.map (some b0)],bf g7 g8 g9 h5,bf g1 g2 g3 h6,ah e9 94 [iV f4,iV f6,iV f9,iV g0,W g7 g8 g9,W g1 g2 g3]]) ?_ ?_
   ·refine dv h ?_ ?_<;>intro h
    ·refine Ix h (fun _ k=>F9 k) fun l4 l5 l6 l7 l8 l9 m0 h=> ?_
     exact jN
    refine dv h ?_ ?_<;>intro h
    ·refine ab ?_;obtain ⟨m1,k,h⟩:=aa h
     refine Wb (oR (DS k)) fun m2 m3 m4 m5 m6 m7 m8 m9 n0=> ?_
     obtain ⟨j1,h⟩:=ae h
     refine vc (aX 12 2 J J ao J J t9 sd J J j1) fun n8 n9 o0=> ?_
     exact jN
    exact jY
   refine fun s L=>aQ fun h4=>aQ fun f4=>aQ fun f6=>aQ fun f9=>aQ fun g0=>aQ fun h5=>aQ fun h6=>aQ fun g4=>aQ fun g5=>aQ fun g6=>aQ fun g7=>aQ fun g8=>aQ fun g9=>aQ fun g1=>aQ fun g2=>aQ fun g3=>K9 fun h=> ?_
   refine aA ?_;obtain ⟨h8,h9,h⟩:=aa h;obtain ⟨i0,i1,h⟩:=aa h;refine gw (t:=[(1,W A3 n3 c3),(2,pV B4 0),(4,pV B5 0),(5,W none 0 0),(6,pV B6 0),(7,iV 0),(9,pV e7 0),(10,pV e8 0),(15,pV e9 0)]) ?_ mh (ad _)
   refine iW O 9 [] [3,7,8] [62,63,64,65,66,67,68,69,70] [[],[0],[],[1,2],[],[4],[],[5,6],[]] [aV (pV e9 4),
aV (W g7 g8 g9),
aV (.map (some b0)),
aX3 (fun (e4:Option Addr) (e5 e6:Nat)=> W e4 e5 e6) (fun e4 e5 e6=> [bf e4 e5 e6 h8]),
aV (pV e9 5),
aV (W g1 g2 g3),
aV (.map (some b0)),
aX3 (fun (f0:Option Addr) (f1 f2:Nat)=> W f0 f1 f2) (fun f0 f1 f2=> [bf f0 f1 f2 i0]),
aV (pV e9 4)] [] (ad _) (mc) O rfl rfl ?_ ?_ ?_
   ·exact mb
   ·refine qE (kH J Ii) ?_;refine aF J ?_ ?_
    ·refine th (oR (qn i1)) J ?_;rintro _ _ ⟨_,⟨j2,j3,j4,rfl,rfl⟩,rfl⟩;exact NZ j2 j3 j4 (ad _)
    refine qR (ck 11 J J KI J) ?_;refine qR (ck 14 J J sC J) ?_;refine qE (kH J wB) ?_;refine aF J ?_ ?_
    ·refine th (oR (qn h9)) J ?_;rintro _ _ ⟨_,⟨j5,j6,j7,rfl,rfl⟩,rfl⟩;exact NZ j5 j6 j7 (ad _)
    refine qR (ck 11 J J KI J) ?_;refine qR (ck 14 J J sC J) ?_;refine qE (kH J Ii) ?_;exact dH
   intro e4 e5 e6 f0 f1 f2;refine oe (t:=[(65,W e4 e5 e6),(69,W f0 f1 f2),(70,pV e9 4),(1,W A3 n3 c3),(2,pV B4 0),(4,pV B5 0),(5,W none 0 0),(6,pV B6 0),(7,iV 0),(9,pV e7 0),(10,pV e8 0),(15,pV e9 0)]) (L':=[bf e4 e5 e6 h8,bf f0 f1 f2 i0,aY A3 n3 c3 a1,iJ A1 n1 c1 a0.Zh,iJ A2 n2 c2 a0.Zj,ah B4 121 [W A1 n1 c1,W A2 n2 c2],iJ b6 b7 b9 h3,ah B5 121 [W none 0 0,W b6 b7 b9],bf g4 g5 g6 h4,ah B6 22 [W g4 g5 g6],xp a6 a7 a8 b5,ah e7 144 [W a6 a7 a8],bB jK vV b0 f3.2,ah e8 182 [.map (some b0)],bf g7 g8 g9 h5,bf g1 g2 g3 h6,ah e9 94 [iV f4,iV f6,iV f9,iV g0,W g7 g8 g9,W g1 g2 g3]]) ?_ mh (ad _);refine pO 9 J O (aj (us:=[W e4 e5 e6]) (cs':=[iV f4,iV f6,iV f9,iV g0,W e4 e5 e6,W g1 g2 g3]) 16 J J J J size22.out J J J) J J ?_;rintro _ _ rfl;refine Cn 10 J O (kH J wB) J J J ?_;refine pO 11 J O (aj (us:=[W f0 f1 f2]) (cs':=[iV f4,iV f6,iV f9,iV g0,W e4 e5 e6,W f0 f1 f2]) 16 J J J J size22.out J J J) J J ?_;rintro _ _ rfl;refine zW ?_;refine mg O ?_;refine ab ?_;refine mO (bv 0 J) ?_;refine mO (bv 1 J) ?_
   refine gD (aB (R:=jO) (vss:=[[iV f4,iV f6,iV f9,iV g0,W e4 e5 e6,W f0 f1 f2]]) (xs:=[(⟨f4,f6,f9,g0,h8,i0⟩:WI)]) J (Hs _ _ _ _ _ _ _ _ _ _) J J (fun _ _ hr=> .cons (⟨_,_,_,_,_,_,J,hr 0 _ J J,hr 1 _ J J⟩) All2.nil)) ?_;rintro _ _ ⟨o1,o2,p1,rfl,rfl⟩;obtain ⟨j8,h⟩:=ae h
   refine vc (aX 7 0 J J ao J J Wk TW J J j8) fun A64 j9 k0=> ?_
   obtain ⟨rfl,rfl⟩:=YO (YM h);exact Da ((cS [3,4,5,6,7,8,9,10,11,12,13,14] 18).trans (fZ ((A64,j9,k0),(g4,g5,g6)) J))
  ·rintro ⟨⟨b6,b7,b9⟩,⟨h0,h1,h2⟩⟩ h;refine qG ([aY A3 n3 c3 a1,iJ A1 n1 c1 a0.Zh,iJ A2 n2 c2 a0.Zj,ah B4 121 [W A1 n1 c1,W A2 n2 c2],iJ b6 b7 b9 i6.2.1,ah B5 121 [W none 0 0,W b6 b7 b9],bf h0 h1 h2 i6.2.2,ah B6 22 [W h0 h1 h2],xp a6 a7 a8 b5,ah e7 144 [W a6 a7 a8],bB jK vV b0 f3.2,ah e8 182 [.map (some b0)]]) J ?_;refine ab ?_;refine dY [0,1,2,4,5] ?_;obtain ⟨p2,k,h⟩:=aa h
   refine Dc 3 J (oR (qn k)) fun k1 k2 k3=> ?_
   obtain ⟨p3,k,h⟩:=aa h
   refine Dc 6 J (oR (qn k)) fun i2 i3 i4=> ?_
   refine zO 7 J (aj (us:=[W none 0 0,W b6 b7 b9]) (cs':=[W none 0 0,W b6 b7 b9]) 7 J J J J size121.out J J J) ?_;rintro _ _ rfl;refine bY ?_;refine zY [8] ?_;refine gI 9 J O O (aj (us:=[W i2 i3 i4]) (cs':=[W i2 i3 i4]) 9 J J J J size22.out J J J) ?_;rintro _ _ rfl;refine zX [10] ?_;refine ab ?_;obtain rfl:=bD h;exact kI (rs:=[.cell 4 121,.tmp 5,.cell 6 22,.tmp 7]) (vs:=[.agg #[W none 0 0,W b6 b7 b9],W k1 k2 k3,W i2 i3 i4,iV 0]) J (.cons (dy 7 J J agg121.out) (.cons (dP J) (.cons (HR 9 J J sC) (.cons (dP J) .nil)))) J ((ci jO 94 _).trans (cS [0,7,2,1,4,5] 15)) ⟨_,_,_,_,_,_,_,_,_,_,_,_,J,J⟩
  ·rintro ⟨⟨b6,b7,b9⟩,⟨h0,h1,h2⟩⟩ h;exact aJ h
  rintro i ⟨⟨b6,b7,b9⟩,⟨h0,h1,h2⟩⟩ h;exact aJ h
 ·rintro _ h;exact aJ h
 rintro i _ h;exact aJ h
def nw (a0:WW)(a1:WD):Option ((WK×WW×WW×Int) ⊕ (WK×WW×WW)):=
 (dr N a1.m_ a0).bind fun a6=>DY a6 (fun y11_0=>some (.inl (y11_0.1,y11_0.2.1,y11_0.2.2.1,y11_0.2.2.2))) (fun y11_1=>some (.inr (y11_1.1,y11_1.2.1,y11_1.2.2)))
theorem cJ {N:Nat}{a0:WW}{a1:WD}{r:((WK×WW×WW×Int) ⊕ (WK×WW×WW))}(h:nw N a0 a1=some r):Okc Xa 81 [W A1 n1 c1,pV B2 0] ([aY A1 n1 c1 a0,aW B2 76 [pV B3 0],ah B3 124 [W A4 n4 c4,W A5 n5 c5,W A6 n6 c6,W A7 n7 c7,pV B8 0],iJ A4 n4 c4 a1.m_.Zh,iJ A5 n5 c5 a1.m_.Zj,bf A6 n6 c6 a1.Zt,bf A7 n7 c7 a1.Zv,ah B8 213 [.map (some M9)],bB jK qP M9 a1.Zw.at_]) (fun u post=>SM (fun (r:WK×WW×WW×Int)=> ∃a6 a7 a8 b0 b5 b6 b7 b9 c8 c9 d0 d1,u=.tuple #[.agg #[W a6 a7 a8,W b0 b5 b6],W b7 b9 c8,W c9 d0 d1,iV r.2.2.2]/\post=[iJ a6 a7 a8 r.1.Zh,iJ b0 b5 b6 r.1.Zj,bf b7 b9 c8 r.2.1,bf c9 d0 d1 r.2.2.1,iJ A4 n4 c4 a1.m_.Zh,iJ A5 n5 c5 a1.m_.Zj,bf A6 n6 c6 a1.Zt,bf A7 n7 c7 a1.Zv,ah B3 124 [W A4 n4 c4,W A5 n5 c5,W A6 n6 c6,W A7 n7 c7,pV B8 0],ah B8 213 [.map (some M9)],bB jK qP M9 a1.Zw.at_]) (fun (r:WK×WW×WW)=> ∃a6 a7 a8 b0 b5 b6 b7 b9 c8 c9 d0 d1,u=.tuple #[.agg #[W a6 a7 a8,W b0 b5 b6],W b7 b9 c8,W c9 d0 d1,iV 0]/\post=[iJ a6 a7 a8 r.1.Zh,iJ b0 b5 b6 r.1.Zj,bf b7 b9 c8 r.2.1,bf c9 d0 d1 r.2.2,iJ A4 n4 c4 a1.m_.Zh,iJ A5 n5 c5 a1.m_.Zj,bf A6 n6 c6 a1.Zt,bf A7 n7 c7 a1.Zv,ah B3 124 [W A4 n4 c4,W A5 n5 c5,W A6 n6 c6,W A7 n7 c7,pV B8 0],ah B8 213 [.map (some M9)],bB jK qP M9 a1.Zw.at_]) r):=by
 refine ce Tryz.func81 ?_;intro d4;refine ab ?_;obtain ⟨d3,d2,h⟩:=aa h;rcases d3 with y11_0|y11_1
 ·replace h:=GD h
  refine Uv (oC (t7 d2)) fun d6 e0 e1 e2 e3 e4 e5 e6 e7 e8 e9 f0=> ?_
  exact eN
 replace h:=GC h
 refine Uv (oC (t7 d2)) fun f1 f2 f3 f4 f6 f9 g0 g1 g2 g3 g4 g5=> ?_
 exact eN
def iO (N:Nat)(p3:WW):Option WW:=
 some p3
def mJ (a1:Int):Option WW:=
 bif decide (a1<0) then none else (aL (in64 (0 - 0)) (aL (in64 (a1 - (0 - 0))) (bif decide (0<a1 - (0 - 0)) then (aL ((0:Int)<(a1 - (0 - 0))/\(a1 - (0 - 0))<=1099511627776) (iO N ([]:List WV))) else (iO N []))))
theorem wa {N:Nat}{a1:Int}{r:WW}(h:mJ N a1=some r):Okc Xa 154 [W none 0 0,iV a1] ([]) (fun u post=> ∃A0 n0 c0,u=W A0 n0 c0/\post=[bf A0 n0 c0 r]):=by
 refine ce Tryz.func154 ?_;refine sZ ?_;refine gH J h ?_ ?_<;>intro h
 ·exact aJ h
 refine ab ?_;refine am (fun s L=> ∃p3 A3 n3 c3,iO N p3=some r/\s=[(0,W A3 n3 c3),(4,W none 0 0)]/\L=[bf A3 n3 c3 p3]) ?_ ?_
 ·refine ab ?_;refine fY (Mo J t9) ?_;refine gE (FQ J t9) ?_;obtain ⟨q4,h⟩:=ae h;refine ab ?_;obtain ⟨q5,h⟩:=ae h;refine dv h ?_ ?_<;>intro h
  ·refine ab ?_;refine gE (Mo J t9) ?_;refine fY (NR J t9 size28.out J) ?_;obtain ⟨q7,h⟩:=ae h
   refine vc (KG J J t9 Wp sd J q7.1 q7.2) fun A8 n8 c8=> ?_
   refine gE (FQ J t9) ?_
   refine vc (QU (R:=ay) 0 J J t9 size28.out J J) fun A9 n9 c9=> ?_
   exact jN
  refine ab ?_;exact ⟨_,_,⟨[],none,0,0,h,J,J⟩,sA,(ci ay 28 _).trans (cS [0] 1)⟩
 rintro _ _ ⟨p3,A3,n3,c3,h,rfl,rfl⟩;exact eY
def lc (N:Nat)(a6:WW):Option WW:=
 some a6
def lL (a0_0 a0_1:WW):Option WW:=
 (mJ N ((0+(a0_0.length:Int))+(a0_1.length:Int))).bind fun y9=>aL (cF (y9.length+a0_0.length)) (aL (cF ((y9++a0_0).length+a0_1.length)) (lc N ((y9++a0_0)++a0_1)))
def d7 (a0_0 a0_1:WW):Option WW:=
 aL (in64 (0+(a0_0.length:Int))) (bif decide (0+(a0_0.length:Int)<0) then none else (aL (in64 ((0+(a0_0.length:Int))+(a0_1.length:Int))) (bif decide ((0+(a0_0.length:Int))+(a0_1.length:Int)<0) then none else (lL N a0_0 a0_1))))
theorem fo {N:Nat}{a0_0 a0_1 r:WW}(h:d7 N a0_0 a0_1=some r):Okc Xa 120 [.slice (some ⟨B1,0,none⟩) 2 2] ([aW B1 22 [W A2 n2 c2,W A3 n3 c3],aY A2 n2 c2 a0_0,aY A3 n3 c3 a0_1]) (fun u post=> ∃A0 n0 c0,u=W A0 n0 c0/\post=[bf A0 n0 c0 r]):=by
 refine ce Tryz.func120 ?_;refine am (fun s L=>lL N a0_0 a0_1=some r/\s=[(0,.slice (some ⟨B1,0,none⟩) 2 2),(2,W none 0 0),(3,iV ((0+(a0_0.length:Int))+(a0_1.length:Int)))]/\L=[aY A2 n2 c2 a0_0,aY A3 n3 c3 a0_1,aW B1 22 [W A2 n2 c2,W A3 n3 c3]]) ?_ ?_
 ·refine ab ?_;refine fY (FQ J Wx) ?_;refine J7 3 ?_;refine Oc ?_;refine ab ?_;refine aA ?_;refine iN J ?_;refine sY ?_;refine fY (FR J J Wx size22.out (by decide) (by decide)) ?_;obtain ⟨q5,h⟩:=ae h;refine dv h ?_ ?_<;>intro h
  ·exact aJ h
  refine ab ?_;refine fY (iz J J (by decide) (by decide)) ?_;refine Oc ?_;refine ab ?_;refine aA ?_;refine iN J ?_;refine sY ?_;refine fY (FR J J Wx size22.out (by decide) (by decide)) ?_;obtain ⟨q7,h⟩:=ae h;refine dv h ?_ ?_<;>intro h
  ·exact aJ h
  refine ab ?_;refine fY (iz J J (by decide) (by decide)) ?_;refine Oc ?_;refine ab ?_;refine aA ?_;refine fG J ?_;exact jY
 rintro _ _ ⟨h,rfl,rfl⟩
 refine MB h (fun _ k=>wa k) fun y9 b7 b9 c8 h=> ?_
 refine am (fun s L=> ∃a6 a7 a8 b0,lc N a6=some r/\s=[(2,W none 0 0),(6,W a7 a8 b0)]/\L=[bf a7 a8 b0 a6]) ?_ ?_
 ·refine ab ?_;refine fY (FQ J Wx) ?_;refine J7 3 ?_;refine Oc ?_;refine ab ?_;refine aA ?_;refine iN J ?_;refine sY ?_;refine fY (FR J J Wx size22.out (by decide) (by decide)) ?_;obtain ⟨b5,h⟩:=ae h
  refine vc (aX 0 1 J J bj J J t9 sd J J b5) fun c9 d0 d1=> ?_
  refine fY (iz J J (by decide) (by decide)) ?_;refine Oc ?_;refine ab ?_;refine aA ?_;refine iN J ?_;refine sY ?_;refine fY (FR J J Wx size22.out (by decide) (by decide)) ?_;obtain ⟨b6,h⟩:=ae h
  refine vc (aX 0 2 J J bj J J t9 sd J J b6) fun d2 d3 d4=> ?_
  refine fY (iz J J (by decide) (by decide)) ?_;refine Oc ?_;refine ab ?_;refine aA ?_;refine fG J ?_;exact jY
 rintro _ _ ⟨a6,a7,a8,b0,h,rfl,rfl⟩;exact eY
def po (N:Nat)(a0:WR):Option WR:=
 some (⟨[]⟩:WR)
theorem zv {N:Nat}{a0 r:WR}(h:po N a0=some r):Okc Xa 155 [pV B1 0] ([ah B1 213 [.map (some M2)],bB jK qP M2 a0.at_]) (fun u post=> ∃M0,u=.tuple #[]/\post=[ah B1 213 [.map (some M0)],bB jK qP M0 r.at_]):=by
 refine ce Tryz.func155 ?_;refine fY (vQ J Wo) ?_;refine iN J ?_;refine ab ?_;refine G8 (OW 1 J J Wv) ?_;exact eN
def fL (N:Nat)(a1:WK):Nat->Int->(List (Int×Bool))->Option WR
 |0,_,_=>none
 |m8+1,p9,a6=>bif decide (p9<(a1.Zj.length:Int)) then ((aq a1.Zj p9).bind fun a7=>aL (in64 (2*p9)) (aL (in64 ((2*p9)+2)) ((cQ N (⟨a6⟩:WR) ((2*p9)+2) a7).bind fun a8=>aL (in64 (p9+1)) ((fL N a1 m8) (p9+1) a8.2.at_)))) else (some (⟨a6⟩:WR))
def eJ (a0:WR)(a1:WK):Option WR:=
 (po N a0).bind fun y6=>fL N a1 N 0 y6.at_
theorem zu {N:Nat}{a0:WR}{a1:WK}{r:WR}(h:eJ N a0 a1=some r):Okc Xa 121 [pV B1 0,.agg #[W A3 n3 c3,W A4 n4 c4]] ([iI A3 n3 c3 a1.Zh,iI A4 n4 c4 a1.Zj,ah B1 213 [.map (some M2)],bB jK qP M2 a0.at_]) (fun u post=> ∃M0,u=.tuple #[]/\post=[ah B1 213 [.map (some M0)],bB jK qP M0 r.at_]):=by
 refine ce Tryz.func121 ?_;intro B5;refine sY ?_;refine fY (dL J Wo) ?_;refine fG J ?_;refine ab ?_;obtain ⟨y6,k,h⟩:=aa h;refine gD (oC (zv k)) ?_;rintro _ _ ⟨_,⟨M7,rfl,rfl⟩,rfl⟩;refine ab ?_;refine lK (fun m s L=> ∃(p9:Int) (a6:(List (Int×Bool))) (a7:Nat),fL N a1 m p9 a6=some r/\s=[(0,pV B1 0),(11,W A4 n4 c4),(12,iV (a1.Zj.length:Int)),(13,iV p9)]/\L=[iI A4 n4 c4 a1.Zj,bB jK qP a7 a6,ah B1 213 [.map (some a7)]]) N ?_;rintro m8 _ _ ⟨p9,a6,a7,h,rfl,rfl⟩;rw [fL.eq_2] at h;refine ab ?_;refine aA ?_;refine gH J h ?_ ?_<;>intro h
 ·refine sY ?_;obtain ⟨b0,b6,b7,a8,h⟩:=bz h;refine ab ?_;refine J6 0 J a8 (tV b0) ?_;rintro _ _ ⟨b9,c8,c9,d0,d1,d2,rfl,rfl⟩;refine K7 (Bf (us:=(iS b0 b9 c8 c9 d0 d1 d2)) 0 J J agg94.out J) ?_;intro d3;refine ab ?_;obtain ⟨b5,h⟩:=ae h;refine gE (rp J J b5.1 b5.2) ?_;obtain ⟨d4,h⟩:=ae h;refine ab ?_;obtain ⟨d6,k,h⟩:=aa h;refine gD (oC (jt k)) ?_;rintro _ _ ⟨_,⟨e0,rfl,rfl⟩,rfl⟩;refine ab ?_;obtain ⟨e1,h⟩:=ae h;exact lY
 exact eY
theorem wg {r:WR}{B1:Nat}: ∀v post,((fun (u:Value) (post:W8)=> ∃M0,u=.tuple #[]/\post=[ah B1 213 [.map (some M0)],bB jK qP M0 r.at_])) v post-> ∀c∈post,ij c:=by
 rintro _ _ ⟨_,rfl,rfl⟩;exact t5 BT (t5 CY (au))
def d5 (N:Nat)(a0:WD)(p13 a7:W6)(p15 a8:WW)(a6:Int):Option (Int×WD):=
 bif !decide (a6=0) then (some (a6,a0)) else none
def ia (a6 p21:W6)(a0:WD)(a7 a8:WW):Option (Int×WD):=
 (eJ N a0.Zw (⟨a6,p21⟩:WK)).bind fun b0=>some (0,(⟨(⟨a6,p21⟩:WK),a7,a8,b0⟩:WD))
def dZ (a0:WD)(a7 p21:W6)(a6 a8:WW):Option (Int×WD):=
 aL ((0:Int)<=(a0.Zt.length:Int)/\0<=(a0.Zt.length:Int).toNat/\(a0.Zt.length:Int).toNat<=a6.length) (aL ((0:Int)<=(a0.Zt.length:Int)/\(a0.Zt.length:Int).toNat<=a6.length/\a6.length<=a6.length) ((dz N ((a6.drop 0).take ((a0.Zt.length:Int).toNat - 0))).bind fun b0=>(d7 N ((a6.drop ((a0.Zt.length:Int).toNat)).take (a6.length - (a0.Zt.length:Int).toNat)) a8).bind fun b5=>ia N a7 p21 a0 b0 b5))
def iT (a0:WD):Option (Int×WD):=
 (aM N a0).bind fun y9=>bif y9 then (some (1,a0)) else ((d7 N a0.Zt a0.Zv).bind fun a6=>(nw N a6 a0).bind fun a7=>DY a7 (fun y27_0=>d5 N a0 y27_0.1.Zh y27_0.1.Zj y27_0.2.1 y27_0.2.2.1 y27_0.2.2.2) (fun y27_1=>dZ N a0 y27_1.1.Zh y27_1.1.Zj y27_1.2.1 y27_1.2.2))
theorem sm {N:Nat}{a0:WD}{r:Int×WD}(h:iT N a0=some r):Okc Xa 80 [pV B1 0,.func (.func 81) #[] #[pV B8 0]] ([aW B8 76 [pV B1 0],ah B1 124 [W A2 n2 c2,W A3 n3 c3,W A4 n4 c4,W A5 n5 c5,pV B6 0],iJ A2 n2 c2 a0.m_.Zh,iJ A3 n3 c3 a0.m_.Zj,bf A4 n4 c4 a0.Zt,bf A5 n5 c5 a0.Zv,ah B6 213 [.map (some M7)],bB jK qP M7 a0.Zw.at_]) (fun u post=> ∃A0 n0 c0 A1 n1 c1 A2 n2 c2 A3 n3 c3 M4,u=iV r.1/\post=[ah B1 124 [W A0 n0 c0,W A1 n1 c1,W A2 n2 c2,W A3 n3 c3,pV B6 0],iJ A0 n0 c0 r.2.m_.Zh,iJ A1 n1 c1 r.2.m_.Zj,bf A2 n2 c2 r.2.Zt,bf A3 n3 c3 r.2.Zv,ah B6 213 [.map (some M4)],bB jK qP M4 r.2.Zw.at_]):=by
 refine ce Tryz.func80 ?_;refine sZ ?_
 refine cR h (fun _ k=>dj k) fun y9 h=> ?_
 refine gH J h ?_ ?_<;>intro h
 ·exact eY
 refine ab ?_;refine am (fun s L=>(∃p13 i5 p15 i6 i7 i8 i9 j0 j1 j2 j3 j4 j5 j6 j7 j8 j9 k0,d5 N a0 p13 i5 p15 i6 i7=some r/\s=[(0,pV B1 0),(4,iV 0),(5,pV i8 0),(6,W j5 j6 j7),(7,W j8 j9 k0),(8,iV i7)]/\L=[iJ i9 j0 j1 p13,iJ j2 j3 j4 i5,ah i8 121 [W i9 j0 j1,W j2 j3 j4],bf j5 j6 j7 p15,bf j8 j9 k0 i6,iJ A2 n2 c2 a0.m_.Zh,iJ A3 n3 c3 a0.m_.Zj,bf A4 n4 c4 a0.Zt,bf A5 n5 c5 a0.Zv,ah B1 124 [W A2 n2 c2,W A3 n3 c3,W A4 n4 c4,W A5 n5 c5,pV B6 0],bB jK qP M7 a0.Zw.at_,ah B6 213 [.map (some M7)]])\/(∃(e3:W6) (p21:W6) (g1:WW) (h7:WW) (h8:Nat) (a6:Option Addr) (a7 a8:Nat) (b0:Option Addr) (b5 b6:Nat) (h9:Option Addr) (i0 i1:Nat) (f6:Option Addr) (f9 g0:Nat),dZ N a0 e3 p21 g1 h7=some r/\s=[(0,pV B1 0),(4,iV 0),(5,pV h8 0),(6,W h9 i0 i1),(7,W f6 f9 g0),(8,iV 0)]/\L=[iJ a6 a7 a8 e3,iJ b0 b5 b6 p21,ah h8 121 [W a6 a7 a8,W b0 b5 b6],bf h9 i0 i1 g1,bf f6 f9 g0 h7,iJ A2 n2 c2 a0.m_.Zh,iJ A3 n3 c3 a0.m_.Zj,bf A4 n4 c4 a0.Zt,bf A5 n5 c5 a0.Zv,ah B1 124 [W A2 n2 c2,W A3 n3 c3,W A4 n4 c4,W A5 n5 c5,pV B6 0],bB jK qP M7 a0.Zw.at_,ah B6 213 [.map (some M7)]])) ?_ ?_
 ·refine bh O _ (ad _) ?_;refine zY [0,1,2,3,4,5,6,7,8] ?_;refine oA 9 17 O ?_ ?_
  ·refine bL J (wv (cs:=[W A4 n4 c4,W A5 n5 c5]) J (zj _ _ _ _ _ _)) J J J ?_;rintro _ _ ⟨k1,rfl,rfl⟩;refine bY ?_;refine oA 10 17 O ?_ ?_
   ·obtain ⟨m7,k,h⟩:=aa h;refine bL J (oR (fo k)) J J J ?_;rintro _ _ ⟨_,⟨m8,m9,n8,rfl,rfl⟩,rfl⟩;refine bY ?_;refine oA 11 17 O ?_ ?_
    ·refine vY (bv 0 J) (cS [2,3,4,5,6,7,8,9] 10) ?_;refine Oo ?_;obtain ⟨l7,g2,h⟩:=aa h;rcases l7 with y27_0|y27_1
     ·replace h:=GD h;refine bL J (qh (cJ g2) J J J (bH [0,2] [3,4,5,6,7,8,9] [0,1,2] 10 J)) J J J ?_;rintro _ _ ⟨_,⟨k2,k3,k4,b9,c8,c9,e0,e1,e2,e4,e5,e6,rfl,rfl⟩,rfl⟩;refine bY ?_;refine bu ?_;refine zY [12,13,14,15,16] ?_
      refine MN 17 J (bw zero121.out J) fun l8=> ?_
      refine zO 18 J (aj (us:=[W k2 k3 k4,W b9 c8 c9]) (cs':=[W k2 k3 k4,W b9 c8 c9]) 0 J J J J size121.out J J J) ?_;rintro _ _ rfl;refine bY ?_;refine bu ?_;refine zX [19,20,21] ?_;refine ab ?_;exact ⟨_,_,.inl (⟨y27_0.1.Zh,y27_0.1.Zj,y27_0.2.1,y27_0.2.2.1,y27_0.2.2.2,l8,k2,k3,k4,b9,c8,c9,e0,e1,e2,e4,e5,e6,h,J,J⟩),sA,cS [1,2,0,3,4,5,6,7,8,9,11,10] 15⟩
     replace h:=GC h;refine bL J (qh (cJ g2) J J J (bH [0,2] [3,4,5,6,7,8,9] [0,1,2] 10 J)) J J J ?_;rintro _ _ ⟨_,⟨d0,d1,d2,d3,d4,d6,e7,e8,e9,f0,f1,f2,rfl,rfl⟩,rfl⟩;refine bY ?_;refine bu ?_;refine zY [12,13,14,15,16] ?_
     refine MN 17 J (bw zero121.out J) fun l9=> ?_
     refine zO 18 J (aj (us:=[W d0 d1 d2,W d3 d4 d6]) (cs':=[W d0 d1 d2,W d3 d4 d6]) 0 J J J J size121.out J J J) ?_;rintro _ _ rfl;refine bY ?_;refine bu ?_;refine zX [19,20,21] ?_;refine ab ?_;exact ⟨_,_,.inr (⟨y27_1.1.Zh,y27_1.1.Zj,y27_1.2.1,y27_1.2.2,l9,d0,d1,d2,d3,d4,d6,e7,e8,e9,f0,f1,f2,h,J,J⟩),sA,cS [1,2,0,3,4,5,6,7,8,9,11,10] 15⟩
    refine bL J (bw zero121.out J) J J J ?_;rintro _ _ ⟨l3,rfl,rfl⟩;refine bY ?_;refine kJ (bv 1 J) (cS [3,4,5,6,7,8,9,10] 11) ?_;refine bu ?_;obtain ⟨g3,b7,h⟩:=aa h;rcases g3 with y28_0|y28_1
    ·replace h:=GD h
     refine MM 11 J (qh (cJ b7) J J J (bH [1,3] [4,5,6,7,8,9,10] [0,1,2,3] 11 J)) fun b9 c8 c9 e0 e1 e2 e4 e5 e6 g4 g5 g6=> ?_
     refine zY [12,13,14,15,16] ?_;refine zO 18 J (aj (us:=[W b9 c8 c9,W e0 e1 e2]) (cs':=[W b9 c8 c9,W e0 e1 e2]) 11 J J J J size121.out J J J) ?_;rintro _ _ rfl;refine bY ?_;refine bu ?_;refine zX [19,20,21] ?_;refine ab ?_;exact ⟨_,_,.inl (⟨y28_0.1.Zh,y28_0.1.Zj,y28_0.2.1,y28_0.2.2.1,y28_0.2.2.2,l3,b9,c8,c9,e0,e1,e2,e4,e5,e6,g4,g5,g6,h,J,J⟩),sA,cS [0,1,11,2,3,4,5,6,7,8,10,9] 15⟩
    replace h:=GC h
    refine MM 11 J (qh (cJ b7) J J J (bH [1,3] [4,5,6,7,8,9,10] [0,1,2,3] 11 J)) fun d0 d1 d2 d3 d4 d6 e7 e8 e9 f0 f1 f2=> ?_
    refine zY [12,13,14,15,16] ?_;refine zO 18 J (aj (us:=[W d0 d1 d2,W d3 d4 d6]) (cs':=[W d0 d1 d2,W d3 d4 d6]) 11 J J J J size121.out J J J) ?_;rintro _ _ rfl;refine bY ?_;refine bu ?_;refine zX [19,20,21] ?_;refine ab ?_;exact ⟨_,_,.inr (⟨y28_1.1.Zh,y28_1.1.Zj,y28_1.2.1,y28_1.2.2,l3,d0,d1,d2,d3,d4,d6,e7,e8,e9,f0,f1,f2,h,J,J⟩),sA,cS [0,1,11,2,3,4,5,6,7,8,10,9] 15⟩
   refine bL J (bw zero121.out J) J J J ?_;rintro _ _ ⟨k5,rfl,rfl⟩;refine bY ?_;obtain ⟨m0,f3,h⟩:=aa h
   refine Dc 10 J (oR (fo f3)) fun m1 m2 m3=> ?_
   refine kJ (bv 0 J) (cS [3,4,5,6,7,8,9,10] 11) ?_;refine bu ?_;obtain ⟨g3,b7,h⟩:=aa h;rcases g3 with y28_0|y28_1
   ·replace h:=GD h
    refine MM 11 J (qh (cJ b7) J J J (bH [0,3] [4,5,6,7,8,9,10] [0,1,2,3] 11 J)) fun b9 c8 c9 e0 e1 e2 e4 e5 e6 g4 g5 g6=> ?_
    refine zY [12,13,14,15,16] ?_;refine zO 18 J (aj (us:=[W b9 c8 c9,W e0 e1 e2]) (cs':=[W b9 c8 c9,W e0 e1 e2]) 12 J J J J size121.out J J J) ?_;rintro _ _ rfl;refine bY ?_;refine bu ?_;refine zX [19,20,21] ?_;refine ab ?_;exact ⟨_,_,.inl (⟨y28_0.1.Zh,y28_0.1.Zj,y28_0.2.1,y28_0.2.2.1,y28_0.2.2.2,k5,b9,c8,c9,e0,e1,e2,e4,e5,e6,g4,g5,g6,h,J,J⟩),sA,cS [0,1,12,2,3,4,5,6,7,8,10,9] 15⟩
   replace h:=GC h
   refine MM 11 J (qh (cJ b7) J J J (bH [0,3] [4,5,6,7,8,9,10] [0,1,2,3] 11 J)) fun d0 d1 d2 d3 d4 d6 e7 e8 e9 f0 f1 f2=> ?_
   refine zY [12,13,14,15,16] ?_;refine zO 18 J (aj (us:=[W d0 d1 d2,W d3 d4 d6]) (cs':=[W d0 d1 d2,W d3 d4 d6]) 12 J J J J size121.out J J J) ?_;rintro _ _ rfl;refine bY ?_;refine bu ?_;refine zX [19,20,21] ?_;refine ab ?_;exact ⟨_,_,.inr (⟨y28_1.1.Zh,y28_1.1.Zj,y28_1.2.1,y28_1.2.2,k5,d0,d1,d2,d3,d4,d6,e7,e8,e9,f0,f1,f2,h,J,J⟩),sA,cS [0,1,12,2,3,4,5,6,7,8,10,9] 15⟩
  refine bL J (bw zero121.out J) J J J ?_;rintro _ _ ⟨k1,rfl,rfl⟩;refine bY ?_
  refine MN 9 J (wv (cs:=[W A4 n4 c4,W A5 n5 c5]) J (zj _ _ _ _ _ _)) fun k5=> ?_
  obtain ⟨m0,f3,h⟩:=aa h
  refine Dc 10 J (oR (fo f3)) fun m1 m2 m3=> ?_
  refine kJ (bv 0 J) (cS [3,4,5,6,7,8,9,10] 11) ?_;refine bu ?_;obtain ⟨g3,b7,h⟩:=aa h;rcases g3 with y28_0|y28_1
  ·replace h:=GD h
   refine MM 11 J (qh (cJ b7) J J J (bH [0,3] [4,5,6,7,8,9,10] [0,1,2,3] 11 J)) fun b9 c8 c9 e0 e1 e2 e4 e5 e6 g4 g5 g6=> ?_
   refine zY [12,13,14,15,16] ?_;refine zO 18 J (aj (us:=[W b9 c8 c9,W e0 e1 e2]) (cs':=[W b9 c8 c9,W e0 e1 e2]) 13 J J J J size121.out J J J) ?_;rintro _ _ rfl;refine bY ?_;refine bu ?_;refine zX [19,20,21] ?_;refine ab ?_;exact ⟨_,_,.inl (⟨y28_0.1.Zh,y28_0.1.Zj,y28_0.2.1,y28_0.2.2.1,y28_0.2.2.2,k1,b9,c8,c9,e0,e1,e2,e4,e5,e6,g4,g5,g6,h,J,J⟩),sA,cS [0,1,13,2,3,4,5,6,7,8,10,9] 15⟩
  replace h:=GC h
  refine MM 11 J (qh (cJ b7) J J J (bH [0,3] [4,5,6,7,8,9,10] [0,1,2,3] 11 J)) fun d0 d1 d2 d3 d4 d6 e7 e8 e9 f0 f1 f2=> ?_
  refine zY [12,13,14,15,16] ?_;refine zO 18 J (aj (us:=[W d0 d1 d2,W d3 d4 d6]) (cs':=[W d0 d1 d2,W d3 d4 d6]) 13 J J J J size121.out J J J) ?_;rintro _ _ rfl;refine bY ?_;refine bu ?_;refine zX [19,20,21] ?_;refine ab ?_;exact ⟨_,_,.inr (⟨y28_1.1.Zh,y28_1.1.Zj,y28_1.2.1,y28_1.2.2,k1,d0,d1,d2,d3,d4,d6,e7,e8,e9,f0,f1,f2,h,J,J⟩),sA,cS [0,1,13,2,3,4,5,6,7,8,10,9] 15⟩
 rintro _ _ (⟨p13,i5,p15,i6,i7,i8,i9,j0,j1,j2,j3,j4,j5,j6,j7,j8,j9,k0,h,rfl,rfl⟩|⟨e3,p21,g1,h7,h8,a6,a7,a8,b0,b5,b6,h9,i0,i1,f6,f9,g0,h,rfl,rfl⟩)
 ·refine sZ ?_;refine gH J h ?_ ?_<;>intro h
  ·exact eY
  exact aJ h
 refine sZ ?_;refine fG J ?_;refine ab ?_;refine am (fun s L=> ∃i2 i3 g7 g8 g9 h0 h1 h2,ia N e3 p21 a0 i2 i3=some r/\s=[(0,pV B1 0),(4,iV 0)]/\L=[iJ a6 a7 a8 e3,iJ b0 b5 b6 p21,bf g7 g8 g9 i2,bf h0 h1 h2 i3,ah B1 124 [W a6 a7 a8,W b0 b5 b6,W g7 g8 g9,W h0 h1 h2,pV B6 0],bB jK qP M7 a0.Zw.at_,ah B6 213 [.map (some M7)]]) ?_ ?_
 ·refine gw ?_ bQ (bv 3 J);refine ab ?_;refine bh O ([iJ a6 a7 a8 e3,iJ b0 b5 b6 p21,ah h8 121 [W a6 a7 a8,W b0 b5 b6],aY h9 i0 i1 g1,bf f6 f9 g0 h7,iJ A2 n2 c2 a0.m_.Zh,iJ A3 n3 c3 a0.m_.Zj,bf A4 n4 c4 a0.Zt,bf A5 n5 c5 a0.Zv,bB jK qP M7 a0.Zw.at_,ah B6 213 [.map (some M7)]]) (cS [0,1,2,3,4,5,6,7,8,10,11] 12) ?_;refine zY [0,1,2,3,4,5] ?_;obtain ⟨h3,h⟩:=ae h;refine II 3 J (l:=0) (h:=(a0.Zt.length:Int).toNat) h3.2.1 h3.2.2 ?_;rintro n9 o0 o1 m4;refine zR 6 J (OG 4 J m4 J t9 size28.out J J (by rw [Xp h3.1];rfl) h3.2.1 h3.2.2) ?_;refine zY [8,9] ?_;obtain ⟨i4,h⟩:=ae h;refine II 4 J (l:=(a0.Zt.length:Int).toNat) (h:=g1.length) i4.2.1 i4.2.2 ?_;rintro l4 l5 l6 m5;refine zR 10 J (Bi 5 J m5 J t9 size28.out J (by rw [Xp i4.1];rfl) i4.2.1) ?_;refine zY [11] ?_;refine oA 7 12 O ?_ ?_
  ·obtain ⟨o2,k,h⟩:=aa h;refine bL J (oR (jT k)) J J J ?_;rintro _ _ ⟨_,⟨k6,k7,k8,rfl,rfl⟩,rfl⟩;refine bY ?_
   refine MN 12 J (wv (cs:=[W l4 l5 l6,W f6 f9 g0]) J (zj _ _ _ _ _ _)) fun p1=> ?_
   obtain ⟨m6,f4,h⟩:=aa h
   refine Dc 13 J (oR (fo f4)) fun h4 h5 h6=> ?_
   refine zY [14,15] ?_;refine zO 16 J (aj (us:=[W a6 a7 a8,W b0 b5 b6]) (cs':=[W a6 a7 a8,W b0 b5 b6,W A4 n4 c4,W A5 n5 c5,pV B6 0]) 14 J J J J size121.out J J J) ?_;rintro _ _ rfl;refine bY ?_;refine bu ?_;refine zY [17,18] ?_;refine zO 19 J (aj (us:=[W k6 k7 k8]) (cs':=[W a6 a7 a8,W b0 b5 b6,W k6 k7 k8,W A5 n5 c5,pV B6 0]) 14 J J J J size22.out J J J) ?_;rintro _ _ rfl;refine bY ?_;refine bu ?_;refine zY [20,21] ?_;refine zO 22 J (aj (us:=[W h4 h5 h6]) (cs':=[W a6 a7 a8,W b0 b5 b6,W k6 k7 k8,W h4 h5 h6,pV B6 0]) 14 J J J J size22.out J J J) ?_;rintro _ _ rfl;refine bY ?_;refine bu ?_;refine bq O ?_;exact jY
  refine bL J (wv (cs:=[W l4 l5 l6,W f6 f9 g0]) J (zj _ _ _ _ _ _)) J J J ?_;rintro _ _ ⟨p2,rfl,rfl⟩;refine bY ?_;obtain ⟨p3,k,h⟩:=aa h
  refine Dc 7 J (oR (jT k)) fun k9 l0 l1=> ?_
  obtain ⟨m6,f4,h⟩:=aa h
  refine Dc 13 J (oR (fo f4)) fun h4 h5 h6=> ?_
  refine zY [14,15] ?_;refine zO 16 J (aj (us:=[W a6 a7 a8,W b0 b5 b6]) (cs':=[W a6 a7 a8,W b0 b5 b6,W A4 n4 c4,W A5 n5 c5,pV B6 0]) 14 J J J J size121.out J J J) ?_;rintro _ _ rfl;refine bY ?_;refine bu ?_;refine zY [17,18] ?_;refine zO 19 J (aj (us:=[W k9 l0 l1]) (cs':=[W a6 a7 a8,W b0 b5 b6,W k9 l0 l1,W A5 n5 c5,pV B6 0]) 14 J J J J size22.out J J J) ?_;rintro _ _ rfl;refine bY ?_;refine bu ?_;refine zY [20,21] ?_;refine zO 22 J (aj (us:=[W h4 h5 h6]) (cs':=[W a6 a7 a8,W b0 b5 b6,W k9 l0 l1,W h4 h5 h6,pV B6 0]) 14 J J J J size22.out J J J) ?_;rintro _ _ rfl;refine bY ?_;refine bu ?_;refine bq O ?_;exact jY
 rintro _ _ ⟨i2,i3,g7,g8,g9,h0,h1,h2,h,rfl,rfl⟩;refine aA ?_;refine bh O ([iJ a6 a7 a8 e3,iJ b0 b5 b6 p21,bf g7 g8 g9 i2,bf h0 h1 h2 i3,ah B1 124 [W a6 a7 a8,W b0 b5 b6,W g7 g8 g9,W h0 h1 h2,pV B6 0]]) (cS [0,1,2,3,4] 7) ?_;refine ab ?_;obtain ⟨p4,l2,h⟩:=aa h;refine kJ (cS [6,5,0,1,2,3,4] 7) (cS [2,3,4,5,6] 7) ?_;refine bu ?_
 refine MN 8 J (E8 2 2 (zu l2) J J J J (t5 (tq (i:=2) J J) (t5 (tq (i:=3) J J) au)) wg) fun p5=> ?_
 exact eY
def dt (a0:WD):Option (Int×WD):=
 (iT N a0).bind fun y9=>some (y9.1,y9.2)
theorem AG {N:Nat}{a0:WD}{r:Int×WD}(h:dt N a0=some r):Okc Xa 38 [pV B1 0] ([ah B1 124 [W A2 n2 c2,W A3 n3 c3,W A4 n4 c4,W A5 n5 c5,pV B6 0],iJ A2 n2 c2 a0.m_.Zh,iJ A3 n3 c3 a0.m_.Zj,bf A4 n4 c4 a0.Zt,bf A5 n5 c5 a0.Zv,ah B6 213 [.map (some M7)],bB jK qP M7 a0.Zw.at_]) (fun u post=> ∃A0 n0 c0 A1 n1 c1 A2 n2 c2 A3 n3 c3 M4,u=iV r.1/\post=[ah B1 124 [W A0 n0 c0,W A1 n1 c1,W A2 n2 c2,W A3 n3 c3,pV B6 0],iJ A0 n0 c0 r.2.m_.Zh,iJ A1 n1 c1 r.2.m_.Zj,bf A2 n2 c2 r.2.Zt,bf A3 n3 c3 r.2.Zv,ah B6 213 [.map (some M4)],bB jK qP M4 r.2.Zw.at_]):=by
 refine ce Tryz.func38 ?_;intro B8;refine ab ?_;refine gE (jd J) ?_;obtain ⟨y9,k,h⟩:=aa h;refine mO (lr 0 J) ?_;refine gD (oC (sm k)) ?_;rintro _ _ ⟨_,⟨a6,a7,a8,b0,b5,b6,b7,b9,c8,c9,d0,d1,d2,rfl,rfl⟩,rfl⟩;exact eY
theorem yg {N:Nat}{a0:WD}{r:Int×WD}(h:dt N a0=some r):Okc Xa 38 [pV B1 0] ([oDHeap B1 a0]) (fun u post=>u=iV r.1/\post=[oDHeap B1 r.2]):=LS 0 rfl (fun _=>AG h)
def tw (a0:WM)(a1:WO)(a2:WS):Option (WO×Bool×WM):=
 (eK N a0).bind fun y9=>aL (in64 (y9 - 1)) ((ji N a0 (y9 - 1)).bind fun a6=>bif decide (a2.Za=0) then ((eu N a0 a6 a2.K a2.D).bind fun a7=>(gC N a1 a2.K a2.D).bind fun a8=>(bif a7.1==a8.2.1 then (some (a7.2.1==a8.2.2)) else (some false)).bind fun d0=>some (a8.1,d0,a7.2.2)) else (bif decide (a2.Za=1) then ((sL N a1 a2.K).bind fun b0=>(qD N a0 a6 a2.K).bind fun b5=>some (b0.1,b5.1==b0.2,b5.2)) else (bif decide (a2.Za=2) then ((lV N a1 a2.N).bind fun b6=>(ig N a0 a6 a2.N).bind fun b7=>some (b6.1,b7.1==b6.2,b7.2)) else (bif decide (a2.Za=3) then ((wl N a1 a2.V).bind fun b9=>(te N a0 a6 a2.V).bind fun c8=>some (b9.1,c8.1==b9.2,c8.2)) else (bif decide (a2.Za=4) then ((qj N a0 a6).bind fun d1=>some ((⟨false,a1.Zs,a1.Zk,a1.Zm⟩:WO),true,d1)) else ((lS N a0).bind fun d2=>(dt N a0.Zo).bind fun c9=>some (a1,decide (c9.1=0),(⟨a0.ZB,a0.Zu,(),c9.2,a0.Zp,a0.Zy,a0.ZE,a0.ZF,a0.ZG,a0.Zz,a0.ZA⟩:WM))))))))
theorem Dh {N:Nat}{a0:WM}{a1:WO}{a2:WS}{r:WO×Bool×WM}(h:tw N a0 a1 a2=some r){B1 B2 B3:Nat}:Okc Xa 12 [pV B1 0,.agg #[.bool a1.Ext,.bool a1.Zs,W A4 n4 c4,W A5 n5 c5],(Uw a2)] ([aY A4 n4 c4 a1.Zk,sU A5 n5 c5 a1.Zm,rE,oDWorld B1 B2 B3 a0]) (fun u post=> ∃A0 n0 c0 A1 n1 c1,u=.tuple #[.agg #[.bool r.1.Ext,.bool r.1.Zs,W A0 n0 c0,W A1 n1 c1],.bool r.2.1]/\post=[aY A0 n0 c0 r.1.Zk,sU A1 n1 c1 r.1.Zm,oDWorld B1 B2 B3 r.2.2]):=by
 refine ce Tryz.func12 ?_;intro B6
 refine cl fun B7=> ?_
 intro B8;refine ab ?_;obtain ⟨y9,k,h⟩:=aa h;refine gV (oR (qO k)) ?_;obtain ⟨f1,h⟩:=ae h;refine ab ?_;obtain ⟨a6,k,h⟩:=aa h;refine F6 (oR (sy k)) ?_;intro e6;refine sY ?_;refine gH J h ?_ ?_<;>intro h
 ·refine ab ?_;obtain ⟨f2,k,h⟩:=aa h;refine F6 (oC (sr k)) ?_;obtain ⟨f3,k,h⟩:=aa h
  refine Su (oC (Gg k)) fun f4 f6 f9 g0 g1 g2=> ?_
  intro g3;refine ab ?_;refine fY (C4 J J Wu) ?_
  refine JA 4 58 54 h (fun _ e7 h=> ?_) (fun _ e7 h=> ?_) fun g4 h=> ?_
  ·refine ab ?_;refine eW (C4 J J Wu) J (ca e7 J) J ?_;exact gY
  ·exact gY
  exact eY
 refine dv h ?_ ?_<;>intro h
 ·refine ab ?_;obtain ⟨a7,k,h⟩:=aa h
  refine Su (oC (Gf k)) fun b5 b6 b7 b9 c8 c9=> ?_
  intro e8;refine ab ?_;refine aA ?_;refine bh O ([ah e8 35 (kY a7.1 b5 b6 b7 b9 c8 c9),aY b5 b6 b7 a7.1.Zk,sU b9 c8 c9 a7.1.Zm,ah e6 28 [iV a6.Za,iV a6.N,.string a6.S],ah B7 43 (Ma a2),ah B6 35 (kY a1 A4 n4 c4 A5 n5 c5),aY A4 n4 c4 a1.Zk,sU A5 n5 c5 a1.Zm,rE]) (cS [0,1,2,3,5,6,7,8,9] 11) ?_;refine zY [0,1,2,3,4,6] ?_;obtain ⟨g5,k,h⟩:=aa h;refine zD 5 J (oC (DW k)) ?_;rintro _ _ ⟨_,⟨rfl,rfl⟩,rfl⟩;refine bY ?_;refine zE 7 J (C4 J J Wu) ?_;refine zO 8 J (aj (us:=(kY a7.1 b5 b6 b7 b9 c8 c9)) (cs':=(kY a7.1 b5 b6 b7 b9 c8 c9)) 5 J J J J size35.out J J J) ?_;rintro _ _ rfl;refine bY ?_;refine zX [9] ?_;exact eY
 refine dv h ?_ ?_<;>intro h
 ·refine ab ?_;obtain ⟨a8,k,h⟩:=aa h
  refine Su (oC (zM k)) fun d0 d1 d2 d3 d4 d6=> ?_
  intro e9;refine ab ?_;refine aA ?_;refine bh O ([ah e9 35 (kY a8.1 d0 d1 d2 d3 d4 d6),aY d0 d1 d2 a8.1.Zk,sU d3 d4 d6 a8.1.Zm,ah e6 28 [iV a6.Za,iV a6.N,.string a6.S],ah B7 43 (Ma a2),ah B6 35 (kY a1 A4 n4 c4 A5 n5 c5),aY A4 n4 c4 a1.Zk,sU A5 n5 c5 a1.Zm,rE]) (cS [0,1,2,3,5,6,7,8,9] 11) ?_;refine zY [0,1,2,3,4,6] ?_;obtain ⟨g6,k,h⟩:=aa h;refine zD 5 J (oC (my k)) ?_;rintro _ _ ⟨_,⟨rfl,rfl⟩,rfl⟩;refine bY ?_;refine zE 7 J (C4 J J Wu) ?_;refine zO 8 J (aj (us:=(kY a8.1 d0 d1 d2 d3 d4 d6)) (cs':=(kY a8.1 d0 d1 d2 d3 d4 d6)) 5 J J J J size35.out J J J) ?_;rintro _ _ rfl;refine bY ?_;refine zX [9] ?_;exact eY
 refine dv h ?_ ?_<;>intro h
 ·refine ab ?_;obtain ⟨b0,k,h⟩:=aa h
  refine Su (oC (I8 k)) fun e0 e1 e2 e3 e4 e5=> ?_
  intro f0;refine ab ?_;refine aA ?_;refine bh O ([ah f0 35 (kY b0.1 e0 e1 e2 e3 e4 e5),aY e0 e1 e2 b0.1.Zk,sU e3 e4 e5 b0.1.Zm,ah e6 28 [iV a6.Za,iV a6.N,.string a6.S],ah B7 43 (Ma a2),ah B6 35 (kY a1 A4 n4 c4 A5 n5 c5),aY A4 n4 c4 a1.Zk,sU A5 n5 c5 a1.Zm,rE]) (cS [0,1,2,3,5,6,7,8,9] 11) ?_;refine zY [0,1,2,3,4,6] ?_;obtain ⟨g7,k,h⟩:=aa h;refine zD 5 J (oC (Gw k)) ?_;rintro _ _ ⟨_,⟨rfl,rfl⟩,rfl⟩;refine bY ?_;refine zE 7 J (C4 J J Wu) ?_;refine zO 8 J (aj (us:=(kY b0.1 e0 e1 e2 e3 e4 e5)) (cs':=(kY b0.1 e0 e1 e2 e3 e4 e5)) 5 J J J J size35.out J J J) ?_;rintro _ _ rfl;refine bY ?_;refine zX [9] ?_;exact eY
 refine dv h ?_ ?_<;>intro h
 ·refine ab ?_;obtain ⟨g8,k,h⟩:=aa h;refine F6 (oC (DP k)) ?_;exact eN
 refine ab ?_;obtain ⟨g9,k,h⟩:=aa h;refine gV (oR (xj k)) ?_;refine mO ((cS [7,0,1,2,3,4,5,6] 8).trans KB) ?_;refine ab ?_;obtain ⟨h0,k,h⟩:=aa h;refine gV (oC (yg k)) ?_;refine mO (Lj) ?_;exact eY
end
section
variable {A1 A2:Option Addr}{c1 c2 n1 n2:Nat}
open Go.RowKit Asn
set_option maxRecDepth 20000
def og:Option Bool:=
 (qV N).bind fun a6=>some a6
def kL (a7:Int)(a8:(List (WL×WU))):Nat->(List (WL×WU))->Option Bool:=TQ (fun a6=>bif !decide (a6.1.Za=0) then (some true) else (some (decide (a6.1.N<a7)))) (some false) (og N)
def kN (a7:Int)(a6:(List (WL×WU))):Option Bool:=
 kL N a7 a6 N a6
def iA (N:Nat)(a8:Int)(b0:WX)(b6:Bool×WM)(b7:WV):Nat->(List (WL×WU))->Int->Option Bool
 |0,_,_=>none
 |c8+1,b5,a7=>bif decide (a7<(b0.length:Int)) then ((aq b0 a7).bind fun a6=>(jh N b6.2 b7 a6).bind fun b9=>(bif !b9.2 then (some true) else ((bif decide (a6.Za=0) then (some (decide (a8<=a6.N))) else (some false)).bind fun c9=>some c9)).bind fun d0=>(bif d0 then (some true) else ((dp N).bind fun d1=>(bif !decide (a6=d1) then (some (!decide (b9.1=((lk b5 a6).getD (⟨(⟨0,0,⟨#[]⟩⟩:WL),0,(⟨0,0,⟨#[]⟩⟩:WV),(⟨0,0,⟨#[]⟩⟩:WV),(⟨0,0,⟨#[]⟩⟩:WV)⟩:WU))))) else (some false)).bind fun d2=>some d2)).bind fun d3=>bif d3 then (some false) else (aL (in64 (a7+1)) ((iA N a8 b0 b6 b7 c8) (yp b5 a6) (a7+1)))) else (kN N a8 b5)
def kO (a2:Int)(b0:WM)(a6:WV)(b5:(List (WL×WU))):Option Bool:=
 (ig N b0 a6 a2).bind fun a7=>(pN N a7.2 a6).bind fun a8=>(bif !(a7.1==(decide (a8=a2))) then (some (decide (0<=a2))) else (some false)).bind fun b6=>(bif b6 then (some (decide (a2<=4096))) else (some false)).bind fun b7=>bif b7 then (some false) else ((kA N a7.2 a6).bind fun b9=>iA N a8 b9 a7 a6 N b5 0)
def fI (N:Nat)(a2:Int)(a7:WX)(a8:WM)(b0:WV):Nat->(List (WL×WU))->Int->Option Bool
 |0,_,_=>none
 |b7+1,b5,a6=>bif decide (a6<(a7.length:Int)) then ((aq a7 a6).bind fun b6=>(jh N a8 b0 b6).bind fun b9=>aL (in64 (a6+1)) ((fI N a2 a7 a8 b0 b7) (yI b5 b6 b9.1) (a6+1))) else (kO N a2 a8 b0 b5)
def iC (a2:Int)(y18_1:WM×WV×Bool)(a6:WM):Option Bool:=
 (eK N a6).bind fun a7=>aL (in64 (a7 - 1)) ((ji N a6 (a7 - 1)).bind fun a8=>(kA N a6 a8).bind fun b0=>fI N a2 b0 a6 a8 N ([]:(List (WL×WU))) 0)
def ss (N:Nat)(a6:Int->WM->Bool->Bool->WW->W7->Option Bool)(a2 a7:Int)(a1:List WS)(y18_1:WM×WV×Bool)(b9:WW)(c8:W7)(c9 d0 a8 b0:Bool)(b5:WW)(b6:W7)(b7:WM):Option Bool:=
 aL (in64 (a7+1)) (a6 (a7+1) b7 a8 b0 b5 b6)
def iB (N:Nat)(a2:Int)(a1:List WS)(y18_1:WM×WV×Bool):Nat->Int->WM->Bool->Bool->WW->W7->Option Bool
 |0,_,_,_,_,_,_=>none
 |b9+1,a7,a8,b0,b5,b6,b7=>(bif decide (a7<(a1.length:Int)) then (some (decide (a7<40))) else (some false)).bind fun c8=>bif c8 then ((aq a1 a7).bind fun c9=>(tw N a8 (⟨b0,b5,b6,b7⟩:WO) c9).bind fun a6=>ss N (iB N a2 a1 y18_1 b9) a2 a7 a1 y18_1 b6 b7 b0 b5 a6.1.Ext a6.1.Zs a6.1.Zk a6.1.Zm a6.2.2) else (iC N a2 y18_1 a8)
def pi (a2:Int)(a0:WW)(a1:List WS):Option Bool:=
 (tv N a0).bind fun a7=>DY a7 (fun y18_0=>some false) (fun y18_1=>bif !y18_1.2.2 then (some false) else ((gm N y18_1.1 y18_1.2.1).bind fun a8=>(yV N a0).bind fun a6=>iB N a2 a1 y18_1 N 0 a8.2 a6.Ext a6.Zs a6.Zk a6.Zm))
def kM (N:Nat)(a2:Int)(a0:WW)(a1:List WS):Nat->Int->Option Bool
 |0,_=>none
 |a7+1,a6=>bif decide (a6<(a0.length:Int)) then ((aq a0 a6).bind fun a8=>(ng N a8).bind fun b0=>bif !b0 then ((qV N).bind fun b5=>some b5) else (aL (in64 (a6+1)) ((kM N a2 a0 a1 a7) (a6+1)))) else (pi N a2 a0 a1)
def mP (a0:WW)(a1:List WS)(a2:Int):Option Bool:=
 (bif decide (200<(a0.length:Int)) then (some true) else ((Ac N a1).bind fun y4=>some (!y4))).bind fun b3=>(bif b3 then (some true) else ((bif decide (2000<a2) then (some (decide (a2<=4096))) else (some false)).bind fun b6=>some b6)).bind fun b5=>bif b5 then ((qV N).bind fun y8=>some y8) else (kM N a2 a0 a1 N 0)
theorem Ae {N:Nat}{a0:WW}{a1:List WS}{a2:Int}{r:Bool}(h:mP N a0 a1 a2=some r):Okc Xa 3 [W A1 n1 c1,W A2 n2 c2,iV a2] ([aY A1 n1 c1 a0,gK vv (W A2 n2 c2) a1,rE]) (fun u post=>u=.bool r/\post=[]):=by
 refine CJ Wy J J ?_;simp only [qQ];refine Y ?_;refine aA ?_;refine Y ?_;refine gR (lj 0 J bj J t9) ?_;refine Y ?_;obtain ⟨b3,n8,h⟩:=aa h;refine fd 4 32 b3 ?_ ?_
 ·clear h;refine eC 28 J (fun g3=> ?_) (fun g3=> ?_)
  ·have h:=cG g3 n8;refine Y ?_;obtain rfl:=bD h;exact aU sA (cS [0,1,2] 3)
  have h:=cH g3 n8;refine Y ?_;obtain ⟨y4,k,h⟩:=aa h;refine gU (aH (IR k) J (t5 (dc (i:=1) J J) au) Gb) (dw g3 J) ?_;refine Y ?_;obtain rfl:=bD h;exact aU sA (cS [0,1,2] 3)
 refine Y ?_;obtain ⟨b5,n9,h⟩:=aa h;refine fd 7 40 b5 ?_ ?_
 ·clear h;refine eC 33 J (fun g5=> ?_) (fun g5=> ?_)
  ·have h:=cG g5 n9;refine Y ?_;obtain rfl:=bD h;exact aU sA (cS [0,1,2] 3)
  have h:=cH g5 n9;refine Y ?_;obtain ⟨b6,o0,h⟩:=aa h;refine fd 3 39 b6 ?_ ?_
  ·clear h;refine eC 36 J (fun g6=> ?_) (fun g6=> ?_)
   ·have h:=cG g6 o0;refine Y ?_;obtain rfl:=bD h;exact aU sA (cS [0,1,2] 3)
   have h:=cH g6 o0;refine Y ?_;obtain rfl:=bD h;exact aU sA (cS [0,1,2] 3)
  refine Y ?_;obtain rfl:=bD h;exact aU sA (cS [0,1,2] 3)
 refine Y ?_;refine gH J h ?_ ?_<;>intro h
 ·refine Y ?_;obtain ⟨y8,k,h⟩:=aa h;refine gV (aH (xt k) J (t5 (dc (i:=2) J J) au) uV) ?_;refine Y ?_;obtain rfl:=bD h;exact od J J (cS [] 3) ⟨J,J⟩
 refine Y ?_;refine am (fun s L=>pi N a2 a0 a1=some r/\s=[(0,W A1 n1 c1),(1,W A2 n2 c2),(2,iV a2),(6,.bool false)]/\L=[aY A1 n1 c1 a0,gK vv (W A2 n2 c2) a1,rE]) ?_ ?_
 ·refine Y ?_;refine gR (lj 0 J bj J t9) ?_;refine Y ?_;refine iX (fun m s L=> ∃j1,kM N a2 a0 a1 m j1=some r/\s=[(0,W A1 n1 c1),(1,W A2 n2 c2),(2,iV a2),(6,.bool false),(43,iV (a0.length:Int)),(44,iV j1)]/\L=[aY A1 n1 c1 a0,gK vv (W A2 n2 c2) a1,rE]) N _ _ ⟨0,h,J,J⟩ sA (cS [0,1,2] 3) ?_;rintro (_|q5) _ _ ⟨j1,h,rfl,rfl⟩
  ·exact aJ h
  rw [kM.eq_2] at h;refine Y ?_;refine aA ?_;refine gH J h ?_ ?_<;>intro h
  ·refine Y ?_;refine aA ?_;refine Y ?_;obtain ⟨k7,f3,h⟩:=aa h;obtain ⟨k8,k9,f3⟩:=jZ f3;refine gR (cM 0 J bj J J t9 size28.out k8 k9) ?_;refine gR (ee (us:=[iV k7.Za,iV k7.N,.string k7.S]) 0 J bj J f3 agg28.out (fun _ _ _ h=>by rw [show _=_ from h];rfl)) ?_;obtain ⟨s6,k,h⟩:=aa h;refine gV (aH (rN k) J (au) Ga) ?_;refine Y ?_;refine gH J h ?_ ?_<;>intro h
   ·refine Y ?_;obtain ⟨s7,k,h⟩:=aa h;refine gV (aH (xt k) J (t5 (dc (i:=2) J J) au) uV) ?_;refine Y ?_;obtain rfl:=bD h;exact od J J (cS [] 3) ⟨J,J⟩
   refine Y ?_;obtain ⟨o1,h⟩:=ae h;refine gE (iz J J o1.1 o1.2) ?_;refine Y ?_;exact ⟨q5,_,_,W0 _,⟨j1+1,h,J,J⟩,sA,cS [0,1,2] 3⟩
  refine Y ?_;exact ⟨_,_,⟨h,J,J⟩,sA,cS [0,1,2] 3⟩
 rintro _ _ ⟨h,rfl,rfl⟩;refine Y ?_;obtain ⟨q6,i0,h⟩:=aa h;rcases q6 with y18_0|y18_1
 ·replace h:=GD h;refine gV (dq (iY i0) J (bH [0] [] [0,1,2] 3 J)) ?_;refine im ?_;refine Y ?_
  refine gB (bw zero28.out J) fun s8=> ?_
  refine Y ?_;refine gW (aj (us:=[iV y18_0.Za,iV y18_0.N,.string y18_0.S]) (cs':=[iV y18_0.Za,iV y18_0.N,.string y18_0.S]) 0 J J J J size28.out J J J) ?_;refine im ?_;refine Y ?_;refine aA ?_;refine Y ?_;refine iN J ?_;refine Y ?_;obtain rfl:=bD h;exact od J J (cS [] 4) ⟨J,J⟩
 replace h:=GC h;refine gD (dq (iY i0) J (bH [0] [] [0,1,2] 3 J)) ?_;rintro _ _ ⟨_,⟨c9,f4,f6,rfl,rfl⟩,rfl⟩;refine im ?_;refine Y ?_
 refine gB (bw zero28.out J) fun b0=> ?_
 refine Y ?_;refine gW (aj (us:=[iV y18_1.2.1.Za,iV y18_1.2.1.N,.string y18_1.2.1.S]) (cs':=[iV y18_1.2.1.Za,iV y18_1.2.1.N,.string y18_1.2.1.S]) 0 J J J J size28.out J J J) ?_;refine im ?_;refine Y ?_;refine aA ?_;refine Y ?_;refine gH J h ?_ ?_<;>intro h
 ·refine Y ?_;obtain rfl:=bD h;exact od J J (cS [] 5) ⟨J,J⟩
 refine Y ?_;refine gR (ax (us:=[iV y18_1.2.1.Za,iV y18_1.2.1.N,.string y18_1.2.1.S]) 0 J J agg28.out J) ?_;obtain ⟨q7,k,h⟩:=aa h;refine gV (dq (xf k) J (bH [] [1] [0,2,3,4] 5 J)) ?_;refine im ?_;refine Y ?_;obtain ⟨h7,k,h⟩:=aa h;refine gD (aH (Kt k) J (t5 (dc (i:=2) J J) au) HX) ?_;rintro _ _ ⟨_,⟨l0,l1,l2,l3,l4,l5,rfl,rfl⟩,rfl⟩
 refine gB (bw zero35.out J) fun f9=> ?_
 refine gW (aj (us:=(kY h7 l0 l1 l2 l3 l4 l5)) (cs':=(kY h7 l0 l1 l2 l3 l4 l5)) 0 J J J J size35.out J J J) ?_;refine im ?_;refine Y ?_;refine am (fun s L=> ∃e9,iC N a2 y18_1 e9=some r/\s=[(2,iV a2),(6,.bool false),(8,pV c9 0),(9,pV b0 0)]/\L=[oDWorld c9 f4 f6 e9,ah b0 28 [iV y18_1.2.1.Za,iV y18_1.2.1.N,.string y18_1.2.1.S],rE]) ?_ ?_
 ·refine Y ?_;refine iX (fun m s L=> ∃h8 j2 d1 d2 i1 i2 d3 d4 d6 e0 e1 e2,iB N a2 a1 y18_1 m h8 j2 d1 d2 i1 i2=some r/\s=[(1,W A2 n2 c2),(2,iV a2),(6,.bool false),(8,pV c9 0),(9,pV b0 0),(11,pV f9 0),(12,iV h8)]/\L=[gK vv (W A2 n2 c2) a1,oDWorld c9 f4 f6 j2,ah b0 28 [iV y18_1.2.1.Za,iV y18_1.2.1.N,.string y18_1.2.1.S],aY d3 d4 d6 i1,sU e0 e1 e2 i2,ah f9 35 [.bool d1,.bool d2,W d3 d4 d6,W e0 e1 e2],rE]) N _ _ ⟨0,q7.2,h7.Ext,h7.Zs,h7.Zk,h7.Zm,l0,l1,l2,l3,l4,l5,h,J,J⟩ sA ((bv 1 J).trans ((bv 2 J).trans (cS [6,3,4,1,2,0,7] 8))) ?_;rintro (_|o2) _ _ ⟨h8,j2,d1,d2,i1,i2,d3,d4,d6,e0,e1,e2,h,rfl,rfl⟩
  ·exact aJ h
  rw [iB.eq_2] at h;refine aA ?_;refine Y ?_;refine gR (lj 0 J bj J Ex) ?_;refine Y ?_;obtain ⟨q8,i3,h⟩:=aa h;refine fd 3 75 q8 ?_ ?_
  ·clear h;refine eC 72 J (fun l6=> ?_) (fun l6=> ?_)
   ·have h:=cG l6 i3;refine Y ?_;obtain rfl:=bD h;exact aU sA (cS [0,1,2,3,4,5,6] 7)
   have h:=cH l6 i3;refine Y ?_;obtain rfl:=bD h;exact aU sA (cS [0,1,2,3,4,5,6] 7)
  refine Y ?_;refine gH J h ?_ ?_<;>intro h
  ·refine Y ?_;refine aA ?_;refine wM ?_;refine am (fun s L=> ∃g0 g1 j3 j4 j5 l7 g2 g4 g7 g8 g9 h0,ss N (iB N a2 a1 y18_1 o2) a2 h8 a1 y18_1 i1 i2 d1 d2 g0 g1 j3 j4 j5=some r/\s=[(1,W A2 n2 c2),(2,iV a2),(6,.bool false),(8,pV c9 0),(9,pV b0 0),(11,pV f9 0),(12,iV h8),(13,pV l7 0)]/\L=[gK vv (W A2 n2 c2) a1,aY g2 g4 g7 j3,sU g8 g9 h0 j4,ah l7 35 [.bool g0,.bool g1,W g2 g4 g7,W g8 g9 h0],oDWorld c9 f4 f6 j5,ah b0 28 [iV y18_1.2.1.Za,iV y18_1.2.1.N,.string y18_1.2.1.S],aY d3 d4 d6 i1,sU e0 e1 e2 i2,ah f9 35 [.bool d1,.bool d2,W d3 d4 d6,W e0 e1 e2],rE]) ?_ ?_
   ·refine bh O ([gK vv (W A2 n2 c2) a1,ah b0 28 [iV y18_1.2.1.Za,iV y18_1.2.1.N,.string y18_1.2.1.S],ah f9 35 [.bool d1,.bool d2,W d3 d4 d6,W e0 e1 e2],rE]) (cS [0,2,5,6] 7) ?_;refine zE 0 J (ap J) ?_;refine zR 1 J (ax (us:=[.bool d1,.bool d2,W d3 d4 d6,W e0 e1 e2]) 2 J J agg35.out J) ?_;refine zE 2 J (ap J) ?_;refine zE 3 J (ap J) ?_;obtain ⟨q9,h1,h⟩:=aa h;obtain ⟨l8,l9,h1⟩:=jZ h1;refine zR 4 J (cM 0 J bj J J Ex size43.out l8 l9) ?_;refine zR 5 J (ee (us:=Ma q9) 0 J bj J h1 agg43.out (fun _ _ _ h=>by rw [show _=_ from h];rfl)) ?_;refine oA 6 10 O ?_ ?_
    ·obtain ⟨e3,k,h⟩:=aa h;refine bL J (dq (Dh k) J (bH [3,4,6] [1] [0,2,3,4,5,6] 7 J)) J J J ?_;rintro _ _ ⟨_,⟨j6,j7,j8,e4,e5,e6,rfl,rfl⟩,rfl⟩;refine ⟨[aY j6 j7 j8 e3.1.Zk,sU e4 e5 e6 e3.1.Zm,gK vv (W A2 n2 c2) a1,ah b0 28 [iV y18_1.2.1.Za,iV y18_1.2.1.N,.string y18_1.2.1.S],ah f9 35 [.bool d1,.bool d2,W d3 d4 d6,W e0 e1 e2],rE],cS [0,1,3,4,7,8] 9,(cv_tl).trans (cv_tl),?_⟩;refine bu ?_;refine zE 7 J (ap J) ?_;refine zE 8 J (cO J J) ?_;refine zE 9 J (cO J J) ?_;refine zD 10 J (bw zero35.out J) ?_;rintro _ _ ⟨r0,rfl,rfl⟩;refine mj (cS [1,2,4,5,8,9] 10) ?_;refine zO 11 J (aj (us:=(kY e3.1 j6 j7 j8 e4 e5 e6)) (cs':=(kY e3.1 j6 j7 j8 e4 e5 e6)) 0 J J J J size35.out J J J) ?_;rintro _ _ rfl;refine mj (cS [1,2,4,5,8,9] 10) ?_;refine bu ?_;refine zE 12 J (cm J) ?_;refine bq O ?_;refine qk ?_;exact ⟨_,_,⟨e3.1.Ext,e3.1.Zs,e3.1.Zk,e3.1.Zm,e3.2.2,r0,j6,j7,j8,e4,e5,e6,h,J,J⟩,sA,cS [4,1,2,0,3,5,6,7,8,9] 10⟩
    refine bL J (bw zero35.out J) J J J ?_;rintro _ _ ⟨r1,rfl,rfl⟩;refine mj (cS [1,3,6,7] 8) ?_;obtain ⟨e7,k,h⟩:=aa h;refine zD 6 J (dq (Dh k) J (bH [4,5,7] [2] [0,1,3,4,5,6,7] 8 J)) ?_;rintro _ _ ⟨_,⟨e4,e5,e6,j9,k0,k1,rfl,rfl⟩,rfl⟩;refine ⟨[aY e4 e5 e6 e7.1.Zk,sU j9 k0 k1 e7.1.Zm,gK vv (W A2 n2 c2) a1,ah b0 28 [iV y18_1.2.1.Za,iV y18_1.2.1.N,.string y18_1.2.1.S],ah f9 35 [.bool d1,.bool d2,W d3 d4 d6,W e0 e1 e2],rE],cS [0,1,4,5,8,9] 10,(cv_tl).trans (cv_tl),?_⟩;refine bu ?_;refine zE 7 J (ap J) ?_;refine zE 8 J (cO J J) ?_;refine zE 9 J (cO J J) ?_;refine zO 11 J (aj (us:=(kY e7.1 e4 e5 e6 j9 k0 k1)) (cs':=(kY e7.1 e4 e5 e6 j9 k0 k1)) 3 J J J J size35.out J J J) ?_;rintro _ _ rfl;refine mj (cS [0,1,4,5,8,9] 10) ?_;refine bu ?_;refine zE 12 J (cm J) ?_;refine bq O ?_;refine qk ?_;exact ⟨_,_,⟨e7.1.Ext,e7.1.Zs,e7.1.Zk,e7.1.Zm,e7.2.2,r1,e4,e5,e6,j9,k0,k1,h,J,J⟩,sA,cS [4,0,1,3,2,5,6,7,8,9] 10⟩
   rintro _ _ ⟨g0,g1,j3,j4,j5,l7,g2,g4,g7,g8,g9,h0,h,rfl,rfl⟩;refine jF ?_;refine gR (ax (us:=[.bool g0,.bool g1,W g2 g4 g7,W g8 g9 h0]) 3 J J agg35.out J) ?_;refine gW (aj (us:=[.bool g0,.bool g1,W g2 g4 g7,W g8 g9 h0]) (cs':=[.bool g0,.bool g1,W g2 g4 g7,W g8 g9 h0]) 8 J J J J size35.out J J J) ?_;refine im ?_;refine Y ?_;obtain ⟨p1,h⟩:=ae h;refine gE (iz J J p1.1 p1.2) ?_;refine Y ?_;exact ⟨o2,_,_,W0 _,⟨h8+1,j5,g0,g1,j3,j4,g2,g4,g7,g8,g9,h0,h,J,J⟩,sA,cS [0,4,5,1,2,8,9] 10⟩
  refine Y ?_;exact ⟨_,_,⟨j2,h,J,J⟩,sA,cS [1,2,6] 7⟩
 rintro _ _ ⟨e9,h,rfl,rfl⟩;refine Y ?_;obtain ⟨s9,k,h⟩:=aa h;refine gV (aH (qO k) J (t5 (qq (i:=0) J) au) vq) ?_;obtain ⟨p2,h⟩:=ae h;refine gE (wD J J p2.1 p2.2) ?_;obtain ⟨a6,k,h⟩:=aa h;refine gV (aH (sy k) J (t5 (qq (i:=0) J) au) xm) ?_;refine gW (aj (us:=[iV a6.Za,iV a6.N,.string a6.S]) (cs':=[iV a6.Za,iV a6.N,.string a6.S]) 1 J J J J size28.out J J J) ?_;refine im ?_;refine Y ?_;refine gD (tY (ek:=Dz) (ev:=Hk)) ?_;rintro _ _ ⟨e8,rfl,rfl⟩;refine Y ?_;refine am (fun s L=> ∃k2,kO N a2 e9 a6 k2=some r/\s=[(2,iV a2),(6,.bool false),(8,pV c9 0),(9,pV b0 0),(15,.map (some e8))]/\L=[bB Dz Hk e8 k2,oDWorld c9 f4 f6 e9,ah b0 28 [iV a6.Za,iV a6.N,.string a6.S],rE]) ?_ ?_
 ·refine Y ?_;refine gR (ax (us:=[iV a6.Za,iV a6.N,.string a6.S]) 2 J J agg28.out J) ?_;obtain ⟨k3,k,h⟩:=aa h;refine gD (aH (rL k) J (t5 (qq (i:=1) J) (t5 (dc (i:=3) J J) au)) ph) ?_;rintro _ _ ⟨_,⟨m0,m1,m2,rfl,rfl⟩,rfl⟩;refine gR (lj 0 J ao J Wj) ?_;refine Y ?_;refine iX (fun m s L=> ∃i4 k4,fI N a2 k3 e9 a6 m i4 k4=some r/\s=[(2,iV a2),(6,.bool false),(8,pV c9 0),(9,pV b0 0),(15,.map (some e8)),(97,W m0 m1 m2),(98,iV (k3.length:Int)),(99,iV k4)]/\L=[bB Dz Hk e8 i4,nE m0 m1 m2 k3,oDWorld c9 f4 f6 e9,ah b0 28 [iV a6.Za,iV a6.N,.string a6.S],rE]) N _ _ ⟨([]:(List (WL×WU))),0,h,J,J⟩ sA (cS [1,0,2,3,4] 5) ?_;rintro (_|r2) _ _ ⟨i4,k4,h,rfl,rfl⟩
  ·exact aJ h
  rw [fI.eq_2] at h;refine Y ?_;refine aA ?_;refine gH J h ?_ ?_<;>intro h
  ·refine Y ?_;refine aA ?_;refine Y ?_;obtain ⟨a8,h2,h⟩:=aa h;obtain ⟨m3,m4,h2⟩:=jZ h2;refine gR (cM 1 J ao J J Wj size39.out m3 m4) ?_;refine gR (ee (us:=[iV a8.Za,iV a8.N,.string a8.S]) 1 J ao J h2 agg39.out (fun _ _ _ h=>by rw [show _=_ from h];rfl)) ?_
   refine gB (bw zero39.out J) fun r3=> ?_
   refine gW (aj (us:=[iV a8.Za,iV a8.N,.string a8.S]) (cs':=[iV a8.Za,iV a8.N,.string a8.S]) 0 J J J J size39.out J J J) ?_;refine im ?_;refine Y ?_;refine bh O ([ah r3 39 [iV a8.Za,iV a8.N,.string a8.S],nE m0 m1 m2 k3,oDWorld c9 f4 f6 e9,ah b0 28 [iV a6.Za,iV a6.N,.string a6.S],rE]) (cS [0,2,3,4,5] 6) ?_;refine zE 0 J (ap J) ?_;refine zR 1 J (ax (us:=[iV a8.Za,iV a8.N,.string a8.S]) 0 J J agg39.out J) ?_;refine zE 2 J (ap J) ?_;refine zR 3 J (ax (us:=[iV a6.Za,iV a6.N,.string a6.S]) 3 J J agg28.out J) ?_;refine zR 4 J (ax (us:=[iV a8.Za,iV a8.N,.string a8.S]) 0 J J agg39.out J) ?_;obtain ⟨p3,k,h⟩:=aa h;refine zD 5 J (aH (tf k) J (t5 (qq (i:=3) J) (t5 (dc (i:=5) J J) au)) yC) ?_;rintro _ _ ⟨_,⟨rfl,rfl⟩,rfl⟩;refine mj (cS [0,2,3,4,5] 6) ?_;refine zE 6 J (ap J) ?_;refine zE 7 J (cO J J) ?_;refine zE 8 J (cO J J) ?_;refine zO 9 J (md (a:=a8) (b:=p3.1) 1 J J J J Wz CT) ?_;rintro _ _ rfl;refine mj (cS [0,2,3,4,5] 6) ?_;refine bu ?_;refine bq O ?_;refine Y ?_;obtain ⟨p4,h⟩:=ae h;refine gE (iz J J p4.1 p4.2) ?_;refine Y ?_;exact ⟨r2,_,_,W0 _,⟨yI i4 a8 p3.1,k4+1,h,J,J⟩,sA,cS [1,2,3,4,5] 6⟩
  refine Y ?_;exact ⟨_,_,⟨i4,h,J,J⟩,sA,cS [0,2,3,4] 5⟩
 rintro _ _ ⟨k2,h,rfl,rfl⟩;refine Y ?_;refine gR (ax (us:=[iV a6.Za,iV a6.N,.string a6.S]) 2 J J agg28.out J) ?_;refine Y ?_;obtain ⟨p5,k,h⟩:=aa h;refine gV (dq (my k) J (bH [3] [1] [0,2,3] 4 J)) ?_;refine im ?_;refine Y ?_;refine gR (ax (us:=[iV a6.Za,iV a6.N,.string a6.S]) 2 J J agg28.out J) ?_;obtain ⟨f0,k,h⟩:=aa h;refine gV (aH (wK k) J (t5 (qq (i:=0) J) au) ui) ?_;refine Y ?_;refine aA ?_;refine Y ?_;refine gE (PA J J Wu) ?_;refine Y ?_;obtain ⟨r4,i5,h⟩:=aa h;refine fd 3 128 r4 ?_ ?_
 ·clear h;refine eC 125 J (fun m5=> ?_) (fun m5=> ?_)
  ·have h:=cG m5 i5;refine Y ?_;obtain rfl:=bD h;exact aU sA (cS [0,1,2,3] 4)
  have h:=cH m5 i5;refine Y ?_;obtain rfl:=bD h;exact aU sA (cS [0,1,2,3] 4)
 refine Y ?_;obtain ⟨r5,i6,h⟩:=aa h;refine fd 3 132 r5 ?_ ?_
 ·clear h;refine eC 129 J (fun m6=> ?_) (fun m6=> ?_)
  ·have h:=cG m6 i6;refine Y ?_;obtain rfl:=bD h;exact aU sA (cS [0,1,2,3] 4)
  have h:=cH m6 i6;refine Y ?_;obtain rfl:=bD h;exact aU sA (cS [0,1,2,3] 4)
 refine Y ?_;refine gH J h ?_ ?_<;>intro h
 ·refine Y ?_;obtain rfl:=bD h;exact od J J (cS [] 4) ⟨J,J⟩
 refine Y ?_;refine am (fun s L=> ∃h3,kN N f0 h3=some r/\s=[(6,.bool false),(15,.map (some e8)),(19,iV f0)]/\L=[bB Dz Hk e8 h3,rE]) ?_ ?_
 ·refine Y ?_;refine gR (ax (us:=[iV a6.Za,iV a6.N,.string a6.S]) 2 J J agg28.out J) ?_;obtain ⟨m7,k,h⟩:=aa h;refine gD (aH (rL k) J (t5 (qq (i:=0) J) (t5 (dc (i:=3) J J) au)) ph) ?_;rintro _ _ ⟨_,⟨p6,p7,p8,rfl,rfl⟩,rfl⟩;refine gR (lj 0 J ao J Wj) ?_;refine Y ?_;refine iX (fun m s L=> ∃h9 k5,iA N f0 m7 p5 a6 m h9 k5=some r/\s=[(6,.bool false),(8,pV c9 0),(9,pV b0 0),(15,.map (some e8)),(19,iV f0),(135,W p6 p7 p8),(136,iV (m7.length:Int)),(137,iV k5)]/\L=[bB Dz Hk e8 h9,nE p6 p7 p8 m7,oDWorld c9 f4 f6 p5.2,ah b0 28 [iV a6.Za,iV a6.N,.string a6.S],rE]) N _ _ ⟨k2,0,h,J,J⟩ sA (cS [2,0,1,3,4] 5) ?_;rintro (_|r6) _ _ ⟨h9,k5,h,rfl,rfl⟩
  ·exact aJ h
  rw [iA.eq_2] at h;refine Y ?_;refine aA ?_;refine gH J h ?_ ?_<;>intro h
  ·refine Y ?_;refine aA ?_;refine Y ?_;obtain ⟨a7,h4,h⟩:=aa h;obtain ⟨m8,m9,h4⟩:=jZ h4;refine gR (cM 1 J ao J J Wj size39.out m8 m9) ?_;refine gR (ee (us:=[iV a7.Za,iV a7.N,.string a7.S]) 1 J ao J h4 agg39.out (fun _ _ _ h=>by rw [show _=_ from h];rfl)) ?_
   refine gB (bw zero39.out J) fun t1=> ?_
   refine gW (aj (us:=[iV a7.Za,iV a7.N,.string a7.S]) (cs':=[iV a7.Za,iV a7.N,.string a7.S]) 0 J J J J size39.out J J J) ?_;refine im ?_;refine Y ?_;refine gR (ax (us:=[iV a6.Za,iV a6.N,.string a6.S]) 4 J J agg28.out J) ?_;refine gR (ax (us:=[iV a7.Za,iV a7.N,.string a7.S]) 0 J J agg39.out J) ?_;obtain ⟨k6,k,h⟩:=aa h;refine gV (aH (tf k) J (t5 (qq (i:=3) J) (t5 (dc (i:=5) J J) au)) yC) ?_;refine Y ?_
   refine gB (bw zero50.out J) fun t2=> ?_
   refine gW (aj (us:=bW k6.1) (cs':=bW k6.1) 0 J J J J size50.out J J J) ?_;refine im ?_;refine Y ?_;refine aA ?_;refine aA ?_;refine bh O _ (ad _) ?_;refine zE 0 J (ap J) ?_;refine zE 1 J (La J) ?_;refine zE 2 J (ap J) ?_;obtain ⟨s0,i7,h⟩:=aa h;refine vU (fun l=>((((((((((l.setIfInBounds 3 true).setIfInBounds 4 true).setIfInBounds 5 true).setIfInBounds 6 true).setIfInBounds 7 true).setIfInBounds 8 true).setIfInBounds 9 true).setIfInBounds 10 true).setIfInBounds 11 true).setIfInBounds 12 true)) 12 160 s0 (fun rest=> ?_) ?_
   ·clear h;refine zo 150 J (fun b7=> ?_) (fun b7=> ?_)
    ·have h:=cG b7 i7;refine iM 3 J O (DR b7 J) J ?_;refine iM 4 J O (DR b7 J) J ?_;refine iM 5 J O (DR b7 J) J ?_;refine iM 6 J O (DR b7 J) J ?_;refine zU 7 J ?_;refine zU 8 J ?_;refine zU 9 J ?_;refine zU 10 J ?_;refine iM 11 J O (DR b7 J) J ?_;refine zE 12 J (iy b7 J J) ?_;obtain rfl:=bD h;exact qF rest (la J (av (av (av (av (av (av (av (av (av (av bQ J) J) J) J) J) J) J) J) J) J)) (ad _) (ad _)
    have h:=cH b7 i7;refine io 3 J O (qx J Ml) (dw b7 J) J ?_;refine sF 4 J O (ck 1 J J va J) (dw b7 J) J ?_;refine io 5 J O (Pz J J) (dw b7 J) J ?_;refine io 6 J O (ap J) (dw b7 J) J ?_;obtain ⟨s1,i8,h⟩:=aa h;refine vU (fun l=>(((((l.setIfInBounds 7 true).setIfInBounds 8 true).setIfInBounds 9 true).setIfInBounds 10 true).setIfInBounds 11 true)) 13 159 s1 (fun rest=> ?_) ?_
    ·clear h;refine zo 154 J (fun d0=> ?_) (fun d0=> ?_)
     ·have h:=cG d0 i8;refine io 7 J O (kH J Ee) (ca d0 J) J ?_;refine sF 8 J O (ck 1 J J va J) (ca d0 J) J ?_;refine io 9 J O (ap J) (ca d0 J) J ?_;refine io 10 J O (Sx J J) (ca d0 J) J ?_;refine io 11 J O (iy d0 J J) (dw b7 J) J ?_;obtain rfl:=bD h;exact qF rest (la J (av (av (av (av (av bQ J) J) J) J) J)) (ad _) (ad _)
     have h:=cH d0 i8;refine iM 7 J O (uc d0 J) J ?_;refine iM 8 J O (uc d0 J) J ?_;refine iM 9 J O (uc d0 J) J ?_;refine iM 10 J O (uc d0 J) J ?_;refine io 11 J O (jy d0 J J) (dw b7 J) J ?_;obtain rfl:=bD h;exact qF rest (la J (av (av (av (av (av bQ J) J) J) J) J)) (ad _) (ad _)
    refine zE 12 J (jy b7 J J) ?_;obtain rfl:=bD h;exact qF rest (la J (av (av (av (av (av (av bQ J) J) J) J) J) J)) (ad _) (ad _)
   refine zE 13 J (ap J) ?_;obtain ⟨s2,i9,h⟩:=aa h;refine vU (fun l=>(((((((((((l.setIfInBounds 14 true).setIfInBounds 15 true).setIfInBounds 16 true).setIfInBounds 17 true).setIfInBounds 18 true).setIfInBounds 19 true).setIfInBounds 20 true).setIfInBounds 21 true).setIfInBounds 22 true).setIfInBounds 23 true).setIfInBounds 24 true)) 0 172 s2 (fun rest=> ?_) ?_
   ·clear h;refine zo 161 J (fun b9=> ?_) (fun b9=> ?_)
    ·have h:=cG b9 i9;refine iM 14 J O (DR b9 J) J ?_;refine iM 15 J O (DR b9 J) J ?_;refine iM 16 J O (DR b9 J) J ?_;refine iM 17 J O (DR b9 J) J ?_;refine zU 18 J ?_;refine zU 19 J ?_;refine zU 20 J ?_;refine zU 21 J ?_;refine zU 22 J ?_;refine iM 23 J O (DR b9 J) J ?_;refine zE 24 J (iy b9 J J) ?_;obtain rfl:=bD h;exact qF rest (la J (av (av (av (av (av (av (av (av (av (av (av bQ J) J) J) J) J) J) J) J) J) J) J)) (ad _) (ad _)
    have h:=cH b9 i9;refine sF 14 J O (ax (us:=[iV a7.Za,iV a7.N,.string a7.S]) 1 J J agg39.out J) (dw b9 J) J ?_;obtain ⟨s3,k,h⟩:=aa h;refine pt 15 J O (aH (kC k) J (au) oX) J (dw b9 J) J ?_;rintro _ _ ⟨_,⟨rfl,rfl⟩,rfl⟩;refine ⟨_,ad _,ad _,?_⟩;refine io 16 J O (C0 (x:=a7) (y:=s3) J J) (dw b9 J) J ?_;refine io 17 J O (ap J) (dw b9 J) J ?_;obtain ⟨s4,j0,h⟩:=aa h;refine vU (fun l=>((((((l.setIfInBounds 18 true).setIfInBounds 19 true).setIfInBounds 20 true).setIfInBounds 21 true).setIfInBounds 22 true).setIfInBounds 23 true)) 1 171 s4 (fun rest=> ?_) ?_
    ·clear h;refine zo 165 J (fun c8=> ?_) (fun c8=> ?_)
     ·have h:=cG c8 j0;refine sF 18 J O (ax (us:=bW k6.1) 0 J J agg50.out J) (ca c8 J) J ?_;refine io 19 J O (ap J) (ca c8 J) J ?_;refine sF 20 J O (ax (us:=[iV a7.Za,iV a7.N,.string a7.S]) 1 J J agg39.out J) (ca c8 J) J ?_;refine sF 21 J O (EK (a:=a7) (z:=(⟨(⟨0,0,⟨#[]⟩⟩:WL),0,(⟨0,0,⟨#[]⟩⟩:WV),(⟨0,0,⟨#[]⟩⟩:WV),(⟨0,0,⟨#[]⟩⟩:WV)⟩:WU)) 2 J CP J J Wz CT zero50.out) (ca c8 J) J ?_;refine io 22 J O (NS (x:=k6.1) (y:=((lk h9 a7).getD (⟨(⟨0,0,⟨#[]⟩⟩:WL),0,(⟨0,0,⟨#[]⟩⟩:WV),(⟨0,0,⟨#[]⟩⟩:WV),(⟨0,0,⟨#[]⟩⟩:WV)⟩:WU))) J J) (ca c8 J) J ?_;refine io 23 J O (iy c8 J J) (dw b9 J) J ?_;obtain rfl:=bD h;exact qF rest (la J (av (av (av (av (av (av bQ J) J) J) J) J) J)) (ad _) (ad _)
     have h:=cH c8 j0;refine iM 18 J O (uc c8 J) J ?_;refine iM 19 J O (uc c8 J) J ?_;refine iM 20 J O (uc c8 J) J ?_;refine iM 21 J O (uc c8 J) J ?_;refine iM 22 J O (uc c8 J) J ?_;refine io 23 J O (jy c8 J J) (dw b9 J) J ?_;obtain rfl:=bD h;exact qF rest (la J (av (av (av (av (av (av bQ J) J) J) J) J) J)) (ad _) (ad _)
    refine zE 24 J (jy b9 J J) ?_;obtain rfl:=bD h;exact qF rest (la J (av (av (av (av (av (av bQ J) J) J) J) J) J)) (ad _) (ad _)
   refine bq O ?_;refine qk ?_;refine gH J h ?_ ?_<;>intro h
   ·refine Y ?_;obtain rfl:=bD h;exact od J J (cS [] 7) ⟨J,J⟩
   refine Y ?_;refine gR (ax (us:=[iV a7.Za,iV a7.N,.string a7.S]) 1 J J agg39.out J) ?_;refine gW (GS (a:=a7) 2 J J J Wz CT) ?_;refine im ?_;refine Y ?_;obtain ⟨q0,h⟩:=ae h;refine gE (iz J J q0.1 q0.2) ?_;refine Y ?_;exact ⟨r6,_,_,W0 _,⟨yp h9 a7,k5+1,h,J,J⟩,sA,cS [2,3,4,5,6] 7⟩
  refine Y ?_;exact ⟨_,_,⟨h9,h,J,J⟩,sA,cS [0,4] 5⟩
 rintro _ _ ⟨h3,h,rfl,rfl⟩;refine am (fun s L=>og N=some r/\s=[(6,.bool false)]/\L=[rE]) ?_ ?_
 ·refine Y ?_
  refine gB (OS 0 J J Wz) fun q1=> ?_
  refine im ?_;refine Y ?_;refine iX (fun m s L=> ∃n0,kL N f0 h3 m n0=some r/\s=[(6,.bool false),(19,iV f0),(177,pV q1 0)]/\L=[Pf Dz Hk e8 q1 h3 n0 none,rE]) N _ _ ⟨h3,h,J,J⟩ sA (cS [0,1] 2) ?_;rintro (_|q2) _ _ ⟨n0,h,rfl,rfl⟩
  ·exact aJ h
  refine Y ?_;refine gD (QQ 0 J J) ?_;rintro _ _ (⟨hr,rfl,rfl⟩|⟨q3,f1,q4,hr,rfl,rfl⟩)
  ·subst hr;replace h:=QE h;refine Y ?_;refine aA ?_;refine fG J ?_;refine Y ?_;exact ⟨_,_,⟨h,J,J⟩,sA,cS [1] 2⟩
  subst hr;replace h:((bif !decide (f1.1.Za=0) then (some true) else (some (decide (f1.1.N<f0)))).bind fun h5=>bif h5 then (some false) else ((kL N f0 h3 q2) (q3++q4)))=some r:=QF h;refine im ?_;refine Y ?_;refine aA ?_;refine iN J ?_;refine Y ?_;refine gD (OU 0 J J) ?_;rintro _ _ ⟨rfl,rfl⟩;refine mO (Tx 0 J) ?_;refine im ?_;refine Y ?_
  refine gB (bw zero39.out J) fun u0=> ?_
  refine gW (aj (us:=[iV f1.1.Za,iV f1.1.N,.string f1.1.S]) (cs':=[iV f1.1.Za,iV f1.1.N,.string f1.1.S]) 0 J J J J size39.out J J J) ?_;refine im ?_;refine Y ?_;obtain ⟨h5,f2,h⟩:=aa h;refine fd 5 190 h5 ?_ ?_
  ·clear h;refine eC 185 J (fun h6=> ?_) (fun h6=> ?_)
   ·have h:=cG h6 f2;refine Y ?_;obtain rfl:=bD h;exact aU sA (cS [0,1,2] 3)
   have h:=cH h6 f2;refine Y ?_;obtain rfl:=bD h;exact aU sA (cS [0,1,2] 3)
  refine Y ?_;refine gH J h ?_ ?_<;>intro h
  ·refine Y ?_;obtain rfl:=bD h;exact od J J (cS [] 3) ⟨J,J⟩
  refine Y ?_;exact ⟨q2,_,_,W0 _,⟨q3++q4,h,J,J⟩,sA,cS [1,2] 3⟩
 rintro _ _ ⟨h,rfl,rfl⟩;refine Y ?_;obtain ⟨s5,k,h⟩:=aa h;refine gV (aH (xt k) J (t5 (dc (i:=0) J J) au) uV) ?_;refine Y ?_;obtain rfl:=bD h;exact od J J (cS [] 1) ⟨J,J⟩
end
section
open Go.RowKit
set_option maxRecDepth 20000
def yW (N:Nat)(a0:WK)(a1:Int):Option Bool:=
 bif decide (a1<1) then (some false) else (bif decide (a1.tmod 2=1) then (aL (in64 (a1 - 1)) (aL (in64 ((a1 - 1).tdiv 2)) (some (decide ((a1 - 1).tdiv 2<(a0.Zh.length:Int)))))) else (aL (in64 (a1 - 2)) (aL (in64 ((a1 - 2).tdiv 2)) (some (decide ((a1 - 2).tdiv 2<(a0.Zj.length:Int)))))))
def Bn (a0:WK)(a1:Int):Option WI:=
 (yW N a0 a1).bind fun y5=>bif !y5 then (some (⟨0,0,0,0,[],[]⟩:WI)) else (bif decide (a1.tmod 2=1) then (aL (in64 (a1 - 1)) (aL (in64 ((a1 - 1).tdiv 2)) ((aq a0.Zh ((a1 - 1).tdiv 2)).bind fun a6=>some a6))) else (aL (in64 (a1 - 2)) (aL (in64 ((a1 - 2).tdiv 2)) ((aq a0.Zj ((a1 - 2).tdiv 2)).bind fun a7=>some a7))))
def lG (N:Nat)(a0:Int):Option Bool:=
 (bif decide (a0=1) then (some true) else (some (decide (a0=2)))).bind fun b1=>(bif b1 then (some true) else (some (decide (a0=3)))).bind fun b2=>(bif b2 then (some true) else (some (decide (a0=6)))).bind fun b3=>(bif b3 then (some true) else (some (decide (a0=8)))).bind fun b4=>(bif b4 then (some true) else (some (decide (a0=9)))).bind fun b5=>(bif b5 then (some true) else (some (decide (a0=10)))).bind fun b6=>some b6
def dR (N:Nat)(a0:WV)(a1:Int):Option Bool:=
 (bif decide (a0.Za=0) then (some true) else (some (decide (a0.Za=a1)))).bind fun b2=>some b2
def ko (a0:WI):Option Bool:=
 (lG N a0.Za).bind fun y4=>(bif y4 then (some true) else ((bif decide (a0.Za=7) then (some (decide (0<(a0.Zc.length:Int)))) else (some false)).bind fun b6=>some b6)).bind fun b5=>bif b5 then ((bif decide (1<=(a0.Zc.length:Int)) then (some (decide ((a0.Zc.length:Int)<=1025))) else (some false)).bind fun b8=>(bif b8 then ((aq a0.Zc 0).bind fun a6=>(bif decide (a6.Za=1) then (some true) else ((aq a0.Zc 0).bind fun a7=>some (decide (a7.Za=7)))).bind fun a8=>some a8) else (some false)).bind fun b9=>some b9) else (bif decide (a0.Za=7) then (some (decide (a0.Zi=0))) else ((bif !decide (a0.Zi=0) then (some true) else (some (!decide (a0.Ze=0)))).bind fun b0=>bif b0 then (some false) else (bif decide (a0.Za=5) then ((bif decide ((a0.Zc.length:Int)=2) then ((aq a0.Zc 0).bind fun b7=>(dR N b7 7).bind fun c8=>some c8) else (some false)).bind fun c9=>(bif c9 then ((aq a0.Zc 1).bind fun d0=>(dR N d0 7).bind fun d1=>some d1) else (some false)).bind fun d2=>some d2) else (some (decide ((a0.Zc.length:Int)=0))))))
def ik (N:Nat)(a0:WV)(a1 a2:Int):Option Bool:=
 (bif decide (a0.Za=3) then (some (decide (a1<=a0.N))) else (some false)).bind fun b2=>(bif b2 then (some (decide (a0.N<=a2))) else (some false)).bind fun b3=>some b3
def EV (N:Nat):Option Bool:=
 some true
def gT (N:Nat)(a1:Int)(a0:WW):Nat->Int->Option Bool
 |0,_=>none
 |m5+1,p6=>bif decide (p6<(a0.length:Int)) then ((aq a0 p6).bind fun x8=>(bif !decide (x8.Za=7) then (some true) else (aL (in64 (p6+1)) ((aq a0 (p6+1)).bind fun a6=>some (decide (a6.Za=8))))).bind fun b9=>bif b9 then (some false) else ((bif decide (a1=4) then (aL (in64 (p6+2)) ((aq a0 (p6+2)).bind fun a7=>(dR N a7 7).bind fun a8=>(bif !a8 then (some true) else (aL (in64 (p6+3)) ((aq a0 (p6+3)).bind fun b0=>(ik N b0 0 9007199254740992).bind fun b5=>some (!b5)))).bind fun b6=>some b6)) else (some false)).bind fun b7=>bif b7 then (some false) else (aL (in64 (p6+a1)) ((gT N a1 a0 m5) (p6+a1))))) else (EV N)
def dg (a0:WW)(a1:Int):Option Bool:=
 aL (a1≠0) (bif !decide ((a0.length:Int).tmod a1=0) then (some false) else (gT N a1 a0 N 0))
def lF (a0:WI)(p7:Bool):Option Bool:=
 bif p7 then (some (decide ((a0.Zb.length:Int)=0))) else (bif decide (a0.Za=3) then ((bif decide ((a0.Zb.length:Int)=3) then ((aq a0.Zb 0).bind fun a6=>(ik N a6 0 9007199254740992).bind fun a7=>some a7) else (some false)).bind fun a8=>(bif a8 then ((aq a0.Zb 1).bind fun b0=>(dR N b0 9).bind fun b5=>some b5) else (some false)).bind fun b6=>some b6) else (bif decide (a0.Za=4) then ((bif decide (1<=(a0.Zb.length:Int)) then (some (decide ((a0.Zb.length:Int)<=4097))) else (some false)).bind fun b7=>(bif b7 then ((aq a0.Zb 0).bind fun b9=>(dR N b9 9).bind fun c8=>some c8) else (some false)).bind fun c9=>some c9) else (bif decide (a0.Za=6) then ((bif decide ((a0.Zb.length:Int)=2) then ((aq a0.Zb 0).bind fun d0=>(ik N d0 0 3).bind fun d1=>some d1) else (some false)).bind fun d2=>(bif d2 then ((aq a0.Zb 1).bind fun d3=>(dR N d3 9).bind fun d4=>some d4) else (some false)).bind fun d6=>some d6) else (bif decide (a0.Za=7) then ((bif decide (4<=(a0.Zb.length:Int)) then ((aq a0.Zb 2).bind fun e0=>(ik N e0 0 1).bind fun e1=>some e1) else (some false)).bind fun e2=>(bif e2 then ((aq a0.Zb 3).bind fun e3=>(ik N e3 0 9007199254740992).bind fun e4=>some e4) else (some false)).bind fun e5=>some e5) else (bif decide (a0.Za=8) then ((dg N a0.Zb 2).bind fun e6=>some e6) else (bif decide (a0.Za=10) then ((bif decide (1<=(a0.Zb.length:Int)) then ((aq a0.Zb 0).bind fun e7=>some (decide (e7.Za=7))) else (some false)).bind fun e8=>(bif e8 then (aL ((0:Int)<=1/\(1:Int).toNat<=a0.Zb.length/\a0.Zb.length<=a0.Zb.length) ((dg N ((a0.Zb.drop ((1:Int).toNat)).take (a0.Zb.length - (1:Int).toNat)) 4).bind fun e9=>some e9)) else (some false)).bind fun f0=>some f0) else (bif decide (a0.Za=9) then ((bif decide (2<=(a0.Zb.length:Int)) then ((aq a0.Zb 0).bind fun f1=>(ik N f1 0 2).bind fun f2=>some f2) else (some false)).bind fun f3=>some f3) else (some true))))))))
def lZ (a0:WI):Option Bool:=
 bif decide (1048576<(a0.Zb.length:Int)) then (some false) else (bif decide (a0.Za=2) then (some (decide ((a0.Zb.length:Int)<=4096))) else (bif decide (a0.Za=1) then (lF N a0 (decide (a0.Za=1))) else (lF N a0 (decide (a0.Za=5)))))
def dh (a0:WI):Option Bool:=
 (ko N a0).bind fun a6=>(bif a6 then ((lZ N a0).bind fun a7=>some a7) else (some false)).bind fun a8=>some a8
def oJ (N:Nat)(a0:WI):Nat->Int->Option Bool
 |0,_=>none
 |a6+1,p21=>bif decide (p21<(a0.Zb.length:Int)) then ((aq a0.Zb p21).bind fun a7=>(dK N a7).bind fun a8=>bif !a8 then (some false) else (aL (in64 (p21+1)) ((oJ N a0 a6) (p21+1)))) else (dh N a0)
def zS (a0:WI):Option Bool:=
 oJ N a0 N 0
def jb (N:Nat)(a0:WI):Nat->Int->Option Bool
 |0,_=>none
 |a6+1,p13=>bif decide (p13<(a0.Zc.length:Int)) then ((aq a0.Zc p13).bind fun a7=>(dK N a7).bind fun a8=>bif !a8 then (some false) else (aL (in64 (p13+1)) ((jb N a0 a6) (p13+1)))) else (zS N a0)
def fP (a0:WI):Option Bool:=
 (bif decide (a0.Za<1) then (some true) else (some (decide (11<a0.Za)))).bind fun b4=>(bif b4 then (some true) else (some (decide (a0.Zi<0)))).bind fun b5=>(bif b5 then (some true) else (some (decide (a0.Ze<0)))).bind fun b6=>(bif b6 then (some true) else (some (decide (63<a0.Ze)))).bind fun b7=>(bif b7 then (some true) else (some (decide (a0.Zg<0)))).bind fun b8=>(bif b8 then (some true) else (some (decide (1<a0.Zg)))).bind fun b9=>bif b9 then (some false) else (jb N a0 N 0)
def yX (N:Nat)(a0:WV):Option Bool:=
 (bif decide (a0.Za=7) then (some true) else (some (decide (a0.Za=9)))).bind fun b2=>some b2
def Aq (N:Nat)(a0 a1:Int):Option Bool:=
 (bif decide (a0=8) then (some true) else ((bif decide (a0=10) then (some (decide (0<a1))) else (some false)).bind fun b2=>(bif b2 then (aL (in64 (a1 - 1)) (some (decide (((a1 - 1).tmod 4).tmod 2=0)))) else (some false)).bind fun b3=>some b3)).bind fun b1=>some b1
def Gh (N:Nat)(a6:W5):Option W5:=
 some a6
def rB (N:Nat)(a6:W5->Int->Option W5)(a7:Int)(a0:WI)(a8:W5):Option W5:=
 aL (in64 (a7+1)) (a6 a8 (a7+1))
def mE (N:Nat)(a0:WI):Nat->W5->Int->Option W5
 |0,_,_=>none
 |a8+1,a7,a6=>bif decide (a6<(a0.Zb.length:Int)) then ((aq a0.Zb a6).bind fun b5=>(yX N b5).bind fun b6=>(bif b6 then ((Aq N a0.Za a6).bind fun b7=>some (!b7)) else (some false)).bind fun b9=>bif b9 then ((aq a0.Zb a6).bind fun b0=>aL (cF (a7.length+([b0.N]:List Int).length)) (rB N (mE N a0 a8) a6 a0 (a7++([b0.N]:List Int)))) else (rB N (mE N a0 a8) a6 a0 a7)) else (Gh N a7)
def Bp (a0:WI)(p5:W5):Option W5:=
 mE N a0 N p5 0
def rC (N:Nat)(a6:W5->Int->Option W5)(p8:Int)(a0:WI)(a7:W5):Option W5:=
 aL (in64 (p8+1)) (a6 a7 (p8+1))
def nK (N:Nat)(a0:WI):Nat->W5->Int->Option W5
 |0,_,_=>none
 |m6+1,p7,p8=>bif decide (p8<(a0.Zc.length:Int)) then ((aq a0.Zc p8).bind fun a7=>(yX N a7).bind fun a8=>bif a8 then ((aq a0.Zc p8).bind fun a6=>aL (cF (p7.length+([a6.N]:List Int).length)) (rC N (nK N a0 m6) p8 a0 (p7++([a6.N]:List Int)))) else (rC N (nK N a0 m6) p8 a0 p7)) else (Bp N a0 p7)
def uH (a0:WI):Option W5:=
 nK N a0 N [] 0
def CF (N:Nat)(p4:W5):Option W5:=
 some p4
def rc (N:Nat)(a6:W5->Int->Option W5)(p7:Int)(a0:WW)(a7:W5):Option W5:=
 aL (in64 (p7+1)) (a6 a7 (p7+1))
def jk (N:Nat)(a0:WW):Nat->W5->Int->Option W5
 |0,_,_=>none
 |m5+1,p6,p7=>bif decide (p7<(a0.length:Int)) then ((aq a0 p7).bind fun a7=>(bif decide (a7.Za=7) then (some true) else ((aq a0 p7).bind fun a8=>some (decide (a8.Za=9)))).bind fun b12=>bif b12 then ((aq a0 p7).bind fun a6=>aL (cF (p6.length+([a6.N]:List Int).length)) (rc N (jk N a0 m5) p7 a0 (p6++([a6.N]:List Int)))) else (rc N (jk N a0 m5) p7 a0 p6)) else (CF N p6)
def oZ (a0:WW):Option W5:=
 jk N a0 N ([]:List Int) 0
def Ni (N:Nat):Option Bool:=
 some false
def CG (N:Nat)(a1:Int)(a0:W5):Nat->Int->Option Bool
 |0,_=>none
 |m3+1,p4=>bif decide (p4<(a0.length:Int)) then ((aq a0 p4).bind fun x6=>bif decide (x6=a1) then (some true) else (aL (in64 (p4+1)) ((CG N a1 a0 m3) (p4+1)))) else (Ni N)
def ES (a0:W5)(a1:Int):Option Bool:=
 CG N a1 a0 N 0
def Ku (N:Nat)(p7:W5):Option W5:=
 some p7
def xV (N:Nat)(a7:W5->Int->Option W5)(a6:Int)(a2:W5)(a0:WK)(p13:W5):Option W5:=
 aL (in64 (a6+1)) (a7 p13 (a6+1))
def rb (N:Nat)(a2:W5)(a0:WK):Nat->W5->Int->Option W5
 |0,_,_=>none
 |m8+1,p9,a6=>bif decide (a6<(a2.length:Int)) then ((aq a2 a6).bind fun a8=>(yW N a0 a8).bind fun b0=>(bif b0 then ((aq a2 a6).bind fun b5=>(ES N p9 b5).bind fun b6=>some (!b6)) else (some false)).bind fun b16=>bif b16 then ((aq a2 a6).bind fun a7=>aL (cF (p9.length+([a7]:List Int).length)) (xV N (rb N a2 a0 m8) a6 a2 a0 (p9++([a7]:List Int)))) else (xV N (rb N a2 a0 m8) a6 a2 a0 p9)) else (Ku N p9)
def tp (a0:WK)(a1 a2:W5):Option W5:=
 rb N a2 a0 N a1 0
def EQ (N:Nat)(p6:W5):Option W5:=
 some p6
def qc (N:Nat)(a0:WK):Nat->W5->Int->Option W5
 |0,_,_=>none
 |m7+1,p8,p9=>bif decide (p9<(p8.length:Int)) then ((aq p8 p9).bind fun a6=>(Bn N a0 a6).bind fun a7=>(uH N a7).bind fun a8=>(tp N a0 p8 a8).bind fun b0=>aL (in64 (p9+1)) ((qc N a0 m7) b0 (p9+1))) else (EQ N p8)
def mD (a0:WK)(a1:W5)(a2:Int):Option W5:=
 qc N a0 N a1 a2
def zP (N:Nat)(p6:W5):Option W5:=
 some p6
def tS (N:Nat)(a6:W5->Int->Option W5)(p9:Int)(a7:W5):Option W5:=
 aL (in64 (p9+1)) (a6 a7 (p9+1))
def qd (N:Nat)(a7:W5->Int->Option W5)(p9:Int):Nat->W5->Int->Option W5
 |0,_,_=>none
 |b0+1,a6,p15=>(bif decide (0<p15) then (aL (in64 (p15 - 1)) ((aq a6 (p15 - 1)).bind fun b5=>(aq a6 p15).bind fun b6=>some (decide (b6<b5)))) else (some false)).bind fun b16=>bif b16 then ((aq a6 p15).bind fun b7=>aL (in64 (p15 - 1)) ((aq a6 (p15 - 1)).bind fun a8=>(aq a6 p15).bind fun b9=>aL (in64 (p15 - 1)) ((aq (List.set a6 p15.toNat a8) (p15 - 1)).bind fun c8=>aL (in64 (p15 - 1)) ((qd N a7 p9 b0) (List.set (List.set a6 p15.toNat a8) ((p15 - 1).toNat) b7) (p15 - 1))))) else (tS N a7 p9 a6)
def ja (N:Nat):Nat->W5->Int->Option W5
 |0,_,_=>none
 |m7+1,p8,p9=>bif decide (p9<(p8.length:Int)) then (qd N (ja N m7) p9 N p8 p9) else (zP N p8)
def wr (a0:W5):Option W5:=
 aL (cF (([]:List Int).length+a0.length)) (ja N N (([]:List Int)++a0) 1)
def ET (a0:WI):Option Bool:=
 (bif decide (a0.Za=8) then ((fP N a0).bind fun y5=>some y5) else (some false)).bind fun b4=>some b4
def Nj (N:Nat):Option Bool:=
 some false
def CH (N:Nat)(a0:Int)(a1:W5):Nat->Int->Option Bool
 |0,_=>none
 |m3+1,p4=>bif decide (p4<(a1.length:Int)) then ((aq a1 p4).bind fun x6=>bif decide (x6=a0) then (some true) else (aL (in64 (p4+1)) ((CH N a0 a1 m3) (p4+1)))) else (Nj N)
def EU (a0:Int)(a1:W5):Option Bool:=
 CH N a0 a1 N 0
def Bo (N:Nat)(p6:W5):Option W5:=
 some p6
def uZ (N:Nat)(a6:W5->Int->Option W5)(p9:Int)(a1:W5)(a0:WI)(p15:W5):Option W5:=
 aL (in64 (p9+2)) (a6 p15 (p9+2))
def sO (N:Nat)(a1:W5)(a0:WI):Nat->W5->Int->Option W5
 |0,_,_=>none
 |m7+1,p8,p9=>(ET N a0).bind fun a7=>(bif a7 then (some (decide (p9<(a0.Zb.length:Int)))) else (some false)).bind fun b12=>bif b12 then (aL (in64 (p9+1)) ((aq a0.Zb (p9+1)).bind fun a6=>(aq a0.Zb p9).bind fun a8=>(EU N a8.N a1).bind fun b0=>(bif b0 then ((bif decide (a6.Za=7) then (some true) else (some (decide (a6.Za=9)))).bind fun b5=>some b5) else (some false)).bind fun b6=>bif b6 then (aL (cF (p8.length+([a6.N]:List Int).length)) (uZ N (sO N a1 a0 m7) p9 a1 a0 (p8++([a6.N]:List Int)))) else (uZ N (sO N a1 a0 m7) p9 a1 a0 p8))) else (Bo N p8)
def xW (a0:WI)(a1:W5):Option W5:=
 sO N a1 a0 N [] 0
def zQ (a6:W5->Option W5)(p13:W5)(a0:WK)(p15:W5):Option W5:=
 bif decide ((p15.length:Int)=(p13.length:Int)) then (some p15) else ((mD N a0 p15 (p13.length:Int)).bind fun a7=>a6 a7)
def oI (N:Nat)(a6:W5->Option W5)(p13:W5)(a0:WK):Nat->W5->Int->Option W5
 |0,_,_=>none
 |b0+1,a7,a8=>bif decide (a8<(p13.length:Int)) then ((aq a7 a8).bind fun b5=>(Bn N a0 b5).bind fun b6=>(xW N b6 a7).bind fun b7=>(tp N a0 a7 b7).bind fun b9=>aL (in64 (a8+1)) ((oI N a6 p13 a0 b0) b9 (a8+1))) else (zQ N a6 p13 a0 a7)
def kE (N:Nat)(a0:WK):Nat->W5->Option W5
 |0,_=>none
 |a6+1,p13=>oI N (kE N a0 a6) p13 a0 N p13 0
def uG (a0:WK)(a1:WW):Option W5:=
 (oZ N a1).bind fun y5=>(tp N a0 ([]:List Int) y5).bind fun y8=>(mD N a0 y8 0).bind fun a6=>kE N a0 N a6
def ER (a0:WK)(a1:WW):Option W5:=
 (uG N a0 a1).bind fun y5=>(wr N y5).bind fun y7=>some y7
def Fq {β:Type}(kv:List (Int×β)):List Int:=(kv.map (·.1)).mergeSort (fun x y=>decide (x<=y))
end
end Go.Proofs.YtmcifcmlojonnaaGreatDoor
