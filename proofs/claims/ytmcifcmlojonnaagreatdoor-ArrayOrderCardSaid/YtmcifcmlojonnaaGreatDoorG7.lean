/- Merged texts: part 7. No conditions of their own. -/
import Derived.Test.YtmcifcmlojonnaaGreatDoorG6
import Derived.Test.YtmcifcmlojonnaaGreatDoorG2
import Derived.Test.YtmcifcmlojonnaaGreatDoorG1
set_option maxHeartbeats 4000000
namespace Go.Proofs.YtmcifcmlojonnaaGreatDoor
variable (N:Nat){held:Bool}{a i x:Int}{p:List MemPlace}{b0 l:Nat}{spare:Nat->Bool}{H α β ρ σ:Type}{v:Value}{a1:W4}{a0 c:WI}{m:WO}{hJ:World}
section
theorem WA:type_of% Tryz.underlying43:=Tryz.underlying43
theorem Wz:type_of% Tryz.underlying41:=Tryz.underlying41
theorem Wy:type_of% Tryz.underlying39:=Tryz.underlying39
theorem Wx:type_of% Tryz.underlying28:=Tryz.underlying28
theorem Ww:type_of% Tryz.underlying216:=Tryz.underlying216
variable {A1 A2 A3 A4 A6 A7:Option Addr}{B1 B2 B3 B6 M2 M5 c1 c2 c3 c4 c6 c7 n1 n2 n3 n4 n6 n7:Nat}
open Go.RowKit Asn
set_option maxRecDepth 20000
def tT (p9 a6:W5)(a7:W4)(a8:(List (Int×Unit)))(p13:Int):Option WR:=
 (iB N (⟨(⟨p9,a6⟩:WO),a7,a8,p13⟩:WR)).bind fun b0=>some b0
def jO (N:Nat)(a1:WW):Nat->Int->W5->W5->W4->(List (Int×Unit))->Int->Option WR
 |0,_,_,_,_,_,_=>none
 |b7+1,p15,a7,a8,b0,b5,b6=>bif decide (p15<(a1.length:Int)) then ((au a1 p15).bind fun b9=>(qT N b9 (⟨(⟨a7,a8⟩:WO),b0,b5,b6⟩:WR)).bind fun a6=>aG (in64 (p15+1)) ((jO N a1 b7) (p15+1) a6.m_.Zh a6.m_.Zj a6.Zx a6.ZJ a6.ZH)) else (tT N a7 a8 b0 b5 b6)
def oE (a0:WO)(a1:WW):Option WR:=
 jO N a1 N 0 a0.Zh a0.Zj [] ([]:(List (Int×Unit))) 0
theorem EZ {N:Nat}{a0:WO}{a1:WW}{r:WR}(h:oE N a0 a1=some r):Okc W8 190 [.agg #[W A1 n1 c1,W A2 n2 c2],W A3 n3 c3] ([iE A1 n1 c1 a0.Zh,iE A2 n2 c2 a0.Zj,aX A3 n3 c3 a1]) (fun u post=> ∃B0 A1 n1 c1 A2 n2 c2 A3 n3 c3 M4,u=pV B0 0/\post=[ah B0 249 [W A1 n1 c1,W A2 n2 c2,W A3 n3 c3,.map (some M4),iV r.ZH],iE A1 n1 c1 r.m_.Zh,iE A2 n2 c2 r.m_.Zj,uA A3 n3 c3 r.Zx,bE jC DR M4 r.ZJ]):=by
 refine ce Tryz.func190 ?_;intro B4;refine ab ?_;refine gD (wH (ek:=jC) (ev:=DR)) ?_;rintro _ _ ⟨M5,rfl,rfl⟩
 refine cn fun B6=> ?_
 intro B7;refine ab ?_;refine ga (iY J) ?_;refine ao (fun s L=> ∃p9 a6 a7 a8 p13 A9 n9 c9 b0 b5 b6 b7 b9 c8 d0,tT N p9 a6 a7 a8 p13=some r/\s=[(4,.pointer none),(5,pV B7 0)]/\L=[ah B7 245 [pV B6 0],iE A9 n9 c9 p9,iE b0 b5 b6 a6,uA b7 b9 c8 a7,bE jC DR d0 a8,ah B6 249 [W A9 n9 c9,W b0 b5 b6,W b7 b9 c8,.map (some d0),iV p13]]) ?_ ?_
 ·refine ab ?_;refine kq (fun m s L=> ∃p15 d1 d2 d3 d4 d6 e0 e1 e2 e3 e4 e5 e6 e7 e8 e9,jO N a1 m p15 d1 d2 d3 d4 d6=some r/\s=[(4,.pointer none),(5,pV B7 0),(6,.func (.func 206) #[] #[pV B7 0]),(14,W A3 n3 c3),(15,iV (a1.length:Int)),(16,iV p15)]/\L=[aX A3 n3 c3 a1,ah B7 245 [pV B6 0],iE e0 e1 e2 d1,iE e3 e4 e5 d2,uA e6 e7 e8 d3,bE jC DR e9 d4,ah B6 249 [W e0 e1 e2,W e3 e4 e5,W e6 e7 e8,.map (some e9),iV d6]]) N _ _ ⟨0,a0.Zh,a0.Zj,[],([]:(List (Int×Unit))),0,A1,n1,c1,A2,n2,c2,none,0,0,M5,h,J,J⟩ sA ((cj (nE .i64) 3 _).trans (cS [7,1,5,6,0,3,2] 8)) ?_;rintro (_|f3)
  all_goals (refine fun s L=>aM fun p15=>aM fun d1=>aM fun d2=>aM fun d3=>aM fun d4=>aM fun d6=>aM fun e0=>aM fun e1=>aM fun e2=>aM fun e3=>aM fun e4=>aM fun e5=>aM fun e6=>aM fun e7=>aM fun e8=>aM fun e9=>Lb fun h=> ?_)
  ·exact aU h
  rw [jO.eq_2] at h;refine ab ?_;refine aA<|gH J h (fun h=> ?_) (fun h=> ?_)
  ·refine sY ?_;obtain ⟨f4,f0,f1,f2,h⟩:=bz h
   refine cn fun f6=> ?_
   obtain ⟨f9,k,h⟩:=aa h;refine gD (qf (Bp k) J J J (bP [3,4] [2,7,5,6] [0,1,3,4] 8 J)) ?_;rintro _ _ ⟨_,⟨g0,g1,g2,g3,g4,g5,g6,g7,g8,g9,rfl,rfl⟩,rfl⟩;refine ab ?_;obtain ⟨h0,h⟩:=ae h;exact lY
  exact jY
 refine fun s L=>aM fun p9=>aM fun a6=>aM fun a7=>aM fun a8=>aM fun p13=>aM fun A9=>aM fun n9=>aM fun c9=>aM fun b0=>aM fun b5=>aM fun b6=>aM fun b7=>aM fun b9=>aM fun c8=>aM fun d0=>Lb fun h=>ab ?_
 obtain ⟨h1,k,h⟩:=aa h;refine gD (oC (rO k)) ?_;rintro _ _ ⟨_,⟨h2,h3,h4,h5,h6,h7,h8,h9,i0,i1,rfl,rfl⟩,rfl⟩;exact eY
def vC (a0:WI):Option Bool:=
 (bif decide (a0.Za=8) then ((gM N a0).bind fun y5=>some y5) else (some false)).bind fun b4=>some b4
theorem EE {N:Nat}{r:Bool}(h:vC N a0=some r):Okc W8 165 [.agg #[iV a0.Za,iV a0.Zi,iV a0.Ze,iV a0.Zf,W A1 n1 c1,W A2 n2 c2]] ([aX A1 n1 c1 a0.Zc,aX A2 n2 c2 a0.Zb]) (fun u post=>u=.bool r/\post=[]):=by
 refine ce Tryz.func165 ?_;intro B3;refine ab ?_
 refine oo 3 9 6 h (fun _ g4 h=> ?_) fun b4 h=> ?_
 ·refine cR h (fun _ k=>mD k) fun y5 h=> ?_
  exact gY
 exact eY
def eK (N:Nat){σ:Type}(fy:(WK×WK)->σ->Option (Bool×σ))(a1:WI):Nat->Int->σ->Option σ
 |0,_,_=>none
 |m4+1,p5,p6=>aG (in64 (p5+1)) (bif decide (p5+1<(a1.Zb.length:Int)) then ((au a1.Zb p5).bind fun x9=>aG (in64 (p5+1)) ((au a1.Zb (p5+1)).bind fun a7=>(fy (x9,a7) p6).bind fun a6=>bif !a6.1 then (some a6.2) else (aG (in64 (p5+2)) ((eK N fy a1 m4) (p5+2) a6.2)))) else (some p6))
def jR (a1:WI)(fy:(WK×WK)->σ->Option (Bool×σ))(s0:σ):Option σ:=
 eK N fy a1 N 0 s0
theorem tx {N:Nat}{a1:WI}{fy:(WK×WK)->σ->Option (Bool×σ)}{s0 r:σ}(h:jR N a1 fy s0=some r){G:σ->W6}(hY:tk W8 l G (fun x=> [.agg #[iV x.1.Za,iV x.1.N,.string x.1.S],.agg #[iV x.2.Za,iV x.2.N,.string x.2.S]]) fy):Okc W8 221 [.func (.yield l) #[] #[],pV B1 0] (aQ B1 94 (iL a1 A2 n2 c2 A3 n3 c3)::aX A2 n2 c2 a1.Zc::aX A3 n3 c3 a1.Zb::(G s0)) (fun u post=>u=.tuple #[]/\post=G r):=by
 refine ce Tryz.func221 ?_;refine lK (fun m s L=> ∃(p5:Int) (p6:σ),eK N fy a1 m p5 p6=some r/\s=[(0,.func (.yield l) #[] #[]),(1,pV B1 0),(3,iV p5)]/\L=aX A2 n2 c2 a1.Zc::aX A3 n3 c3 a1.Zb::aQ B1 94 (iL a1 A2 n2 c2 A3 n3 c3)::(G p6)) N ?_;rintro m4 _ _ ⟨p5,p6,h,rfl,rfl⟩;rw [eK.eq_2] at h;refine sZ ?_;obtain ⟨q7,h⟩:=ae h;refine dr h ?_ ?_<;>intro h
 ·refine sY ?_;refine aA ?_;obtain ⟨x9,b6,b7,b9,h⟩:=bz h;obtain ⟨b5,h⟩:=ae h;obtain ⟨a6,a7,a8,b0,h⟩:=bz h;refine gI (t:=[(0,.func (.yield l) #[] #[]),(1,pV B1 0),(3,iV p5)]) ?_ mc (ad _)
  refine iQ O 12 [] [0,5,11] [12,13,14,15,16,17,18,19,20,21,22,23] [[],[],[1],[],[2,3],[4],[],[6],[],[8],[7,9],[10]] [aV (.func (.yield l) #[] #[]),
 aV (pV B1 5),
 aV (W A3 n3 c3),
 aV (iV p5),
 aV (dD (W A3 n3 c3) p5.toNat 3 0),
 aV (.agg #[iV x9.Za,iV x9.N,.string x9.S]),
 aV (pV B1 5),
 aV (W A3 n3 c3),
 aV (iV p5),
 aV (iV (p5+1)),
 aV (dD (W A3 n3 c3) ((p5+1).toNat) 3 0),
 aV (.agg #[iV a6.Za,iV a6.N,.string a6.S])] [] (ad _) (lV) O rfl rfl ?_ ?_ ?_
  ·exact lU
  ·refine aF J (yQ (eU (us:=[iV a6.Za,iV a6.N,.string a6.S]) 1 J bi J b0 agg28.out (fun _ _ _ h=>by rw [show _=_ from h];rfl)) J (iH J (ad _)))<|qR (cT 1 J bi J J t9 size28.out a7 a8) ?_;refine qE (iN J J b5.1 b5.2) ?_;refine qE (aq J) ?_;refine qR (Br 2 J J sC J) ?_;refine qE (jD J wO) ?_;refine aF J (yQ (eU (us:=[iV x9.Za,iV x9.N,.string x9.S]) 1 J bi J b9 agg28.out (fun _ _ _ h=>by rw [show _=_ from h];rfl)) J (iH J (ad _)))<|qR (cT 1 J bi J J t9 size28.out b6 b7) ?_;refine qE (aq J) ?_;refine qR (Br 2 J J sC J) ?_;refine qE (jD J wO) ?_;refine qE (aq J) ?_;exact dI
  refine oa (t:=[(12,.func (.yield l) #[] #[]),(17,.agg #[iV x9.Za,iV x9.N,.string x9.S]),(23,.agg #[iV a6.Za,iV a6.N,.string a6.S]),(0,.func (.yield l) #[] #[]),(1,pV B1 0),(3,iV p5)]) (L':=aX A2 n2 c2 a1.Zc::aX A3 n3 c3 a1.Zb::aQ B1 94 (iL a1 A2 n2 c2 A3 n3 c3)::(G p6)) ?_ mc (ad _);obtain ⟨c8,k,h⟩:=aa h;refine uv 12 J O (vM (a:=(x9,a6)) [aX A2 n2 c2 a1.Zc,aX A3 n3 c3 a1.Zb,aQ B1 94 (iL a1 A2 n2 c2 A3 n3 c3)] hY k J J) J J J ?_;rintro _ _ ⟨rfl,rfl⟩;refine CF 13 J O (Lc J) J J J<|mb O<|dr h (fun h=> ?_) (fun h=> ?_)
  ·exact eY
  refine ab ?_;obtain ⟨c9,h⟩:=ae h;exact lY
 exact eY
def mY (N:Nat)(a0:WI):Option Unit:=
 some ()
theorem wX {N:Nat}{r:Unit}(h:mY N a0=some r):Okc W8 195 [.agg #[iV a0.Za,iV a0.Zi,iV a0.Ze,iV a0.Zf,W A1 n1 c1,W A2 n2 c2]] ([aX A1 n1 c1 a0.Zc,aX A2 n2 c2 a0.Zb]) (fun u post=> ∃a6,u=.func (.func 221) #[] #[pV a6 0]/\post=[ah a6 94 (iL a0 A1 n1 c1 A2 n2 c2)]):=by
 refine ce Tryz.func195 ?_;intro B3;refine ab ?_;refine ga (iY J) ?_;exact eN
def wY (N:Nat):Option Int:=
 some (-1)
def md (N:Nat)(a1:Int)(a0:W4):Nat->Int->Option Int
 |0,_=>none
 |m3+1,p4=>bif decide (p4<(a0.length:Int)) then ((au a0 p4).bind fun x6=>bif decide (a1=x6) then (some p4) else (aG (in64 (p4+1)) ((md N a1 a0 m3) (p4+1)))) else (wY N)
def tJ (a0:W4)(a1:Int):Option Int:=
 md N a1 a0 N 0
theorem D1 {N:Nat}{a0:W4}{a1 r:Int}(h:tJ N a0 a1=some r):Okc W8 196 [W A1 n1 c1,iV a1] ([xz A1 n1 c1 a0]) (fun u post=>u=iV r/\post=[]):=by
 refine ce Tryz.func196 ?_;refine ao (fun s L=>wY N=some r/\s=[(4,iV 0)]/\L=[]) ?_ ?_
 ·refine ab ?_;refine lK (fun m s L=> ∃(p4:Int),md N a1 a0 m p4=some r/\s=[(0,W A1 n1 c1),(1,iV a1),(4,iV 0),(7,iV (a0.length:Int)),(8,iV p4)]/\L=[xz A1 n1 c1 a0]) N ?_;rintro m3 _ _ ⟨p4,h,rfl,rfl⟩;rw [md.eq_2] at h;refine ab ?_;refine aA<|gH J h (fun h=> ?_) (fun h=> ?_)
  ·refine sY ?_;obtain ⟨x6,a6,a7,a8,h⟩:=bz h;refine dr h ?_ ?_<;>intro h
   ·exact eY
   refine ab ?_;obtain ⟨q8,h⟩:=ae h;exact lY
  exact jY
 rintro _ _ ⟨h,rfl,rfl⟩;exact eY
def jT (a0:W4)(a1:Int):Option Bool:=
 (tJ N a0 a1).bind fun y2=>some (decide (0<=y2))
theorem tK {N:Nat}{a0:W4}{a1:Int}{r:Bool}(h:jT N a0 a1=some r):Okc W8 168 [W A1 n1 c1,iV a1] ([xz A1 n1 c1 a0]) (fun u post=>u=.bool r/\post=[]):=by
 refine ce Tryz.func168 ?_
 refine cR h (fun _ k=>D1 k) fun y2 h=> ?_
 exact eN
def jk (a1:W4)(a6:WK×WK):(W4)->Option (Option Exit×W4)
 |p13=>(bif decide (a6.2.Za=7) then (some true) else (some (decide (a6.2.Za=9)))).bind fun a7=>(bif a7 then ((jT N a1 a6.1.N).bind fun a8=>some a8) else (some false)).bind fun b0=>bif b0 then (aG (bu (p13.length+([a6.2.N]:List Int).length)) (some (none,p13++([a6.2.N]:List Int)))) else (some (none,p13))
def sG (a0:WI)(a1:W4):Option W4:=
 (vC N a0).bind fun y6=>bif !y6 then (some []) else ((mY N a0).bind fun a7=>(jR N a0 (cM (fun x st=>jk N a1 x st)) (none,[])).bind fun a6=>qN a6.1 (some a6.2) none (fun _=>none))
theorem Gn {N:Nat}{r:W4}(h:sG N a0 a1=some r):Okc W8 209 [.agg #[iV a0.Za,iV a0.Zi,iV a0.Ze,iV a0.Zf,W A1 n1 c1,W A2 n2 c2],W A3 n3 c3] ([aX A1 n1 c1 a0.Zc,aX A2 n2 c2 a0.Zb,xz A3 n3 c3 a1]) (fun u post=> ∃A0 n0 c0,u=W A0 n0 c0/\post=[uA A0 n0 c0 r]):=by
 refine ce Tryz.func209 ?_;intro B4
 refine cn fun B5=> ?_
 refine sZ ?_
 refine cR h (fun _ k=>EE k) fun y6 h=> ?_
 refine gH J h ?_ ?_<;>intro h
 ·refine ab ?_;obtain rfl:=bF h;exact pI J J ((cj (nE .i64) 3 _).trans (cS [0] 6)) ⟨_,_,_,J,J⟩
 refine cn fun B9=> ?_
 refine sZ ?_;obtain ⟨d0,k,h⟩:=aa h;refine gD (oR (wX k)) ?_;rintro _ _ ⟨_,⟨b5,rfl,rfl⟩,rfl⟩;refine ab ?_;refine gI ?_ bw (kZ 0 J);obtain ⟨b6,k,h⟩:=aa h;refine uw (en:=(fun x=> [.agg #[iV x.1.Za,iV x.1.N,.string x.1.S],.agg #[iV x.2.Za,iV x.2.N,.string x.2.S]])) (fun x st=>jk N a1 x st) (fun (st:W4) (mz:((Option Addr×Nat×Nat)))=> [xz A3 n3 c3 a1,ah B5 144 [W A3 n3 c3],bc (nE .i64) 3 (.slice mz.1 mz.2.1 mz.2.2) st,ah B9 144 [.slice mz.1 mz.2.1 mz.2.2]]) [aQ b5 94 (iL a0 A1 n1 c1 A2 n2 c2),aX A1 n1 c1 a0.Zc,aX A2 n2 c2 a0.Zb] ([]) ((none,0,0)) J J call221.out J (fun _=>J) (fun l G hY=>(tx k hY).mono fun _ _ hh=>hh.2) ((cj (nE .i64) 3 _).trans (bP [1,5,6] [] [7,3,0,2] 8 J)) h ?_ ?_ ?_ ?_
 ·rintro l b0 p13 je sr12 ⟨a6,a7,a8⟩ h;replace h:jk N a1 b0 p13=some (je,sr12):=h;simp only [AO,Yt,Yu,Yv,Yn,Yo,Y3,Xs]
  refine cn fun d1=> ?_
  intro d2;refine ab ?_;refine gS 4 22 18 h ?_;intro d3 h;refine ab ?_
  refine oo 5 28 23 h (fun _ d4 h=> ?_) fun d6 h=> ?_
  ·refine cR h (fun _ k=>tK k) fun e0 h=> ?_
   exact gY
  refine dr h ?_ ?_<;>intro h
  ·refine ab ?_;refine gD (aB (R:=(nE .i64)) (vss:=[[iV b0.2.N]]) (xs:=[b0.2.N]) J (rj _) J J (fun _ _ hr=> .cons J All2.nil)) ?_;rintro _ _ ⟨e1,e2,e3,rfl,rfl⟩;obtain ⟨b7,h⟩:=ae h
   refine vo (aR 5 0 J J ap J J Wk Se J J b7) fun b9 c8 c9=> ?_
   obtain ⟨rfl,rfl⟩:=YN (YL h);exact Dr ((cS [3,4,5,6] 7).trans (gb (b9,c8,c9) J))
  refine ab ?_;obtain ⟨rfl,rfl⟩:=YN (YL h);exact Dr ((cS [2,3,4,5] 6).trans (gb (a6,a7,a8) J))
 ·rintro ⟨a6,a7,a8⟩ h;exact qA ([xz A3 n3 c3 a1,ah B5 144 [W A3 n3 c3],uA a6 a7 a8 b6.2,ah B9 144 [W a6 a7 a8]]) J<|eY
 ·rintro ⟨a6,a7,a8⟩ h;exact aU h
 rintro i ⟨a6,a7,a8⟩ h;exact aU h
theorem DZ {r:W4}: ∀v post,((fun (u:Value) (post:W6)=> ∃A0 n0 c0,u=W A0 n0 c0/\post=[uA A0 n0 c0 r])) v post-> ∀c∈post,im c:=by
 rintro _ _ ⟨_,_,_,rfl,rfl⟩;exact t5 qp (aw)
def uH (N:Nat)(a0:WR)(p7 p8:W5)(p9:W4)(a6:(List (Int×Unit)))(a7:Int):Option (Bool×WR):=
 some (decide ((a0.Zx.length:Int)<(p9.length:Int)),(⟨(⟨p7,p8⟩:WO),p9,a6,a7⟩:WR))
def lJ (N:Nat)(a6:Int->W5->W5->W4->(List (Int×Unit))->Int->Option (Bool×WR))(a0:WR)(a7:Int)(a8 b0:W5)(b5:W4)(b6:(List (Int×Unit)))(b7:Int):Option (Bool×WR):=
 aG (in64 (a7+1)) (a6 (a7+1) a8 b0 b5 b6 b7)
def dA (N:Nat)(a0:WR):Nat->Int->W5->W5->W4->(List (Int×Unit))->Int->Option (Bool×WR)
 |0,_,_,_,_,_,_=>none
 |b7+1,a8,p15,b0,a6,b5,b6=>bif decide (a8<((List.take a0.Zx.length a0.Zx).length:Int)) then ((au (List.take a0.Zx.length a6) a8).bind fun c8=>(lL N (⟨p15,b0⟩:WO) c8).bind fun b9=>bif decide (b9.Za=8) then ((sG N b9 a6).bind fun c9=>(eJ N (⟨(⟨p15,b0⟩:WO),a6,b5,b6⟩:WR) c9).bind fun a7=>lJ N (dA N a0 b7) a0 a8 a7.m_.Zh a7.m_.Zj a7.Zx a7.ZJ a7.ZH) else (lJ N (dA N a0 b7) a0 a8 p15 b0 a6 b5 b6)) else (uH N a0 p15 b0 a6 b5 b6)
def kS (a0:WR):Option (Bool×WR):=
 dA N a0 N 0 a0.m_.Zh a0.m_.Zj a0.Zx a0.ZJ a0.ZH
theorem Bo {N:Nat}{a0:WR}{r:Bool×WR}(h:kS N a0=some r):Okc W8 191 [pV B1 0] ([iE A2 n2 c2 a0.m_.Zh,iE A3 n3 c3 a0.m_.Zj,ah B1 249 [W A2 n2 c2,W A3 n3 c3,W A4 n4 c4,.map (some M5),iV a0.ZH],uA A4 n4 c4 a0.Zx,bE jC DR M5 a0.ZJ]) (fun u post=> ∃A0 n0 c0 A1 n1 c1 A2 n2 c2 M3,u=.bool r.1/\post=[ah B1 249 [W A0 n0 c0,W A1 n1 c1,W A2 n2 c2,.map (some M3),iV r.2.ZH],iE A0 n0 c0 r.2.m_.Zh,iE A1 n1 c1 r.2.m_.Zj,uA A2 n2 c2 r.2.Zx,bE jC DR M3 r.2.ZJ]):=by
 refine ce Tryz.func191 ?_;refine ao (fun s L=> ∃p7 p8 p9 e9 f0 A7 n7 c7 A8 n8 c8 A9 n9 c9 f1,uH N a0 p7 p8 p9 e9 f0=some r/\s=[(0,pV B1 0),(2,.bool false),(3,iV (a0.Zx.length:Int))]/\L=[iE A7 n7 c7 p7,iE A8 n8 c8 p8,uA A9 n9 c9 p9,bE jC DR f1 e9,ah B1 249 [W A7 n7 c7,W A8 n8 c8,W A9 n9 c9,.map (some f1),iV f0]]) ?_ ?_
 ·refine ab ?_;refine mX (PO 3 J)<|gD (QL (n:=a0.Zx.length) 3 J J Wk size3.out J J J (YA _)) ?_;rintro _ _ ⟨b5,rfl,rfl⟩;refine K9 (lO 3 J F8 J Wk) ?_;refine lK (fun m s L=> ∃(b6:Int) (p15:W5) (d6:W5) (e0:W4) (e1:(List (Int×Unit))) (e2:Int) (b7:Option Addr) (b9 d0:Nat) (d1:Option Addr) (d2 d3:Nat) (a7:Option Addr) (a8 b0:Nat) (d4:Nat),dA N a0 m b6 p15 d6 e0 e1 e2=some r/\s=[(0,pV B1 0),(2,.bool false),(3,iV (a0.Zx.length:Int)),(18,.slice b5 a0.Zx.length a0.Zx.length),(19,iV ((List.take a0.Zx.length a0.Zx).length:Int)),(20,iV b6)]/\L=[iE b7 b9 d0 p15,iE d1 d2 d3 d6,nr (nE .i64) 3 (W a7 a8 b0) e0 (.slice b5 a0.Zx.length a0.Zx.length) a0.Zx.length,bE jC DR d4 e1,ah B1 249 [W b7 b9 d0,W d1 d2 d3,W a7 a8 b0,.map (some d4),iV e2]]) N ?_;intro h4
  refine fun s L=>aM fun b6=>aM fun p15=>aM fun d6=>aM fun e0=>aM fun e1=>aM fun e2=>aM fun b7=>aM fun b9=>aM fun d0=>aM fun d1=>aM fun d2=>aM fun d3=>aM fun a7=>aM fun a8=>aM fun b0=>aM fun d4=>Lb fun h=> ?_
  rw [dA.eq_2] at h;refine ab ?_;refine aA<|gH J h (fun h=> ?_) (fun h=> ?_)
  ·refine ab ?_;refine ao (fun s L=> ∃f2 f3 f4 f6 f9 g0 g1 g2 g3 g4 g5 g6 g7 g8 g9,lJ N (dA N a0 h4) a0 b6 f2 f3 f4 f6 f9=some r/\s=[(0,pV B1 0),(2,.bool false),(3,iV (a0.Zx.length:Int)),(18,.slice b5 a0.Zx.length a0.Zx.length),(19,iV ((List.take a0.Zx.length a0.Zx).length:Int)),(20,iV b6)]/\L=[iE g0 g1 g2 f2,iE g3 g4 g5 f3,nr (nE .i64) 3 (W g6 g7 g8) f4 (.slice b5 a0.Zx.length a0.Zx.length) a0.Zx.length,bE jC DR g9 f6,ah B1 249 [W g0 g1 g2,W g3 g4 g5,W g6 g7 g8,.map (some g9),iV f9]]) ?_ ?_
   ·refine ab ?_;obtain ⟨h5,h0,h1,h2,h⟩:=bz h;refine gR (cT 2 J F8 J J Wk size3.out h0 h1)<|K9 (mg (u:=iV h5) 2 J F8 J h2 rR (fun _ _ _ h=>by rw [show _=_ from h];rfl)) ?_
    refine IK h (fun _ k=>xV k) fun a6 e3 e4 e5 e6 e7 e8 h=> ?_
    intro h3;refine dr h ?_ ?_<;>intro h
    ·refine gI (t:=[(0,pV B1 0),(2,.bool false),(3,iV (a0.Zx.length:Int)),(6,pV h3 0),(18,.slice b5 a0.Zx.length a0.Zx.length),(19,iV ((List.take a0.Zx.length a0.Zx).length:Int)),(20,iV b6)]) ?_ mc (ad _)
     refine iQ O 6 [0] [0,1,5] [33,34,35,36,37,38] [[],[],[],[2],[3],[4]] [aV (pV B1 0),
 aV (.agg #[iV a6.Za,iV a6.Zi,iV a6.Ze,iV a6.Zf,W e3 e4 e5,W e6 e7 e8]),
 aV (pV B1 0),
 aV (pV B1 0),
 aV (pV B1 2),
 aV (W a7 a8 b0)] [] (ad _) (fB rfl lV) O rfl rfl ?_ ?_ ?_
     ·exact fA J (nz (aq J) J (iH J (ad _)))<|lU
     ·refine qR (bM 7 J J KO J) ?_;refine qE (jD J FV) ?_;refine qE (dC J) ?_;refine qE (aq J) ?_;refine qR (aC (us:=(iL a6 e3 e4 e5 e6 e7 e8)) 0 J J agg94.out J) ?_;refine qE (aq J) ?_;exact dI
     refine oa (t:=[(33,pV B1 0),(34,.agg #[iV a6.Za,iV a6.Zi,iV a6.Ze,iV a6.Zf,W e3 e4 e5,W e6 e7 e8]),(38,W a7 a8 b0),(0,pV B1 0),(2,.bool false),(3,iV (a0.Zx.length:Int)),(6,pV h3 0),(18,.slice b5 a0.Zx.length a0.Zx.length),(19,iV ((List.take a0.Zx.length a0.Zx).length:Int)),(20,iV b6)]) (L':=[ah h3 94 (iL a6 e3 e4 e5 e6 e7 e8),bf e3 e4 e5 a6.Zc,bf e6 e7 e8 a6.Zb,iE b7 b9 d0 p15,iE d1 d2 d3 d6,nr (nE .i64) 3 (W a7 a8 b0) e0 (.slice b5 a0.Zx.length a0.Zx.length) a0.Zx.length,bE jC DR d4 e1,ah B1 249 [W b7 b9 d0,W d1 d2 d3,W a7 a8 b0,.map (some d4),iV e2]]) ?_ mc (ad _);obtain ⟨h6,k,h⟩:=aa h;refine uv 6 J O (aJ (Gn k) J (t5 (jp (i:=1) J) (t5 (jp (i:=2) J) (t5 (NJ (i:=5) J) aw))) DZ) J J J ?_;rintro _ _ ⟨_,⟨h7,h8,h9,rfl,rfl⟩,rfl⟩;refine oa ?_ bw (bq 0 J);obtain ⟨i0,k,h⟩:=aa h;refine uv 7 J O (oC (Ar k)) J J J ?_;rintro _ _ ⟨_,⟨i1,i2,i3,i4,i5,i6,i7,i8,i9,j0,rfl,rfl⟩,rfl⟩;exact mb O<|jY
    exact jY
   refine fun s L=>aM fun f2=>aM fun f3=>aM fun f4=>aM fun f6=>aM fun f9=>aM fun g0=>aM fun g1=>aM fun g2=>aM fun g3=>aM fun g4=>aM fun g5=>aM fun g6=>aM fun g7=>aM fun g8=>aM fun g9=>Lb fun h=>ab ?_
   obtain ⟨j1,h⟩:=ae h;exact lY
  refine ab ?_;exact ⟨_,_,⟨p15,d6,e0,e1,e2,b7,b9,d0,d1,d2,d3,a7,a8,b0,d4,h,J,J⟩,sA,(N5 2 J).trans (cS [0,1,2,3,4] 5)⟩
 exact fun s L=>aM fun p7=>aM fun p8=>aM fun p9=>aM fun e9=>aM fun f0=>aM fun A7=>aM fun n7=>aM fun c7=>aM fun A8=>aM fun n8=>aM fun c8=>aM fun A9=>aM fun n9=>aM fun c9=>aM fun f1=>Lb fun h=>eY
def sd (N:Nat)(a7 p13:W5)(a6:W4)(p15:(List (Int×Unit)))(a8:Int):Option W4:=
 some a6
def mf (N:Nat):Nat->W5->W5->W4->(List (Int×Unit))->Int->Option W4
 |0,_,_,_,_,_=>none
 |a8+1,b0,b5,b6,p21,b7=>(kS N (⟨(⟨b0,b5⟩:WO),b6,p21,b7⟩:WR)).bind fun a6=>bif a6.1 then ((iB N a6.2).bind fun a7=>(mf N a8) a7.m_.Zh a7.m_.Zj a7.Zx a7.ZJ a7.ZH) else (sd N a6.2.m_.Zh a6.2.m_.Zj a6.2.Zx a6.2.ZJ a6.2.ZH)
def mu (a0:WO)(a1:WW):Option W4:=
 (oE N a0 a1).bind fun y5=>mf N N y5.m_.Zh y5.m_.Zj y5.Zx y5.ZJ y5.ZH
theorem E0 {N:Nat}{a0:WO}{a1:WW}{r:W4}(h:mu N a0 a1=some r):Okc W8 161 [.agg #[W A1 n1 c1,W A2 n2 c2],W A3 n3 c3] ([iE A1 n1 c1 a0.Zh,iE A2 n2 c2 a0.Zj,aX A3 n3 c3 a1]) (fun u post=> ∃A0 n0 c0,u=W A0 n0 c0/\post=[uA A0 n0 c0 r]):=by
 refine ce Tryz.func161 ?_;intro B4;refine ab ?_;obtain ⟨y5,k,h⟩:=aa h;refine gD (oC (EZ k)) ?_;rintro _ _ ⟨_,⟨B6,A7,n7,c7,A8,n8,c8,A9,n9,c9,f3,rfl,rfl⟩,rfl⟩;refine ab ?_;refine ao (fun s L=> ∃a6 p13 a7 p15 a8 b0 b5 b6 b7 b9 d0 d1 d2 d3 d4,sd N a6 p13 a7 p15 a8=some r/\s=[(4,W none 0 0),(5,pV B6 0)]/\L=[iE b0 b5 b6 a6,iE b7 b9 d0 p13,uA d1 d2 d3 a7,bE jC DR d4 p15,ah B6 249 [W b0 b5 b6,W b7 b9 d0,W d1 d2 d3,.map (some d4),iV a8]]) ?_ ?_
 ·refine ab ?_;refine lK (fun m s L=> ∃(d6:W5) (e0:W5) (e1:W4) (p21:(List (Int×Unit))) (e2:Int) (e3:Option Addr) (e4 e5:Nat) (e6:Option Addr) (e7 e8:Nat) (e9:Option Addr) (f0 f1:Nat) (f2:Nat),mf N m d6 e0 e1 p21 e2=some r/\s=[(4,W none 0 0),(5,pV B6 0)]/\L=[iE e3 e4 e5 d6,iE e6 e7 e8 e0,uA e9 f0 f1 e1,bE jC DR f2 p21,ah B6 249 [W e3 e4 e5,W e6 e7 e8,W e9 f0 f1,.map (some f2),iV e2]]) N ?_;intro f4
  refine fun s L=>aM fun d6=>aM fun e0=>aM fun e1=>aM fun p21=>aM fun e2=>aM fun e3=>aM fun e4=>aM fun e5=>aM fun e6=>aM fun e7=>aM fun e8=>aM fun e9=>aM fun f0=>aM fun f1=>aM fun f2=>Lb fun h=> ?_
  rw [mf.eq_2] at h;refine sZ ?_;obtain ⟨f6,k,h⟩:=aa h;refine gD (oC (Bo k)) ?_;rintro _ _ ⟨_,⟨f9,g0,g1,g2,g3,g4,g5,g6,g7,g8,rfl,rfl⟩,rfl⟩;refine dr h ?_ ?_<;>intro h
  ·refine ab ?_;obtain ⟨g9,k,h⟩:=aa h;refine gD (oC (rO k)) ?_;rintro _ _ ⟨_,⟨h0,h1,h2,h3,h4,h5,h6,h7,h8,h9,rfl,rfl⟩,rfl⟩;exact lY
  exact jY
 exact fun s L=>aM fun a6=>aM fun p13=>aM fun a7=>aM fun p15=>aM fun a8=>aM fun b0=>aM fun b5=>aM fun b6=>aM fun b7=>aM fun b9=>aM fun d0=>aM fun d1=>aM fun d2=>aM fun d3=>aM fun d4=>Lb fun h=>eY
def nD (a0:WO)(a1:WW):Option W4:=
 (mu N a0 a1).bind fun y5=>(rp N y5).bind fun y7=>some y7
theorem Gv {N:Nat}{a0:WO}{a1:WW}{r:W4}(h:nD N a0 a1=some r):Okc W8 123 [.agg #[W A1 n1 c1,W A2 n2 c2],W A3 n3 c3] ([iE A1 n1 c1 a0.Zh,iE A2 n2 c2 a0.Zj,aX A3 n3 c3 a1]) (fun u post=> ∃A0 n0 c0,u=W A0 n0 c0/\post=[uA A0 n0 c0 r]):=by
 refine ce Tryz.func123 ?_;intro B4
 refine MG h (fun _ k=>E0 k) fun y5 A6 n6 c6 h=> ?_
 refine cC h (fun _ k=>EO k) fun y7 h=> ?_
 exact eN
def qj (N:Nat)(a6:Int->Int->σ->Option σ)(fy:(Int×Int)->σ->Option (Bool×σ))(p6:Int)(a1:W4)(a7:Int)(a8:σ):Option σ:=
 aG (in64 (p6+1)) (a6 a7 (p6+1) a8)
def lW (N:Nat)(b0 a6:Int->Int->σ->Option σ)(fy:(Int×Int)->σ->Option (Bool×σ))(b5 p6:Int)(a1:W4)(p15 a7:Int)(a8:σ):Option σ:=
 aG (in64 (p15+1)) (a6 a7 (p15+1) a8)
def cZ (N:Nat){σ:Type}(a6:Int->Int->σ->Option σ)(fy:(Int×Int)->σ->Option (Bool×σ))(a7 p6:Int)(a1:W4):Nat->Int->Int->σ->Option σ
 |0,_,_,_=>none
 |b6+1,a8,p15,b0=>bif decide (p15<(a1.length:Int)) then ((au a1 p15).bind fun b7=>bif !decide (b7.tmod 2=a7) then (lW N a6 (cZ N a6 fy a7 p6 a1 b6) fy a7 p6 a1 p15 a8 b0) else ((fy (a8,b7) b0).bind fun b5=>bif !b5.1 then (some b5.2) else (aG (in64 (a8+1)) (lW N a6 (cZ N a6 fy a7 p6 a1 b6) fy a7 p6 a1 p15 (a8+1) b5.2)))) else (qj N a6 fy p6 a1 a8 b0)
def fC (N:Nat){σ:Type}(fy:(Int×Int)->σ->Option (Bool×σ))(a1:W4):Nat->Int->Int->σ->Option σ
 |0,_,_,_=>none
 |m4+1,p5,p6,p7=>bif decide (p6<(([0,1]:List Int).length:Int)) then ((au ([0,1]:List Int) p6).bind fun a6=>cZ N (fC N fy a1 m4) fy a6 p6 a1 N p5 0 p7) else (some p7)
def gv (a1:W4)(fy:(Int×Int)->σ->Option (Bool×σ))(s0:σ):Option σ:=
 fC N fy a1 N 0 0 s0
theorem uT {N:Nat}{fy:(Int×Int)->σ->Option (Bool×σ)}{s0 r:σ}(h:gv N a1 fy s0=some r){G:σ->W6}(hY:tk W8 l G (fun x=> [iV x.1,iV x.2]) fy):Okc W8 163 [.func (.yield l) #[] #[],pV B1 0] (aQ B1 144 [W A2 n2 c2]::xz A2 n2 c2 a1::(G s0)) (fun u post=>u=.tuple #[]/\post=G r):=by
 refine ce Tryz.func163 ?_
 refine vo (aB (R:=(nE .i64)) (vss:=[[iV 0],[iV 1]]) (xs:=[0,1]) J (Oa _ _) J J (fun _ _ hr=> .cons J (.cons J All2.nil))) fun A3 n3 c3=> ?_
 refine lK (fun m s L=> ∃(p5:Int) (p6:Int) (p7:σ),fC N fy a1 m p5 p6 p7=some r/\s=[(0,.func (.yield l) #[] #[]),(1,pV B1 0),(3,iV p5),(8,W A3 n3 c3),(9,iV (([0,1]:List Int).length:Int)),(10,iV p6)]/\L=uA A3 n3 c3 ([0,1]:List Int)::xz A2 n2 c2 a1::aQ B1 144 [W A2 n2 c2]::(G p7)) N ?_;rintro m4 _ _ ⟨p5,p6,p7,h,rfl,rfl⟩;rw [fC.eq_2] at h;refine ab ?_;refine aA<|gH J h (fun h=> ?_) (fun h=> ?_)
 ·refine ab ?_;refine ao (fun s L=> ∃a8 b0,qj N (fC N fy a1 m4) fy p6 a1 a8 b0=some r/\s=[(0,.func (.yield l) #[] #[]),(1,pV B1 0),(3,iV a8),(8,W A3 n3 c3),(9,iV (([0,1]:List Int).length:Int)),(10,iV p6)]/\L=uA A3 n3 c3 ([0,1]:List Int)::xz A2 n2 c2 a1::aQ B1 144 [W A2 n2 c2]::(G b0)) ?_ ?_
  ·refine ab ?_;obtain ⟨a6,b9,c8,c9,h⟩:=bz h;refine ab ?_;refine lK (fun m s L=> ∃(a7:Int) (p15:Int) (b5:σ),cZ N (fC N fy a1 m4) fy a6 p6 a1 m a7 p15 b5=some r/\s=[(0,.func (.yield l) #[] #[]),(1,pV B1 0),(3,iV a7),(5,iV a6),(8,W A3 n3 c3),(9,iV (([0,1]:List Int).length:Int)),(10,iV p6),(14,W A2 n2 c2),(15,iV (a1.length:Int)),(16,iV p15)]/\L=uA A3 n3 c3 ([0,1]:List Int)::xz A2 n2 c2 a1::aQ B1 144 [W A2 n2 c2]::(G b5)) N ?_;rintro d0 _ _ ⟨a7,p15,b5,h,rfl,rfl⟩;rw [cZ.eq_2] at h;refine ab ?_;refine aA<|gH J h (fun h=> ?_) (fun h=> ?_)
   ·refine ab ?_;refine ao (fun s L=> ∃b6 b7,lW N (fC N fy a1 m4) (cZ N (fC N fy a1 m4) fy a6 p6 a1 d0) fy a6 p6 a1 p15 b6 b7=some r/\s=[(0,.func (.yield l) #[] #[]),(1,pV B1 0),(3,iV b6),(5,iV a6),(8,W A3 n3 c3),(9,iV (([0,1]:List Int).length:Int)),(10,iV p6),(14,W A2 n2 c2),(15,iV (a1.length:Int)),(16,iV p15)]/\L=uA A3 n3 c3 ([0,1]:List Int)::xz A2 n2 c2 a1::aQ B1 144 [W A2 n2 c2]::(G b7)) ?_ ?_
    ·refine ab ?_;obtain ⟨d1,d2,d3,d4,h⟩:=bz h;refine sY ?_;refine ga (sm J J (by decide)) ?_;refine gH J h ?_ ?_<;>intro h
     ·exact jY
     refine sY ?_;obtain ⟨d6,k,h⟩:=aa h;refine gD (vM (a:=(a7,d1)) [uA A3 n3 c3 ([0,1]:List Int),xz A2 n2 c2 a1,aQ B1 144 [W A2 n2 c2]] hY k J J) ?_;rintro _ _ ⟨rfl,rfl⟩;refine dr h ?_ ?_<;>intro h
     ·exact eY
     refine ab ?_;obtain ⟨e0,h⟩:=ae h;exact jY
    rintro _ _ ⟨b6,b7,h,rfl,rfl⟩;refine ab ?_;obtain ⟨e1,h⟩:=ae h;exact lY
   exact jY
  rintro _ _ ⟨a8,b0,h,rfl,rfl⟩;refine ab ?_;obtain ⟨e2,h⟩:=ae h;exact lY
 exact eY
def my (N:Nat)(a0:W4):Option Unit:=
 some ()
theorem yo {N:Nat}{a0:W4}{r:Unit}(h:my N a0=some r):Okc W8 124 [W A1 n1 c1] ([xz A1 n1 c1 a0]) (fun u post=> ∃a6,u=.func (.func 163) #[] #[pV a6 0]/\post=[ah a6 144 [W A1 n1 c1]]):=by
 refine ce Tryz.func124 ?_;intro B2;refine ab ?_;refine ga (iY J) ?_;exact eN
def jK (a0:WK)(a1:W4):Option Bool:=
 (jT N a1 a0.N).bind fun y4=>some y4
theorem CJ {N:Nat}{a0:WK}{r:Bool}(h:jK N a0 a1=some r):Okc W8 167 [(aE a0),pV B1 0] ([aQ B1 144 [W A2 n2 c2],xz A2 n2 c2 a1]) (fun u post=>u=.bool r/\post=[]):=by
 refine ce Tryz.func167 ?_;intro B3
 refine cR h (fun _ k=>tK k) fun y4 h=> ?_
 exact eN
def kr (N:Nat)(ff:WK->Option Bool)(y6:WI)(a6:WK×WK):(WW)->Option (Option Exit×WW)
 |p13=>(ff a6.1).bind fun a7=>bif a7 then (aG (bu (p13.length+([a6.1,a6.2]:List WK).length)) (some (none,p13++([a6.1,a6.2]:List WK)))) else (some (none,p13))
def xB (a0:WI)(ff:WK->Option Bool):Option WI:=
 (fT N a0).bind fun y6=>(mY N a0).bind fun a7=>(jR N a0 (cM (fun x st=>kr N ff y6 x st)) (none,[])).bind fun a6=>qN a6.1 (some (⟨y6.Za,y6.Zi,y6.Ze,y6.Zf,y6.Zc,a6.2⟩:WI)) none (fun _=>none)
theorem HW {N:Nat}{ff:WK->Option Bool}{r:WI}(h:xB N a0 ff=some r){vf:Value}{G:W6}(hf:Qn W8 vf G (fun x=> [.agg #[iV x.Za,iV x.N,.string x.S]]) (fun r=> .bool r) ff):Okc W8 166 [.agg #[iV a0.Za,iV a0.Zi,iV a0.Ze,iV a0.Zf,W A1 n1 c1,W A2 n2 c2],vf] (aX A1 n1 c1 a0.Zc::aX A2 n2 c2 a0.Zb::G) (fun u post=> ∃A0 n0 c0 A1 n1 c1,u=.agg #[iV r.Za,iV r.Zi,iV r.Ze,iV r.Zf,W A0 n0 c0,W A1 n1 c1]/\post=[bf A0 n0 c0 r.Zc,bf A1 n1 c1 r.Zb]):=by
 refine ce Tryz.func166 ?_;intro B3
 refine We (qY J (Po hf)) fun B4=> ?_
 intro B5
 refine IK h (fun _ k=>iO k) fun y6 A7 n7 c7 A8 n8 c8 h=> ?_
 intro B9;refine sY ?_;obtain ⟨d3,k,h⟩:=aa h;refine gD (oR (wX k)) ?_;rintro _ _ ⟨_,⟨b5,rfl,rfl⟩,rfl⟩;refine ab ?_;refine gI ?_ bw (kZ 0 J);refine ab ?_;obtain ⟨b6,k,h⟩:=aa h;refine uw (en:=(fun x=> [.agg #[iV x.1.Za,iV x.1.N,.string x.1.S],.agg #[iV x.2.Za,iV x.2.N,.string x.2.S]])) (fun x st=>kr N ff y6 x st) (fun (st:WW) (mz:((Option Addr×Nat×Nat)))=> [ah B4 26 [vf],ah B5 94 [iV 0,iV 0,iV 0,iV 0,W none 0 0,W none 0 0],bf A7 n7 c7 y6.Zc,bc ax 28 (.slice mz.1 mz.2.1 mz.2.2) st,ah B9 94 (iL y6 A7 n7 c7 mz.1 mz.2.1 mz.2.2)]++G) [aQ b5 94 (iL a0 A1 n1 c1 A2 n2 c2),aX A1 n1 c1 a0.Zc,aX A2 n2 c2 a0.Zb] ([]) ((none,0,0)) J J call221.out J (fun _=>J) (fun l G hY=>(tx k hY).mono fun _ _ hh=>hh.2) ((cj ax 28 _).trans (bP [1,8,9] [] [6,5,3,0,2] 10 J)) h ?_ ?_ ?_ ?_
 ·rintro l a6 p13 je sr12 ⟨a7,a8,b0⟩ h;replace h:kr N ff y6 a6 p13=some (je,sr12):=h;simp only [AO,Yt,Yu,Yv,Yn,Yo,Y3,Xs]
  refine cn fun b7=> ?_
  intro b9;refine ab ?_;obtain ⟨d4,k,h⟩:=aa h;refine gD (Jt (a:=a6.1) [ah b9 28 [iV a6.2.Za,iV a6.2.N,.string a6.2.S],ah b7 28 [iV a6.1.Za,iV a6.1.N,.string a6.1.S],ah B4 26 [vf],ah B5 94 [iV 0,iV 0,iV 0,iV 0,W none 0 0,W none 0 0],bf A7 n7 c7 y6.Zc,bf a7 a8 b0 p13,ah B9 94 (iL y6 A7 n7 c7 a7 a8 b0)] hf k J J) ?_;rintro _ _ ⟨rfl,rfl⟩;refine dr h ?_ ?_<;>intro h
  ·refine ab ?_;refine gD (aB (R:=ax) (vss:=[[iV a6.1.Za,iV a6.1.N,.string a6.1.S],[iV a6.2.Za,iV a6.2.N,.string a6.2.S]]) (xs:=[a6.1,a6.2]) J (J3 _ _ _ _ _ _) J J (fun _ _ hr=> .cons J (.cons J All2.nil))) ?_;rintro _ _ ⟨d6,e0,e1,rfl,rfl⟩;obtain ⟨c9,h⟩:=ae h
   refine vo (aR 6 0 J J ap J J t9 r9 J J c9) fun d0 d1 d2=> ?_
   obtain ⟨rfl,rfl⟩:=YN (YL h);exact Dr ((cS [3,4,5,6,7] 8).trans (gb (d0,d1,d2) J))
  refine ab ?_;obtain ⟨rfl,rfl⟩:=YN (YL h);exact Dr ((cS [2,3,4,5,6] 7).trans (gb (a7,a8,b0) J))
 ·rintro ⟨a7,a8,b0⟩ h;refine qA (ah B4 26 [vf]::ah B5 94 [iV 0,iV 0,iV 0,iV 0,W none 0 0,W none 0 0]::bf A7 n7 c7 y6.Zc::bf a7 a8 b0 b6.2::ah B9 94 (iL y6 A7 n7 c7 a7 a8 b0)::G) J<|ab ?_;obtain rfl:=bF h;exact kB (rs:=[.cell 4 94]) (vs:=[.agg #[iV y6.Za,iV y6.Zi,iV y6.Ze,iV y6.Zf,W A7 n7 c7,W a7 a8 b0]]) J (.cons (du 1 J J agg94.out) .nil) J (RY [2,3] 5 J J) ⟨_,_,_,_,_,_,J,J⟩
 ·rintro ⟨a7,a8,b0⟩ h;exact aU h
 rintro i ⟨a7,a8,b0⟩ h;exact aU h
def pO (a0:WI)(a1:W4):Option WI:=
 (vC N a0).bind fun y7=>bif !y7 then (some (⟨0,0,0,0,[],[]⟩:WI)) else ((xB N a0 (fun x=>jK N x a1)).bind fun a6=>some a6)
theorem Gp {N:Nat}{r:WI}(h:pO N a0 a1=some r):Okc W8 126 [.agg #[iV a0.Za,iV a0.Zi,iV a0.Ze,iV a0.Zf,W A1 n1 c1,W A2 n2 c2],W A3 n3 c3] ([aX A1 n1 c1 a0.Zc,aX A2 n2 c2 a0.Zb,xz A3 n3 c3 a1]) (fun u post=> ∃A0 n0 c0 A1 n1 c1,u=.agg #[iV r.Za,iV r.Zi,iV r.Ze,iV r.Zf,W A0 n0 c0,W A1 n1 c1]/\post=[bf A0 n0 c0 r.Zc,bf A1 n1 c1 r.Zb]):=by
 refine ce Tryz.func126 ?_;intro B4
 refine cn fun B5=> ?_
 intro B6;refine sY ?_
 refine cR h (fun _ k=>EE k) fun y7 h=> ?_
 refine gH J h ?_ ?_<;>intro h
 ·refine ab ?_;obtain rfl:=bF h;exact kB (rs:=[.cell 4 94]) (vs:=[.agg #[iV 0,iV 0,iV 0,iV 0,W none 0 0,W none 0 0]]) J (.cons (du 0 J J agg94.out) .nil) J ((cj ax 28 _).trans ((cj ax 28 _).trans (cS [1,0] 8))) ⟨_,_,_,_,_,_,J,J⟩
 refine ab ?_;refine gE (iY J) ?_;obtain ⟨a6,k,h⟩:=aa h
 refine St (oR (HW k ⟨t5 J (t5 J aw),167, #[], #[pV B5 0],J,call167.out,fun _ _ hh=>CJ hh⟩)) fun a7 a8 b0 b5 b6 b7=> ?_
 exact eN
def uX (a0:WI):Option Bool:=
 (bif decide (a0.Za=10) then ((gM N a0).bind fun y5=>some y5) else (some false)).bind fun b4=>some b4
theorem Ix {N:Nat}{r:Bool}(h:uX N a0=some r):Okc W8 169 [.agg #[iV a0.Za,iV a0.Zi,iV a0.Ze,iV a0.Zf,W A1 n1 c1,W A2 n2 c2]] ([aX A1 n1 c1 a0.Zc,aX A2 n2 c2 a0.Zb]) (fun u post=>u=.bool r/\post=[]):=by
 refine ce Tryz.func169 ?_;intro B3;refine ab ?_
 refine oo 3 9 6 h (fun _ g4 h=> ?_) fun b4 h=> ?_
 ·refine cR h (fun _ k=>mD k) fun y5 h=> ?_
  exact gY
 exact eY
theorem FT {r:Bool}: ∀v post,((fun (u:Value) (post:W6)=>u=.bool r/\post=[])) v post-> ∀c∈post,im c:=by
 rintro _ _ ⟨rfl,rfl⟩;exact aw
def vp (a0:WI):Option WI:=
 (dv N a0.Zc).bind fun y5=>(au a0.Zb 0).bind fun x7=>some (⟨a0.Za,a0.Zi,a0.Ze,a0.Zf,y5,([x7]:List WK)⟩:WI)
theorem FU {N:Nat}{r:WI}(h:vp N a0=some r):Okc W8 170 [.agg #[iV a0.Za,iV a0.Zi,iV a0.Ze,iV a0.Zf,W A1 n1 c1,W A2 n2 c2]] ([aX A1 n1 c1 a0.Zc,aX A2 n2 c2 a0.Zb]) (fun u post=> ∃A0 n0 c0 A1 n1 c1,u=.agg #[iV r.Za,iV r.Zi,iV r.Ze,iV r.Zf,W A0 n0 c0,W A1 n1 c1]/\post=[bf A0 n0 c0 r.Zc,bf A1 n1 c1 r.Zb]):=by
 refine ce Tryz.func170 ?_;intro B3
 refine cn fun B4=> ?_
 refine MG h (fun _ k=>jL k) fun y5 A6 n6 c6 h=> ?_
 obtain ⟨x7,a6,a7,a8,h⟩:=bz h;refine ab ?_
 refine vo (aB (R:=ax) (vss:=[[iV x7.Za,iV x7.N,.string x7.S]]) (xs:=[x7]) J (jr _ _ _) J J (fun _ _ hr=> .cons J All2.nil)) fun A8 n8 c8=> ?_
 exact eN
theorem Dg {r:WI}: ∀v post,((fun (u:Value) (post:W6)=> ∃A0 n0 c0 A1 n1 c1,u=.agg #[iV r.Za,iV r.Zi,iV r.Ze,iV r.Zf,W A0 n0 c0,W A1 n1 c1]/\post=[bf A0 n0 c0 r.Zc,bf A1 n1 c1 r.Zb])) v post-> ∀c∈post,im c:=by
 rintro _ _ ⟨_,_,_,_,_,_,rfl,rfl⟩;exact t5 qp (t5 qp (aw))
def ig (N:Nat){σ:Type}(fy:(Int×WW)->σ->Option (Bool×σ))(a1:WI):Nat->Int->σ->Option σ
 |0,_,_=>none
 |m4+1,p5,p6=>aG (in64 (p5+4)) (bif decide (p5+4<=(a1.Zb.length:Int)) then (aG (in64 (p5+4)) (aG (in64 (p5+4)) (aG ((0:Int)<=p5/\(0:Int)<=p5+4/\p5.toNat<=(p5+4).toNat/\(p5+4).toNat<=a1.Zb.length) ((fy (p5,(a1.Zb.drop p5.toNat).take ((p5+4).toNat - p5.toNat)) p6).bind fun a6=>bif !a6.1 then (some a6.2) else (aG (in64 (p5+4)) ((ig N fy a1 m4) (p5+4) a6.2)))))) else (some p6))
def oq (a1:WI)(fy:(Int×WW)->σ->Option (Bool×σ))(s0:σ):Option σ:=
 ig N fy a1 N 1 s0
theorem yx {N:Nat}{a1:WI}{fy:(Int×WW)->σ->Option (Bool×σ)}{s0 r:σ}(h:oq N a1 fy s0=some r){G:σ->W6}(hY:wc W8 l G (fun (x:Int×WW) vs cs=> ∃A1 n1 c1,vs=[iV x.1,W A1 n1 c1]/\cs=[aX A1 n1 c1 x.2]) fy):Okc W8 197 [.func (.yield l) #[] #[],pV B1 0] (aQ B1 94 (iL a1 A2 n2 c2 A3 n3 c3)::aX A2 n2 c2 a1.Zc::aX A3 n3 c3 a1.Zb::(G s0)) (fun u post=>u=.tuple #[]/\post=G r):=by
 refine ce Tryz.func197 ?_;refine lK (fun m s L=> ∃(p5:Int) (p6:σ),ig N fy a1 m p5 p6=some r/\s=[(0,.func (.yield l) #[] #[]),(1,pV B1 0),(3,iV p5)]/\L=aX A2 n2 c2 a1.Zc::aX A3 n3 c3 a1.Zb::aQ B1 94 (iL a1 A2 n2 c2 A3 n3 c3)::(G p6)) N ?_;rintro m4 _ _ ⟨p5,p6,h,rfl,rfl⟩;rw [ig.eq_2] at h;refine sZ ?_;obtain ⟨q7,h⟩:=ae h;refine dr h ?_ ?_<;>intro h
 ·refine sY ?_;obtain ⟨q9,h⟩:=ae h;refine ab ?_;obtain ⟨b6,h⟩:=ae h;refine ab ?_;obtain ⟨a6,h⟩:=ae h;refine Ql 1 J (l:=p5.toNat) (h:=(p5+4).toNat) a6.2.2.1 a6.2.2.2 ?_;rintro a7 a8 b0 b5;refine gR (LN 2 J b5 J t9 size28.out J (by rw [Xn a6.1];rfl) (by rw [Xn a6.2.1];rfl) (by rw [Xn a6.2.1];rfl) a6.2.2.1 a6.2.2.2) ?_;obtain ⟨b7,k,h⟩:=aa h;refine gD (G8 (a:=(p5,(a1.Zb.drop p5.toNat).take ((p5+4).toNat - p5.toNat))) [aX a7 a8 b0 ((a1.Zb.drop p5.toNat).take ((p5+4).toNat - p5.toNat)),aX A2 n2 c2 a1.Zc,aX A3 n3 c3 a1.Zb,aQ B1 94 (iL a1 A2 n2 c2 A3 n3 c3)] hY k J J ⟨_,_,_,J,J⟩ (Lj 0 J J)) ?_;rintro _ _ ⟨rfl,rfl⟩;refine dr h ?_ ?_<;>intro h
  ·exact eY
  refine ab ?_;obtain ⟨b9,h⟩:=ae h;exact lY
 exact eY
def rd (N:Nat)(a0:WI):Option Unit:=
 some ()
theorem Cj {N:Nat}{r:Unit}(h:rd N a0=some r):Okc W8 171 [.agg #[iV a0.Za,iV a0.Zi,iV a0.Ze,iV a0.Zf,W A1 n1 c1,W A2 n2 c2]] ([aX A1 n1 c1 a0.Zc,aX A2 n2 c2 a0.Zb]) (fun u post=> ∃a6,u=.func (.func 197) #[] #[pV a6 0]/\post=[ah a6 94 (iL a0 A1 n1 c1 A2 n2 c2)]):=by
 refine ce Tryz.func171 ?_;intro B3;refine ab ?_;refine ga (iY J) ?_;exact eN
theorem zK {A1:Option Addr}{n1 c1:Nat}{A2:Option Addr}{n2 c2:Nat}: ∀v post,((fun (u:Value) (post:W6)=> ∃a6,u=.func (.func 197) #[] #[pV a6 0]/\post=[ah a6 94 [iV a0.Za,iV a0.Zi,iV a0.Ze,iV a0.Zf,W A1 n1 c1,W A2 n2 c2]])) v post-> ∀c∈post,im c:=by
 rintro _ _ ⟨_,rfl,rfl⟩;exact t5 Cg (aw)
def nP (N:Nat)(a6:Int×WW)(a0:WI)(c9:(List (Int×Bool)))(d0:WI)(a7 c8:WW)(a8 b0:Int)(b5:ByteArray):Option (Option Exit×WW×WW):=
 (au a6.2 0).bind fun b6=>(au a6.2 1).bind fun b7=>(au a6.2 3).bind fun b9=>aG (bu (a7.length+([b6,b7,(⟨a8,b0,b5⟩:WK),b9]:List WK).length)) (some (none,(a7++([b6,b7,(⟨a8,b0,b5⟩:WK),b9]:List WK),c8)))
def gG (a0:WI)(a8:(List (Int×Bool)))(b6:WI)(a6:Int×WW):(WW×WW)->Option (Option Exit×(WW×WW))
 |(b5,b0)=>(au a6.2 0).bind fun c9=>bif !((lk a8 c9.N).getD false) then ((au a0.Zb 0).bind fun b7=>(au a6.2 1).bind fun b9=>(au a6.2 3).bind fun c8=>aG (bu (b0.length+([b7,b9,c8]:List WK).length)) (some (none,(b5,b0++([b7,b9,c8]:List WK))))) else ((au a6.2 2).bind fun a7=>(bif decide (a7.Za=7) then (some (!((lk a8 a7.N).getD false))) else (some false)).bind fun d0=>bif d0 then (nP N a6 a0 a8 b6 b5 b0 0 0 (⟨#[]⟩)) else (nP N a6 a0 a8 b6 b5 b0 a7.Za a7.N a7.S))
def rf (a0:WI)(a8:(List (Int×Bool))):Option (WI×WW):=
 (vp N a0).bind fun a6=>(rd N a0).bind fun b0=>(oq N a0 (cM (fun x st=>gG N a0 a8 a6 x st)) (none,(a6.Zb,[]))).bind fun a7=>qN a7.1 (some ((⟨a6.Za,a6.Zi,a6.Ze,a6.Zf,a6.Zc,a7.2.1⟩:WI),a7.2.2)) none (fun _=>none)
def jf (N:Nat)(a1:W4)(a0:WI):Nat->Int->(List (Int×Bool))->Option (WI×WW)
 |0,_,_=>none
 |a8+1,a6,a7=>bif decide (a6<(a1.length:Int)) then ((au a1 a6).bind fun b0=>aG (in64 (a6+1)) ((jf N a1 a0 a8) (a6+1) (AZ a7 b0 true))) else (rf N a0 a7)
def ns (a0:WI)(a1:W4):Option (WI×WW):=
 (uX N a0).bind fun y6=>bif !y6 then (some ((⟨0,0,0,0,[],[]⟩:WI),[])) else (jf N a1 a0 N 0 ([]:(List (Int×Bool))))
theorem D9 {N:Nat}{r:WI×WW}(h:ns N a0 a1=some r):Okc W8 127 [.agg #[iV a0.Za,iV a0.Zi,iV a0.Ze,iV a0.Zf,W A1 n1 c1,W A2 n2 c2],W A3 n3 c3] ([aX A1 n1 c1 a0.Zc,aX A2 n2 c2 a0.Zb,xz A3 n3 c3 a1]) (fun u post=> ∃A0 n0 c0 A1 n1 c1 A2 n2 c2,u=.tuple #[.agg #[iV r.1.Za,iV r.1.Zi,iV r.1.Ze,iV r.1.Zf,W A0 n0 c0,W A1 n1 c1],W A2 n2 c2]/\post=[bf A0 n0 c0 r.1.Zc,bf A1 n1 c1 r.1.Zb,bf A2 n2 c2 r.2]):=by
 refine CZ Tryz.func127 J J ?_;simp only [qM];refine Y ?_
 refine gB (qY J J) fun B4=>gB (bJ zero94.out J) fun B5=>Y ?_
 refine aA<|Y ?_;refine gR (aC (us:=(iL a0 A1 n1 c1 A2 n2 c2)) 1 J J agg94.out J) ?_;obtain ⟨y6,k,h⟩:=aa h;refine gV (aJ (Ix k) J (t5 (dN (i:=2) J J) (t5 (dN (i:=3) J J) aw)) FT)<|Y ?_;refine gH J h ?_ ?_<;>intro h
 ·refine Y ?_;refine gE (nv J bld_94_.out)<|gW (am (us:=[iV 0,iV 0,iV 0,iV 0,W none 0 0,W none 0 0]) (cs':=[iV 0,iV 0,iV 0,iV 0,W none 0 0,W none 0 0]) 0 J J J J size94.out J J J)<|Y ?_;obtain rfl:=bF h;exact kB (rs:=[.cell 4 94,.tmp 5]) (vs:=[.agg #[iV 0,iV 0,iV 0,iV 0,W none 0 0,W none 0 0],W none 0 0]) J (.cons (du 0 J J agg94.out) (.cons (dS J) .nil)) J ((cj ax 28 _).trans ((cj ax 28 _).trans ((cj ax 28 _).trans (cS [2,1,0] 8)))) ⟨_,_,_,_,_,_,_,_,_,J,J⟩
 refine Y ?_;refine gR (lO 4 J bi J Wk)<|gD (Js (ek:=jC) (ev:=qL) J Wu) ?_;rintro _ _ ⟨a7,rfl,rfl⟩
 refine gB (bJ zero211.out J) fun d1=>gW (am (us:=[.map (some a7)]) (cs':=[.map (some a7)]) 0 J J J J size211.out J J J)<|Y ?_
 refine ao (fun s L=> ∃d3,rf N a0 d3=some r/\s=[(2,pV B4 0),(4,pV B5 0),(5,W none 0 0),(6,pV d1 0)]/\L=[aX A1 n1 c1 a0.Zc,aX A2 n2 c2 a0.Zb,ah B4 94 (iL a0 A1 n1 c1 A2 n2 c2),ah B5 94 [iV 0,iV 0,iV 0,iV 0,W none 0 0,W none 0 0],bE jC qL a7 d3,ah d1 211 [.map (some a7)]]) ?_ ?_
 ·refine Y ?_;refine gR (lO 6 J bi J Wk)<|Y ?_;refine kq (fun m s L=> ∃f6 f2,jf N a1 a0 m f6 f2=some r/\s=[(2,pV B4 0),(4,pV B5 0),(5,W none 0 0),(6,pV d1 0),(21,W A3 n3 c3),(22,iV (a1.length:Int)),(23,iV f6)]/\L=[xz A3 n3 c3 a1,aX A1 n1 c1 a0.Zc,aX A2 n2 c2 a0.Zb,ah B4 94 (iL a0 A1 n1 c1 A2 n2 c2),ah B5 94 [iV 0,iV 0,iV 0,iV 0,W none 0 0,W none 0 0],bE jC qL a7 f2,ah d1 211 [.map (some a7)]]) N _ _ ⟨0,([]:(List (Int×Bool))),h,J,J⟩ sA (cS [6,4,5,3,2,1,0] 7) ?_;rintro (_|j4) _ _ ⟨f6,f2,h,rfl,rfl⟩
  ·exact aU h
  rw [jf.eq_2] at h;refine Y ?_;refine aA<|gH J h (fun h=> ?_) (fun h=> ?_)
  ·refine Y ?_;refine aA<|Y ?_;obtain ⟨g4,g5,g6,g7,h⟩:=bz h;refine gR (cT 0 J bi J J Wk size3.out g5 g6)<|gR (mg (u:=iV g4) 0 J bi J g7 rR (fun _ _ _ h=>by rw [show _=_ from h];rfl))<|Y ?_;refine gW (nK (a:=g4) (b:=true) 5 J J J J Wu (kX Wo))<|mq ?_;refine Y ?_;obtain ⟨j2,h⟩:=ae h;refine gE (iN J J j2.1 j2.2)<|Y ?_;exact ⟨j4,_,_,WZ _,⟨f6+1,AZ f2 g4 true,h,J,J⟩,sA,cS [0,1,2,3,4,5,6] 7⟩
  refine Y ?_;exact ⟨_,_,⟨f2,h,J,J⟩,sA,cS [1,2,3,4,5,6] 7⟩
 rintro _ _ ⟨d3,h,rfl,rfl⟩;refine Y ?_;refine gR (aC (us:=(iL a0 A1 n1 c1 A2 n2 c2)) 2 J J agg94.out J) ?_;obtain ⟨a6,k,h⟩:=aa h;refine gD (aJ (FU k) J (t5 (dN (i:=0) J J) (t5 (dN (i:=1) J J) aw)) Dg) ?_;rintro _ _ ⟨_,⟨a8,b0,b5,g8,g9,h0,rfl,rfl⟩,rfl⟩
 refine gB (bJ zero94.out J) fun e4=>gW (am (us:=(iL a6 a8 b0 b5 g8 g9 h0)) (cs':=(iL a6 a8 b0 b5 g8 g9 h0)) 0 J J J J size94.out J J J)<|Y ?_
 refine gB (bJ zero22.out J) fun e5=>Y ?_
 refine aA<|Y ?_;refine gR (aC (us:=(iL a0 A1 n1 c1 A2 n2 c2)) 6 J J agg94.out J) ?_;obtain ⟨l2,k,h⟩:=aa h;refine gD (aJ (Cj k) J (t5 (dN (i:=4) J J) (t5 (dN (i:=5) J J) aw)) zK) ?_;rintro _ _ ⟨_,⟨j5,rfl,rfl⟩,rfl⟩;refine Ag<|qF<|gI ?_ bw (kZ 0 J);obtain ⟨f9,k,h⟩:=aa h;refine HQ (R:=(fun (x:Int×WW) vs cs=> ∃A1 n1 c1,vs=[iV x.1,W A1 n1 c1]/\cs=[aX A1 n1 c1 x.2])) (fun x st=>gG N a0 d3 a6 x st) (fun (st:WW×WW) (mz:((Option Addr×Nat×Nat)×(Option Addr×Nat×Nat)))=> [aX A1 n1 c1 a0.Zc,aX A2 n2 c2 a0.Zb,ah B4 94 (iL a0 A1 n1 c1 A2 n2 c2),ah B5 94 [iV 0,iV 0,iV 0,iV 0,W none 0 0,W none 0 0],bE jC qL a7 d3,ah d1 211 [.map (some a7)],bf a8 b0 b5 a6.Zc,bc ax 28 (.slice mz.1.1 mz.1.2.1 mz.1.2.2) st.1,ah e4 94 (iL a6 a8 b0 b5 mz.1.1 mz.1.2.1 mz.1.2.2),bc ax 28 (.slice mz.2.1 mz.2.2.1 mz.2.2.2) st.2,ah e5 22 [.slice mz.2.1 mz.2.2.1 mz.2.2.2]]) [aQ j5 94 (iL a0 A1 n1 c1 A2 n2 c2),aX A1 n1 c1 a0.Zc,aX A2 n2 c2 a0.Zb] ((a6.Zb,[])) (((g8,g9,h0),(none,0,0))) J J call197.out J (by rintro _ _ _ ⟨_,_,_,rfl,rfl⟩;rfl) (fun l G hY=>(yx k hY).mono fun _ _ hh=>hh.2) ((cj ax 28 _).trans (bP [1,6,7] [] [6,7,8,9,10,11,4,5,3,0,2] 12 J)) h ?_ ?_ ?_ ?_
 ·rintro l f3 ⟨g0,f4⟩ je sr28 ⟨⟨c8,c9,d0⟩,⟨b6,b7,b9⟩⟩ h _ _ ⟨e1,e2,e3,rfl,rfl⟩;replace h:gG N a0 d3 a6 f3 (g0,f4)=some (je,sr28):=h;simp only [AO,Yt,Yu,Yv,Yn,Yo,Y3,Xs];refine Y ?_;refine aA<|dY [0,1] ?_;obtain ⟨j6,h1,h2,j7,h⟩:=bz h;refine zY [2] ?_;refine zR 3 J (uJ 0 J bi J (toNat_lt h1 h2) Mr) ?_;refine zY [4] ?_;refine zR 5 J (Ji (a:=j6.N) (z:=false) 5 J Fz J J Wu (kX Wo) zero4.out) ?_;refine zX [6] ?_;refine qF<|gH J h (fun h=> ?_) (fun h=> ?_)
  ·refine aA ?_;obtain ⟨d4,h3,h4,h5,h⟩:=bz h;obtain ⟨d6,h6,h7,h8,h⟩:=bz h;obtain ⟨e0,h9,i0,i1,h⟩:=bz h;refine gI (t:=[(2,pV B4 0),(4,pV B5 0),(5,W none 0 0),(6,pV d1 0),(9,pV e4 0),(10,pV e5 0),(12,W e1 e2 e3)]) ?_ mc (ad _)
   refine iQ O 12 [] [0,11] [43,44,45,46,47,48,49,50,51,52,53,54] [[],[],[1],[2],[3],[],[5],[6],[],[8],[9],[4,7,10]] [aV (W b6 b7 b9),
aV (pV B4 5),
aV (W A2 n2 c2),
aV (dD (W A2 n2 c2) ((0:Int).toNat) 3 0),
aV (.agg #[iV d4.Za,iV d4.N,.string d4.S]),
aV (W e1 e2 e3),
aV (dD (W e1 e2 e3) ((1:Int).toNat) 3 0),
aV (.agg #[iV d6.Za,iV d6.N,.string d6.S]),
aV (W e1 e2 e3),
aV (dD (W e1 e2 e3) ((3:Int).toNat) 3 0),
aV (.agg #[iV e0.Za,iV e0.N,.string e0.S]),
aX3 (fun (e6:Option Addr) (e7 e8:Nat)=> W e6 e7 e8) (fun e6 e7 e8=> [bf e6 e7 e8 ([d4,d6,e0]:List WK)])] [] (ad _) (lV) O rfl rfl ?_ ?_ ?_
   ·exact lU
   ·refine aF J ?_ ?_
    ·refine tl (aB (R:=ax) (vss:=[[iV d4.Za,iV d4.N,.string d4.S],[iV d6.Za,iV d6.N,.string d6.S],[iV e0.Za,iV e0.N,.string e0.S]]) (xs:=[d4,d6,e0]) J (Cy _ _ _ _ _ _ _ _ _) J J (fun _ _ hr=> .cons J (.cons J (.cons J All2.nil)))) J ?_;rintro _ _ ⟨j8,j9,k0,rfl,rfl⟩;exact N3 j8 j9 k0 (ad _)
    refine aF J (yQ (eU (us:=[iV e0.Za,iV e0.N,.string e0.S]) 0 J bi J i1 agg28.out (fun _ _ _ h=>by rw [show _=_ from h];rfl)) J (iH J (ad _)))<|qR (cT 0 J bi J J t9 size28.out h9 i0) ?_;refine qE (aq J) ?_;refine aF J (yQ (eU (us:=[iV d6.Za,iV d6.N,.string d6.S]) 0 J bi J h8 agg28.out (fun _ _ _ h=>by rw [show _=_ from h];rfl)) J (iH J (ad _)))<|qR (cT 0 J bi J J t9 size28.out h6 h7) ?_;refine qE (aq J) ?_;refine aF J (yQ (eU (us:=[iV d4.Za,iV d4.N,.string d4.S]) 2 J bi J h5 agg28.out (fun _ _ _ h=>by rw [show _=_ from h];rfl)) J (iH J (ad _)))<|qR (cT 2 J bi J J t9 size28.out h3 h4) ?_;refine qR (bM 3 J J sC J) ?_;refine qE (jD J wO) ?_;refine qR (bM 11 J J sC J) ?_;exact dI
   intro e6 e7 e8;refine oa (t:=[(43,W b6 b7 b9),(54,W e6 e7 e8),(2,pV B4 0),(4,pV B5 0),(5,W none 0 0),(6,pV d1 0),(9,pV e4 0),(10,pV e5 0),(12,W e1 e2 e3)]) (L':=[bf e6 e7 e8 ([d4,d6,e0]:List WK),aX e1 e2 e3 f3.2,aX A1 n1 c1 a0.Zc,aX A2 n2 c2 a0.Zb,ah B4 94 (iL a0 A1 n1 c1 A2 n2 c2),ah B5 94 [iV 0,iV 0,iV 0,iV 0,W none 0 0,W none 0 0],bE jC qL a7 d3,ah d1 211 [.map (some a7)],bf a8 b0 b5 a6.Zc,bf c8 c9 d0 g0,ah e4 94 (iL a6 a8 b0 b5 c8 c9 d0),bf b6 b7 b9 f4,ah e5 22 [W b6 b7 b9]]) ?_ mc (ad _);obtain ⟨k1,h⟩:=ae h;refine uv 12 J O (aR 11 0 J J ap J J t9 r9 J J k1) J J J ?_;rintro _ _ ⟨i2,i3,i4,rfl,rfl⟩;refine Ab ?_;refine pL 13 J O (am (us:=[W i2 i3 i4]) (cs':=[W i2 i3 i4]) 12 J J J J size22.out J J J) J J ?_;rintro _ _ rfl;refine mb O<|Y ?_;obtain ⟨rfl,rfl⟩:=YN (YL h);exact Dr ((cS [2,3,4,5,6,7,8,9,10,11,12] 13).trans (gb ((c8,c9,d0),(i2,i3,i4)) J))
  refine Y ?_;obtain ⟨d2,i5,i6,i7,h⟩:=bz h
  refine gR (cT 0 J bi J J t9 size28.out i5 i6)<|gR (eU (us:=[iV d2.Za,iV d2.N,.string d2.S]) 0 J bi J i7 agg28.out (fun _ _ _ h=>by rw [show _=_ from h];rfl))<|gB (bJ zero28.out J) fun i8=>gW (am (us:=[iV d2.Za,iV d2.N,.string d2.S]) (cs':=[iV d2.Za,iV d2.N,.string d2.S]) 0 J J J J size28.out J J J)<|Y ?_
  refine ao (fun s L=> ∃e9 f0 f1,nP N f3 a0 d3 a6 g0 f4 e9 f0 f1=some (je,sr28)/\s=[(2,pV B4 0),(4,pV B5 0),(5,W none 0 0),(6,pV d1 0),(9,pV e4 0),(10,pV e5 0),(12,W e1 e2 e3),(13,pV i8 0)]/\L=[aX e1 e2 e3 f3.2,aX A1 n1 c1 a0.Zc,aX A2 n2 c2 a0.Zb,ah B4 94 (iL a0 A1 n1 c1 A2 n2 c2),ah B5 94 [iV 0,iV 0,iV 0,iV 0,W none 0 0,W none 0 0],bE jC qL a7 d3,ah d1 211 [.map (some a7)],bf a8 b0 b5 a6.Zc,bf c8 c9 d0 g0,ah e4 94 (iL a6 a8 b0 b5 c8 c9 d0),bf b6 b7 b9 f4,ah e5 22 [W b6 b7 b9],ah i8 28 [iV e9,iV f0,.string f1]]) ?_ ?_
  ·refine Y ?_
   refine JJ 6 68 62 h (fun _ j3 h=> ?_) (fun _ j3 h=> ?_) fun l3 h=> ?_
   ·refine Y ?_;refine r8 (Ji (a:=d2.N) (z:=false) 6 J Fz J J Wu (kX Wo) zero4.out) J (bW j3 J) J<|Y ?_;obtain rfl:=bF h;exact bA sA (cS [0,1,2,3,4,5,6,7,8,9,10,11,12] 13)
   ·refine Y ?_;obtain rfl:=bF h;exact bA sA (cS [0,1,2,3,4,5,6,7,8,9,10,11,12] 13)
   refine Y ?_;refine gH J h ?_ ?_<;>intro h
   ·refine kp<|gE (nv J bld_28_.out)<|gW (am (us:=[iV 0,iV 0,.string (⟨#[]⟩)]) (cs':=[iV 0,iV 0,.string (⟨#[]⟩)]) 0 J J J J size28.out J J J)<|mq ?_;refine Y ?_;exact ⟨_,_,⟨0,0,⟨#[]⟩,h,J,J⟩,sA,cS [1,2,3,4,5,6,7,8,9,10,11,12,0] 13⟩
   refine Y ?_;exact ⟨_,_,⟨d2.Za,d2.N,d2.S,h,J,J⟩,sA,cS [1,2,3,4,5,6,7,8,9,10,11,12,0] 13⟩
  rintro _ _ ⟨e9,f0,f1,h,rfl,rfl⟩;refine ba O ([aX e1 e2 e3 f3.2,aX A1 n1 c1 a0.Zc,aX A2 n2 c2 a0.Zb,ah B4 94 (iL a0 A1 n1 c1 A2 n2 c2),ah B5 94 [iV 0,iV 0,iV 0,iV 0,W none 0 0,W none 0 0],bE jC qL a7 d3,ah d1 211 [.map (some a7)],bf a8 b0 b5 a6.Zc,ah e4 94 (iL a6 a8 b0 b5 c8 c9 d0),bf b6 b7 b9 f4,ah e5 22 [W b6 b7 b9],ah i8 28 [iV e9,iV f0,.string f1]]) (cS [0,1,2,3,4,5,6,7,9,10,11,12] 13) ?_;refine zY [0,1,2] ?_;obtain ⟨g1,k2,k3,k4,h⟩:=bz h;refine zY [3,4,5] ?_;obtain ⟨g2,k5,k6,k7,h⟩:=bz h;refine zY [6,7,8,9] ?_;obtain ⟨g3,k8,k9,l0,h⟩:=bz h;refine zY [10,11] ?_
  refine Du 12 J (aB (R:=ax) (vss:=[[iV g1.Za,iV g1.N,.string g1.S],[iV g2.Za,iV g2.N,.string g2.S],[iV e9,iV f0,.string f1],[iV g3.Za,iV g3.N,.string g3.S]]) (xs:=[g1,g2,(⟨e9,f0,f1⟩:WK),g3]) J (PZ _ _ _ _ _ _ _ _ _ _ _ _) J J (fun _ _ hr=> .cons J (.cons J (.cons J (.cons J All2.nil))))) fun l4 l5 l6=> ?_
  obtain ⟨l1,h⟩:=ae h
  refine Du 13 J (aR 9 0 J J ap J J t9 r9 J J l1) fun i9 j0 j1=> ?_
  refine zY [14] ?_;refine gN 15 J O O (am (us:=[W i9 j0 j1]) (cs':=(iL a6 a8 b0 b5 i9 j0 j1)) 10 J J J J size22.out J J J) ?_;rintro _ _ rfl;refine bn O<|R1 ?_;obtain ⟨rfl,rfl⟩:=YN (YL h);exact Dr ((cS [2,3,4,5,6,7,8,9,10,11,12] 14).trans (gb ((i9,j0,j1),(b6,b7,b9)) J))
 ·rintro ⟨⟨c8,c9,d0⟩,⟨b6,b7,b9⟩⟩ h;refine qA ([aX A1 n1 c1 a0.Zc,aX A2 n2 c2 a0.Zb,ah B4 94 (iL a0 A1 n1 c1 A2 n2 c2),ah B5 94 [iV 0,iV 0,iV 0,iV 0,W none 0 0,W none 0 0],bE jC qL a7 d3,ah d1 211 [.map (some a7)],bf a8 b0 b5 a6.Zc,bf c8 c9 d0 f9.2.1,ah e4 94 (iL a6 a8 b0 b5 c8 c9 d0),bf b6 b7 b9 f9.2.2,ah e5 22 [W b6 b7 b9]]) J<|Y ?_;refine aA<|ba O ([aX A1 n1 c1 a0.Zc,aX A2 n2 c2 a0.Zb,ah B4 94 (iL a0 A1 n1 c1 A2 n2 c2),bE jC qL a7 d3,ah d1 211 [.map (some a7)],bf a8 b0 b5 a6.Zc,bf c8 c9 d0 f9.2.1,ah e4 94 (iL a6 a8 b0 b5 c8 c9 d0),bf b6 b7 b9 f9.2.2,ah e5 22 [W b6 b7 b9]]) (cS [0,1,2,4,5,6,7,8,9,10] 11) ?_;refine zY [0,1] ?_;refine zO 2 J (am (us:=(iL a6 a8 b0 b5 c8 c9 d0)) (cs':=(iL a6 a8 b0 b5 c8 c9 d0)) 3 J J J J size94.out J J J) ?_;rintro _ _ rfl;refine ca ?_;refine zX [3] ?_;refine Y ?_;obtain rfl:=bF h;exact kB (rs:=[.cell 4 94,.tmp 5]) (vs:=[.agg #[iV a6.Za,iV a6.Zi,iV a6.Ze,iV a6.Zf,W a8 b0 b5,W c8 c9 d0],W b6 b7 b9]) J (.cons (du 3 J J agg94.out) (.cons (dS J) .nil)) J (cS [6,7,9] 11) ⟨_,_,_,_,_,_,_,_,_,J,J⟩
 ·rintro ⟨⟨c8,c9,d0⟩,⟨b6,b7,b9⟩⟩ h;exact aU h
 rintro i ⟨⟨c8,c9,d0⟩,⟨b6,b7,b9⟩⟩ h;exact aU h
def yp (N:Nat)(p4:WW):Option WW:=
 some p4
def oX (N:Nat)(a7:WW->Int->Option WW)(a0:WW)(p7:Int)(a1:(List (Int×Int)))(p6:WW)(a6:WK)(p13:Int):Option WW:=
 aG (bu (p6.length+([(⟨a6.Za,p13,a6.S⟩:WK)]:List WK).length)) (aG (in64 (p7+1)) (a7 (p6++([(⟨a6.Za,p13,a6.S⟩:WK)]:List WK)) (p7+1)))
def ic (N:Nat)(a0:WW)(a1:(List (Int×Int))):Nat->WW->Int->Option WW
 |0,_,_=>none
 |m5+1,p6,p7=>bif decide (p7<(a0.length:Int)) then ((au a0 p7).bind fun a6=>(bif (lk a1 a6.N).isSome then ((bif decide (a6.Za=7) then (some true) else (some (decide (a6.Za=9)))).bind fun a7=>some a7) else (some false)).bind fun a8=>bif a8 then (oX N (ic N a0 a1 m5) a0 p7 a1 p6 a6 ((lk a1 a6.N).getD 0)) else (oX N (ic N a0 a1 m5) a0 p7 a1 p6 a6 a6.N)) else (yp N p6)
def eu (a0:WW)(a1:(List (Int×Int))):Option WW:=
 ic N a0 a1 N [] 0
theorem qk {N:Nat}{a0:WW}{a1:(List (Int×Int))}{r:WW}(h:eu N a0 a1=some r):Okc W8 128 [W A1 n1 c1,.map (some M2)] ([aX A1 n1 c1 a0,qD jC we M2 a1]) (fun u post=> ∃A0 n0 c0,u=W A0 n0 c0/\post=[bf A0 n0 c0 r]):=by
 refine CZ Tryz.func128 J J ?_;simp only [qM];refine Y ?_;refine ao (fun s L=> ∃p4 A4 n4 c4,yp N p4=some r/\s=[(4,W none 0 0),(5,W A4 n4 c4)]/\L=[bf A4 n4 c4 p4]) ?_ ?_
 ·refine Y ?_;refine gR (lO 0 J bi J t9)<|Y ?_;refine kq (fun m s L=> ∃p6 p7 A6 n6 c6,ic N a0 a1 m p6 p7=some r/\s=[(1,.map (some M2)),(4,W none 0 0),(5,W A6 n6 c6),(10,W A1 n1 c1),(11,iV (a0.length:Int)),(12,iV p7)]/\L=[qD jC we M2 a1,bf A6 n6 c6 p6,aX A1 n1 c1 a0]) N _ _ ⟨[],0,none,0,0,h,J,J⟩ sA ((cj ax 28 _).trans (cS [2,0,1] 3)) ?_;rintro (_|m5) _ _ ⟨p6,p7,A6,n6,c6,h,rfl,rfl⟩
  ·exact aU h
  rw [ic.eq_2] at h;refine Y ?_;refine aA<|gH J h (fun h=> ?_) (fun h=> ?_)
  ·refine Y ?_;refine aA<|Y ?_;obtain ⟨a6,a7,a8,b0,h⟩:=bz h
   refine gR (cT 2 J bi J J t9 size28.out a7 a8)<|gR (eU (us:=[iV a6.Za,iV a6.N,.string a6.S]) 2 J bi J b0 agg28.out (fun _ _ _ h=>by rw [show _=_ from h];rfl))<|gB (bJ zero28.out J) fun b5=>gW (am (us:=[iV a6.Za,iV a6.N,.string a6.S]) (cs':=[iV a6.Za,iV a6.N,.string a6.S]) 0 J J J J size28.out J J J)<|Y ?_
   refine ao (fun s L=> ∃p13,oX N (ic N a0 a1 m5) a0 p7 a1 p6 a6 p13=some r/\s=[(1,.map (some M2)),(4,W none 0 0),(5,W A6 n6 c6),(7,pV b5 0),(10,W A1 n1 c1),(11,iV (a0.length:Int)),(12,iV p7)]/\L=[qD jC we M2 a1,bf A6 n6 c6 p6,aX A1 n1 c1 a0,ah b5 28 [iV a6.Za,iV p13,.string a6.S]]) ?_ ?_
   ·refine Y ?_;refine gR (Bt (a:=a6.N) (z:=0) 1 J Td J J Tryz.underlying182 (kX Wo) zero3.out)<|Y ?_
    refine JJ 9 33 24 h (fun _ b7 h=> ?_) (fun _ b7 h=> ?_) fun d2 h=> ?_
    ·refine Y ?_
     refine JJ 4 32 28 h (fun _ b9 h=> ?_) (fun _ b9 h=> ?_) fun d3 h=> ?_
     ·refine Y ?_;obtain rfl:=bF h;exact bA sA (cS [0,1,2,3] 4)
     ·refine Y ?_;obtain rfl:=bF h;exact bA sA (cS [0,1,2,3] 4)
     refine Y ?_;obtain rfl:=bF h;exact bA sA (cS [0,1,2,3] 4)
    ·refine Y ?_;obtain rfl:=bF h;exact bA sA (cS [0,1,2,3] 4)
    refine Y ?_;refine gH J h ?_ ?_<;>intro h
    ·refine Y ?_;refine gW (am (us:=[iV ((lk a1 a6.N).getD 0)]) (cs':=[iV a6.Za,iV ((lk a1 a6.N).getD 0),.string a6.S]) 0 J J J J size3.out J J J)<|Y ?_;exact ⟨_,_,⟨(lk a1 a6.N).getD 0,h,J,J⟩,sA,cS [1,2,3,0] 4⟩
    refine Y ?_;exact ⟨_,_,⟨a6.N,h,J,J⟩,sA,cS [1,2,3,0] 4⟩
   rintro _ _ ⟨p13,h,rfl,rfl⟩;refine Y ?_;refine gR (aC (us:=[iV a6.Za,iV p13,.string a6.S]) 3 J J agg28.out J)<|gD (aB (R:=ax) (vss:=[[iV a6.Za,iV p13,.string a6.S]]) (xs:=[(⟨a6.Za,p13,a6.S⟩:WK)]) J (jr _ _ _) J J (fun _ _ hr=> .cons J All2.nil)) ?_;rintro _ _ ⟨d4,d6,e0,rfl,rfl⟩;obtain ⟨c8,h⟩:=ae h;refine gD (aR 2 0 J J ap J J t9 r9 J J c8) ?_;rintro _ _ ⟨c9,d0,d1,rfl,rfl⟩;refine mq ?_;refine Y ?_;obtain ⟨b6,h⟩:=ae h;refine gE (iN J J b6.1 b6.2)<|Y ?_;exact ⟨m5,_,_,WZ _,⟨p6++([(⟨a6.Za,p13,a6.S⟩:WK)]:List WK),p7+1,c9,d0,d1,h,J,J⟩,sA,cS [1,2,3] 5⟩
  refine Y ?_;exact ⟨_,_,⟨p6,A6,n6,c6,h,J,J⟩,sA,cS [1] 3⟩
 rintro _ _ ⟨p4,A4,n4,c4,h,rfl,rfl⟩;refine Y ?_;obtain rfl:=bF h;exact pI J J (cS [0] 1) ⟨_,_,_,J,J⟩
end
section
variable {A1 A2 A3 A4 A5 A6 A7:Option Addr}{B1 B2 B3 B6 B8 M2 M7 M9 c1 c2 c3 c4 c5 c6 c7 n1 n2 n3 n4 n5 n6 n7:Nat}
open Go.RowKit Asn
set_option maxRecDepth 20000
def kf (a1:WW)(a0:WO)(a6:W5)(d1:W4)(a7:(Option Exit×(List (Int×Int))))(c8:WW)(a8 b0 b5 b6:Int)(c9 d0:WW):Option (Option Exit×W5×WW):=
 (eu N c9 a7.2).bind fun b7=>(eu N d0 a7.2).bind fun b9=>aG (bu (a6.length+([(⟨a8,b0,b5,b6,b7,b9⟩:WI)]:List WI).length)) (some (none,(a6++([(⟨a8,b0,b5,b6,b7,b9⟩:WI)]:List WI),c8)))
def mO (a1:WW)(a0:WO)(b0:W4)(b6:(Option Exit×(List (Int×Int))))(b9:Int×Int):(W5×WW)->Option (Option Exit×(W5×WW))
 |(b7,b5)=>(lL N a0 b9.2).bind fun a6=>bif decide (a6.Za=8) then ((pO N a6 b0).bind fun a8=>kf N a1 a0 b7 b0 b6 b5 a8.Za a8.Zi a8.Ze a8.Zf a8.Zc a8.Zb) else (bif decide (a6.Za=10) then ((ns N a6 b0).bind fun a7=>aG (bu (b5.length+a7.2.length)) (kf N a1 a0 b7 b0 b6 (b5++a7.2) a7.1.Za a7.1.Zi a7.1.Ze a7.1.Zf a7.1.Zc a7.1.Zb)) else (kf N a1 a0 b7 b0 b6 b5 a6.Za a6.Zi a6.Ze a6.Zf a6.Zc a6.Zb))
def mP (N:Nat)(a1:WW)(a0:WO)(a7:W4)(a6:Int×Int):((List (Int×Int)))->Option (Option Exit×(List (Int×Int)))
 |p21=>aG (in64 (2*a6.1)) (aG (in64 ((2*a6.1)+2)) (some (none,AZ p21 a6.2 ((2*a6.1)+2))))
def oZ (a0:WO)(a1:WW):Option (WO×WW×WW×Int):=
 (mC N a0 a1).bind fun y7=>bif !decide (y7=0) then (some ((⟨[],[]⟩:WO),[],[],y7)) else ((nD N a0 a1).bind fun a6=>(my N a6).bind fun b6=>(gv N a6 (cM (fun x st=>mP N a1 a0 a6 x st)) (none,([]:(List (Int×Int))))).bind fun a7=>qN a7.1 ((my N a6).bind fun b7=>(gv N a6 (cM (fun x st=>mO N a1 a0 a6 a7 x st)) (none,([],[]))).bind fun a8=>qN a8.1 ((eu N a1 a7.2).bind fun b0=>(eu N a8.2.2 a7.2).bind fun b5=>some ((⟨[],a8.2.1⟩:WO),b0,b5,0)) none (fun _=>none)) none (fun _=>none))
def kK (a1:WW)(a0:WO)(a6:W5)(d1:W4)(a7:(Option Exit×(List (Int×Int))))(c8:WW)(a8 b0 b5 b6:Int)(c9 d0:WW):Option (Option Exit×W5×WW):=
 (eu N c9 a7.2).bind fun b7=>(eu N d0 a7.2).bind fun b9=>aG (bu (a6.length+([(⟨a8,b0,b5,b6,b7,b9⟩:WI)]:List WI).length)) (some (none,(a6++([(⟨a8,b0,b5,b6,b7,b9⟩:WI)]:List WI),c8)))
def kL (a1:WW)(a0:WO)(b0:W4)(b6:(Option Exit×(List (Int×Int))))(b9:Int×Int):(W5×WW)->Option (Option Exit×(W5×WW))
 |(b7,b5)=>(lL N a0 b9.2).bind fun a6=>bif decide (a6.Za=8) then ((pO N a6 b0).bind fun a8=>kK N a1 a0 b7 b0 b6 b5 a8.Za a8.Zi a8.Ze a8.Zf a8.Zc a8.Zb) else (bif decide (a6.Za=10) then ((ns N a6 b0).bind fun a7=>aG (bu (b5.length+a7.2.length)) (kK N a1 a0 b7 b0 b6 (b5++a7.2) a7.1.Za a7.1.Zi a7.1.Ze a7.1.Zf a7.1.Zc a7.1.Zb)) else (kK N a1 a0 b7 b0 b6 b5 a6.Za a6.Zi a6.Ze a6.Zf a6.Zc a6.Zb))
def kM (N:Nat)(a1:WW)(a0:WO)(a7:W4)(a6:Int×Int):((List (Int×Int)))->Option (Option Exit×(List (Int×Int)))
 |p21=>aG (in64 (2*a6.1)) (aG (in64 ((2*a6.1)+2)) (some (none,AZ p21 a6.2 ((2*a6.1)+2))))
def dm (a0:WO)(a1:WW):Option ((WO×WW×WW×Int) ⊕ (WO×WW×WW)):=
 (mC N a0 a1).bind fun y7=>bif !decide (y7=0) then (some (.inl ((⟨[],[]⟩:WO),[],[],y7))) else ((nD N a0 a1).bind fun a6=>(my N a6).bind fun b6=>(gv N a6 (cM (fun x st=>kM N a1 a0 a6 x st)) (none,([]:(List (Int×Int))))).bind fun a7=>qN a7.1 ((my N a6).bind fun b7=>(gv N a6 (cM (fun x st=>kL N a1 a0 a6 a7 x st)) (none,([],[]))).bind fun a8=>qN a8.1 ((eu N a1 a7.2).bind fun b0=>(eu N a8.2.2 a7.2).bind fun b5=>some (.inr ((⟨[],a8.2.1⟩:WO),b0,b5))) none (fun _=>none)) none (fun _=>none))
theorem ue {N:Nat}{a0:WO}{a1:WW}{r:((WO×WW×WW×Int) ⊕ (WO×WW×WW))}(h:dm N a0 a1=some r):Okc W8 82 [.agg #[W A1 n1 c1,W A2 n2 c2],W A3 n3 c3] ([aX A3 n3 c3 a1,iF A1 n1 c1 a0.Zh,iF A2 n2 c2 a0.Zj]) (fun u post=>SM (fun (r:WO×WW×WW×Int)=> ∃c8 c9 d0 d1 d2 d3 d4 d6 e0 e1 e2 e3,u=.tuple #[.agg #[W c8 c9 d0,W d1 d2 d3],W d4 d6 e0,W e1 e2 e3,iV r.2.2.2]/\post=[iF c8 c9 d0 r.1.Zh,iF d1 d2 d3 r.1.Zj,bf d4 d6 e0 r.2.1,bf e1 e2 e3 r.2.2.1,iF A1 n1 c1 a0.Zh,iF A2 n2 c2 a0.Zj]) (fun (r:WO×WW×WW)=> ∃c8 c9 d0 d1 d2 d3 d4 d6 e0 e1 e2 e3,u=.tuple #[.agg #[W c8 c9 d0,W d1 d2 d3],W d4 d6 e0,W e1 e2 e3,iV 0]/\post=[iF c8 c9 d0 r.1.Zh,iF d1 d2 d3 r.1.Zj,bf d4 d6 e0 r.2.1,bf e1 e2 e3 r.2.2,iF A1 n1 c1 a0.Zh,iF A2 n2 c2 a0.Zj]) r):=by
 refine ce Tryz.func82 ?_;intro B4
 refine cn fun B5=> ?_
 intro B6;refine sY ?_
 refine cR h (fun _ k=>FA k) fun y7 h=> ?_
 refine gH J h ?_ ?_<;>intro h
 ·refine ab ?_;obtain rfl:=bF h;exact kB (rs:=[.cell 4 121,.tmp 5,.cell 6 22,.tmp 7]) (vs:=[.agg #[W none 0 0,W none 0 0],W none 0 0,W none 0 0,iV y7]) J (.cons (du 1 J J agg121.out) (.cons (dS J) (.cons (H7 0 J J sC) (.cons (dS J) .nil)))) J ((cj jG 94 _).trans ((cj jG 94 _).trans ((cj ax 28 _).trans ((cj ax 28 _).trans (cS [3,2,1,0,8,9] 10))))) ⟨_,_,_,_,_,_,_,_,_,_,_,_,J,J⟩
 refine MG h (fun _ k=>Gv k) fun b5 a6 a7 a8 h=> ?_
 intro e7;refine ab ?_;refine gD (wH (ek:=jC) (ev:=we)) ?_;rintro _ _ ⟨b0,rfl,rfl⟩
 refine cn fun e8=> ?_
 refine sZ ?_;obtain ⟨k4,k,h⟩:=aa h;refine gD (oR (yo k)) ?_;rintro _ _ ⟨_,⟨i7,rfl,rfl⟩,rfl⟩;refine ab ?_;refine gI ?_ bw (kZ 0 J);refine gI ?_ bw (bq 4 J);refine ab ?_;obtain ⟨f3,k,h⟩:=aa h;refine uw (en:=(fun x=> [iV x.1,iV x.2])) (fun x st=>kM N a1 a0 b5 x st) (fun (st:(List (Int×Int))) (mz:Unit)=> [aX A3 n3 c3 a1,iF A1 n1 c1 a0.Zh,iF A2 n2 c2 a0.Zj,ah B4 121 [W A1 n1 c1,W A2 n2 c2],ah B5 121 [W none 0 0,W none 0 0],ah B6 22 [W none 0 0],xz a6 a7 a8 b5,ah e7 144 [W a6 a7 a8],bE jC we b0 st,ah e8 182 [.map (some b0)]]) [aQ i7 144 [W a6 a7 a8],xz a6 a7 a8 b5] (([]:(List (Int×Int)))) (()) J J call163.out J (fun _=>J) (fun l G hY=>(uT k hY).mono fun _ _ hh=>hh.2) (bP [0,4] [] [8,9,10,7,6,5,4,3,2,1] 11 J) h ?_ ?_ ?_ ?_
 ·rintro l h7 p21 je sr20 _ h;replace h:kM N a1 a0 b5 h7 p21=some (je,sr20):=h;simp only [AO,Yt,Yu,Yv,Yn,Yo,Y3,Xs];refine ab ?_;obtain ⟨i5,h⟩:=ae h;refine gE (rg J J i5.1 i5.2) ?_;obtain ⟨k5,h⟩:=ae h;refine ab ?_;refine Hr (nK (a:=h7.2) (b:=(2*h7.1)+2) 8 J J J J Tryz.underlying182 (kX Wo)) ?_;obtain ⟨rfl,rfl⟩:=YN (YL h);exact Dr ((cS [0,1,2,3,4,5,6,7,8,9] 10).trans (gb () J))
 ·rintro _ h;refine qA ([aX A3 n3 c3 a1,iF A1 n1 c1 a0.Zh,iF A2 n2 c2 a0.Zj,ah B4 121 [W A1 n1 c1,W A2 n2 c2],ah B5 121 [W none 0 0,W none 0 0],ah B6 22 [W none 0 0],xz a6 a7 a8 b5,ah e7 144 [W a6 a7 a8],bE jC we b0 f3.2,ah e8 182 [.map (some b0)]]) J<|sY ?_;obtain ⟨k6,k,h⟩:=aa h;refine gD (oR (yo k)) ?_;rintro _ _ ⟨_,⟨i8,rfl,rfl⟩,rfl⟩;refine ab ?_;refine gI ?_ bw (kZ 0 J);obtain ⟨i6,k,h⟩:=aa h;refine uw (en:=(fun x=> [iV x.1,iV x.2])) (fun x st=>kL N a1 a0 b5 f3 x st) (fun (st:W5×WW) (mz:((Option Addr×Nat×Nat)×(Option Addr×Nat×Nat)))=> [aX A3 n3 c3 a1,iF A1 n1 c1 a0.Zh,iF A2 n2 c2 a0.Zj,ah B4 121 [W A1 n1 c1,W A2 n2 c2],bc jG 94 (.slice mz.1.1 mz.1.2.1 mz.1.2.2) st.1,ah B5 121 [W none 0 0,.slice mz.1.1 mz.1.2.1 mz.1.2.2],bc ax 28 (.slice mz.2.1 mz.2.2.1 mz.2.2.2) st.2,ah B6 22 [.slice mz.2.1 mz.2.2.1 mz.2.2.2],xz a6 a7 a8 b5,ah e7 144 [W a6 a7 a8],bE jC we b0 f3.2,ah e8 182 [.map (some b0)]]) [aQ i8 144 [W a6 a7 a8],xz a6 a7 a8 b5] (([],[])) (((none,0,0),(none,0,0))) J J call163.out J (fun _=>J) (fun l G hY=>(uT k hY).mono fun _ _ hh=>hh.2) ((cj jG 94 _).trans ((cj ax 28 _).trans (bP [2,9] [] [3,4,5,6,1,7,0,8,9,10,11,12] 13 J))) h ?_ ?_ ?_ ?_
  ·rintro l i9 ⟨h3,j0⟩ je sr27 ⟨⟨b6,b7,b9⟩,⟨h0,h1,h2⟩⟩ h;replace h:kL N a1 a0 b5 f3 i9 (h3,j0)=some (je,sr27):=h;simp only [AO,Yt,Yu,Yv,Yn,Yo,Y3,Xs]
   refine IK h (fun _ k=>xV k) fun k7 k8 k9 l0 l1 l2 l3 h=> ?_
   intro e9;refine ab ?_;refine ao (fun s L=> ∃h4 f4 f6 f9 g0 h5 h6 g4 g5 g6 g7 g8 g9 g1 g2 g3,kK N a1 a0 h3 b5 f3 h4 f4 f6 f9 g0 h5 h6=some (je,sr27)/\s=[(1,W A3 n3 c3),(2,pV B4 0),(4,pV B5 0),(5,W none 0 0),(6,pV B6 0),(7,iV 0),(9,pV e7 0),(10,pV e8 0),(15,pV e9 0)]/\L=[aX A3 n3 c3 a1,iF A1 n1 c1 a0.Zh,iF A2 n2 c2 a0.Zj,ah B4 121 [W A1 n1 c1,W A2 n2 c2],iF b6 b7 b9 h3,ah B5 121 [W none 0 0,W b6 b7 b9],bf g4 g5 g6 h4,ah B6 22 [W g4 g5 g6],xz a6 a7 a8 b5,ah e7 144 [W a6 a7 a8],bE jC we b0 f3.2,ah e8 182 [.map (some b0)],bf g7 g8 g9 h5,bf g1 g2 g3 h6,ah e9 94 [iV f4,iV f6,iV f9,iV g0,W g7 g8 g9,W g1 g2 g3]]) ?_ ?_
   ·refine dr h ?_ ?_<;>intro h
    ·refine IK h (fun _ k=>Gp k) fun l4 l5 l6 l7 l8 l9 m0 h=> ?_
     exact jN
    refine dr h ?_ ?_<;>intro h
    ·refine ab ?_;obtain ⟨m1,k,h⟩:=aa h
     refine Wc (oR (D9 k)) fun m2 m3 m4 m5 m6 m7 m8 m9 n0=> ?_
     obtain ⟨j1,h⟩:=ae h
     refine vo (aR 12 2 J J ap J J t9 r9 J J j1) fun n8 n9 o0=> ?_
     exact jN
    exact jY
   refine fun s L=>aM fun h4=>aM fun f4=>aM fun f6=>aM fun f9=>aM fun g0=>aM fun h5=>aM fun h6=>aM fun g4=>aM fun g5=>aM fun g6=>aM fun g7=>aM fun g8=>aM fun g9=>aM fun g1=>aM fun g2=>aM fun g3=>Lb fun h=>aA ?_
   obtain ⟨h8,h9,h⟩:=aa h;obtain ⟨i0,i1,h⟩:=aa h;refine gI (t:=[(1,W A3 n3 c3),(2,pV B4 0),(4,pV B5 0),(5,W none 0 0),(6,pV B6 0),(7,iV 0),(9,pV e7 0),(10,pV e8 0),(15,pV e9 0)]) ?_ mc (ad _)
   refine iQ O 9 [] [3,7,8] [62,63,64,65,66,67,68,69,70] [[],[0],[],[1,2],[],[4],[],[5,6],[]] [aV (pV e9 4),
aV (W g7 g8 g9),
aV (.map (some b0)),
aX3 (fun (e4:Option Addr) (e5 e6:Nat)=> W e4 e5 e6) (fun e4 e5 e6=> [bf e4 e5 e6 h8]),
aV (pV e9 5),
aV (W g1 g2 g3),
aV (.map (some b0)),
aX3 (fun (f0:Option Addr) (f1 f2:Nat)=> W f0 f1 f2) (fun f0 f1 f2=> [bf f0 f1 f2 i0]),
aV (pV e9 4)] [] (ad _) (lV) O rfl rfl ?_ ?_ ?_
   ·exact lU
   ·refine qE (jD J Iy) ?_;refine aF J ?_ ?_
    ·refine tl (oR (qk i1)) J ?_;rintro _ _ ⟨_,⟨j2,j3,j4,rfl,rfl⟩,rfl⟩;exact N3 j2 j3 j4 (ad _)
    refine qR (bM 11 J J KM J) ?_;refine qR (bM 14 J J sC J) ?_;refine qE (jD J wO) ?_;refine aF J ?_ ?_
    ·refine tl (oR (qk h9)) J ?_;rintro _ _ ⟨_,⟨j5,j6,j7,rfl,rfl⟩,rfl⟩;exact N3 j5 j6 j7 (ad _)
    refine qR (bM 11 J J KM J) ?_;refine qR (bM 14 J J sC J) ?_;refine qE (jD J Iy) ?_;exact dI
   intro e4 e5 e6 f0 f1 f2;refine oa (t:=[(65,W e4 e5 e6),(69,W f0 f1 f2),(70,pV e9 4),(1,W A3 n3 c3),(2,pV B4 0),(4,pV B5 0),(5,W none 0 0),(6,pV B6 0),(7,iV 0),(9,pV e7 0),(10,pV e8 0),(15,pV e9 0)]) (L':=[bf e4 e5 e6 h8,bf f0 f1 f2 i0,aX A3 n3 c3 a1,iF A1 n1 c1 a0.Zh,iF A2 n2 c2 a0.Zj,ah B4 121 [W A1 n1 c1,W A2 n2 c2],iF b6 b7 b9 h3,ah B5 121 [W none 0 0,W b6 b7 b9],bf g4 g5 g6 h4,ah B6 22 [W g4 g5 g6],xz a6 a7 a8 b5,ah e7 144 [W a6 a7 a8],bE jC we b0 f3.2,ah e8 182 [.map (some b0)],bf g7 g8 g9 h5,bf g1 g2 g3 h6,ah e9 94 [iV f4,iV f6,iV f9,iV g0,W g7 g8 g9,W g1 g2 g3]]) ?_ mc (ad _);refine pL 9 J O (am (us:=[W e4 e5 e6]) (cs':=[iV f4,iV f6,iV f9,iV g0,W e4 e5 e6,W g1 g2 g3]) 16 J J J J size22.out J J J) J J ?_;rintro _ _ rfl;refine CF 10 J O (jD J wO) J J J<|pL 11 J O (am (us:=[W f0 f1 f2]) (cs':=[iV f4,iV f6,iV f9,iV g0,W e4 e5 e6,W f0 f1 f2]) 16 J J J J size22.out J J J) J J ?_;rintro _ _ rfl;refine Ab ?_;refine mb O<|ab ?_
   refine mX (bq 0 J)<|mX (bq 1 J)<|gD (aB (R:=jG) (vss:=[[iV f4,iV f6,iV f9,iV g0,W e4 e5 e6,W f0 f1 f2]]) (xs:=[(⟨f4,f6,f9,g0,h8,i0⟩:WI)]) J (HJ _ _ _ _ _ _ _ _ _ _) J J (fun _ _ hr=> .cons (⟨_,_,_,_,_,_,J,hr 0 _ J J,hr 1 _ J J⟩) All2.nil)) ?_;rintro _ _ ⟨o1,o2,p1,rfl,rfl⟩;obtain ⟨j8,h⟩:=ae h
   refine vo (aR 7 0 J J ap J J Wj TX J J j8) fun A64 j9 k0=> ?_
   obtain ⟨rfl,rfl⟩:=YN (YL h);exact Dr ((cS [3,4,5,6,7,8,9,10,11,12,13,14] 18).trans (gb ((A64,j9,k0),(g4,g5,g6)) J))
  ·rintro ⟨⟨b6,b7,b9⟩,⟨h0,h1,h2⟩⟩ h;refine qA ([aX A3 n3 c3 a1,iF A1 n1 c1 a0.Zh,iF A2 n2 c2 a0.Zj,ah B4 121 [W A1 n1 c1,W A2 n2 c2],iF b6 b7 b9 i6.2.1,ah B5 121 [W none 0 0,W b6 b7 b9],bf h0 h1 h2 i6.2.2,ah B6 22 [W h0 h1 h2],xz a6 a7 a8 b5,ah e7 144 [W a6 a7 a8],bE jC we b0 f3.2,ah e8 182 [.map (some b0)]]) J<|ab ?_;refine dY [0,1,2,4,5] ?_;obtain ⟨p2,k,h⟩:=aa h
   refine Du 3 J (oR (qk k)) fun k1 k2 k3=> ?_
   obtain ⟨p3,k,h⟩:=aa h
   refine Du 6 J (oR (qk k)) fun i2 i3 i4=> ?_
   refine zO 7 J (am (us:=[W none 0 0,W b6 b7 b9]) (cs':=[W none 0 0,W b6 b7 b9]) 7 J J J J size121.out J J J) ?_;rintro _ _ rfl;refine ca ?_;refine zY [8] ?_;refine gN 9 J O O (am (us:=[W i2 i3 i4]) (cs':=[W i2 i3 i4]) 9 J J J J size22.out J J J) ?_;rintro _ _ rfl;refine zX [10] ?_;refine ab ?_;obtain rfl:=bF h;exact kB (rs:=[.cell 4 121,.tmp 5,.cell 6 22,.tmp 7]) (vs:=[.agg #[W none 0 0,W b6 b7 b9],W k1 k2 k3,W i2 i3 i4,iV 0]) J (.cons (du 7 J J agg121.out) (.cons (dS J) (.cons (H7 9 J J sC) (.cons (dS J) .nil)))) J ((cj jG 94 _).trans (cS [0,7,2,1,4,5] 15)) ⟨_,_,_,_,_,_,_,_,_,_,_,_,J,J⟩
  ·rintro ⟨⟨b6,b7,b9⟩,⟨h0,h1,h2⟩⟩ h;exact aU h
  rintro i ⟨⟨b6,b7,b9⟩,⟨h0,h1,h2⟩⟩ h;exact aU h
 ·rintro _ h;exact aU h
 rintro i _ h;exact aU h
def np (a0:WW)(a1:WN):Option ((WO×WW×WW×Int) ⊕ (WO×WW×WW)):=
 (dm N a1.m_ a0).bind fun a6=>Ef a6 (fun y11_0=>some (.inl (y11_0.1,y11_0.2.1,y11_0.2.2.1,y11_0.2.2.2))) (fun y11_1=>some (.inr (y11_1.1,y11_1.2.1,y11_1.2.2)))
theorem cI {N:Nat}{a0:WW}{a1:WN}{r:((WO×WW×WW×Int) ⊕ (WO×WW×WW))}(h:np N a0 a1=some r):Okc W8 81 [W A1 n1 c1,pV B2 0] ([aX A1 n1 c1 a0,aQ B2 76 [pV B3 0],ah B3 124 [W A4 n4 c4,W A5 n5 c5,W A6 n6 c6,W A7 n7 c7,pV B8 0],iF A4 n4 c4 a1.m_.Zh,iF A5 n5 c5 a1.m_.Zj,bf A6 n6 c6 a1.Zt,bf A7 n7 c7 a1.Zv,ah B8 213 [.map (some M9)],bE jC qL M9 a1.Zw.at_]) (fun u post=>SM (fun (r:WO×WW×WW×Int)=> ∃a6 a7 a8 b0 b5 b6 b7 b9 c8 c9 d0 d1,u=.tuple #[.agg #[W a6 a7 a8,W b0 b5 b6],W b7 b9 c8,W c9 d0 d1,iV r.2.2.2]/\post=[iF a6 a7 a8 r.1.Zh,iF b0 b5 b6 r.1.Zj,bf b7 b9 c8 r.2.1,bf c9 d0 d1 r.2.2.1,iF A4 n4 c4 a1.m_.Zh,iF A5 n5 c5 a1.m_.Zj,bf A6 n6 c6 a1.Zt,bf A7 n7 c7 a1.Zv,ah B3 124 [W A4 n4 c4,W A5 n5 c5,W A6 n6 c6,W A7 n7 c7,pV B8 0],ah B8 213 [.map (some M9)],bE jC qL M9 a1.Zw.at_]) (fun (r:WO×WW×WW)=> ∃a6 a7 a8 b0 b5 b6 b7 b9 c8 c9 d0 d1,u=.tuple #[.agg #[W a6 a7 a8,W b0 b5 b6],W b7 b9 c8,W c9 d0 d1,iV 0]/\post=[iF a6 a7 a8 r.1.Zh,iF b0 b5 b6 r.1.Zj,bf b7 b9 c8 r.2.1,bf c9 d0 d1 r.2.2,iF A4 n4 c4 a1.m_.Zh,iF A5 n5 c5 a1.m_.Zj,bf A6 n6 c6 a1.Zt,bf A7 n7 c7 a1.Zv,ah B3 124 [W A4 n4 c4,W A5 n5 c5,W A6 n6 c6,W A7 n7 c7,pV B8 0],ah B8 213 [.map (some M9)],bE jC qL M9 a1.Zw.at_]) r):=by
 refine ce Tryz.func81 ?_;intro d4;refine ab ?_;obtain ⟨d3,d2,h⟩:=aa h;rcases d3 with y11_0|y11_1
 ·replace h:=GS h
  refine Ux (oC (ue d2)) fun d6 e0 e1 e2 e3 e4 e5 e6 e7 e8 e9 f0=> ?_
  exact eN
 replace h:=GR h
 refine Ux (oC (ue d2)) fun f1 f2 f3 f4 f6 f9 g0 g1 g2 g3 g4 g5=> ?_
 exact eN
def iJ (N:Nat)(p3:WW):Option WW:=
 some p3
def mE (a1:Int):Option WW:=
 bif decide (a1<0) then none else (aG (in64 (0 - 0)) (aG (in64 (a1 - (0 - 0))) (bif decide (0<a1 - (0 - 0)) then (aG ((0:Int)<(a1 - (0 - 0))/\(a1 - (0 - 0))<=1099511627776) (iJ N ([]:List WK))) else (iJ N []))))
theorem wj {N:Nat}{a1:Int}{r:WW}(h:mE N a1=some r):Okc W8 154 [W none 0 0,iV a1] ([]) (fun u post=> ∃A0 n0 c0,u=W A0 n0 c0/\post=[bf A0 n0 c0 r]):=by
 refine ce Tryz.func154 ?_;refine sZ ?_;refine gH J h ?_ ?_<;>intro h
 ·exact aU h
 refine ab ?_;refine ao (fun s L=> ∃p3 A3 n3 c3,iJ N p3=some r/\s=[(0,W A3 n3 c3),(4,W none 0 0)]/\L=[bf A3 n3 c3 p3]) ?_ ?_
 ·refine ab ?_;refine ga (Mt J t9) ?_;refine gE (F5 J t9) ?_;obtain ⟨q4,h⟩:=ae h;refine ab ?_;obtain ⟨q5,h⟩:=ae h;refine dr h ?_ ?_<;>intro h
  ·refine ab ?_;refine gE (Mt J t9)<|ga (NX J t9 size28.out J) ?_;obtain ⟨q7,h⟩:=ae h
   refine vo (KK J J t9 Wo r9 J q7.1 q7.2) fun A8 n8 c8=> ?_
   refine gE (F5 J t9)<|vo (QO (R:=ax) 0 J J t9 size28.out J J) fun A9 n9 c9=> ?_
   exact jN
  refine ab ?_;exact ⟨_,_,⟨[],none,0,0,h,J,J⟩,sA,(cj ax 28 _).trans (cS [0] 1)⟩
 rintro _ _ ⟨p3,A3,n3,c3,h,rfl,rfl⟩;exact eY
def kP (N:Nat)(a6:WW):Option WW:=
 some a6
def lD (a0_0 a0_1:WW):Option WW:=
 (mE N ((0+(a0_0.length:Int))+(a0_1.length:Int))).bind fun y9=>aG (bu (y9.length+a0_0.length)) (aG (bu ((y9++a0_0).length+a0_1.length)) (kP N ((y9++a0_0)++a0_1)))
def ei (a0_0 a0_1:WW):Option WW:=
 aG (in64 (0+(a0_0.length:Int))) (bif decide (0+(a0_0.length:Int)<0) then none else (aG (in64 ((0+(a0_0.length:Int))+(a0_1.length:Int))) (bif decide ((0+(a0_0.length:Int))+(a0_1.length:Int)<0) then none else (lD N a0_0 a0_1))))
theorem fo {N:Nat}{a0_0 a0_1 r:WW}(h:ei N a0_0 a0_1=some r):Okc W8 120 [.slice (some ⟨B1,0,none⟩) 2 2] ([aQ B1 22 [W A2 n2 c2,W A3 n3 c3],aX A2 n2 c2 a0_0,aX A3 n3 c3 a0_1]) (fun u post=> ∃A0 n0 c0,u=W A0 n0 c0/\post=[bf A0 n0 c0 r]):=by
 refine ce Tryz.func120 ?_;refine ao (fun s L=>lD N a0_0 a0_1=some r/\s=[(0,.slice (some ⟨B1,0,none⟩) 2 2),(2,W none 0 0),(3,iV ((0+(a0_0.length:Int))+(a0_1.length:Int)))]/\L=[aX A2 n2 c2 a0_0,aX A3 n3 c3 a0_1,aQ B1 22 [W A2 n2 c2,W A3 n3 c3]]) ?_ ?_
 ·refine ab ?_;refine ga (F5 J Ww) ?_;refine Kc 3<|Og<|ab ?_;refine aA<|jx J<|sY ?_;refine ga (F6 J J Ww size22.out (by decide) (by decide)) ?_;obtain ⟨q5,h⟩:=ae h;refine dr h ?_ ?_<;>intro h
  ·exact aU h
  refine ab ?_;refine ga (iN J J (by decide) (by decide)) ?_;refine Og<|ab ?_;refine aA<|jx J<|sY ?_;refine ga (F6 J J Ww size22.out (by decide) (by decide)) ?_;obtain ⟨q7,h⟩:=ae h;refine dr h ?_ ?_<;>intro h
  ·exact aU h
  refine ab ?_;refine ga (iN J J (by decide) (by decide)) ?_;refine Og<|ab ?_;exact aA<|ge J<|jY
 rintro _ _ ⟨h,rfl,rfl⟩
 refine MG h (fun _ k=>wj k) fun y9 b7 b9 c8 h=> ?_
 refine ao (fun s L=> ∃a6 a7 a8 b0,kP N a6=some r/\s=[(2,W none 0 0),(6,W a7 a8 b0)]/\L=[bf a7 a8 b0 a6]) ?_ ?_
 ·refine ab ?_;refine ga (F5 J Ww) ?_;refine Kc 3<|Og<|ab ?_;refine aA<|jx J<|sY ?_;refine ga (F6 J J Ww size22.out (by decide) (by decide)) ?_;obtain ⟨b5,h⟩:=ae h
  refine vo (aR 0 1 J J bi J J t9 r9 J J b5) fun c9 d0 d1=> ?_
  refine ga (iN J J (by decide) (by decide)) ?_;refine Og<|ab ?_;refine aA<|jx J<|sY ?_;refine ga (F6 J J Ww size22.out (by decide) (by decide)) ?_;obtain ⟨b6,h⟩:=ae h
  refine vo (aR 0 2 J J bi J J t9 r9 J J b6) fun d2 d3 d4=> ?_
  refine ga (iN J J (by decide) (by decide)) ?_;refine Og<|ab ?_;exact aA<|ge J<|jY
 rintro _ _ ⟨a6,a7,a8,b0,h,rfl,rfl⟩;exact eY
def pi (N:Nat)(a0:WT):Option WT:=
 some (⟨[]⟩:WT)
theorem zA {N:Nat}{a0 r:WT}(h:pi N a0=some r):Okc W8 155 [pV B1 0] ([ah B1 213 [.map (some M2)],bE jC qL M2 a0.at_]) (fun u post=> ∃M0,u=.tuple #[]/\post=[ah B1 213 [.map (some M0)],bE jC qL M0 r.at_]):=by
 refine ce Tryz.func155 ?_;refine ga (vY J Wn) ?_;refine jx J<|ab ?_;refine Hr (OY 1 J J Wu) ?_;exact eN
def fM (N:Nat)(a1:WO):Nat->Int->(List (Int×Bool))->Option WT
 |0,_,_=>none
 |m8+1,p9,a6=>bif decide (p9<(a1.Zj.length:Int)) then ((au a1.Zj p9).bind fun a7=>aG (in64 (2*p9)) (aG (in64 ((2*p9)+2)) ((cQ N (⟨a6⟩:WT) ((2*p9)+2) a7).bind fun a8=>aG (in64 (p9+1)) ((fM N a1 m8) (p9+1) a8.2.at_)))) else (some (⟨a6⟩:WT))
def eO (a0:WT)(a1:WO):Option WT:=
 (pi N a0).bind fun y6=>fM N a1 N 0 y6.at_
theorem zz {N:Nat}{a0:WT}{a1:WO}{r:WT}(h:eO N a0 a1=some r):Okc W8 121 [pV B1 0,.agg #[W A3 n3 c3,W A4 n4 c4]] ([iE A3 n3 c3 a1.Zh,iE A4 n4 c4 a1.Zj,ah B1 213 [.map (some M2)],bE jC qL M2 a0.at_]) (fun u post=> ∃M0,u=.tuple #[]/\post=[ah B1 213 [.map (some M0)],bE jC qL M0 r.at_]):=by
 refine ce Tryz.func121 ?_;intro B5;refine sY ?_;refine ga (dO J Wn) ?_;refine ge J<|ab ?_;obtain ⟨y6,k,h⟩:=aa h;refine gD (oC (zA k)) ?_;rintro _ _ ⟨_,⟨M7,rfl,rfl⟩,rfl⟩;refine ab ?_;refine lK (fun m s L=> ∃(p9:Int) (a6:(List (Int×Bool))) (a7:Nat),fM N a1 m p9 a6=some r/\s=[(0,pV B1 0),(11,W A4 n4 c4),(12,iV (a1.Zj.length:Int)),(13,iV p9)]/\L=[iE A4 n4 c4 a1.Zj,bE jC qL a7 a6,ah B1 213 [.map (some a7)]]) N ?_;rintro m8 _ _ ⟨p9,a6,a7,h,rfl,rfl⟩;rw [fM.eq_2] at h;refine ab ?_;refine aA<|gH J h (fun h=> ?_) (fun h=> ?_)
 ·refine sY ?_;obtain ⟨b0,b6,b7,a8,h⟩:=bz h;refine ab ?_;refine Kb 0 J a8 (uc b0) ?_;rintro _ _ ⟨b9,c8,c9,d0,d1,d2,rfl,rfl⟩;refine K9 (Bq (us:=(iL b0 b9 c8 c9 d0 d1 d2)) 0 J J agg94.out J) ?_;intro d3;refine ab ?_;obtain ⟨b5,h⟩:=ae h;refine gE (rg J J b5.1 b5.2) ?_;obtain ⟨d4,h⟩:=ae h;refine ab ?_;obtain ⟨d6,k,h⟩:=aa h;refine gD (oC (jm k)) ?_;rintro _ _ ⟨_,⟨e0,rfl,rfl⟩,rfl⟩;refine ab ?_;obtain ⟨e1,h⟩:=ae h;exact lY
 exact eY
theorem wn {r:WT}{B1:Nat}: ∀v post,((fun (u:Value) (post:W6)=> ∃M0,u=.tuple #[]/\post=[ah B1 213 [.map (some M0)],bE jC qL M0 r.at_])) v post-> ∀c∈post,im c:=by
 rintro _ _ ⟨_,rfl,rfl⟩;exact t5 Cg (t5 Df (aw))
def ee (N:Nat)(a0:WN)(p13 a7:W5)(p15 a8:WW)(a6:Int):Option (Int×WN):=
 bif !decide (a6=0) then (some (a6,a0)) else none
def ie (a6 p21:W5)(a0:WN)(a7 a8:WW):Option (Int×WN):=
 (eO N a0.Zw (⟨a6,p21⟩:WO)).bind fun b0=>some (0,(⟨(⟨a6,p21⟩:WO),a7,a8,b0⟩:WN))
def d9 (a0:WN)(a7 p21:W5)(a6 a8:WW):Option (Int×WN):=
 aG ((0:Int)<=(a0.Zt.length:Int)/\0<=(a0.Zt.length:Int).toNat/\(a0.Zt.length:Int).toNat<=a6.length) (aG ((0:Int)<=(a0.Zt.length:Int)/\(a0.Zt.length:Int).toNat<=a6.length/\a6.length<=a6.length) ((dv N ((a6.drop 0).take ((a0.Zt.length:Int).toNat - 0))).bind fun b0=>(ei N ((a6.drop ((a0.Zt.length:Int).toNat)).take (a6.length - (a0.Zt.length:Int).toNat)) a8).bind fun b5=>ie N a7 p21 a0 b0 b5))
def iM (a0:WN):Option (Int×WN):=
 (aL N a0).bind fun y9=>bif y9 then (some (1,a0)) else ((ei N a0.Zt a0.Zv).bind fun a6=>(np N a6 a0).bind fun a7=>Ef a7 (fun y27_0=>ee N a0 y27_0.1.Zh y27_0.1.Zj y27_0.2.1 y27_0.2.2.1 y27_0.2.2.2) (fun y27_1=>d9 N a0 y27_1.1.Zh y27_1.1.Zj y27_1.2.1 y27_1.2.2))
theorem sj {N:Nat}{a0:WN}{r:Int×WN}(h:iM N a0=some r):Okc W8 80 [pV B1 0,.func (.func 81) #[] #[pV B8 0]] ([aQ B8 76 [pV B1 0],ah B1 124 [W A2 n2 c2,W A3 n3 c3,W A4 n4 c4,W A5 n5 c5,pV B6 0],iF A2 n2 c2 a0.m_.Zh,iF A3 n3 c3 a0.m_.Zj,bf A4 n4 c4 a0.Zt,bf A5 n5 c5 a0.Zv,ah B6 213 [.map (some M7)],bE jC qL M7 a0.Zw.at_]) (fun u post=> ∃A0 n0 c0 A1 n1 c1 A2 n2 c2 A3 n3 c3 M4,u=iV r.1/\post=[ah B1 124 [W A0 n0 c0,W A1 n1 c1,W A2 n2 c2,W A3 n3 c3,pV B6 0],iF A0 n0 c0 r.2.m_.Zh,iF A1 n1 c1 r.2.m_.Zj,bf A2 n2 c2 r.2.Zt,bf A3 n3 c3 r.2.Zv,ah B6 213 [.map (some M4)],bE jC qL M4 r.2.Zw.at_]):=by
 refine ce Tryz.func80 ?_;refine sZ ?_
 refine cR h (fun _ k=>di k) fun y9 h=> ?_
 refine gH J h ?_ ?_<;>intro h
 ·exact eY
 refine ab ?_;refine ao (fun s L=>(∃p13 i5 p15 i6 i7 i8 i9 j0 j1 j2 j3 j4 j5 j6 j7 j8 j9 k0,ee N a0 p13 i5 p15 i6 i7=some r/\s=[(0,pV B1 0),(4,iV 0),(5,pV i8 0),(6,W j5 j6 j7),(7,W j8 j9 k0),(8,iV i7)]/\L=[iF i9 j0 j1 p13,iF j2 j3 j4 i5,ah i8 121 [W i9 j0 j1,W j2 j3 j4],bf j5 j6 j7 p15,bf j8 j9 k0 i6,iF A2 n2 c2 a0.m_.Zh,iF A3 n3 c3 a0.m_.Zj,bf A4 n4 c4 a0.Zt,bf A5 n5 c5 a0.Zv,ah B1 124 [W A2 n2 c2,W A3 n3 c3,W A4 n4 c4,W A5 n5 c5,pV B6 0],bE jC qL M7 a0.Zw.at_,ah B6 213 [.map (some M7)]])\/(∃(e3:W5) (p21:W5) (g1:WW) (h7:WW) (h8:Nat) (a6:Option Addr) (a7 a8:Nat) (b0:Option Addr) (b5 b6:Nat) (h9:Option Addr) (i0 i1:Nat) (f6:Option Addr) (f9 g0:Nat),d9 N a0 e3 p21 g1 h7=some r/\s=[(0,pV B1 0),(4,iV 0),(5,pV h8 0),(6,W h9 i0 i1),(7,W f6 f9 g0),(8,iV 0)]/\L=[iF a6 a7 a8 e3,iF b0 b5 b6 p21,ah h8 121 [W a6 a7 a8,W b0 b5 b6],bf h9 i0 i1 g1,bf f6 f9 g0 h7,iF A2 n2 c2 a0.m_.Zh,iF A3 n3 c3 a0.m_.Zj,bf A4 n4 c4 a0.Zt,bf A5 n5 c5 a0.Zv,ah B1 124 [W A2 n2 c2,W A3 n3 c3,W A4 n4 c4,W A5 n5 c5,pV B6 0],bE jC qL M7 a0.Zw.at_,ah B6 213 [.map (some M7)]])) ?_ ?_
 ·refine ba O _ (ad _)<|zY [0,1,2,3,4,5,6,7,8] ?_;refine pm 9 17 O ?_ ?_
  ·refine bX J (wI (cs:=[W A4 n4 c4,W A5 n5 c5]) J (zq _ _ _ _ _ _)) J J J ?_;rintro _ _ ⟨k1,rfl,rfl⟩;refine ca ?_;refine pm 10 17 O ?_ ?_
   ·obtain ⟨m7,k,h⟩:=aa h;refine bX J (oR (fo k)) J J J ?_;rintro _ _ ⟨_,⟨m8,m9,n8,rfl,rfl⟩,rfl⟩;refine ca ?_;refine pm 11 17 O ?_ ?_
    ·refine wi (bq 0 J) (cS [2,3,4,5,6,7,8,9] 10) ?_;refine Ov ?_;obtain ⟨l7,g2,h⟩:=aa h;rcases l7 with y27_0|y27_1
     ·replace h:=GS h;refine bX J (qf (cI g2) J J J (bP [0,2] [3,4,5,6,7,8,9] [0,1,2] 10 J)) J J J ?_;rintro _ _ ⟨_,⟨k2,k3,k4,b9,c8,c9,e0,e1,e2,e4,e5,e6,rfl,rfl⟩,rfl⟩;refine ca ?_;refine bv ?_;refine zY [12,13,14,15,16] ?_
      refine MR 17 J (bJ zero121.out J) fun l8=> ?_
      refine zO 18 J (am (us:=[W k2 k3 k4,W b9 c8 c9]) (cs':=[W k2 k3 k4,W b9 c8 c9]) 0 J J J J size121.out J J J) ?_;rintro _ _ rfl;refine ca ?_;refine bv ?_;refine zX [19,20,21] ?_;refine ab ?_;exact ⟨_,_,.inl (⟨y27_0.1.Zh,y27_0.1.Zj,y27_0.2.1,y27_0.2.2.1,y27_0.2.2.2,l8,k2,k3,k4,b9,c8,c9,e0,e1,e2,e4,e5,e6,h,J,J⟩),sA,cS [1,2,0,3,4,5,6,7,8,9,11,10] 15⟩
     replace h:=GR h;refine bX J (qf (cI g2) J J J (bP [0,2] [3,4,5,6,7,8,9] [0,1,2] 10 J)) J J J ?_;rintro _ _ ⟨_,⟨d0,d1,d2,d3,d4,d6,e7,e8,e9,f0,f1,f2,rfl,rfl⟩,rfl⟩;refine ca ?_;refine bv ?_;refine zY [12,13,14,15,16] ?_
     refine MR 17 J (bJ zero121.out J) fun l9=> ?_
     refine zO 18 J (am (us:=[W d0 d1 d2,W d3 d4 d6]) (cs':=[W d0 d1 d2,W d3 d4 d6]) 0 J J J J size121.out J J J) ?_;rintro _ _ rfl;refine ca ?_;refine bv ?_;refine zX [19,20,21] ?_;refine ab ?_;exact ⟨_,_,.inr (⟨y27_1.1.Zh,y27_1.1.Zj,y27_1.2.1,y27_1.2.2,l9,d0,d1,d2,d3,d4,d6,e7,e8,e9,f0,f1,f2,h,J,J⟩),sA,cS [1,2,0,3,4,5,6,7,8,9,11,10] 15⟩
    refine bX J (bJ zero121.out J) J J J ?_;rintro _ _ ⟨l3,rfl,rfl⟩;refine ca ?_;refine kC (bq 1 J) (cS [3,4,5,6,7,8,9,10] 11) ?_;refine bv ?_;obtain ⟨g3,b7,h⟩:=aa h;rcases g3 with y28_0|y28_1
    ·replace h:=GS h
     refine MQ 11 J (qf (cI b7) J J J (bP [1,3] [4,5,6,7,8,9,10] [0,1,2,3] 11 J)) fun b9 c8 c9 e0 e1 e2 e4 e5 e6 g4 g5 g6=> ?_
     refine zY [12,13,14,15,16] ?_;refine zO 18 J (am (us:=[W b9 c8 c9,W e0 e1 e2]) (cs':=[W b9 c8 c9,W e0 e1 e2]) 11 J J J J size121.out J J J) ?_;rintro _ _ rfl;refine ca ?_;refine bv ?_;refine zX [19,20,21] ?_;refine ab ?_;exact ⟨_,_,.inl (⟨y28_0.1.Zh,y28_0.1.Zj,y28_0.2.1,y28_0.2.2.1,y28_0.2.2.2,l3,b9,c8,c9,e0,e1,e2,e4,e5,e6,g4,g5,g6,h,J,J⟩),sA,cS [0,1,11,2,3,4,5,6,7,8,10,9] 15⟩
    replace h:=GR h
    refine MQ 11 J (qf (cI b7) J J J (bP [1,3] [4,5,6,7,8,9,10] [0,1,2,3] 11 J)) fun d0 d1 d2 d3 d4 d6 e7 e8 e9 f0 f1 f2=> ?_
    refine zY [12,13,14,15,16] ?_;refine zO 18 J (am (us:=[W d0 d1 d2,W d3 d4 d6]) (cs':=[W d0 d1 d2,W d3 d4 d6]) 11 J J J J size121.out J J J) ?_;rintro _ _ rfl;refine ca ?_;refine bv ?_;refine zX [19,20,21] ?_;refine ab ?_;exact ⟨_,_,.inr (⟨y28_1.1.Zh,y28_1.1.Zj,y28_1.2.1,y28_1.2.2,l3,d0,d1,d2,d3,d4,d6,e7,e8,e9,f0,f1,f2,h,J,J⟩),sA,cS [0,1,11,2,3,4,5,6,7,8,10,9] 15⟩
   refine bX J (bJ zero121.out J) J J J ?_;rintro _ _ ⟨k5,rfl,rfl⟩;refine ca ?_;obtain ⟨m0,f3,h⟩:=aa h
   refine Du 10 J (oR (fo f3)) fun m1 m2 m3=> ?_
   refine kC (bq 0 J) (cS [3,4,5,6,7,8,9,10] 11) ?_;refine bv ?_;obtain ⟨g3,b7,h⟩:=aa h;rcases g3 with y28_0|y28_1
   ·replace h:=GS h
    refine MQ 11 J (qf (cI b7) J J J (bP [0,3] [4,5,6,7,8,9,10] [0,1,2,3] 11 J)) fun b9 c8 c9 e0 e1 e2 e4 e5 e6 g4 g5 g6=> ?_
    refine zY [12,13,14,15,16] ?_;refine zO 18 J (am (us:=[W b9 c8 c9,W e0 e1 e2]) (cs':=[W b9 c8 c9,W e0 e1 e2]) 12 J J J J size121.out J J J) ?_;rintro _ _ rfl;refine ca ?_;refine bv ?_;refine zX [19,20,21] ?_;refine ab ?_;exact ⟨_,_,.inl (⟨y28_0.1.Zh,y28_0.1.Zj,y28_0.2.1,y28_0.2.2.1,y28_0.2.2.2,k5,b9,c8,c9,e0,e1,e2,e4,e5,e6,g4,g5,g6,h,J,J⟩),sA,cS [0,1,12,2,3,4,5,6,7,8,10,9] 15⟩
   replace h:=GR h
   refine MQ 11 J (qf (cI b7) J J J (bP [0,3] [4,5,6,7,8,9,10] [0,1,2,3] 11 J)) fun d0 d1 d2 d3 d4 d6 e7 e8 e9 f0 f1 f2=> ?_
   refine zY [12,13,14,15,16] ?_;refine zO 18 J (am (us:=[W d0 d1 d2,W d3 d4 d6]) (cs':=[W d0 d1 d2,W d3 d4 d6]) 12 J J J J size121.out J J J) ?_;rintro _ _ rfl;refine ca ?_;refine bv ?_;refine zX [19,20,21] ?_;refine ab ?_;exact ⟨_,_,.inr (⟨y28_1.1.Zh,y28_1.1.Zj,y28_1.2.1,y28_1.2.2,k5,d0,d1,d2,d3,d4,d6,e7,e8,e9,f0,f1,f2,h,J,J⟩),sA,cS [0,1,12,2,3,4,5,6,7,8,10,9] 15⟩
  refine bX J (bJ zero121.out J) J J J ?_;rintro _ _ ⟨k1,rfl,rfl⟩;refine ca ?_
  refine MR 9 J (wI (cs:=[W A4 n4 c4,W A5 n5 c5]) J (zq _ _ _ _ _ _)) fun k5=> ?_
  obtain ⟨m0,f3,h⟩:=aa h
  refine Du 10 J (oR (fo f3)) fun m1 m2 m3=> ?_
  refine kC (bq 0 J) (cS [3,4,5,6,7,8,9,10] 11) ?_;refine bv ?_;obtain ⟨g3,b7,h⟩:=aa h;rcases g3 with y28_0|y28_1
  ·replace h:=GS h
   refine MQ 11 J (qf (cI b7) J J J (bP [0,3] [4,5,6,7,8,9,10] [0,1,2,3] 11 J)) fun b9 c8 c9 e0 e1 e2 e4 e5 e6 g4 g5 g6=> ?_
   refine zY [12,13,14,15,16] ?_;refine zO 18 J (am (us:=[W b9 c8 c9,W e0 e1 e2]) (cs':=[W b9 c8 c9,W e0 e1 e2]) 13 J J J J size121.out J J J) ?_;rintro _ _ rfl;refine ca ?_;refine bv ?_;refine zX [19,20,21] ?_;refine ab ?_;exact ⟨_,_,.inl (⟨y28_0.1.Zh,y28_0.1.Zj,y28_0.2.1,y28_0.2.2.1,y28_0.2.2.2,k1,b9,c8,c9,e0,e1,e2,e4,e5,e6,g4,g5,g6,h,J,J⟩),sA,cS [0,1,13,2,3,4,5,6,7,8,10,9] 15⟩
  replace h:=GR h
  refine MQ 11 J (qf (cI b7) J J J (bP [0,3] [4,5,6,7,8,9,10] [0,1,2,3] 11 J)) fun d0 d1 d2 d3 d4 d6 e7 e8 e9 f0 f1 f2=> ?_
  refine zY [12,13,14,15,16] ?_;refine zO 18 J (am (us:=[W d0 d1 d2,W d3 d4 d6]) (cs':=[W d0 d1 d2,W d3 d4 d6]) 13 J J J J size121.out J J J) ?_;rintro _ _ rfl;refine ca ?_;refine bv ?_;refine zX [19,20,21] ?_;refine ab ?_;exact ⟨_,_,.inr (⟨y28_1.1.Zh,y28_1.1.Zj,y28_1.2.1,y28_1.2.2,k1,d0,d1,d2,d3,d4,d6,e7,e8,e9,f0,f1,f2,h,J,J⟩),sA,cS [0,1,13,2,3,4,5,6,7,8,10,9] 15⟩
 rintro _ _ (⟨p13,i5,p15,i6,i7,i8,i9,j0,j1,j2,j3,j4,j5,j6,j7,j8,j9,k0,h,rfl,rfl⟩|⟨e3,p21,g1,h7,h8,a6,a7,a8,b0,b5,b6,h9,i0,i1,f6,f9,g0,h,rfl,rfl⟩)
 ·refine sZ ?_;refine gH J h ?_ ?_<;>intro h
  ·exact eY
  exact aU h
 refine sZ ?_;refine ge J<|ab ?_;refine ao (fun s L=> ∃i2 i3 g7 g8 g9 h0 h1 h2,ie N e3 p21 a0 i2 i3=some r/\s=[(0,pV B1 0),(4,iV 0)]/\L=[iF a6 a7 a8 e3,iF b0 b5 b6 p21,bf g7 g8 g9 i2,bf h0 h1 h2 i3,ah B1 124 [W a6 a7 a8,W b0 b5 b6,W g7 g8 g9,W h0 h1 h2,pV B6 0],bE jC qL M7 a0.Zw.at_,ah B6 213 [.map (some M7)]]) ?_ ?_
 ·refine gI ?_ bw (bq 3 J);refine ab ?_;refine ba O ([iF a6 a7 a8 e3,iF b0 b5 b6 p21,ah h8 121 [W a6 a7 a8,W b0 b5 b6],aX h9 i0 i1 g1,bf f6 f9 g0 h7,iF A2 n2 c2 a0.m_.Zh,iF A3 n3 c3 a0.m_.Zj,bf A4 n4 c4 a0.Zt,bf A5 n5 c5 a0.Zv,bE jC qL M7 a0.Zw.at_,ah B6 213 [.map (some M7)]]) (cS [0,1,2,3,4,5,6,7,8,10,11] 12) ?_;refine zY [0,1,2,3,4,5] ?_;obtain ⟨h3,h⟩:=ae h;refine IU 3 J (l:=0) (h:=(a0.Zt.length:Int).toNat) h3.2.1 h3.2.2 ?_;rintro n9 o0 o1 m4;refine zR 6 J (OK 4 J m4 J t9 size28.out J J (by rw [Xn h3.1];rfl) h3.2.1 h3.2.2) ?_;refine zY [8,9] ?_;obtain ⟨i4,h⟩:=ae h;refine IU 4 J (l:=(a0.Zt.length:Int).toNat) (h:=g1.length) i4.2.1 i4.2.2 ?_;rintro l4 l5 l6 m5;refine zR 10 J (Bu 5 J m5 J t9 size28.out J (by rw [Xn i4.1];rfl) i4.2.1) ?_;refine zY [11] ?_;refine pm 7 12 O ?_ ?_
  ·obtain ⟨o2,k,h⟩:=aa h;refine bX J (oR (jL k)) J J J ?_;rintro _ _ ⟨_,⟨k6,k7,k8,rfl,rfl⟩,rfl⟩;refine ca ?_
   refine MR 12 J (wI (cs:=[W l4 l5 l6,W f6 f9 g0]) J (zq _ _ _ _ _ _)) fun p1=> ?_
   obtain ⟨m6,f4,h⟩:=aa h
   refine Du 13 J (oR (fo f4)) fun h4 h5 h6=> ?_
   refine zY [14,15] ?_;refine zO 16 J (am (us:=[W a6 a7 a8,W b0 b5 b6]) (cs':=[W a6 a7 a8,W b0 b5 b6,W A4 n4 c4,W A5 n5 c5,pV B6 0]) 14 J J J J size121.out J J J) ?_;rintro _ _ rfl;refine ca ?_;refine bv ?_;refine zY [17,18] ?_;refine zO 19 J (am (us:=[W k6 k7 k8]) (cs':=[W a6 a7 a8,W b0 b5 b6,W k6 k7 k8,W A5 n5 c5,pV B6 0]) 14 J J J J size22.out J J J) ?_;rintro _ _ rfl;refine ca ?_;refine bv ?_;refine zY [20,21] ?_;refine zO 22 J (am (us:=[W h4 h5 h6]) (cs':=[W a6 a7 a8,W b0 b5 b6,W k6 k7 k8,W h4 h5 h6,pV B6 0]) 14 J J J J size22.out J J J) ?_;rintro _ _ rfl;refine ca ?_;refine bv ?_;exact bn O<|jY
  refine bX J (wI (cs:=[W l4 l5 l6,W f6 f9 g0]) J (zq _ _ _ _ _ _)) J J J ?_;rintro _ _ ⟨p2,rfl,rfl⟩;refine ca ?_;obtain ⟨p3,k,h⟩:=aa h
  refine Du 7 J (oR (jL k)) fun k9 l0 l1=> ?_
  obtain ⟨m6,f4,h⟩:=aa h
  refine Du 13 J (oR (fo f4)) fun h4 h5 h6=> ?_
  refine zY [14,15] ?_;refine zO 16 J (am (us:=[W a6 a7 a8,W b0 b5 b6]) (cs':=[W a6 a7 a8,W b0 b5 b6,W A4 n4 c4,W A5 n5 c5,pV B6 0]) 14 J J J J size121.out J J J) ?_;rintro _ _ rfl;refine ca ?_;refine bv ?_;refine zY [17,18] ?_;refine zO 19 J (am (us:=[W k9 l0 l1]) (cs':=[W a6 a7 a8,W b0 b5 b6,W k9 l0 l1,W A5 n5 c5,pV B6 0]) 14 J J J J size22.out J J J) ?_;rintro _ _ rfl;refine ca ?_;refine bv ?_;refine zY [20,21] ?_;refine zO 22 J (am (us:=[W h4 h5 h6]) (cs':=[W a6 a7 a8,W b0 b5 b6,W k9 l0 l1,W h4 h5 h6,pV B6 0]) 14 J J J J size22.out J J J) ?_;rintro _ _ rfl;refine ca ?_;refine bv ?_;exact bn O<|jY
 rintro _ _ ⟨i2,i3,g7,g8,g9,h0,h1,h2,h,rfl,rfl⟩;refine aA<|ba O ([iF a6 a7 a8 e3,iF b0 b5 b6 p21,bf g7 g8 g9 i2,bf h0 h1 h2 i3,ah B1 124 [W a6 a7 a8,W b0 b5 b6,W g7 g8 g9,W h0 h1 h2,pV B6 0]]) (cS [0,1,2,3,4] 7) ?_;refine ab ?_;obtain ⟨p4,l2,h⟩:=aa h;refine kC (cS [6,5,0,1,2,3,4] 7) (cS [2,3,4,5,6] 7) ?_;refine bv ?_
 refine MR 8 J (Fn 2 2 (zz l2) J J J J (t5 (tu (i:=2) J J) (t5 (tu (i:=3) J J) aw)) wn) fun p5=> ?_
 exact eY
def dp (a0:WN):Option (Int×WN):=
 (iM N a0).bind fun y9=>some (y9.1,y9.2)
theorem AN {N:Nat}{a0:WN}{r:Int×WN}(h:dp N a0=some r):Okc W8 38 [pV B1 0] ([ah B1 124 [W A2 n2 c2,W A3 n3 c3,W A4 n4 c4,W A5 n5 c5,pV B6 0],iF A2 n2 c2 a0.m_.Zh,iF A3 n3 c3 a0.m_.Zj,bf A4 n4 c4 a0.Zt,bf A5 n5 c5 a0.Zv,ah B6 213 [.map (some M7)],bE jC qL M7 a0.Zw.at_]) (fun u post=> ∃A0 n0 c0 A1 n1 c1 A2 n2 c2 A3 n3 c3 M4,u=iV r.1/\post=[ah B1 124 [W A0 n0 c0,W A1 n1 c1,W A2 n2 c2,W A3 n3 c3,pV B6 0],iF A0 n0 c0 r.2.m_.Zh,iF A1 n1 c1 r.2.m_.Zj,bf A2 n2 c2 r.2.Zt,bf A3 n3 c3 r.2.Zv,ah B6 213 [.map (some M4)],bE jC qL M4 r.2.Zw.at_]):=by
 refine ce Tryz.func38 ?_;intro B8;refine ab ?_;refine gE (iY J) ?_;obtain ⟨y9,k,h⟩:=aa h;refine mX (kZ 0 J)<|gD (oC (sj k)) ?_;rintro _ _ ⟨_,⟨a6,a7,a8,b0,b5,b6,b7,b9,c8,c9,d0,d1,d2,rfl,rfl⟩,rfl⟩;exact eY
theorem yu {N:Nat}{a0:WN}{r:Int×WN}(h:dp N a0=some r):Okc W8 38 [pV B1 0] ([oDHeap B1 a0]) (fun u post=>u=iV r.1/\post=[oDHeap B1 r.2]):=LW 0 rfl (fun _=>AN h)
def tC (a0:WH)(a1:WL)(a2:WE):Option (WL×Bool×WH):=
 (dz N a0).bind fun y9=>aG (in64 (y9 - 1)) ((gt N a0 (y9 - 1)).bind fun a6=>bif decide (a2.Za=0) then ((eG N a0 a6 a2.K a2.D).bind fun a7=>(gK N a1 a2.K a2.D).bind fun a8=>(bif a7.1==a8.2.1 then (some (a7.2.1==a8.2.2)) else (some false)).bind fun d0=>some (a8.1,d0,a7.2.2)) else (bif decide (a2.Za=1) then ((sN N a1 a2.K).bind fun b0=>(qy N a0 a6 a2.K).bind fun b5=>some (b0.1,b5.1==b0.2,b5.2)) else (bif decide (a2.Za=2) then ((lP N a1 a2.N).bind fun b6=>(jw N a0 a6 a2.N).bind fun b7=>some (b6.1,b7.1==b6.2,b7.2)) else (bif decide (a2.Za=3) then ((wu N a1 a2.V).bind fun b9=>(tj N a0 a6 a2.V).bind fun c8=>some (b9.1,c8.1==b9.2,c8.2)) else (bif decide (a2.Za=4) then ((qh N a0 a6).bind fun d1=>some ((⟨false,a1.Zs,a1.Zk,a1.Zm⟩:WL),true,d1)) else ((lI N a0).bind fun d2=>(dp N a0.Zo).bind fun c9=>some (a1,decide (c9.1=0),(⟨a0.ZB,a0.Zu,(),c9.2,a0.Zp,a0.Zy,a0.ZE,a0.ZF,a0.ZG,a0.Zz,a0.ZA⟩:WH))))))))
theorem I2 {N:Nat}{a0:WH}{a1:WL}{a2:WE}{r:WL×Bool×WH}(h:tC N a0 a1 a2=some r){B1 B2 B3:Nat}:Okc W8 12 [pV B1 0,.agg #[.bool a1.Ext,.bool a1.Zs,W A4 n4 c4,W A5 n5 c5],(Uy a2)] ([aX A4 n4 c4 a1.Zk,ux A5 n5 c5 a1.Zm,ug,oDWorld B1 B2 B3 a0]) (fun u post=> ∃A0 n0 c0 A1 n1 c1,u=.tuple #[.agg #[.bool r.1.Ext,.bool r.1.Zs,W A0 n0 c0,W A1 n1 c1],.bool r.2.1]/\post=[aX A0 n0 c0 r.1.Zk,ux A1 n1 c1 r.1.Zm,oDWorld B1 B2 B3 r.2.2]):=by
 refine ce Tryz.func12 ?_;intro B6
 refine cn fun B7=> ?_
 intro B8;refine ab ?_;obtain ⟨y9,k,h⟩:=aa h;refine gV (oR (qK k)) ?_;obtain ⟨f1,h⟩:=ae h;refine ab ?_;obtain ⟨a6,k,h⟩:=aa h;refine Gl (oR (sx k)) ?_;intro e6;refine sY ?_;refine gH J h ?_ ?_<;>intro h
 ·refine ab ?_;obtain ⟨f2,k,h⟩:=aa h;refine Gl (oC (sr k)) ?_;obtain ⟨f3,k,h⟩:=aa h
  refine St (oC (Gx k)) fun f4 f6 f9 g0 g1 g2=> ?_
  intro g3;refine ab ?_;refine ga (Dj J J Wt) ?_
  refine JJ 4 58 54 h (fun _ e7 h=> ?_) (fun _ e7 h=> ?_) fun g4 h=> ?_
  ·refine ab ?_;exact fb (Dj J J Wt) J (bW e7 J) J<|gY
  ·exact gY
  exact eY
 refine dr h ?_ ?_<;>intro h
 ·refine ab ?_;obtain ⟨a7,k,h⟩:=aa h
  refine St (oC (Gw k)) fun b5 b6 b7 b9 c8 c9=> ?_
  intro e8;refine ab ?_;refine aA<|ba O ([ah e8 35 (lm a7.1 b5 b6 b7 b9 c8 c9),aX b5 b6 b7 a7.1.Zk,ux b9 c8 c9 a7.1.Zm,ah e6 28 [iV a6.Za,iV a6.N,.string a6.S],ah B7 43 (Mf a2),ah B6 35 (lm a1 A4 n4 c4 A5 n5 c5),aX A4 n4 c4 a1.Zk,ux A5 n5 c5 a1.Zm,ug]) (cS [0,1,2,3,5,6,7,8,9] 11) ?_;refine zY [0,1,2,3,4,6] ?_;obtain ⟨g5,k,h⟩:=aa h;refine zD 5 J (oC (Ed k)) ?_;rintro _ _ ⟨_,⟨rfl,rfl⟩,rfl⟩;refine ca ?_;refine zE 7 J (Dj J J Wt) ?_;refine zO 8 J (am (us:=(lm a7.1 b5 b6 b7 b9 c8 c9)) (cs':=(lm a7.1 b5 b6 b7 b9 c8 c9)) 5 J J J J size35.out J J J) ?_;rintro _ _ rfl;refine ca ?_;refine zX [9] ?_;exact eY
 refine dr h ?_ ?_<;>intro h
 ·refine ab ?_;obtain ⟨a8,k,h⟩:=aa h
  refine St (oC (zT k)) fun d0 d1 d2 d3 d4 d6=> ?_
  intro e9;refine ab ?_;refine aA<|ba O ([ah e9 35 (lm a8.1 d0 d1 d2 d3 d4 d6),aX d0 d1 d2 a8.1.Zk,ux d3 d4 d6 a8.1.Zm,ah e6 28 [iV a6.Za,iV a6.N,.string a6.S],ah B7 43 (Mf a2),ah B6 35 (lm a1 A4 n4 c4 A5 n5 c5),aX A4 n4 c4 a1.Zk,ux A5 n5 c5 a1.Zm,ug]) (cS [0,1,2,3,5,6,7,8,9] 11) ?_;refine zY [0,1,2,3,4,6] ?_;obtain ⟨g6,k,h⟩:=aa h;refine zD 5 J (oC (pc k)) ?_;rintro _ _ ⟨_,⟨rfl,rfl⟩,rfl⟩;refine ca ?_;refine zE 7 J (Dj J J Wt) ?_;refine zO 8 J (am (us:=(lm a8.1 d0 d1 d2 d3 d4 d6)) (cs':=(lm a8.1 d0 d1 d2 d3 d4 d6)) 5 J J J J size35.out J J J) ?_;rintro _ _ rfl;refine ca ?_;refine zX [9] ?_;exact eY
 refine dr h ?_ ?_<;>intro h
 ·refine ab ?_;obtain ⟨b0,k,h⟩:=aa h
  refine St (oC (Jj k)) fun e0 e1 e2 e3 e4 e5=> ?_
  intro f0;refine ab ?_;refine aA<|ba O ([ah f0 35 (lm b0.1 e0 e1 e2 e3 e4 e5),aX e0 e1 e2 b0.1.Zk,ux e3 e4 e5 b0.1.Zm,ah e6 28 [iV a6.Za,iV a6.N,.string a6.S],ah B7 43 (Mf a2),ah B6 35 (lm a1 A4 n4 c4 A5 n5 c5),aX A4 n4 c4 a1.Zk,ux A5 n5 c5 a1.Zm,ug]) (cS [0,1,2,3,5,6,7,8,9] 11) ?_;refine zY [0,1,2,3,4,6] ?_;obtain ⟨g7,k,h⟩:=aa h;refine zD 5 J (oC (GL k)) ?_;rintro _ _ ⟨_,⟨rfl,rfl⟩,rfl⟩;refine ca ?_;refine zE 7 J (Dj J J Wt) ?_;refine zO 8 J (am (us:=(lm b0.1 e0 e1 e2 e3 e4 e5)) (cs':=(lm b0.1 e0 e1 e2 e3 e4 e5)) 5 J J J J size35.out J J J) ?_;rintro _ _ rfl;refine ca ?_;refine zX [9] ?_;exact eY
 refine dr h ?_ ?_<;>intro h
 ·refine ab ?_;obtain ⟨g8,k,h⟩:=aa h;refine Gl (oC (D7 k)) ?_;exact eN
 refine ab ?_;obtain ⟨g9,k,h⟩:=aa h;refine gV (oR (xu k)) ?_;refine mX ((cS [7,0,1,2,3,4,5,6] 8).trans KF) ?_;refine ab ?_;obtain ⟨h0,k,h⟩:=aa h;refine gV (oC (yu k)) ?_;exact mX (Lm)<|eY
def zV (N:Nat)(a0 p4:WV)(p5:Int):Option WV:=
 aG ((0:Int)<=p5/\p5.toNat<=a0.length/\a0.length<=a0.length) (aG (bu (p4.length+((a0.drop p5.toNat).take (a0.length - p5.toNat)).length)) (some (p4++((a0.drop p5.toNat).take (a0.length - p5.toNat)))))
def yf (N:Nat)(a6:WV->Int->Int->Option WV)(p9:Int)(a0 a1 p13:WV)(a7:Int):Option WV:=
 aG (in64 (p9+1)) (a6 p13 a7 (p9+1))
def t8 (a8:WV->Int->Int->Option WV)(p9:Int)(a0 a1 a6:WV)(b0:Int):Option WV:=
 (au a1 p9).bind fun a7=>aG (bu (a6.length+([a7]:List WP).length)) (yf N a8 p9 a0 a1 (a6++([a7]:List WP)) b0)
def t7 (N:Nat)(a8:WV->Int->Int->Option WV)(p9:Int)(a0 a1:WV):Nat->WV->Int->Option WV
 |0,_,_=>none
 |b5+1,a7,a6=>(bif decide (a6<(a0.length:Int)) then ((au a0 a6).bind fun b6=>(au a1 p9).bind fun b7=>some (decide (b6.N<=b7.N))) else (some false)).bind fun b9=>bif b9 then ((au a0 a6).bind fun b0=>aG (bu (a7.length+([b0]:List WP).length)) (aG (in64 (a6+1)) ((t7 N a8 p9 a0 a1 b5) (a7++([b0]:List WP)) (a6+1)))) else (t8 N a8 p9 a0 a1 a7 a6)
def vl (N:Nat)(a0 a1:WV):Nat->WV->Int->Int->Option WV
 |0,_,_,_=>none
 |m6+1,p7,p8,p9=>bif decide (p9<(a1.length:Int)) then (t7 N (vl N a0 a1 m6) p9 a0 a1 N p7 p8) else (zV N a0 p7 p8)
def sQ (a0 a1:WV):Option WV:=
 vl N a0 a1 N [] 0 0
def lR (N:Nat):Nat->WV->Option WV
 |0,_=>none
 |m2+1,a0=>bif decide ((a0.length:Int)<2) then (some a0) else (aG (in64 ((a0.length:Int).tdiv 2)) (aG ((0:Int)<=(a0.length:Int).tdiv 2/\0<=((a0.length:Int).tdiv 2).toNat/\((a0.length:Int).tdiv 2).toNat<=a0.length) (aG ((0:Int)<=(a0.length:Int).tdiv 2/\((a0.length:Int).tdiv 2).toNat<=a0.length/\a0.length<=a0.length) (((lR N m2) ((a0.drop 0).take (((a0.length:Int).tdiv 2).toNat - 0))).bind fun y9=>((lR N m2) ((a0.drop (((a0.length:Int).tdiv 2).toNat)).take (a0.length - ((a0.length:Int).tdiv 2).toNat))).bind fun a6=>(sQ N y9 a6).bind fun a7=>some a7))))
theorem E5 {N m2:Nat}{a0:WV}:lR N (m2+1) a0=bif decide ((a0.length:Int)<2) then (some a0) else (aG (in64 ((a0.length:Int).tdiv 2)) (aG ((0:Int)<=(a0.length:Int).tdiv 2/\0<=((a0.length:Int).tdiv 2).toNat/\((a0.length:Int).tdiv 2).toNat<=a0.length) (aG ((0:Int)<=(a0.length:Int).tdiv 2/\((a0.length:Int).tdiv 2).toNat<=a0.length/\a0.length<=a0.length) (((lR N m2) ((a0.drop 0).take (((a0.length:Int).tdiv 2).toNat - 0))).bind fun y9=>((lR N m2) ((a0.drop (((a0.length:Int).tdiv 2).toNat)).take (a0.length - ((a0.length:Int).tdiv 2).toNat))).bind fun a6=>(sQ N y9 a6).bind fun a7=>some a7)))):=rfl
def BA (a0:WV):Option WV:=lR N N a0
end
section
open Go.RowKit Asn
set_option maxRecDepth 20000
def wD (p3 p4 p5:WV):Option WV:=
 (BA N p3).bind fun a6=>aG (bu (([]:List WP).length+a6.length)) (aG (bu ((([]:List WP)++a6).length+p4.length)) (aG (bu (((([]:List WP)++a6)++p4).length+p5.length)) (some (((([]:List WP)++a6)++p4)++p5))))
def oF (N:Nat)(a7:WV->WV->WV->Int->Option WV)(a6:Int)(a0 a8 b0 b5:WV):Option WV:=
 aG (in64 (a6+1)) (a7 a8 b0 b5 (a6+1))
def nH (N:Nat)(a0:WV):Nat->WV->WV->WV->Int->Option WV
 |0,_,_,_,_=>none
 |m6+1,p7,p8,p9,a6=>bif decide (a6<(a0.length:Int)) then ((au a0 a6).bind fun b6=>(pC N b6).bind fun b7=>bif !b7 then (oF N (nH N a0 m6) a6 a0 p7 p8 p9) else ((au a0 a6).bind fun a7=>bif decide (a7.Za=0) then ((au a0 a6).bind fun a8=>aG (bu (p7.length+([a8]:List WP).length)) (oF N (nH N a0 m6) a6 a0 (p7++([a8]:List WP)) p8 p9)) else (bif decide (a7.Za=1) then ((au a0 a6).bind fun b0=>aG (bu (p8.length+([b0]:List WP).length)) (oF N (nH N a0 m6) a6 a0 p7 (p8++([b0]:List WP)) p9)) else ((au a0 a6).bind fun b5=>aG (bu (p9.length+([b5]:List WP).length)) (oF N (nH N a0 m6) a6 a0 p7 p8 (p9++([b5]:List WP))))))) else (wD N p7 p8 p9)
def DL (a0:WV):Option WV:=
 nH N a0 N [] [] [] 0
def By (N:Nat)(a6:WV):Option WV:=
 some a6
def wy (N:Nat)(a6:WV->Int->Option WV)(a7:Int)(a8:WV):Option WV:=
 aG (in64 (a7+1)) (a6 a8 (a7+1))
def Bx (N:Nat)(b0:WV->Int->Option WV)(b6:Int):Nat->WV->Int->Option WV
 |0,_,_=>none
 |b7+1,a7,a6=>(bif decide (0<a6) then ((au a7 a6).bind fun b9=>some (decide (b9.Za=0))) else (some false)).bind fun c8=>(bif c8 then (aG (in64 (a6 - 1)) ((au a7 (a6 - 1)).bind fun c9=>some (decide (c9.Za=0)))) else (some false)).bind fun d0=>(bif d0 then (aG (in64 (a6 - 1)) ((au a7 (a6 - 1)).bind fun d1=>(au a7 a6).bind fun d2=>some (decide (d2.N<d1.N)))) else (some false)).bind fun d3=>bif d3 then ((au a7 a6).bind fun b5=>aG (in64 (a6 - 1)) ((au a7 (a6 - 1)).bind fun a8=>(au a7 a6).bind fun d4=>aG (in64 (a6 - 1)) ((au (List.set a7 a6.toNat (⟨a8.Za,a8.N,a8.S⟩:WP)) (a6 - 1)).bind fun d6=>aG (in64 (a6 - 1)) ((Bx N b0 b6 b7) (List.set (List.set a7 a6.toNat (⟨a8.Za,a8.N,a8.S⟩:WP)) ((a6 - 1).toNat) (⟨b5.Za,b5.N,b5.S⟩:WP)) (a6 - 1))))) else (wy N b0 b6 a7)
def sL (N:Nat):Nat->WV->Int->Option WV
 |0,_,_=>none
 |a8+1,a6,a7=>bif decide (a7<(a6.length:Int)) then (Bx N (sL N a8) a7 N a6 a7) else (By N a6)
def sM (a6:WV):Option WV:=
 (DL N a6).bind fun a7=>sL N N a7 1
def wx (N:Nat)(a0:WL):Nat->WV->Int->Option WV
 |0,_,_=>none
 |b0+1,a7,a6=>bif decide (a6<(a0.Zm.length:Int)) then ((au a0.Zm a6).bind fun a8=>aG (bu (a7.length+([a8.Zg]:List WP).length)) (aG (in64 (a6+1)) ((wx N a0 b0) (a7++([a8.Zg]:List WP)) (a6+1)))) else (sM N a7)
def yb (a0:WL)(p6:WV):Option WV:=
 (bN N).bind fun a6=>aG (bu (p6.length+([a6]:List WP).length)) (wx N a0 N (p6++([a6]:List WP)) 0)
def wz (N:Nat)(a6:WV->Int->Option WV)(p9:Int)(a0:WL)(a7:WV):Option WV:=
 aG (in64 (p9+1)) (a6 a7 (p9+1))
def uK (N:Nat)(a0:WL):Nat->WV->Int->Option WV
 |0,_,_=>none
 |m7+1,p8,p9=>bif decide (p9<(a0.Zk.length:Int)) then ((au a0.Zk p9).bind fun a6=>bif !decide (a6.Za=8) then (aG (bu (p8.length+([(⟨0,p9,⟨#[]⟩⟩:WP)]:List WP).length)) (wz N (uK N a0 m7) p9 a0 (p8++([(⟨0,p9,⟨#[]⟩⟩:WP)]:List WP)))) else (wz N (uK N a0 m7) p9 a0 p8)) else (yb N a0 p8)
def Ay (a0:WL):Option WV:=
 uK N a0 N ([]:List WP) 0
end
section
open Go.RowKit
set_option maxRecDepth 20000
def ze (N:Nat)(a0:WO)(a1:Int):Option Bool:=
 bif decide (a1<1) then (some false) else (bif decide (a1.tmod 2=1) then (aG (in64 (a1 - 1)) (aG (in64 ((a1 - 1).tdiv 2)) (some (decide ((a1 - 1).tdiv 2<(a0.Zh.length:Int)))))) else (aG (in64 (a1 - 2)) (aG (in64 ((a1 - 2).tdiv 2)) (some (decide ((a1 - 2).tdiv 2<(a0.Zj.length:Int)))))))
def BB (a0:WO)(a1:Int):Option WI:=
 (ze N a0 a1).bind fun y5=>bif !y5 then (some (⟨0,0,0,0,[],[]⟩:WI)) else (bif decide (a1.tmod 2=1) then (aG (in64 (a1 - 1)) (aG (in64 ((a1 - 1).tdiv 2)) ((au a0.Zh ((a1 - 1).tdiv 2)).bind fun a6=>some a6))) else (aG (in64 (a1 - 2)) (aG (in64 ((a1 - 2).tdiv 2)) ((au a0.Zj ((a1 - 2).tdiv 2)).bind fun a7=>some a7))))
def lr (N:Nat)(a0:Int):Option Bool:=
 (bif decide (a0=1) then (some true) else (some (decide (a0=2)))).bind fun b1=>(bif b1 then (some true) else (some (decide (a0=3)))).bind fun b2=>(bif b2 then (some true) else (some (decide (a0=6)))).bind fun b3=>(bif b3 then (some true) else (some (decide (a0=8)))).bind fun b4=>(bif b4 then (some true) else (some (decide (a0=9)))).bind fun b5=>(bif b5 then (some true) else (some (decide (a0=10)))).bind fun b6=>some b6
def dU (N:Nat)(a0:WK)(a1:Int):Option Bool:=
 (bif decide (a0.Za=0) then (some true) else (some (decide (a0.Za=a1)))).bind fun b2=>some b2
def ke (a0:WI):Option Bool:=
 (lr N a0.Za).bind fun y4=>(bif y4 then (some true) else ((bif decide (a0.Za=7) then (some (decide (0<(a0.Zc.length:Int)))) else (some false)).bind fun b6=>some b6)).bind fun b5=>bif b5 then ((bif decide (1<=(a0.Zc.length:Int)) then (some (decide ((a0.Zc.length:Int)<=1025))) else (some false)).bind fun b8=>(bif b8 then ((au a0.Zc 0).bind fun a6=>(bif decide (a6.Za=1) then (some true) else ((au a0.Zc 0).bind fun a7=>some (decide (a7.Za=7)))).bind fun a8=>some a8) else (some false)).bind fun b9=>some b9) else (bif decide (a0.Za=7) then (some (decide (a0.Zi=0))) else ((bif !decide (a0.Zi=0) then (some true) else (some (!decide (a0.Ze=0)))).bind fun b0=>bif b0 then (some false) else (bif decide (a0.Za=5) then ((bif decide ((a0.Zc.length:Int)=2) then ((au a0.Zc 0).bind fun b7=>(dU N b7 7).bind fun c8=>some c8) else (some false)).bind fun c9=>(bif c9 then ((au a0.Zc 1).bind fun d0=>(dU N d0 7).bind fun d1=>some d1) else (some false)).bind fun d2=>some d2) else (some (decide ((a0.Zc.length:Int)=0))))))
def io (N:Nat)(a0:WK)(a1 a2:Int):Option Bool:=
 (bif decide (a0.Za=3) then (some (decide (a1<=a0.N))) else (some false)).bind fun b2=>(bif b2 then (some (decide (a0.N<=a2))) else (some false)).bind fun b3=>some b3
def Fd (N:Nat):Option Bool:=
 some true
def ia (N:Nat)(a1:Int)(a0:WW):Nat->Int->Option Bool
 |0,_=>none
 |m5+1,p6=>bif decide (p6<(a0.length:Int)) then ((au a0 p6).bind fun x8=>(bif !decide (x8.Za=7) then (some true) else (aG (in64 (p6+1)) ((au a0 (p6+1)).bind fun a6=>some (decide (a6.Za=8))))).bind fun b9=>bif b9 then (some false) else ((bif decide (a1=4) then (aG (in64 (p6+2)) ((au a0 (p6+2)).bind fun a7=>(dU N a7 7).bind fun a8=>(bif !a8 then (some true) else (aG (in64 (p6+3)) ((au a0 (p6+3)).bind fun b0=>(io N b0 0 9007199254740992).bind fun b5=>some (!b5)))).bind fun b6=>some b6)) else (some false)).bind fun b7=>bif b7 then (some false) else (aG (in64 (p6+a1)) ((ia N a1 a0 m5) (p6+a1))))) else (Fd N)
def df (a0:WW)(a1:Int):Option Bool:=
 aG (a1≠0) (bif !decide ((a0.length:Int).tmod a1=0) then (some false) else (ia N a1 a0 N 0))
def lq (a0:WI)(p7:Bool):Option Bool:=
 bif p7 then (some (decide ((a0.Zb.length:Int)=0))) else (bif decide (a0.Za=3) then ((bif decide ((a0.Zb.length:Int)=3) then ((au a0.Zb 0).bind fun a6=>(io N a6 0 9007199254740992).bind fun a7=>some a7) else (some false)).bind fun a8=>(bif a8 then ((au a0.Zb 1).bind fun b0=>(dU N b0 9).bind fun b5=>some b5) else (some false)).bind fun b6=>some b6) else (bif decide (a0.Za=4) then ((bif decide (1<=(a0.Zb.length:Int)) then (some (decide ((a0.Zb.length:Int)<=4097))) else (some false)).bind fun b7=>(bif b7 then ((au a0.Zb 0).bind fun b9=>(dU N b9 9).bind fun c8=>some c8) else (some false)).bind fun c9=>some c9) else (bif decide (a0.Za=6) then ((bif decide ((a0.Zb.length:Int)=2) then ((au a0.Zb 0).bind fun d0=>(io N d0 0 3).bind fun d1=>some d1) else (some false)).bind fun d2=>(bif d2 then ((au a0.Zb 1).bind fun d3=>(dU N d3 9).bind fun d4=>some d4) else (some false)).bind fun d6=>some d6) else (bif decide (a0.Za=7) then ((bif decide (4<=(a0.Zb.length:Int)) then ((au a0.Zb 2).bind fun e0=>(io N e0 0 1).bind fun e1=>some e1) else (some false)).bind fun e2=>(bif e2 then ((au a0.Zb 3).bind fun e3=>(io N e3 0 9007199254740992).bind fun e4=>some e4) else (some false)).bind fun e5=>some e5) else (bif decide (a0.Za=8) then ((df N a0.Zb 2).bind fun e6=>some e6) else (bif decide (a0.Za=10) then ((bif decide (1<=(a0.Zb.length:Int)) then ((au a0.Zb 0).bind fun e7=>some (decide (e7.Za=7))) else (some false)).bind fun e8=>(bif e8 then (aG ((0:Int)<=1/\(1:Int).toNat<=a0.Zb.length/\a0.Zb.length<=a0.Zb.length) ((df N ((a0.Zb.drop ((1:Int).toNat)).take (a0.Zb.length - (1:Int).toNat)) 4).bind fun e9=>some e9)) else (some false)).bind fun f0=>some f0) else (bif decide (a0.Za=9) then ((bif decide (2<=(a0.Zb.length:Int)) then ((au a0.Zb 0).bind fun f1=>(io N f1 0 2).bind fun f2=>some f2) else (some false)).bind fun f3=>some f3) else (some true))))))))
def lS (a0:WI):Option Bool:=
 bif decide (1048576<(a0.Zb.length:Int)) then (some false) else (bif decide (a0.Za=2) then (some (decide ((a0.Zb.length:Int)<=4096))) else (bif decide (a0.Za=1) then (lq N a0 (decide (a0.Za=1))) else (lq N a0 (decide (a0.Za=5)))))
def dg (a0:WI):Option Bool:=
 (ke N a0).bind fun a6=>(bif a6 then ((lS N a0).bind fun a7=>some a7) else (some false)).bind fun a8=>some a8
def oH (N:Nat)(a0:WI):Nat->Int->Option Bool
 |0,_=>none
 |a6+1,p21=>bif decide (p21<(a0.Zb.length:Int)) then ((au a0.Zb p21).bind fun a7=>(dL N a7).bind fun a8=>bif !a8 then (some false) else (aG (in64 (p21+1)) ((oH N a0 a6) (p21+1)))) else (dg N a0)
def z7 (a0:WI):Option Bool:=
 oH N a0 N 0
def iW (N:Nat)(a0:WI):Nat->Int->Option Bool
 |0,_=>none
 |a6+1,p13=>bif decide (p13<(a0.Zc.length:Int)) then ((au a0.Zc p13).bind fun a7=>(dL N a7).bind fun a8=>bif !a8 then (some false) else (aG (in64 (p13+1)) ((iW N a0 a6) (p13+1)))) else (z7 N a0)
def fQ (a0:WI):Option Bool:=
 (bif decide (a0.Za<1) then (some true) else (some (decide (11<a0.Za)))).bind fun b4=>(bif b4 then (some true) else (some (decide (a0.Zi<0)))).bind fun b5=>(bif b5 then (some true) else (some (decide (a0.Ze<0)))).bind fun b6=>(bif b6 then (some true) else (some (decide (63<a0.Ze)))).bind fun b7=>(bif b7 then (some true) else (some (decide (a0.Zf<0)))).bind fun b8=>(bif b8 then (some true) else (some (decide (1<a0.Zf)))).bind fun b9=>bif b9 then (some false) else (iW N a0 N 0)
def zf (N:Nat)(a0:WK):Option Bool:=
 (bif decide (a0.Za=7) then (some true) else (some (decide (a0.Za=9)))).bind fun b2=>some b2
def AA (N:Nat)(a0 a1:Int):Option Bool:=
 (bif decide (a0=8) then (some true) else ((bif decide (a0=10) then (some (decide (0<a1))) else (some false)).bind fun b2=>(bif b2 then (aG (in64 (a1 - 1)) (some (decide (((a1 - 1).tmod 4).tmod 2=0)))) else (some false)).bind fun b3=>some b3)).bind fun b1=>some b1
def Gy (N:Nat)(a6:W4):Option W4:=
 some a6
def ru (N:Nat)(a6:W4->Int->Option W4)(a7:Int)(a0:WI)(a8:W4):Option W4:=
 aG (in64 (a7+1)) (a6 a8 (a7+1))
def mw (N:Nat)(a0:WI):Nat->W4->Int->Option W4
 |0,_,_=>none
 |a8+1,a7,a6=>bif decide (a6<(a0.Zb.length:Int)) then ((au a0.Zb a6).bind fun b5=>(zf N b5).bind fun b6=>(bif b6 then ((AA N a0.Za a6).bind fun b7=>some (!b7)) else (some false)).bind fun b9=>bif b9 then ((au a0.Zb a6).bind fun b0=>aG (bu (a7.length+([b0.N]:List Int).length)) (ru N (mw N a0 a8) a6 a0 (a7++([b0.N]:List Int)))) else (ru N (mw N a0 a8) a6 a0 a7)) else (Gy N a7)
def BD (a0:WI)(p5:W4):Option W4:=
 mw N a0 N p5 0
def rv (N:Nat)(a6:W4->Int->Option W4)(p8:Int)(a0:WI)(a7:W4):Option W4:=
 aG (in64 (p8+1)) (a6 a7 (p8+1))
def nI (N:Nat)(a0:WI):Nat->W4->Int->Option W4
 |0,_,_=>none
 |m6+1,p7,p8=>bif decide (p8<(a0.Zc.length:Int)) then ((au a0.Zc p8).bind fun a7=>(zf N a7).bind fun a8=>bif a8 then ((au a0.Zc p8).bind fun a6=>aG (bu (p7.length+([a6.N]:List Int).length)) (rv N (nI N a0 m6) p8 a0 (p7++([a6.N]:List Int)))) else (rv N (nI N a0 m6) p8 a0 p7)) else (BD N a0 p7)
def uP (a0:WI):Option W4:=
 nI N a0 N [] 0
def CV (N:Nat)(p4:W4):Option W4:=
 some p4
def qW (N:Nat)(a6:W4->Int->Option W4)(p7:Int)(a0:WW)(a7:W4):Option W4:=
 aG (in64 (p7+1)) (a6 a7 (p7+1))
def jb (N:Nat)(a0:WW):Nat->W4->Int->Option W4
 |0,_,_=>none
 |m5+1,p6,p7=>bif decide (p7<(a0.length:Int)) then ((au a0 p7).bind fun a7=>(bif decide (a7.Za=7) then (some true) else ((au a0 p7).bind fun a8=>some (decide (a8.Za=9)))).bind fun b12=>bif b12 then ((au a0 p7).bind fun a6=>aG (bu (p6.length+([a6.N]:List Int).length)) (qW N (jb N a0 m5) p7 a0 (p6++([a6.N]:List Int)))) else (qW N (jb N a0 m5) p7 a0 p6)) else (CV N p6)
def oV (a0:WW):Option W4:=
 jb N a0 N ([]:List Int) 0
def Nm (N:Nat):Option Bool:=
 some false
def CW (N:Nat)(a1:Int)(a0:W4):Nat->Int->Option Bool
 |0,_=>none
 |m3+1,p4=>bif decide (p4<(a0.length:Int)) then ((au a0 p4).bind fun x6=>bif decide (x6=a1) then (some true) else (aG (in64 (p4+1)) ((CW N a1 a0 m3) (p4+1)))) else (Nm N)
def E9 (a0:W4)(a1:Int):Option Bool:=
 CW N a1 a0 N 0
def Ky (N:Nat)(p7:W4):Option W4:=
 some p7
def yh (N:Nat)(a7:W4->Int->Option W4)(a6:Int)(a2:W4)(a0:WO)(p13:W4):Option W4:=
 aG (in64 (a6+1)) (a7 p13 (a6+1))
def qV (N:Nat)(a2:W4)(a0:WO):Nat->W4->Int->Option W4
 |0,_,_=>none
 |m8+1,p9,a6=>bif decide (a6<(a2.length:Int)) then ((au a2 a6).bind fun a8=>(ze N a0 a8).bind fun b0=>(bif b0 then ((au a2 a6).bind fun b5=>(E9 N p9 b5).bind fun b6=>some (!b6)) else (some false)).bind fun b16=>bif b16 then ((au a2 a6).bind fun a7=>aG (bu (p9.length+([a7]:List Int).length)) (yh N (qV N a2 a0 m8) a6 a2 a0 (p9++([a7]:List Int)))) else (yh N (qV N a2 a0 m8) a6 a2 a0 p9)) else (Ky N p9)
def tt (a0:WO)(a1 a2:W4):Option W4:=
 qV N a2 a0 N a1 0
def E7 (N:Nat)(p6:W4):Option W4:=
 some p6
def qb (N:Nat)(a0:WO):Nat->W4->Int->Option W4
 |0,_,_=>none
 |m7+1,p8,p9=>bif decide (p9<(p8.length:Int)) then ((au p8 p9).bind fun a6=>(BB N a0 a6).bind fun a7=>(uP N a7).bind fun a8=>(tt N a0 p8 a8).bind fun b0=>aG (in64 (p9+1)) ((qb N a0 m7) b0 (p9+1))) else (E7 N p8)
def mv (a0:WO)(a1:W4)(a2:Int):Option W4:=
 qb N a0 N a1 a2
def zZ (N:Nat)(p6:W4):Option W4:=
 some p6
def ua (N:Nat)(a6:W4->Int->Option W4)(p9:Int)(a7:W4):Option W4:=
 aG (in64 (p9+1)) (a6 a7 (p9+1))
def qc (N:Nat)(a7:W4->Int->Option W4)(p9:Int):Nat->W4->Int->Option W4
 |0,_,_=>none
 |b0+1,a6,p15=>(bif decide (0<p15) then (aG (in64 (p15 - 1)) ((au a6 (p15 - 1)).bind fun b5=>(au a6 p15).bind fun b6=>some (decide (b6<b5)))) else (some false)).bind fun b16=>bif b16 then ((au a6 p15).bind fun b7=>aG (in64 (p15 - 1)) ((au a6 (p15 - 1)).bind fun a8=>(au a6 p15).bind fun b9=>aG (in64 (p15 - 1)) ((au (List.set a6 p15.toNat a8) (p15 - 1)).bind fun c8=>aG (in64 (p15 - 1)) ((qc N a7 p9 b0) (List.set (List.set a6 p15.toNat a8) ((p15 - 1).toNat) b7) (p15 - 1))))) else (ua N a7 p9 a6)
def iU (N:Nat):Nat->W4->Int->Option W4
 |0,_,_=>none
 |m7+1,p8,p9=>bif decide (p9<(p8.length:Int)) then (qc N (iU N m7) p9 N p8 p9) else (zZ N p8)
def wE (a0:W4):Option W4:=
 aG (bu (([]:List Int).length+a0.length)) (iU N N (([]:List Int)++a0) 1)
def Fa (a0:WI):Option Bool:=
 (bif decide (a0.Za=8) then ((fQ N a0).bind fun y5=>some y5) else (some false)).bind fun b4=>some b4
def Nn (N:Nat):Option Bool:=
 some false
def CX (N:Nat)(a0:Int)(a1:W4):Nat->Int->Option Bool
 |0,_=>none
 |m3+1,p4=>bif decide (p4<(a1.length:Int)) then ((au a1 p4).bind fun x6=>bif decide (x6=a0) then (some true) else (aG (in64 (p4+1)) ((CX N a0 a1 m3) (p4+1)))) else (Nn N)
def Fb (a0:Int)(a1:W4):Option Bool:=
 CX N a0 a1 N 0
def BC (N:Nat)(p6:W4):Option W4:=
 some p6
def vm (N:Nat)(a6:W4->Int->Option W4)(p9:Int)(a1:W4)(a0:WI)(p15:W4):Option W4:=
 aG (in64 (p9+2)) (a6 p15 (p9+2))
def sR (N:Nat)(a1:W4)(a0:WI):Nat->W4->Int->Option W4
 |0,_,_=>none
 |m7+1,p8,p9=>(Fa N a0).bind fun a7=>(bif a7 then (some (decide (p9<(a0.Zb.length:Int)))) else (some false)).bind fun b12=>bif b12 then (aG (in64 (p9+1)) ((au a0.Zb (p9+1)).bind fun a6=>(au a0.Zb p9).bind fun a8=>(Fb N a8.N a1).bind fun b0=>(bif b0 then ((bif decide (a6.Za=7) then (some true) else (some (decide (a6.Za=9)))).bind fun b5=>some b5) else (some false)).bind fun b6=>bif b6 then (aG (bu (p8.length+([a6.N]:List Int).length)) (vm N (sR N a1 a0 m7) p9 a1 a0 (p8++([a6.N]:List Int)))) else (vm N (sR N a1 a0 m7) p9 a1 a0 p8))) else (BC N p8)
def yi (a0:WI)(a1:W4):Option W4:=
 sR N a1 a0 N [] 0
def z6 (a6:W4->Option W4)(p13:W4)(a0:WO)(p15:W4):Option W4:=
 bif decide ((p15.length:Int)=(p13.length:Int)) then (some p15) else ((mv N a0 p15 (p13.length:Int)).bind fun a7=>a6 a7)
def oG (N:Nat)(a6:W4->Option W4)(p13:W4)(a0:WO):Nat->W4->Int->Option W4
 |0,_,_=>none
 |b0+1,a7,a8=>bif decide (a8<(p13.length:Int)) then ((au a7 a8).bind fun b5=>(BB N a0 b5).bind fun b6=>(yi N b6 a7).bind fun b7=>(tt N a0 a7 b7).bind fun b9=>aG (in64 (a8+1)) ((oG N a6 p13 a0 b0) b9 (a8+1))) else (z6 N a6 p13 a0 a7)
def kw (N:Nat)(a0:WO):Nat->W4->Option W4
 |0,_=>none
 |a6+1,p13=>oG N (kw N a0 a6) p13 a0 N p13 0
def uO (a0:WO)(a1:WW):Option W4:=
 (oV N a1).bind fun y5=>(tt N a0 ([]:List Int) y5).bind fun y8=>(mv N a0 y8 0).bind fun a6=>kw N a0 N a6
def E8 (a0:WO)(a1:WW):Option W4:=
 (uO N a0 a1).bind fun y5=>(wE N y5).bind fun y7=>some y7
def FH (kv:List (Int×β)):List Int:=(kv.map (·.1)).mergeSort (fun x y=>decide (x<=y))
end
section
variable {c1 c2 c3 c4 c5 c6 c7:Nat}
open Go.RowKit Go.ChangeShapes Go.WideShapes Go.Deep
def qO (x:WK):Prop:=(in64 x.Za)/\(in64 x.N)/\(x.S.size<=reachBytes)
set_option maxRecDepth 100000 in
theorem rP:J8 W8 28 ax qO:=fun {_ enc w base spare held _ cs y} h hw=>by
 obtain ⟨xs,m, -,hy,hl,hx,hf⟩:=DataW.trod_struct Wx h
 have hc:Tryz.prog.cellsOf 28=3:=by kernel_rfl
 rw [hc] at hl
 match cs,hl,hf with
 | [c0,c1,c2],_,hf=>
  have k0:DataW.trod enc W8 w base spare held m 3 (List.take (Tryz.prog.cellsOf 3) (List.drop 0 [c0,c1,c2]))=xs[0]? :=hf 0 _ rfl
  have z0:Tryz.prog.cellsOf 3=1:=by kernel_rfl
  simp only [z0,Xw,Xx,Yr,Ys] at k0
  have l0:0<xs.length:=by rw [hx];decide
  obtain ⟨a0,r0,w0⟩:=(Rdr.w (uI Wo)) (k0.trans (XL l0)) (fJ Wx hy hw (i:=0) rfl (XL l0));have k1:DataW.trod enc W8 w base spare held m 3 (List.take (Tryz.prog.cellsOf 3) (List.drop 1 [c0,c1,c2]))=xs[1]? :=hf 1 _ rfl
  have z1:Tryz.prog.cellsOf 3=1:=by kernel_rfl
  simp only [z1,Xw,Xx,Yr,Ys] at k1
  have l1:1<xs.length:=by rw [hx];decide
  obtain ⟨a1,r1,w1⟩:=(Rdr.w (uI Wo)) (k1.trans (XL l1)) (fJ Wx hy hw (i:=1) rfl (XL l1));have k2:DataW.trod enc W8 w base spare held m 9 (List.take (Tryz.prog.cellsOf 9) (List.drop 2 [c0,c1,c2]))=xs[2]? :=hf 2 _ rfl
  have z2:Tryz.prog.cellsOf 9=1:=by kernel_rfl
  simp only [z2,Xw,Xx,Yr,Ys] at k2
  have l2:2<xs.length:=by rw [hx];decide
  obtain ⟨a2,r2,w2⟩:=(Jh Wm) (k2.trans (XL l2)) (fJ Wx hy hw (i:=2) rfl (XL l2));obtain ⟨rfl, -⟩:=Xq (show [c0]=[_] from r0);obtain ⟨rfl, -⟩:=Xq (show [c1]=[_] from r1);obtain ⟨rfl, -⟩:=Xq (show [c2]=[_] from r2);exact ⟨⟨a0,a1,a2⟩,J,⟨w0,w1,w2⟩⟩
def LA (x:WP):Prop:=(in64 x.Za)/\(in64 x.N)/\(x.S.size<=reachBytes)
set_option maxRecDepth 100000 in
theorem Nj:J8 W8 39 sy LA:=fun {_ enc w base spare held _ cs y} h hw=>by
 obtain ⟨xs,m, -,hy,hl,hx,hf⟩:=DataW.trod_struct Wy h
 have hc:Tryz.prog.cellsOf 39=3:=by kernel_rfl
 rw [hc] at hl
 match cs,hl,hf with
 | [c0,c1,c2],_,hf=>
  have k0:DataW.trod enc W8 w base spare held m 3 (List.take (Tryz.prog.cellsOf 3) (List.drop 0 [c0,c1,c2]))=xs[0]? :=hf 0 _ rfl
  have z0:Tryz.prog.cellsOf 3=1:=by kernel_rfl
  simp only [z0,Xw,Xx,Yr,Ys] at k0
  have l0:0<xs.length:=by rw [hx];decide
  obtain ⟨a0,r0,w0⟩:=(Rdr.w (uI Wo)) (k0.trans (XL l0)) (fJ Wy hy hw (i:=0) rfl (XL l0));have k1:DataW.trod enc W8 w base spare held m 3 (List.take (Tryz.prog.cellsOf 3) (List.drop 1 [c0,c1,c2]))=xs[1]? :=hf 1 _ rfl
  have z1:Tryz.prog.cellsOf 3=1:=by kernel_rfl
  simp only [z1,Xw,Xx,Yr,Ys] at k1
  have l1:1<xs.length:=by rw [hx];decide
  obtain ⟨a1,r1,w1⟩:=(Rdr.w (uI Wo)) (k1.trans (XL l1)) (fJ Wy hy hw (i:=1) rfl (XL l1));have k2:DataW.trod enc W8 w base spare held m 9 (List.take (Tryz.prog.cellsOf 9) (List.drop 2 [c0,c1,c2]))=xs[2]? :=hf 2 _ rfl
  have z2:Tryz.prog.cellsOf 9=1:=by kernel_rfl
  simp only [z2,Xw,Xx,Yr,Ys] at k2
  have l2:2<xs.length:=by rw [hx];decide
  obtain ⟨a2,r2,w2⟩:=(Jh Wm) (k2.trans (XL l2)) (fJ Wy hy hw (i:=2) rfl (XL l2));obtain ⟨rfl, -⟩:=Xq (show [c0]=[_] from r0);obtain ⟨rfl, -⟩:=Xq (show [c1]=[_] from r1);obtain ⟨rfl, -⟩:=Xq (show [c2]=[_] from r2);exact ⟨⟨a0,a1,a2⟩,J,⟨w0,w1,w2⟩⟩
def IZ (x:WU):Prop:=(in64 x.Has)/\(in64 x.Zd)/\(qO x.Value)/\(qO x.Zq)/\(qO x.Zr)
set_option maxRecDepth 100000 in
theorem Kv:J8 W8 41 OL IZ:=fun {_ enc w base spare held _ cs y} h hw=>by
 obtain ⟨xs,m, -,hy,hl,hx,hf⟩:=DataW.trod_struct Wz h
 have hc:Tryz.prog.cellsOf 41=11:=by kernel_rfl
 rw [hc] at hl
 match cs,hl,hf with
 | [c0,c1,c2,c3,c4,c5,c6,c7,c8,c9,a6],_,hf=>
  have k0:DataW.trod enc W8 w base spare held m 3 (List.take (Tryz.prog.cellsOf 3) (List.drop 0 [c0,c1,c2,c3,c4,c5,c6,c7,c8,c9,a6]))=xs[0]? :=hf 0 _ rfl
  have z0:Tryz.prog.cellsOf 3=1:=by kernel_rfl
  simp only [z0,Xw,Xx,Yr,Ys] at k0
  have l0:0<xs.length:=by rw [hx];decide
  obtain ⟨a0,r0,w0⟩:=(Rdr.w (uI Wo)) (k0.trans (XL l0)) (fJ Wz hy hw (i:=0) rfl (XL l0));have k1:DataW.trod enc W8 w base spare held m 3 (List.take (Tryz.prog.cellsOf 3) (List.drop 1 [c0,c1,c2,c3,c4,c5,c6,c7,c8,c9,a6]))=xs[1]? :=hf 1 _ rfl
  have z1:Tryz.prog.cellsOf 3=1:=by kernel_rfl
  simp only [z1,Xw,Xx,Yr,Ys] at k1
  have l1:1<xs.length:=by rw [hx];decide
  obtain ⟨a1,r1,w1⟩:=(Rdr.w (uI Wo)) (k1.trans (XL l1)) (fJ Wz hy hw (i:=1) rfl (XL l1));have k2:DataW.trod enc W8 w base spare held m 28 (List.take (Tryz.prog.cellsOf 28) (List.drop 2 [c0,c1,c2,c3,c4,c5,c6,c7,c8,c9,a6]))=xs[2]? :=hf 2 _ rfl
  have z2:Tryz.prog.cellsOf 28=3:=by kernel_rfl
  simp only [z2,Xw,Xx,Yr,Ys] at k2
  have l2:2<xs.length:=by rw [hx];decide
  obtain ⟨a2,r2,w2⟩:=rP (k2.trans (XL l2)) (fJ Wz hy hw (i:=2) rfl (XL l2));have k3:DataW.trod enc W8 w base spare held m 28 (List.take (Tryz.prog.cellsOf 28) (List.drop 5 [c0,c1,c2,c3,c4,c5,c6,c7,c8,c9,a6]))=xs[3]? :=hf 3 _ rfl
  have z3:Tryz.prog.cellsOf 28=3:=by kernel_rfl
  simp only [z3,Xw,Xx,Yr,Ys] at k3
  have l3:3<xs.length:=by rw [hx];decide
  obtain ⟨a3,r3,w3⟩:=rP (k3.trans (XL l3)) (fJ Wz hy hw (i:=3) rfl (XL l3));have k4:DataW.trod enc W8 w base spare held m 28 (List.take (Tryz.prog.cellsOf 28) (List.drop 8 [c0,c1,c2,c3,c4,c5,c6,c7,c8,c9,a6]))=xs[4]? :=hf 4 _ rfl
  have z4:Tryz.prog.cellsOf 28=3:=by kernel_rfl
  simp only [z4,Xw,Xx,Yr,Ys] at k4
  have l4:4<xs.length:=by rw [hx];decide
  obtain ⟨a4,r4,w4⟩:=rP (k4.trans (XL l4)) (fJ Wz hy hw (i:=4) rfl (XL l4));obtain ⟨rfl, -⟩:=Xq (show [c0]=[_] from r0);obtain ⟨rfl, -⟩:=Xq (show [c1]=[_] from r1);have e2:[c2,c3,c4]=[.int .i64 a2.Za,.int .i64 a2.N,.string a2.S]:=r2;simp only [Xr,and_true] at e2;obtain ⟨rfl,rfl,rfl⟩:=e2;have e3:[c5,c6,c7]=[.int .i64 a3.Za,.int .i64 a3.N,.string a3.S]:=r3;simp only [Xr,and_true] at e3;obtain ⟨rfl,rfl,rfl⟩:=e3;have e4:[c8,c9,a6]=[.int .i64 a4.Za,.int .i64 a4.N,.string a4.S]:=r4;simp only [Xr,and_true] at e4;obtain ⟨rfl,rfl,rfl⟩:=e4;exact ⟨⟨a0,a1,a2,a3,a4⟩,J,⟨w0,w1,w2,w3,w4⟩⟩
def HV (x:WE):Prop:=(in64 x.Za)/\(in64 x.N)/\(LA x.K)/\(IZ x.D)/\(qO x.V)
set_option maxRecDepth 100000 in
theorem Nk:J8 W8 43 xX HV:=fun {_ enc w base spare held _ cs y} h hw=>by
 obtain ⟨xs,m, -,hy,hl,hx,hf⟩:=DataW.trod_struct WA h
 have hc:Tryz.prog.cellsOf 43=19:=by kernel_rfl
 rw [hc] at hl
 match cs,hl,hf with
 | [c0,c1,c2,c3,c4,c5,c6,c7,c8,c9,a6,a7,a8,b0,b5,b6,b7,b9,d0],_,hf=>
  have k0:DataW.trod enc W8 w base spare held m 3 (List.take (Tryz.prog.cellsOf 3) (List.drop 0 [c0,c1,c2,c3,c4,c5,c6,c7,c8,c9,a6,a7,a8,b0,b5,b6,b7,b9,d0]))=xs[0]? :=hf 0 _ rfl
  have z0:Tryz.prog.cellsOf 3=1:=by kernel_rfl
  simp only [z0,Xw,Xx,Yr,Ys] at k0
  have l0:0<xs.length:=by rw [hx];decide
  obtain ⟨a0,r0,w0⟩:=(Rdr.w (uI Wo)) (k0.trans (XL l0)) (fJ WA hy hw (i:=0) rfl (XL l0));have k1:DataW.trod enc W8 w base spare held m 3 (List.take (Tryz.prog.cellsOf 3) (List.drop 1 [c0,c1,c2,c3,c4,c5,c6,c7,c8,c9,a6,a7,a8,b0,b5,b6,b7,b9,d0]))=xs[1]? :=hf 1 _ rfl
  have z1:Tryz.prog.cellsOf 3=1:=by kernel_rfl
  simp only [z1,Xw,Xx,Yr,Ys] at k1
  have l1:1<xs.length:=by rw [hx];decide
  obtain ⟨a1,r1,w1⟩:=(Rdr.w (uI Wo)) (k1.trans (XL l1)) (fJ WA hy hw (i:=1) rfl (XL l1));have k2:DataW.trod enc W8 w base spare held m 39 (List.take (Tryz.prog.cellsOf 39) (List.drop 2 [c0,c1,c2,c3,c4,c5,c6,c7,c8,c9,a6,a7,a8,b0,b5,b6,b7,b9,d0]))=xs[2]? :=hf 2 _ rfl
  have z2:Tryz.prog.cellsOf 39=3:=by kernel_rfl
  simp only [z2,Xw,Xx,Yr,Ys] at k2
  have l2:2<xs.length:=by rw [hx];decide
  obtain ⟨a2,r2,w2⟩:=Nj (k2.trans (XL l2)) (fJ WA hy hw (i:=2) rfl (XL l2));have k3:DataW.trod enc W8 w base spare held m 41 (List.take (Tryz.prog.cellsOf 41) (List.drop 5 [c0,c1,c2,c3,c4,c5,c6,c7,c8,c9,a6,a7,a8,b0,b5,b6,b7,b9,d0]))=xs[3]? :=hf 3 _ rfl
  have z3:Tryz.prog.cellsOf 41=11:=by kernel_rfl
  simp only [z3,Xw,Xx,Yr,Ys] at k3
  have l3:3<xs.length:=by rw [hx];decide
  obtain ⟨a3,r3,w3⟩:=Kv (k3.trans (XL l3)) (fJ WA hy hw (i:=3) rfl (XL l3));have k4:DataW.trod enc W8 w base spare held m 28 (List.take (Tryz.prog.cellsOf 28) (List.drop 16 [c0,c1,c2,c3,c4,c5,c6,c7,c8,c9,a6,a7,a8,b0,b5,b6,b7,b9,d0]))=xs[4]? :=hf 4 _ rfl
  have z4:Tryz.prog.cellsOf 28=3:=by kernel_rfl
  simp only [z4,Xw,Xx,Yr,Ys] at k4
  have l4:4<xs.length:=by rw [hx];decide
  obtain ⟨a4,r4,w4⟩:=rP (k4.trans (XL l4)) (fJ WA hy hw (i:=4) rfl (XL l4));obtain ⟨rfl, -⟩:=Xq (show [c0]=[_] from r0);obtain ⟨rfl, -⟩:=Xq (show [c1]=[_] from r1);have e2:[c2,c3,c4]=[.int .i64 a2.Za,.int .i64 a2.N,.string a2.S]:=r2;simp only [Xr,and_true] at e2;obtain ⟨rfl,rfl,rfl⟩:=e2;have e3:[c5,c6,c7,c8,c9,a6,a7,a8,b0,b5,b6]=[.int .i64 a3.Has,.int .i64 a3.Zd,.int .i64 a3.Value.Za,.int .i64 a3.Value.N,.string a3.Value.S,.int .i64 a3.Zq.Za,.int .i64 a3.Zq.N,.string a3.Zq.S,.int .i64 a3.Zr.Za,.int .i64 a3.Zr.N,.string a3.Zr.S]:=r3;simp only [Xr,and_true] at e3;obtain ⟨rfl,rfl,rfl,rfl,rfl,rfl,rfl,rfl,rfl,rfl,rfl⟩:=e3;have e4:[b7,b9,d0]=[.int .i64 a4.Za,.int .i64 a4.N,.string a4.S]:=r4;simp only [Xr,and_true] at e4;obtain ⟨rfl,rfl,rfl⟩:=e4;exact ⟨⟨a0,a1,a2,a3,a4⟩,J,⟨w0,w1,w2,w3,w4⟩⟩
set_option maxRecDepth 100000 in
theorem TG {enc:TypeId×Value->H}{r:Reach}{base:Nat}{d:DataW H}(hv:Value.okWide W8 hJ r b0 22 v)(h:DataW.Trod enc W8 hJ base spare held 22 v d p)(hz:Light W8 22 d): ∃(m:WW) (Aq_0:Option Addr) (nq_0 cq_0:Nat),v=W Aq_0 nq_0 cq_0/\(UJ (fun z22=>qO z22) m)/\(iI ax (W Aq_0 nq_0 cq_0) m).ok (fun _=>False) (fun q=>q<hJ.heap.size) hJ:=by
 obtain ⟨A,n,c,rfl⟩:=okWide_slice t9 hv;obtain ⟨fuel,hf⟩:=h;obtain ⟨m,⟨u,e,h1⟩,hw⟩:=(LM t9 O (by decide) (YU O) rP) hf hz;obtain ⟨rfl, -⟩:=Xq (show [_]=[_] from e);exact ⟨m,A,n,c,J,hw,h1⟩
set_option maxRecDepth 100000 in
theorem TF {enc:TypeId×Value->H}{r:Reach}{base:Nat}{d:DataW H}(hv:Value.okWide W8 hJ r b0 23 v)(h:DataW.Trod enc W8 hJ base spare held 23 v d p)(hz:Light W8 23 d): ∃(m:List WE) (Aq_0:Option Addr) (nq_0 cq_0:Nat),v=W Aq_0 nq_0 cq_0/\(UJ (fun z23=>HV z23) m)/\(iI xX (W Aq_0 nq_0 cq_0) m).ok (fun _=>False) (fun q=>q<hJ.heap.size) hJ:=by
 obtain ⟨A,n,c,rfl⟩:=okWide_slice z5 hv;obtain ⟨fuel,hf⟩:=h;obtain ⟨m,⟨u,e,h1⟩,hw⟩:=(LM z5 O (by decide) (YU O) Nk) hf hz;obtain ⟨rfl, -⟩:=Xq (show [_]=[_] from e);exact ⟨m,A,n,c,J,hw,h1⟩
end
section
open Go.RowKit
def Sat (m:Option ρ)(R:ρ->Prop):Prop:= ∃r,m=some r/\R r
theorem ac {x:ρ}{R:ρ->Prop}(h:R x):Sat (some x) R:=⟨x,rfl,h⟩
theorem Sat.eq {m:Option ρ}{x:ρ}(h:Sat m (· =x)):m=some x:=by obtain ⟨r,h1,rfl⟩:=h;exact h1
theorem Sat.mono {m:Option ρ}{R Q:ρ->Prop}(h:Sat m R)(k:∀x,R x->Q x):Sat m Q:=by obtain ⟨r,h1,h2⟩:=h;exact ⟨r,h1,k _ h2⟩
theorem Sat.bind {m:Option σ}{f:σ->Option ρ}{P:σ->Prop}{R:ρ->Prop}(h:Sat m P)(k:∀x,P x->Sat (f x) R):Sat (m.bind f) R:=by obtain ⟨x,rfl,h2⟩:=h;exact k x h2
theorem dx {b:Bool}{x y:Option ρ}{R:ρ->Prop}(h1:b=true->Sat x R)(h2:b=false->Sat y R):Sat (bif b then x else y) R:=by cases b with|true=>exact h1 rfl|false=>exact h2 rfl
theorem az {p:Prop}[Decidable p]{x y:Option ρ}{R:ρ->Prop}(h1:p->Sat x R)(h2:¬p->Sat y R):Sat (bif decide p then x else y) R:=by
 by_cases h:p
 ·rw [WX h];exact h1 h
 rw [WY h];exact h2 h
theorem Ei {b:Bool}{x y:Option ρ}{R:ρ->Prop}(h1:b=false->Sat x R)(h2:b=true->Sat y R):Sat (bif !b then x else y) R:=by cases b with|true=>exact h2 rfl|false=>exact h1 rfl
theorem av {b:Prop}[Decidable b]{m:Option ρ}{R:ρ->Prop}(h:b)(k:Sat m R):Sat (aG b m) R:=by unfold aG;rw [if_pos h];exact k
theorem pU {xs:List α}{f:α->Option ρ}{R:ρ->Prop}(h0:0<=i)(h1:i<xs.length)(k:∀x,xs[i.toNat]? =some x->Sat (f x) R):Sat ((au xs i).bind f) R:=by
 unfold au;rw [if_neg I,XL I];exact k _ (XL I)
theorem bs {x:σ}{f:σ->Option ρ}:(some x).bind f=f x:=Eq.trans rfl rfl
theorem ct {x y:ρ}:(bif true then x else y)=x:=Eq.trans rfl rfl
theorem cf {x y:ρ}:(bif false then x else y)=y:=Eq.trans rfl rfl
theorem nt:(!true)=false:=Eq.trans rfl rfl
theorem nf:(!false)=true:=Eq.trans rfl rfl
theorem fO {b:Int}(h:a<b):decide (a<b)=true:=WX h
theorem fD {b:Int}(h:b<=a):decide (a<b)=false:=WY I
theorem Q7 {b:Int}(h:a<=b):decide (a<=b)=true:=WX h
theorem Q8 {b:Int}(h:b<a):decide (a<=b)=false:=WY I
theorem tc {b:Int}(h:a=b):decide (a=b)=true:=WX h
theorem jg {b:Int}(h:a≠b):decide (a=b)=false:=WY h
theorem cF {b:Prop}[Decidable b]{m:Option ρ}(h:b):aG b m=m:=if_pos h
theorem r64 {m:Option ρ}(h1:-9000000000000000000<=a)(h2:a<=9000000000000000000):aG (in64 a) m=m:=if_pos ⟨by omega,by omega⟩
theorem rF {n:Nat}{m:Option ρ}(h:n<=1000000):aG (bu n) m=m:=if_pos (by unfold bu;omega)
theorem Rj {xs:List α}(h0:0<=i)(h1:i.toNat<xs.length):au xs i=some xs[i.toNat]:=by
 unfold au;rw [if_neg I,XL h1]
theorem aK {xs:List α}{i:Nat}(h1:i<xs.length):au xs (i:Int)=some xs[i]:=by
 unfold au;rw [if_neg I,Xm,XL h1]
theorem jo (L:Nat->Nat->σ->Option ρ)(n:Nat)(Inv:Nat->σ->Prop)(R:ρ->Prop)(round:∀m i s,i<n->Inv i s->(∀s',Inv (i+1) s'->Sat (L m (i+1) s') R)->Sat (L (m+1) i s) R)(fin:∀m s,Inv n s->Sat (L (m+1) n s) R): ∀m i s,n<m+i->i<=n->Inv i s->Sat (L m i s) R
 |0,i,s,h,h2,_=>by omega
 |m+1,i,s,h,h2,hi=>by
  by_cases e:i=n
  ·subst e;exact fin m s hi
  exact round m i s I hi fun s' h'=>jo L n Inv R round fin m (i+1) s' I I h'
theorem vQ (L:Nat->σ->Option ρ)(v:σ->Nat)(Inv:σ->Prop)(R:ρ->Prop)(round:∀m s,Inv s->(∀s',v s'<v s->Inv s'->Sat (L m s') R)->Sat (L (m+1) s) R): ∀m s,v s<m->Inv s->Sat (L m s) R
 |0,_,h,_=>by omega
 |m+1,s,h,hi=>round m s hi fun s' h1 h2=>vQ L v Inv R round m s' I h2
theorem ck {l:List α}{i:Nat}(h:i<l.length):l.take (i+1)=l.take i++ [l[i]]:=by
 rw [List.take_add_one,XL h];rfl
theorem MH: ∀{a b:List Int},a.Pairwise (· < ·)->b.Pairwise (· < ·)->(∀x,x∈a↔x∈b)->a=b
 | [],[],_,_,_=>rfl
 | [],y::b,_,_,h=>by have:=(h y).2 (by simp);cases this
 |x::a,[],_,_,h=>by have:=(h x).1 (by simp);cases this
 | x::a,y::b,ha,hb,h=>by
  obtain ⟨ha1,ha2⟩:=Yj.1 ha;obtain ⟨a6,a7⟩:=Yj.1 hb
  have e:x=y:=by
   rcases X7.1 ((h x).1 (by simp)) with e|h1
   ·exact e
   rcases X7.1 ((h y).2 (by simp)) with e|h2
   ·exact e.symm
   have:=a6 x h1;have:=ha1 y h2;omega
  subst e;rw [MH ha2 a7 fun z=> ?_];constructor
  ·intro hz;rcases X7.1 ((h z).1 (by simp [hz])) with e|h1
   ·subst e;exact absurd (ha1 z hz) I
   exact h1
  intro hz;rcases X7.1 ((h z).2 (by simp [hz])) with e|h1
  ·subst e;exact absurd (a6 z hz) I
  exact h1
theorem La [DecidableEq α](a:α)(L:List (α×β)):(∃i b,fp a L 0=some (i,b)/\L[i]? =some (a,b))\/(fp a L 0=none/\a∉L.map (·.1)):=by
 cases h:fp a L 0 with
 | none=>exact .inr ⟨rfl,fun h1=>by
   obtain ⟨p,h2,h3⟩:=Yb.1 h1
   exact (Rl a L).1 h p h2 h3⟩
 |some q=>obtain ⟨i,b⟩:=q;exact .inl ⟨i,b,J,(Mj a L 0 i b h).2⟩
theorem AY [DecidableEq α](L:List (α×β))(a:α)(b:β):(AZ L a b).map (·.1)=if a∈L.map (·.1) then L.map (·.1) else L.map (·.1)++ [a]:=by
 unfold AZ;rcases La a L with ⟨i,c,h1,h2⟩|⟨h1,h2⟩
 ·have hm:a∈L.map (·.1):=Yb.2 ⟨_,Yc h2,rfl⟩;rw [h1,if_pos hm];show (L.set i (a,b)).map (·.1)=_;rw [List.map_set];apply Xz;intro j;by_cases e:i=j
  ·subst e;have hlt:=(XN.1 h2).1;rw [XQ (by simpa using hlt),XO,h2];rfl
  rw [XP e]
 rw [h1,if_neg h2];show (L++ [(a,b)]).map (·.1)=_;rw [X3];rfl
theorem Qw [DecidableEq α](L:List (α×β))(a:α)(b:β)(x:α):x∈(AZ L a b).map (·.1)↔x=a\/x∈L.map (·.1):=by
 rw [AY];split
 ·constructor
  ·exact .inr
  rintro (rfl|h)<;>assumption
 rw [X6,Yg];exact Or.comm
theorem xa: ∀{l:List α} {i:Nat} {a:α},l.Nodup->l[i]? =some a-> ∀x,x∈l.eraseIdx i↔x∈l/\x≠a
 | [],_,_,_,h,_=>by simp at h
 |y::l,0,a,hn,h,x=>by
  simp only [XJ,YM] at h;subst h;rw [List.eraseIdx_cons_zero];obtain ⟨h1, -⟩:=Yi.1 hn;constructor
  ·intro hx;exact ⟨by simp [hx],fun e=>h1 (e▸hx)⟩
  rintro ⟨hx,hne⟩;rcases X7.1 hx with e|hx
  ·exact absurd e hne
  exact hx
 | y::l,i+1,a,hn,h,x=>by
  simp only [XI] at h;obtain ⟨h1,h2⟩:=Yi.1 hn;rw [List.eraseIdx_cons_succ,X7,X7,xa h2 h x];have ha:a∈l:=Yc h;constructor
  ·rintro (rfl|⟨h3,h4⟩)
   ·exact ⟨.inl J,fun e=>h1 (e▸ha)⟩
   exact ⟨.inr h3,h4⟩
  rintro ⟨rfl|h3,h4⟩
  ·exact .inl J
  exact .inr ⟨h3,h4⟩
theorem HF [DecidableEq α]{L:List (α×β)}(h:(L.map (·.1)).Nodup)(a:α):(∀x,x∈(Dm L a).map (·.1)↔x∈L.map (·.1)/\x≠a)/\((Dm L a).map (·.1)).Nodup/\(Dm L a).length<=L.length:=by
 unfold Dm;rcases La a L with ⟨i,c,h1,h2⟩|⟨h1,h2⟩
 ·rw [h1]
  have h3:(L.map (·.1))[i]? =some a:=by rw [XO,h2];rfl
  show (∀x,x∈(L.eraseIdx i).map (·.1)↔_)/\((L.eraseIdx i).map (·.1)).Nodup/\(L.eraseIdx i).length<=_;rw [<-Dk];exact ⟨xa h h3,h.sublist (List.eraseIdx_sublist _ _),(List.eraseIdx_sublist _ _).length_le⟩
 rw [h1];exact ⟨fun x=>⟨fun hx=>⟨hx,fun e=>h2 (e▸hx)⟩,fun hx=>hx.1⟩,h,YA _⟩
end
section
open Go.RowKit
theorem oJ (xs:List α)(i:Nat):au xs (i:Int)=xs[i]? :=by
 unfold au;rw [if_neg I];simp
theorem Ek {b:Prop}[Decidable b]{m:Option ρ}(h:b):aG b m=m:=if_pos h
def bL (v:WK):Bool:=decide (v.Za=7)||decide (v.Za=9)
def mL (k:Int)(i:Nat):Bool:=!decide (k=8)&&(!decide (k=10)||decide ((i:Int).tmod 2=0))
def pick (f:Nat->WK->Bool):Nat->List WK->List Int
 |_,[]=> []
 |i,v::l=>(bif f i v then [v.N] else [])++pick f (i+1) l
theorem pD (f:Nat->WK->Bool)(i:Nat)(v:WK)(l:List WK):pick f i (v::l)=(bif f i v then [v.N] else [])++pick f (i+1) l:=rfl
theorem BG (f:Nat->WK->Bool): ∀(i:Nat) (l:List WK),(pick f i l).length<=l.length
 |_,[]=>YA _
 |i,v::l=>by
  have:=BG f (i+1) l;unfold pick;cases f i v<;>simp<;>omega
theorem G0: ∀(i:Nat) (l:List WK),pick (fun _ _=>false) i l=[]
 |_,[]=>rfl
 |i,v::l=>by unfold pick;simp [G0 (i+1) l]
theorem Ea (N:Nat)(v:WK):tg N v=some (bL v):=by
 unfold tg bL;cases decide (v.Za=7)<;>rfl
theorem Bk (N:Nat)(v:WK):zf N v=some (bL v):=by
 unfold zf bL;cases decide (v.Za=7)<;>rfl
theorem HK (N:Nat)(a b:Bool)(x:WK)(p:List Int)(h:p.length<=5000):cM (fun x st=>fI N a x st) (b,x) (none,p)=some (true,(none,p++(bif (b==a)&&bL x then [x.N] else []))):=by
 unfold cM fI;simp only [Ea,YI];cases b==a
 ·simp
 cases bL x
 ·simp
 have:bu (p.length+ [x.N].length):=by unfold bu;simp only [XV,XY];omega
 simp only [cond_true,YI,Bool.and_self];rw [Ek this];rfl
theorem ML (N:Nat)(a:Bool)(c:WI)(hc:c.Zb.length<=2900)(K:Nat)(hK:K<=1000): ∀(m i:Nat) (p:List Int),c.Zb.length<m+i->i<=c.Zb.length->p.length<=K+i->ms N (cM (fun x st=>fI N a x st)) c m (i:Int) (none,p)=some (none,p++pick (fun i v=>(mL c.Za i==a)&&bL v) i (c.Zb.drop i))
 |0,i,p,h,h2,_=>by omega
 | m+1,i,p,h,h2,h3=>by
  rw [ms.eq_2];by_cases hi:i<c.Zb.length
  ·rw [show (decide ((i:Int)<(c.Zb.length:Int)))=true from WX I,oJ,XL hi,Xt hi];simp only [cond_true,YI]
   have hs:(bif !decide (c.Za=8) then ((bif !decide (c.Za=10) then (some true) else (some (decide ((i:Int).tmod 2=0)))).bind fun a6=>some a6) else (some false))=some (mL c.Za i):=by
    unfold mL;cases decide (c.Za=8)<;>cases decide (c.Za=10)<;>rfl
   rw [hs];simp only [YI];rw [HK N a _ _ _ I];rw [YI]
   dsimp only
   rw [Bool.not_true,cond_false];rw [Ek (by unfold in64;omega)]
   have hlen:(p++(bif (mL c.Za i==a)&&bL c.Zb[i] then [c.Zb[i].N] else [])).length<=K+(i+1):=by
    cases (mL c.Za i==a)&&bL c.Zb[i]<;>simp<;>omega
   have:=ML N a c hc K hK m (i+1) _ I hi hlen;simp only [Xj,Xh] at this;rw [this];rw [pD,W0]
  rw [show (decide ((i:Int)<(c.Zb.length:Int)))=false from WY I,Xu I];simp [pick]
theorem Qb (N:Nat)(hN:6500<N)(a:Bool)(c:WI)(hS:c.Zc.length<=1000)(hc:c.Zb.length<=2900): ∀(m i:Nat) (p:List Int),c.Zc.length<m+i->i<=c.Zc.length->p.length<=i->li N (cM (fun x st=>fI N a x st)) c m (i:Int) (none,p)=some (none,(p++pick (fun _ v=>(true==a)&&bL v) i (c.Zc.drop i))++pick (fun i v=>(mL c.Za i==a)&&bL v) 0 c.Zb)
 |0,i,p,h,h2,_=>by omega
 | m+1,i,p,h,h2,h3=>by
  rw [li.eq_2];by_cases hi:i<c.Zc.length
  ·rw [show (decide ((i:Int)<(c.Zc.length:Int)))=true from WX I,oJ,XL hi,Xt hi];simp only [cond_true,YI];rw [HK N a _ _ _ I];rw [YI]
   dsimp only
   rw [Bool.not_true,cond_false];rw [Ek (by unfold in64;omega)]
   have hlen:(p++(bif (true==a)&&bL c.Zc[i] then [c.Zc[i].N] else [])).length<=(i+1):=by
    cases (true==a)&&bL c.Zc[i]<;>simp<;>omega
   have:=Qb N hN a c hS hc m (i+1) _ I hi hlen;simp only [Xj,Xh] at this;rw [this];rw [pD,W0 p]
  rw [show (decide ((i:Int)<(c.Zc.length:Int)))=false from WY I,Xu I];simp only [cond_false,uq];have:=ML N a c hc p.length I N 0 p I I I;simp only [Int.natCast_zero,Xh] at this;rw [this];simp [pick]
theorem yP (N:Nat)(hN:6500<N)(a:Bool)(c:WI)(hS:c.Zc.length<=1000)(hc:c.Zb.length<=2900):lj N c a=some (pick (fun _ v=>(true==a)&&bL v) 0 c.Zc++pick (fun i v=>(mL c.Za i==a)&&bL v) 0 c.Zb):=by
 unfold lj ur oN;have:=Qb N hN a c hS hc N 0 [] I I (by simp);simp only [Int.natCast_zero,Xh] at this;rw [YI,this,YI];show some _=some _;simp
def oy (k:Int)(i:Nat):Bool:=decide (k=8)||(decide (k=10)&&(decide (0<(i:Int))&&decide ((((i:Int) - 1).tmod 4).tmod 2=0)))
theorem MT (N:Nat)(k:Int)(i:Nat)(hi:i<=5000):AA N k (i:Int)=some (oy k i):=by
 unfold AA oy;by_cases h1:k=8
 ·simp [h1]
 by_cases h2:k=10
 ·by_cases h3:(0:Int)<i
  ·subst h2;simp only [h3,decide_true,ct,bs,r64 (a:=(i:Int) - 1) I I,show decide ((10:Int)=8)=false from rfl,cf,Bool.false_or,Xg]
  subst h2;simp only [h3,decide_true,decide_false,ct,bs,show decide ((10:Int)=8)=false from rfl,cf,Bool.false_or,Xg,Xe]
 simp [h1,h2]
theorem EX (N:Nat)(hN:6500<N)(c:WI)(hS:c.Zc.length<=1000)(hc:c.Zb.length<=2900):uP N c=some (pick (fun _ v=>bL v) 0 c.Zc++pick (fun i v=> !oy c.Za i&&bL v) 0 c.Zb):=by
 apply Sat.eq;unfold uP;refine jo (fun m i s=>nI N c m s (i:Int)) c.Zc.length (fun i s=>s++pick (fun _ v=>bL v) i (c.Zc.drop i)=pick (fun _ v=>bL v) 0 c.Zc/\s.length<=i) _ ?_ ?_ N 0 [] I I ⟨by simp,by simp⟩
 ·rintro m i s hi ⟨h1,h2⟩ k;show Sat (nI N c (m+1) s i) _;rw [Xt hi,pD] at h1;rw [nI.eq_2,fO I,cond_true,aK hi,bs,Bk,bs];simp only [bs];cases hh:bL c.Zc[i]
  all_goals
   simp only [hh,ct,cf,bs,Y3] at h1⊢
   first
   |(unfold rv
     rw [r64 I I]
     exact k s ⟨h1,by omega⟩)
   |(rw [rF (by simp;omega)]
     unfold rv;rw [r64 I I]
     exact k _ ⟨by rw [W0];exact h1,by simp;omega⟩)
 rintro m s ⟨h1,h2⟩;show Sat (nI N c (m+1) s _) _;rw [List.drop_length] at h1
 have h1:s=pick (fun _ v=>bL v) 0 c.Zc:=by rw [<-h1];simp [pick]
 rw [nI.eq_2,fD I,cond_false, <-h1];unfold BD;clear h1;refine jo (fun m i s=>mw N c m s (i:Int)) c.Zb.length (fun i t=>t++pick (fun i v=> !oy c.Za i&&bL v) i (c.Zb.drop i)=s++pick (fun i v=> !oy c.Za i&&bL v) 0 c.Zb/\t.length<=1000+i) _ ?_ ?_ N 0 s I I ⟨by simp,by omega⟩
 ·rintro m i s hi ⟨h1,h2⟩ k;show Sat (mw N c (m+1) s i) _;rw [Xt hi,pD] at h1;rw [mw.eq_2,fO I,cond_true,aK hi,bs,Bk,bs,MT _ _ _ I];simp only [bs];cases hh:bL c.Zb[i]<;>cases hw:oy c.Za i
  all_goals
   simp only [hh,hw,Bool.and_true,Xd,nt,nf,ct,cf,bs,Y3] at h1⊢
   first
   |(unfold ru
     rw [r64 I I]
     exact k s ⟨h1,by omega⟩)
   |(rw [rF (by simp;omega)]
     unfold ru;rw [r64 I I]
     exact k _ ⟨by rw [W0];exact h1,by simp;omega⟩)
 rintro m s ⟨h1,h2⟩;show Sat (mw N c (m+1) s _) _;rw [List.drop_length] at h1;rw [mw.eq_2,fD I,cond_false];exact ac (by rw [<-h1];simp [pick])
theorem DC (k:Int)(i:Nat):mL k i=!oy k i:=by
 unfold mL oy;by_cases h8:k=8
 ·subst h8;rfl
 by_cases h10:k=10
 ·subst h10;have e0:(i:Int).tmod 2=(i:Int)%2:=Xl I;by_cases hi:(0:Int)<i
  ·have e1:((i:Int) - 1).tmod 4=((i:Int) - 1)%4:=Xl I;have e2:(((i:Int) - 1)%4).tmod 2=(((i:Int) - 1)%4)%2:=Xl I;rw [e0,e1,e2];by_cases h:(i:Int)%2=0
   ·have h2: ¬(((i:Int) - 1)%4)%2=0:=by omega
    rw [WX h,WY h2,WX hi];rfl
   have h2:(((i:Int) - 1)%4)%2=0:=by omega
   rw [WY h,WX h2,WX hi];rfl
  have:i=0:=by omega
  subst this;rfl
 simp [h8,h10]
def gw (c:WI):List Int:=pick (fun _ v=>bL v) 0 c.Zc++pick (fun i v=> !oy c.Za i&&bL v) 0 c.Zb
theorem AG (N:Nat)(hN:6500<N)(c:WI)(hS:c.Zc.length<=1000)(hc:c.Zb.length<=2900):nQ N c=some (gw c):=by
 unfold nQ gw;rw [yP N hN true c hS hc,bs]
 have e1:(fun (_:Nat) (v:WK)=>(true==true)&&bL v)=fun _ v=>bL v:=by funext i v;rfl
 have e2:(fun (i:Nat) (v:WK)=>(mL c.Za i==true)&&bL v)=fun i v=> !oy c.Za i&&bL v:=by funext i v;rw [DC];cases oy c.Za i<;>rfl
 rw [e1,e2]
theorem NL (N:Nat)(hN:6500<N)(c:WI)(hS:c.Zc.length<=1000)(hc:c.Zb.length<=2900):uP N c=some (gw c):=EX N hN c hS hc
theorem uf (c:WI):(gw c).length<=c.Zc.length+c.Zb.length:=by
 unfold gw;have h1:=BG (fun _ v=>bL v) 0 c.Zc;have h2:=BG (fun i v=> !oy c.Za i&&bL v) 0 c.Zb;rw [YW];omega
theorem BF {f:Nat->WK->Bool}: ∀{i:Nat} {l:List WK},x∈pick f i l-> ∃v∈l,v.N=x
 |_,[],h=>by cases h
 | i,v::l,h=>by
  rw [pD,X6] at h;rcases h with h|h
  ·cases hf:f i v
   ·rw [hf] at h;cases h
   rw [hf] at h;exact ⟨v,by simp,(Yg.1 h).symm⟩
  obtain ⟨w,h1,h2⟩:=BF h;exact ⟨w,by simp [h1],h2⟩
theorem FG (h:x∈gw c): ∃v∈c.Zc++c.Zb,v.N=x:=by
 unfold gw at h;rcases X6.1 h with h|h
 ·obtain ⟨v,h1,h2⟩:=BF h;exact ⟨v,by simp [h1],h2⟩
 obtain ⟨v,h1,h2⟩:=BF h;exact ⟨v,by simp [h1],h2⟩
end
section
open Go.RowKit
def GN:WI:=⟨0,0,0,0,[],[]⟩
def kz (m:WO)(a:Int):Option WI:=if a<1 then none else if a%2=1 then m.Zh[((a - 1) / 2).toNat]? else m.Zj[((a - 2) / 2).toNat]?
def aW (m:WO)(a:Int):Bool:=(kz m a).isSome
def co (m:WO)(a:Int):WI:=(kz m a).getD GN
structure Small (m:WO) (roots:List WK):Prop where
 young:m.Zh.length<=600
 old:m.Zj.length<=600
 roots:roots.length<=600
 cells: ∀c∈m.Zh++m.Zj,c.Zc.length<=600/\c.Zb.length<=2900
theorem wT (h:kz m a=some c):c∈m.Zh++m.Zj:=by
 unfold kz at h;split at h
 ·cases h
 split at h
 ·exact W2 _ (Yc h)
 exact W3 _ (Yc h)
theorem Small.at_ {roots:List WK}(h:Small m roots)(a:Int):(co m a).Zc.length<=600/\(co m a).Zb.length<=2900:=by
 unfold co
 cases hc:kz m a with
 |none=>exact ⟨by simp [GN],by simp [GN]⟩
 |some c=>exact h.cells c (wT hc)
theorem vW (h:aW m a=true):0<a:=by
 unfold aW kz at h;split at h
 ·cases h
 omega
theorem Cd {roots:List WK}(hs:Small m roots)(h:aW m a=true):a<=1200:=by
 have h1:=hs.young;have h2:=hs.old;unfold aW kz at h;split at h
 ·cases h
 split at h
 ·have:=(XN.1 (Option.isSome_iff_exists.1 h).choose_spec).1;omega
 have:=(XN.1 (Option.isSome_iff_exists.1 h).choose_spec).1;omega
theorem DB (h:0<=a):a.tdiv 2=a / 2:=Xk h
theorem uD (h:0<=a):a.tmod 2=a%2:=Xl h
theorem zk (l:List α)(i:Nat):(l[i]?).isSome=decide ((i:Int)<(l.length:Int)):=by
 by_cases h:i<l.length
 ·rw [XL h,WX I];rfl
 rw [XM I,WY I];rfl
theorem wV (m:WO)(a:Int):(a<1/\kz m a=none)\/(∃k:Nat,a=2*(k:Int)+1/\kz m a=m.Zh[k]?)\/(∃k:Nat,a=2*(k:Int)+2/\kz m a=m.Zj[k]?):=by
 by_cases h:a<1
 ·exact .inl ⟨h,by unfold kz;rw [if_pos h]⟩
 by_cases h2:a%2=1
 ·refine .inr (.inl ⟨((a - 1) / 2).toNat,by omega,?_⟩);unfold kz;rw [if_neg h,if_pos h2]
 refine .inr (.inr ⟨((a - 2) / 2).toNat,by omega,?_⟩);unfold kz;rw [if_neg h,if_neg h2]
theorem MU (h:in64 a): -4611686018427387904<=a.tdiv 2/\a.tdiv 2<=4611686018427387904:=by
 unfold in64 at h;by_cases h0:0<=a
 ·rw [DB h0];omega
 have h1:(-a).tdiv 2= -(a.tdiv 2):=Int.neg_tdiv a 2;rw [DB I] at h1;omega
theorem Fi (N:Nat)(m:WO)(a:Int)(h:in64 a):Sat (oD N m a) fun r=>r.2.2=aW m a/\(aW m a=true->au r.1 r.2.1=kz m a):=by
 have hd:=MU h;unfold oD;rw [r64 I I];unfold pY aW;rcases wV m a with ⟨h1,h2⟩|⟨k,h1,h2⟩|⟨k,h1,h2⟩
 ·rw [h2]
  refine az (fun _=> ?_) fun _=> ?_
  ·rw [r64 I I,r64 I I,fD (a:=0) (b:=a) I,cf,bs];exact ac ⟨J,fun h=>by cases h⟩
  rw [fD (a:=0) (b:=a) I,cf,bs];exact ac ⟨J,fun h=>by cases h⟩
 ·subst h1;rw [h2,uD I,DB I,jg I,cf,fO I,ct,bs,show (2*(k:Int)+1) / 2=k by omega];exact ac ⟨(zk _ _).symm,fun _=>oJ _ _⟩
 subst h1;rw [h2,uD I,DB I,tc I,ct,fO I,ct,bs,show (2*(k:Int)+2) / 2 - 1=k by omega];rw [r64 I I,r64 I I];exact ac ⟨(zk _ _).symm,fun _=>oJ _ _⟩
theorem FN (N:Nat)(m:WO)(a:Int)(h:in64 a):py N m a=some (aW m a):=by
 obtain ⟨r,h1,h2, -⟩:=Fi N m a h;unfold py;rw [h1,bs,h2]
theorem pJ (N:Nat)(c:WI)(h:c.Zc.length<=600/\c.Zb.length<=2900):fT N c=some c:=by
 unfold fT dv;rw [rF (by simp;omega),bs,rF (by simp;omega),bs];rfl
theorem IM (N:Nat){roots:List WK}(hs:Small m roots)(a:Int)(h:in64 a):lL N m a=some (co m a):=by
 obtain ⟨r,h1,h2,h3⟩:=Fi N m a h;unfold lL co;rw [h1,bs,h2];unfold aW at*
 cases hc:kz m a with
 |none=>rfl
 |some c=>
  have h4:=h3 (by rw [hc];rfl);rw [hc] at h4;have h5:=pJ N c (hs.cells c (wT hc));simp only [Option.isSome_some,nt,cf,h4,bs,h5];rfl
theorem Mg (N:Nat)(m:WO)(a:Int)(h:in64 a):ze N m a=some (aW m a):=by
 unfold in64 at h;unfold ze aW;rcases wV m a with ⟨h1,h2⟩|⟨k,h1,h2⟩|⟨k,h1,h2⟩
 ·rw [h2,fO h1];rfl
 ·subst h1;rw [h2,fD I,cf,uD I,tc I,ct,DB I,show (2*(k:Int)+1 - 1) / 2=k by omega,zk];rw [cF (by unfold in64;omega),cF (by unfold in64;omega)]
 subst h1;rw [h2,fD I,cf,uD I,jg I,cf,DB I,show (2*(k:Int)+2 - 2) / 2=k by omega,zk];rw [cF (by unfold in64;omega),cF (by unfold in64;omega)]
theorem P4 (N:Nat)(m:WO)(a:Int)(h:in64 a):BB N m a=some (co m a):=by
 have hh:=Mg N m a h;unfold in64 at h;unfold BB co;rw [hh,bs];unfold aW;rcases wV m a with ⟨h1,h2⟩|⟨k,h1,h2⟩|⟨k,h1,h2⟩
 ·rw [h2];rfl
 ·cases hc:m.Zh[k]? with
  |none=>rw [h2,hc];rfl
  |some c=>
   rw [h2,hc];subst h1;simp only [Option.isSome_some,nt,cf];rw [uD I,tc I,ct,DB I,show (2*(k:Int)+1 - 1) / 2=k by omega,oJ,hc,bs];rw [cF (by unfold in64;omega),cF (by unfold in64;omega)];rfl
 cases hc:m.Zj[k]? with
 |none=>rw [h2,hc];rfl
 |some c=>
  rw [h2,hc];subst h1;simp only [Option.isSome_some,nt,cf];rw [uD I,jg I,cf,DB I,show (2*(k:Int)+2 - 2) / 2=k by omega,oJ,hc,bs];rw [cF (by unfold in64;omega),cF (by unfold in64;omega)];rfl
end
end Go.Proofs.YtmcifcmlojonnaaGreatDoor