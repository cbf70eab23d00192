/- Merged texts: part 7. No conditions of their own. -/
import Derived.Test.YtmcifcmlojonnaaGreatDoorG6
set_option maxHeartbeats 4000000
namespace Go.Proofs.YtmcifcmlojonnaaGreatDoor
variable (N:Nat){l:Nat}{σ:Type}{a0:W3}{a1:W8}
section
theorem WI:type_of% Tryz.func5:=Tryz.func5
theorem WH:type_of% Tryz.underlying216:=Tryz.underlying216
variable {A1 A2 A3 A4 A6 A7:Option Addr}{B1 B2 B3 B6 M2 M5 c1 c2 c3 c4 c6 c7 n1 n2 n3 n4 n6 n7:Nat}
open Go.RowKit Asn
set_option maxRecDepth 20000
def ui (p9 a6:Xg)(a7:Xf)(a8:(List (Int×Unit)))(p13:Int):Option WT:=
 (iB N (⟨(⟨p9,a6⟩:WY),a7,a8,p13⟩:WT)).bind fun b0=>some b0
def jV (N:Nat)(a1:W8):Nat->Int->Xg->Xg->Xf->(List (Int×Unit))->Int->Option WT
 |0,_,_,_,_,_,_=>none
 |b7+1,p15,a7,a8,b0,b5,b6=>bif decide (p15<(a1.length:Int)) then ((aq a1 p15).bind fun b9=>(ri N b9 (⟨(⟨a7,a8⟩:WY),b0,b5,b6⟩:WT)).bind fun a6=>aI (in64 (p15+1)) ((jV N a1 b7) (p15+1) a6.m_.Zp a6.m_.Zr a6.ZE a6.ZQ a6.ZO)) else (ui N a7 a8 b0 b5 b6)
def oM (a0:WY)(a1:W8):Option WT:=
 jV N a1 N 0 a0.Zp a0.Zr [] ([]:(List (Int×Unit))) 0
theorem Fh {N:Nat}{a0:WY}{r:WT}(h:oM N a0 a1=some r):Okc Xk 190 [.agg #[W A1 n1 c1,W A2 n2 c2],W A3 n3 c3] ([iE A1 n1 c1 a0.Zp,iE A2 n2 c2 a0.Zr,aQ A3 n3 c3 a1]) (fun u post=> ∃B0 A1 n1 c1 A2 n2 c2 A3 n3 c3 M4,u=pV B0 0/\post=[ah B0 249 [W A1 n1 c1,W A2 n2 c2,W A3 n3 c3,.map (some M4),iV r.ZO],iE A1 n1 c1 r.m_.Zp,iE A2 n2 c2 r.m_.Zr,uL A3 n3 c3 r.ZE,bE jJ D1 M4 r.ZQ]):=by
 refine ce Tryz.func190 ?_;intro B4;refine ab ?_;refine gD (wV (ek:=jJ) (ev:=D1)) ?_;rintro _ _ ⟨M5,rfl,rfl⟩
 refine cl fun B6=> ?_
 intro B7;refine ab ?_;refine fS (ja J) ?_;refine ak (fun s L=> ∃p9 a6 a7 a8 p13 A9 n9 c9 b0 b5 b6 b7 b9 c8 d0,ui N p9 a6 a7 a8 p13=some r/\s=[(4,.pointer none),(5,pV B7 0)]/\L=[ah B7 245 [pV B6 0],iE A9 n9 c9 p9,iE b0 b5 b6 a6,uL b7 b9 c8 a7,bE jJ D1 d0 a8,ah B6 249 [W A9 n9 c9,W b0 b5 b6,W b7 b9 c8,.map (some d0),iV p13]]) ?_ ?_
 ·refine ab ?_;refine im (fun m s L=> ∃p15 d1 d2 d3 d4 d6 e0 e1 e2 e3 e4 e5 e6 e7 e8 e9,jV N a1 m p15 d1 d2 d3 d4 d6=some r/\s=[(4,.pointer none),(5,pV B7 0),(6,.func (.func 206) #[] #[pV B7 0]),(14,W A3 n3 c3),(15,iV (a1.length:Int)),(16,iV p15)]/\L=[aQ A3 n3 c3 a1,ah B7 245 [pV B6 0],iE e0 e1 e2 d1,iE e3 e4 e5 d2,uL e6 e7 e8 d3,bE jJ D1 e9 d4,ah B6 249 [W e0 e1 e2,W e3 e4 e5,W e6 e7 e8,.map (some e9),iV d6]]) N _ _ ⟨0,a0.Zp,a0.Zr,[],([]:(List (Int×Unit))),0,A1,n1,c1,A2,n2,c2,none,0,0,M5,h,J,J⟩ sA ((bT (nO .i64) 3 _).trans (cS [7,1,5,6,0,3,2] 8)) ?_;rintro (_|f3)
  all_goals (refine fun s L=>aJ fun p15=>aJ fun d1=>aJ fun d2=>aJ fun d3=>aJ fun d4=>aJ fun d6=>aJ fun e0=>aJ fun e1=>aJ fun e2=>aJ fun e3=>aJ fun e4=>aJ fun e5=>aJ fun e6=>aJ fun e7=>aJ fun e8=>aJ fun e9=>J6 fun h=> ?_)
  ·exact aL h
  rw [jV.eq_2] at h;refine ab ?_;refine aB<|gH J h (fun h=> ?_) (fun h=> ?_)
  ·refine sY ?_;obtain ⟨f4,f0,f1,f2,h⟩:=ba h
   refine cl fun f6=> ?_
   obtain ⟨f9,k,h⟩:=aa h;refine gD (qu (BG k) J J J (bI [3,4] [2,7,5,6] [0,1,3,4] 8 J)) ?_;rintro _ _ ⟨_,⟨g0,g1,g2,g3,g4,g5,g6,g7,g8,g9,rfl,rfl⟩,rfl⟩;refine ab ?_;obtain ⟨h0,h⟩:=ac h;exact lY
  exact jY
 refine fun s L=>aJ fun p9=>aJ fun a6=>aJ fun a7=>aJ fun a8=>aJ fun p13=>aJ fun A9=>aJ fun n9=>aJ fun c9=>aJ fun b0=>aJ fun b5=>aJ fun b6=>aJ fun b7=>aJ fun b9=>aJ fun c8=>aJ fun d0=>J6 fun h=>ab ?_
 obtain ⟨h1,k,h⟩:=aa h;refine gD (oC (sf k)) ?_;rintro _ _ ⟨_,⟨h2,h3,h4,h5,h6,h7,h8,h9,i0,i1,rfl,rfl⟩,rfl⟩;exact eY
def vP (a0:W3):Option Bool:=
 (bif decide (a0.Zh=8) then ((gG N a0).bind fun y5=>some y5) else (some false)).bind fun b4=>some b4
theorem ET {N:Nat}{r:Bool}(h:vP N a0=some r):Okc Xk 165 [.agg #[iV a0.Zh,iV a0.Zq,iV a0.Zm,iV a0.Zn,W A1 n1 c1,W A2 n2 c2]] ([aQ A1 n1 c1 a0.Zj,aQ A2 n2 c2 a0.Zi]) (fun u post=>u=.bool r/\post=[]):=by
 refine ce Tryz.func165 ?_;intro B3;refine ab ?_
 refine oz 3 9 6 h (fun _ g4 h=> ?_) fun b4 h=> ?_
 ·refine cR h (fun _ k=>mJ k) fun y5 h=> ?_
  exact gY
 exact eY
def eJ (N:Nat){σ:Type}(fy:(WZ×WZ)->σ->Option (Bool×σ))(a1:W3):Nat->Int->σ->Option σ
 |0,_,_=>none
 |m4+1,p5,p6=>aI (in64 (p5+1)) (bif decide (p5+1<(a1.Zi.length:Int)) then ((aq a1.Zi p5).bind fun x9=>aI (in64 (p5+1)) ((aq a1.Zi (p5+1)).bind fun a7=>(fy (x9,a7) p6).bind fun a6=>bif !a6.1 then (some a6.2) else (aI (in64 (p5+2)) ((eJ N fy a1 m4) (p5+2) a6.2)))) else (some p6))
def kc (a1:W3)(fy:(WZ×WZ)->σ->Option (Bool×σ))(s0:σ):Option σ:=
 eJ N fy a1 N 0 s0
theorem tV {N:Nat}{a1:W3}{fy:(WZ×WZ)->σ->Option (Bool×σ)}{s0 r:σ}(h:kc N a1 fy s0=some r){G:σ->Xi}(hY:tG Xk l G (fun x=> [.agg #[iV x.1.Zh,iV x.1.N,.string x.1.S],.agg #[iV x.2.Zh,iV x.2.N,.string x.2.S]]) fy):Okc Xk 221 [.func (.yield l) #[] #[],pV B1 0] (aW B1 94 (iM a1 A2 n2 c2 A3 n3 c3)::aQ A2 n2 c2 a1.Zj::aQ A3 n3 c3 a1.Zi::(G s0)) (fun u post=>u=.tuple #[]/\post=G r):=by
 refine ce Tryz.func221 ?_;refine lK (fun m s L=> ∃(p5:Int) (p6:σ),eJ N fy a1 m p5 p6=some r/\s=[(0,.func (.yield l) #[] #[]),(1,pV B1 0),(3,iV p5)]/\L=aQ A2 n2 c2 a1.Zj::aQ A3 n3 c3 a1.Zi::aW B1 94 (iM a1 A2 n2 c2 A3 n3 c3)::(G p6)) N ?_;rintro m4 _ _ ⟨p5,p6,h,rfl,rfl⟩;rw [eJ.eq_2] at h;refine sZ ?_;obtain ⟨q7,h⟩:=ac h;refine dk h ?_ ?_<;>intro h
 ·refine sY ?_;refine aB ?_;obtain ⟨x9,b6,b7,b9,h⟩:=ba h;obtain ⟨b5,h⟩:=ac h;obtain ⟨a6,a7,a8,b0,h⟩:=ba h;refine gw (t:=[(0,.func (.yield l) #[] #[]),(1,pV B1 0),(3,iV p5)]) ?_ ml (ae _)
  refine iR O 12 [] [0,5,11] [12,13,14,15,16,17,18,19,20,21,22,23] [[],[],[1],[],[2,3],[4],[],[6],[],[8],[7,9],[10]] [aV (.func (.yield l) #[] #[]),
 aV (pV B1 5),
 aV (W A3 n3 c3),
 aV (iV p5),
 aV (dG (W A3 n3 c3) p5.toNat 3 0),
 aV (.agg #[iV x9.Zh,iV x9.N,.string x9.S]),
 aV (pV B1 5),
 aV (W A3 n3 c3),
 aV (iV p5),
 aV (iV (p5+1)),
 aV (dG (W A3 n3 c3) ((p5+1).toNat) 3 0),
 aV (.agg #[iV a6.Zh,iV a6.N,.string a6.S])] [] (ae _) (me) O rfl rfl ?_ ?_ ?_
  ·exact md
  ·refine aG J (zh (dr (us:=[iV a6.Zh,iV a6.N,.string a6.S]) 1 J aE J b0 agg28.out (fun _ _ _ h=>by rw [show _=_ from h];rfl)) J (iI J (ae _)))<|qR (bS 1 J aE J J t9 size28.out a7 a8) ?_;refine qE (iO J J b5.1 b5.2) ?_;refine qE (ap J) ?_;refine qR (BI 2 J J sj J) ?_;refine qE (kK J xc) ?_;refine aG J (zh (dr (us:=[iV x9.Zh,iV x9.N,.string x9.S]) 1 J aE J b9 agg28.out (fun _ _ _ h=>by rw [show _=_ from h];rfl)) J (iI J (ae _)))<|qR (bS 1 J aE J J t9 size28.out b6 b7) ?_;refine qE (ap J) ?_;refine qR (BI 2 J J sj J) ?_;refine qE (kK J xc) ?_;refine qE (ap J) ?_;exact dK
  refine oq (t:=[(12,.func (.yield l) #[] #[]),(17,.agg #[iV x9.Zh,iV x9.N,.string x9.S]),(23,.agg #[iV a6.Zh,iV a6.N,.string a6.S]),(0,.func (.yield l) #[] #[]),(1,pV B1 0),(3,iV p5)]) (L':=aQ A2 n2 c2 a1.Zj::aQ A3 n3 c3 a1.Zi::aW B1 94 (iM a1 A2 n2 c2 A3 n3 c3)::(G p6)) ?_ ml (ae _);obtain ⟨c8,k,h⟩:=aa h;refine uH 12 J O (wb (a:=(x9,a6)) [aQ A2 n2 c2 a1.Zj,aQ A3 n3 c3 a1.Zi,aW B1 94 (iM a1 A2 n2 c2 A3 n3 c3)] hY k J J) J J J ?_;rintro _ _ ⟨rfl,rfl⟩;refine CS 13 J O (Bc J) J J J<|mj O<|dk h (fun h=> ?_) (fun h=> ?_)
  ·exact eY
  refine ab ?_;obtain ⟨c9,h⟩:=ac h;exact lY
 exact eY
def nk (N:Nat)(a0:W3):Option Unit:=
 some ()
theorem xp {N:Nat}{r:Unit}(h:nk N a0=some r):Okc Xk 195 [.agg #[iV a0.Zh,iV a0.Zq,iV a0.Zm,iV a0.Zn,W A1 n1 c1,W A2 n2 c2]] ([aQ A1 n1 c1 a0.Zj,aQ A2 n2 c2 a0.Zi]) (fun u post=> ∃a6,u=.func (.func 221) #[] #[pV a6 0]/\post=[ah a6 94 (iM a0 A1 n1 c1 A2 n2 c2)]):=by
 refine ce Tryz.func195 ?_;intro B3;refine ab ?_;refine fS (ja J) ?_;exact eN
def xq (N:Nat):Option Int:=
 some (-1)
def mn (N:Nat)(a1:Int)(a0:Xf):Nat->Int->Option Int
 |0,_=>none
 |m3+1,p4=>bif decide (p4<(a0.length:Int)) then ((aq a0 p4).bind fun x6=>bif decide (a1=x6) then (some p4) else (aI (in64 (p4+1)) ((mn N a1 a0 m3) (p4+1)))) else (xq N)
def uc (a0:Xf)(a1:Int):Option Int:=
 mn N a1 a0 N 0
theorem Eb {N:Nat}{a0:Xf}{a1 r:Int}(h:uc N a0 a1=some r):Okc Xk 196 [W A1 n1 c1,iV a1] ([xQ A1 n1 c1 a0]) (fun u post=>u=iV r/\post=[]):=by
 refine ce Tryz.func196 ?_;refine ak (fun s L=>xq N=some r/\s=[(4,iV 0)]/\L=[]) ?_ ?_
 ·refine ab ?_;refine lK (fun m s L=> ∃(p4:Int),mn N a1 a0 m p4=some r/\s=[(0,W A1 n1 c1),(1,iV a1),(4,iV 0),(7,iV (a0.length:Int)),(8,iV p4)]/\L=[xQ A1 n1 c1 a0]) N ?_;rintro m3 _ _ ⟨p4,h,rfl,rfl⟩;rw [mn.eq_2] at h;refine ab ?_;refine aB<|gH J h (fun h=> ?_) (fun h=> ?_)
  ·refine sY ?_;obtain ⟨x6,a6,a7,a8,h⟩:=ba h;refine dk h ?_ ?_<;>intro h
   ·exact eY
   refine ab ?_;obtain ⟨q8,h⟩:=ac h;exact lY
  exact jY
 rintro _ _ ⟨h,rfl,rfl⟩;exact eY
def kf (a0:Xf)(a1:Int):Option Bool:=
 (uc N a0 a1).bind fun y2=>some (decide (0<=y2))
theorem ud {N:Nat}{a0:Xf}{a1:Int}{r:Bool}(h:kf N a0 a1=some r):Okc Xk 168 [W A1 n1 c1,iV a1] ([xQ A1 n1 c1 a0]) (fun u post=>u=.bool r/\post=[]):=by
 refine ce Tryz.func168 ?_
 refine cR h (fun _ k=>Eb k) fun y2 h=> ?_
 exact eN
def jn (a1:Xf)(a6:WZ×WZ):(Xf)->Option (Option Exit×Xf)
 |p13=>(bif decide (a6.2.Zh=7) then (some true) else (some (decide (a6.2.Zh=9)))).bind fun a7=>(bif a7 then ((kf N a1 a6.1.N).bind fun a8=>some a8) else (some false)).bind fun b0=>bif b0 then (aI (bm (p13.length+([a6.2.N]:List Int).length)) (some (none,p13++([a6.2.N]:List Int)))) else (some (none,p13))
def sV (a0:W3)(a1:Xf):Option Xf:=
 (vP N a0).bind fun y6=>bif !y6 then (some []) else ((nk N a0).bind fun a7=>(kc N a0 (cM (fun x st=>jn N a1 x st)) (none,[])).bind fun a6=>rc a6.1 (some a6.2) none (fun _=>none))
theorem GD {N:Nat}{a1 r:Xf}(h:sV N a0 a1=some r):Okc Xk 209 [.agg #[iV a0.Zh,iV a0.Zq,iV a0.Zm,iV a0.Zn,W A1 n1 c1,W A2 n2 c2],W A3 n3 c3] ([aQ A1 n1 c1 a0.Zj,aQ A2 n2 c2 a0.Zi,xQ A3 n3 c3 a1]) (fun u post=> ∃A0 n0 c0,u=W A0 n0 c0/\post=[uL A0 n0 c0 r]):=by
 refine ce Tryz.func209 ?_;intro B4
 refine cl fun B5=> ?_
 refine sZ ?_
 refine cR h (fun _ k=>ET k) fun y6 h=> ?_
 refine gH J h ?_ ?_<;>intro h
 ·refine ab ?_;obtain rfl:=bJ h;exact nI J J ((bT (nO .i64) 3 _).trans (cS [0] 6)) ⟨_,_,_,J,J⟩
 refine cl fun B9=> ?_
 refine sZ ?_;obtain ⟨d0,k,h⟩:=aa h;refine gD (oR (xp k)) ?_;rintro _ _ ⟨_,⟨b5,rfl,rfl⟩,rfl⟩;refine ab ?_;refine gw ?_ bK (lr 0 J);obtain ⟨b6,k,h⟩:=aa h;refine uI (en:=(fun x=> [.agg #[iV x.1.Zh,iV x.1.N,.string x.1.S],.agg #[iV x.2.Zh,iV x.2.N,.string x.2.S]])) (fun x st=>jn N a1 x st) (fun (st:Xf) (mz:((Option Addr×Nat×Nat)))=> [xQ A3 n3 c3 a1,ah B5 144 [W A3 n3 c3],bf (nO .i64) 3 (.slice mz.1 mz.2.1 mz.2.2) st,ah B9 144 [.slice mz.1 mz.2.1 mz.2.2]]) [aW b5 94 (iM a0 A1 n1 c1 A2 n2 c2),aQ A1 n1 c1 a0.Zj,aQ A2 n2 c2 a0.Zi] ([]) ((none,0,0)) J J call221.out J (fun _=>J) (fun l G hY=>(tV k hY).mono fun _ _ hh=>hh.2) ((bT (nO .i64) 3 _).trans (bI [1,5,6] [] [7,3,0,2] 8 J)) h ?_ ?_ ?_ ?_
 ·rintro l b0 p13 je sr12 ⟨a6,a7,a8⟩ h;replace h:jn N a1 b0 p13=some (je,sr12):=h;simp only [Bd,YF,YG,YH,Yz,YA,Zf,XE]
  refine cl fun d1=> ?_
  intro d2;refine ab ?_;refine gS 4 22 18 h ?_;intro d3 h;refine ab ?_
  refine oz 5 28 23 h (fun _ d4 h=> ?_) fun d6 h=> ?_
  ·refine cR h (fun _ k=>ud k) fun e0 h=> ?_
   exact gY
  refine dk h ?_ ?_<;>intro h
  ·refine ab ?_;refine gD (aw (R:=(nO .i64)) (vss:=[[iV b0.2.N]]) (xs:=[b0.2.N]) J (rI _) J J (fun _ _ hr=> .cons J All2.nil)) ?_;rintro _ _ ⟨e1,e2,e3,rfl,rfl⟩;obtain ⟨b7,h⟩:=ac h
   refine sI (az 5 0 J J aj J J Wx Sn J J b7) fun b9 c8 c9=> ?_
   obtain ⟨rfl,rfl⟩:=YZ (YX h);exact DD ((cS [3,4,5,6] 7).trans (fX (b9,c8,c9) J))
  refine ab ?_;obtain ⟨rfl,rfl⟩:=YZ (YX h);exact DD ((cS [2,3,4,5] 6).trans (fX (a6,a7,a8) J))
 ·rintro ⟨a6,a7,a8⟩ h;exact qP ([xQ A3 n3 c3 a1,ah B5 144 [W A3 n3 c3],uL a6 a7 a8 b6.2,ah B9 144 [W a6 a7 a8]]) J<|eY
 ·rintro ⟨a6,a7,a8⟩ h;exact aL h
 rintro i ⟨a6,a7,a8⟩ h;exact aL h
theorem D9 {r:Xf}: ∀v post,((fun (u:Value) (post:Xi)=> ∃A0 n0 c0,u=W A0 n0 c0/\post=[uL A0 n0 c0 r])) v post-> ∀c∈post,iS c:=by
 rintro _ _ ⟨_,_,_,rfl,rfl⟩;exact t5 qG (ax)
def uS (N:Nat)(a0:WT)(p7 p8:Xg)(p9:Xf)(a6:(List (Int×Unit)))(a7:Int):Option (Bool×WT):=
 some (decide ((a0.ZE.length:Int)<(p9.length:Int)),(⟨(⟨p7,p8⟩:WY),p9,a6,a7⟩:WT))
def lU (N:Nat)(a6:Int->Xg->Xg->Xf->(List (Int×Unit))->Int->Option (Bool×WT))(a0:WT)(a7:Int)(a8 b0:Xg)(b5:Xf)(b6:(List (Int×Unit)))(b7:Int):Option (Bool×WT):=
 aI (in64 (a7+1)) (a6 (a7+1) a8 b0 b5 b6 b7)
def dD (N:Nat)(a0:WT):Nat->Int->Xg->Xg->Xf->(List (Int×Unit))->Int->Option (Bool×WT)
 |0,_,_,_,_,_,_=>none
 |b7+1,a8,p15,b0,a6,b5,b6=>bif decide (a8<((List.take a0.ZE.length a0.ZE).length:Int)) then ((aq (List.take a0.ZE.length a6) a8).bind fun c8=>(lV N (⟨p15,b0⟩:WY) c8).bind fun b9=>bif decide (b9.Zh=8) then ((sV N b9 a6).bind fun c9=>(eG N (⟨(⟨p15,b0⟩:WY),a6,b5,b6⟩:WT) c9).bind fun a7=>lU N (dD N a0 b7) a0 a8 a7.m_.Zp a7.m_.Zr a7.ZE a7.ZQ a7.ZO) else (lU N (dD N a0 b7) a0 a8 p15 b0 a6 b5 b6)) else (uS N a0 p15 b0 a6 b5 b6)
def lg (a0:WT):Option (Bool×WT):=
 dD N a0 N 0 a0.m_.Zp a0.m_.Zr a0.ZE a0.ZQ a0.ZO
theorem BF {N:Nat}{a0:WT}{r:Bool×WT}(h:lg N a0=some r):Okc Xk 191 [pV B1 0] ([iE A2 n2 c2 a0.m_.Zp,iE A3 n3 c3 a0.m_.Zr,ah B1 249 [W A2 n2 c2,W A3 n3 c3,W A4 n4 c4,.map (some M5),iV a0.ZO],uL A4 n4 c4 a0.ZE,bE jJ D1 M5 a0.ZQ]) (fun u post=> ∃A0 n0 c0 A1 n1 c1 A2 n2 c2 M3,u=.bool r.1/\post=[ah B1 249 [W A0 n0 c0,W A1 n1 c1,W A2 n2 c2,.map (some M3),iV r.2.ZO],iE A0 n0 c0 r.2.m_.Zp,iE A1 n1 c1 r.2.m_.Zr,uL A2 n2 c2 r.2.ZE,bE jJ D1 M3 r.2.ZQ]):=by
 refine ce Tryz.func191 ?_;refine ak (fun s L=> ∃p7 p8 p9 e9 f0 A7 n7 c7 A8 n8 c8 A9 n9 c9 f1,uS N a0 p7 p8 p9 e9 f0=some r/\s=[(0,pV B1 0),(2,.bool false),(3,iV (a0.ZE.length:Int))]/\L=[iE A7 n7 c7 p7,iE A8 n8 c8 p8,uL A9 n9 c9 p9,bE jJ D1 f1 e9,ah B1 249 [W A7 n7 c7,W A8 n8 c8,W A9 n9 c9,.map (some f1),iV f0]]) ?_ ?_
 ·refine ab ?_;refine mP (P1 3 J)<|gD (QX (n:=a0.ZE.length) 3 J J Wx size3.out J J J (YM _)) ?_;rintro _ _ ⟨b5,rfl,rfl⟩;refine JX (jO 3 J Gm J Wx) ?_;refine lK (fun m s L=> ∃(b6:Int) (p15:Xg) (d6:Xg) (e0:Xf) (e1:(List (Int×Unit))) (e2:Int) (b7:Option Addr) (b9 d0:Nat) (d1:Option Addr) (d2 d3:Nat) (a7:Option Addr) (a8 b0:Nat) (d4:Nat),dD N a0 m b6 p15 d6 e0 e1 e2=some r/\s=[(0,pV B1 0),(2,.bool false),(3,iV (a0.ZE.length:Int)),(18,.slice b5 a0.ZE.length a0.ZE.length),(19,iV ((List.take a0.ZE.length a0.ZE).length:Int)),(20,iV b6)]/\L=[iE b7 b9 d0 p15,iE d1 d2 d3 d6,nF (nO .i64) 3 (W a7 a8 b0) e0 (.slice b5 a0.ZE.length a0.ZE.length) a0.ZE.length,bE jJ D1 d4 e1,ah B1 249 [W b7 b9 d0,W d1 d2 d3,W a7 a8 b0,.map (some d4),iV e2]]) N ?_;intro h4
  refine fun s L=>aJ fun b6=>aJ fun p15=>aJ fun d6=>aJ fun e0=>aJ fun e1=>aJ fun e2=>aJ fun b7=>aJ fun b9=>aJ fun d0=>aJ fun d1=>aJ fun d2=>aJ fun d3=>aJ fun a7=>aJ fun a8=>aJ fun b0=>aJ fun d4=>J6 fun h=> ?_
  rw [dD.eq_2] at h;refine ab ?_;refine aB<|gH J h (fun h=> ?_) (fun h=> ?_)
  ·refine ab ?_;refine ak (fun s L=> ∃f2 f3 f4 f6 f9 g0 g1 g2 g3 g4 g5 g6 g7 g8 g9,lU N (dD N a0 h4) a0 b6 f2 f3 f4 f6 f9=some r/\s=[(0,pV B1 0),(2,.bool false),(3,iV (a0.ZE.length:Int)),(18,.slice b5 a0.ZE.length a0.ZE.length),(19,iV ((List.take a0.ZE.length a0.ZE).length:Int)),(20,iV b6)]/\L=[iE g0 g1 g2 f2,iE g3 g4 g5 f3,nF (nO .i64) 3 (W g6 g7 g8) f4 (.slice b5 a0.ZE.length a0.ZE.length) a0.ZE.length,bE jJ D1 g9 f6,ah B1 249 [W g0 g1 g2,W g3 g4 g5,W g6 g7 g8,.map (some g9),iV f9]]) ?_ ?_
   ·refine ab ?_;obtain ⟨h5,h0,h1,h2,h⟩:=ba h;refine gR (bS 2 J Gm J J Wx size3.out h0 h1)<|JX (li (u:=iV h5) 2 J Gm J h2 wc (fun _ _ _ h=>by rw [show _=_ from h];rfl)) ?_
    refine G0 h (fun _ k=>ym k) fun a6 e3 e4 e5 e6 e7 e8 h=> ?_
    intro h3;refine dk h ?_ ?_<;>intro h
    ·refine gw (t:=[(0,pV B1 0),(2,.bool false),(3,iV (a0.ZE.length:Int)),(6,pV h3 0),(18,.slice b5 a0.ZE.length a0.ZE.length),(19,iV ((List.take a0.ZE.length a0.ZE).length:Int)),(20,iV b6)]) ?_ ml (ae _)
     refine iR O 6 [0] [0,1,5] [33,34,35,36,37,38] [[],[],[],[2],[3],[4]] [aV (pV B1 0),
 aV (.agg #[iV a6.Zh,iV a6.Zq,iV a6.Zm,iV a6.Zn,W e3 e4 e5,W e6 e7 e8]),
 aV (pV B1 0),
 aV (pV B1 0),
 aV (pV B1 2),
 aV (W a7 a8 b0)] [] (ae _) (fu rfl me) O rfl rfl ?_ ?_ ?_
     ·exact ft J (nK (ap J) J (iI J (ae _)))<|md
     ·refine qR (cD 7 J J K7 J) ?_;refine qE (kK J Ga) ?_;refine qE (dF J) ?_;refine qE (ap J) ?_;refine qR (aD (us:=(iM a6 e3 e4 e5 e6 e7 e8)) 0 J J agg94.out J) ?_;refine qE (ap J) ?_;exact dK
     refine oq (t:=[(33,pV B1 0),(34,.agg #[iV a6.Zh,iV a6.Zq,iV a6.Zm,iV a6.Zn,W e3 e4 e5,W e6 e7 e8]),(38,W a7 a8 b0),(0,pV B1 0),(2,.bool false),(3,iV (a0.ZE.length:Int)),(6,pV h3 0),(18,.slice b5 a0.ZE.length a0.ZE.length),(19,iV ((List.take a0.ZE.length a0.ZE).length:Int)),(20,iV b6)]) (L':=[ah h3 94 (iM a6 e3 e4 e5 e6 e7 e8),bj e3 e4 e5 a6.Zj,bj e6 e7 e8 a6.Zi,iE b7 b9 d0 p15,iE d1 d2 d3 d6,nF (nO .i64) 3 (W a7 a8 b0) e0 (.slice b5 a0.ZE.length a0.ZE.length) a0.ZE.length,bE jJ D1 d4 e1,ah B1 249 [W b7 b9 d0,W d1 d2 d3,W a7 a8 b0,.map (some d4),iV e2]]) ?_ ml (ae _);obtain ⟨h6,k,h⟩:=aa h;refine uH 6 J O (aX (GD k) J (t5 (ju (i:=1) J) (t5 (ju (i:=2) J) (t5 (NW (i:=5) J) ax))) D9) J J J ?_;rintro _ _ ⟨_,⟨h7,h8,h9,rfl,rfl⟩,rfl⟩;refine oq ?_ bK (bn 0 J);obtain ⟨i0,k,h⟩:=aa h;refine uH 7 J O (oC (AJ k)) J J J ?_;rintro _ _ ⟨_,⟨i1,i2,i3,i4,i5,i6,i7,i8,i9,j0,rfl,rfl⟩,rfl⟩;exact mj O<|jY
    exact jY
   refine fun s L=>aJ fun f2=>aJ fun f3=>aJ fun f4=>aJ fun f6=>aJ fun f9=>aJ fun g0=>aJ fun g1=>aJ fun g2=>aJ fun g3=>aJ fun g4=>aJ fun g5=>aJ fun g6=>aJ fun g7=>aJ fun g8=>aJ fun g9=>J6 fun h=>ab ?_
   obtain ⟨j1,h⟩:=ac h;exact lY
  refine ab ?_;exact ⟨_,_,⟨p15,d6,e0,e1,e2,b7,b9,d0,d1,d2,d3,a7,a8,b0,d4,h,J,J⟩,sA,(Oj 2 J).trans (cS [0,1,2,3,4] 5)⟩
 exact fun s L=>aJ fun p7=>aJ fun p8=>aJ fun p9=>aJ fun e9=>aJ fun f0=>aJ fun A7=>aJ fun n7=>aJ fun c7=>aJ fun A8=>aJ fun n8=>aJ fun c8=>aJ fun A9=>aJ fun n9=>aJ fun c9=>aJ fun f1=>J6 fun h=>eY
def sy (N:Nat)(a7 p13:Xg)(a6:Xf)(p15:(List (Int×Unit)))(a8:Int):Option Xf:=
 some a6
def ms (N:Nat):Nat->Xg->Xg->Xf->(List (Int×Unit))->Int->Option Xf
 |0,_,_,_,_,_=>none
 |a8+1,b0,b5,b6,p21,b7=>(lg N (⟨(⟨b0,b5⟩:WY),b6,p21,b7⟩:WT)).bind fun a6=>bif a6.1 then ((iB N a6.2).bind fun a7=>(ms N a8) a7.m_.Zp a7.m_.Zr a7.ZE a7.ZQ a7.ZO) else (sy N a6.2.m_.Zp a6.2.m_.Zr a6.2.ZE a6.2.ZQ a6.2.ZO)
def mC (a0:WY)(a1:W8):Option Xf:=
 (oM N a0 a1).bind fun y5=>ms N N y5.m_.Zp y5.m_.Zr y5.ZE y5.ZQ y5.ZO
theorem Fi {N:Nat}{a0:WY}{r:Xf}(h:mC N a0 a1=some r):Okc Xk 161 [.agg #[W A1 n1 c1,W A2 n2 c2],W A3 n3 c3] ([iE A1 n1 c1 a0.Zp,iE A2 n2 c2 a0.Zr,aQ A3 n3 c3 a1]) (fun u post=> ∃A0 n0 c0,u=W A0 n0 c0/\post=[uL A0 n0 c0 r]):=by
 refine ce Tryz.func161 ?_;intro B4;refine ab ?_;obtain ⟨y5,k,h⟩:=aa h;refine gD (oC (Fh k)) ?_;rintro _ _ ⟨_,⟨B6,A7,n7,c7,A8,n8,c8,A9,n9,c9,f3,rfl,rfl⟩,rfl⟩;refine ab ?_;refine ak (fun s L=> ∃a6 p13 a7 p15 a8 b0 b5 b6 b7 b9 d0 d1 d2 d3 d4,sy N a6 p13 a7 p15 a8=some r/\s=[(4,W none 0 0),(5,pV B6 0)]/\L=[iE b0 b5 b6 a6,iE b7 b9 d0 p13,uL d1 d2 d3 a7,bE jJ D1 d4 p15,ah B6 249 [W b0 b5 b6,W b7 b9 d0,W d1 d2 d3,.map (some d4),iV a8]]) ?_ ?_
 ·refine ab ?_;refine lK (fun m s L=> ∃(d6:Xg) (e0:Xg) (e1:Xf) (p21:(List (Int×Unit))) (e2:Int) (e3:Option Addr) (e4 e5:Nat) (e6:Option Addr) (e7 e8:Nat) (e9:Option Addr) (f0 f1:Nat) (f2:Nat),ms N m d6 e0 e1 p21 e2=some r/\s=[(4,W none 0 0),(5,pV B6 0)]/\L=[iE e3 e4 e5 d6,iE e6 e7 e8 e0,uL e9 f0 f1 e1,bE jJ D1 f2 p21,ah B6 249 [W e3 e4 e5,W e6 e7 e8,W e9 f0 f1,.map (some f2),iV e2]]) N ?_;intro f4
  refine fun s L=>aJ fun d6=>aJ fun e0=>aJ fun e1=>aJ fun p21=>aJ fun e2=>aJ fun e3=>aJ fun e4=>aJ fun e5=>aJ fun e6=>aJ fun e7=>aJ fun e8=>aJ fun e9=>aJ fun f0=>aJ fun f1=>aJ fun f2=>J6 fun h=> ?_
  rw [ms.eq_2] at h;refine sZ ?_;obtain ⟨f6,k,h⟩:=aa h;refine gD (oC (BF k)) ?_;rintro _ _ ⟨_,⟨f9,g0,g1,g2,g3,g4,g5,g6,g7,g8,rfl,rfl⟩,rfl⟩;refine dk h ?_ ?_<;>intro h
  ·refine ab ?_;obtain ⟨g9,k,h⟩:=aa h;refine gD (oC (sf k)) ?_;rintro _ _ ⟨_,⟨h0,h1,h2,h3,h4,h5,h6,h7,h8,h9,rfl,rfl⟩,rfl⟩;exact lY
  exact jY
 exact fun s L=>aJ fun a6=>aJ fun p13=>aJ fun a7=>aJ fun p15=>aJ fun a8=>aJ fun b0=>aJ fun b5=>aJ fun b6=>aJ fun b7=>aJ fun b9=>aJ fun d0=>aJ fun d1=>aJ fun d2=>aJ fun d3=>aJ fun d4=>J6 fun h=>eY
def nN (a0:WY)(a1:W8):Option Xf:=
 (mC N a0 a1).bind fun y5=>(rM N y5).bind fun y7=>some y7
theorem GJ {N:Nat}{a0:WY}{r:Xf}(h:nN N a0 a1=some r):Okc Xk 123 [.agg #[W A1 n1 c1,W A2 n2 c2],W A3 n3 c3] ([iE A1 n1 c1 a0.Zp,iE A2 n2 c2 a0.Zr,aQ A3 n3 c3 a1]) (fun u post=> ∃A0 n0 c0,u=W A0 n0 c0/\post=[uL A0 n0 c0 r]):=by
 refine ce Tryz.func123 ?_;intro B4
 refine LD h (fun _ k=>Fi k) fun y5 A6 n6 c6 h=> ?_
 refine cC h (fun _ k=>E3 k) fun y7 h=> ?_
 exact eN
def qz (N:Nat)(a6:Int->Int->σ->Option σ)(fy:(Int×Int)->σ->Option (Bool×σ))(p6:Int)(a1:Xf)(a7:Int)(a8:σ):Option σ:=
 aI (in64 (p6+1)) (a6 a7 (p6+1) a8)
def mf (N:Nat)(b0 a6:Int->Int->σ->Option σ)(fy:(Int×Int)->σ->Option (Bool×σ))(b5 p6:Int)(a1:Xf)(p15 a7:Int)(a8:σ):Option σ:=
 aI (in64 (p15+1)) (a6 a7 (p15+1) a8)
def cY (N:Nat){σ:Type}(a6:Int->Int->σ->Option σ)(fy:(Int×Int)->σ->Option (Bool×σ))(a7 p6:Int)(a1:Xf):Nat->Int->Int->σ->Option σ
 |0,_,_,_=>none
 |b6+1,a8,p15,b0=>bif decide (p15<(a1.length:Int)) then ((aq a1 p15).bind fun b7=>bif !decide (b7.tmod 2=a7) then (mf N a6 (cY N a6 fy a7 p6 a1 b6) fy a7 p6 a1 p15 a8 b0) else ((fy (a8,b7) b0).bind fun b5=>bif !b5.1 then (some b5.2) else (aI (in64 (a8+1)) (mf N a6 (cY N a6 fy a7 p6 a1 b6) fy a7 p6 a1 p15 (a8+1) b5.2)))) else (qz N a6 fy p6 a1 a8 b0)
def fw (N:Nat){σ:Type}(fy:(Int×Int)->σ->Option (Bool×σ))(a1:Xf):Nat->Int->Int->σ->Option σ
 |0,_,_,_=>none
 |m4+1,p5,p6,p7=>bif decide (p6<(([0,1]:List Int).length:Int)) then ((aq ([0,1]:List Int) p6).bind fun a6=>cY N (fw N fy a1 m4) fy a6 p6 a1 N p5 0 p7) else (some p7)
def gp (a1:Xf)(fy:(Int×Int)->σ->Option (Bool×σ))(s0:σ):Option σ:=
 fw N fy a1 N 0 0 s0
theorem ve {N:Nat}{a1:Xf}{fy:(Int×Int)->σ->Option (Bool×σ)}{s0 r:σ}(h:gp N a1 fy s0=some r){G:σ->Xi}(hY:tG Xk l G (fun x=> [iV x.1,iV x.2]) fy):Okc Xk 163 [.func (.yield l) #[] #[],pV B1 0] (aW B1 144 [W A2 n2 c2]::xQ A2 n2 c2 a1::(G s0)) (fun u post=>u=.tuple #[]/\post=G r):=by
 refine ce Tryz.func163 ?_
 refine sI (aw (R:=(nO .i64)) (vss:=[[iV 0],[iV 1]]) (xs:=[0,1]) J (Oo _ _) J J (fun _ _ hr=> .cons J (.cons J All2.nil))) fun A3 n3 c3=> ?_
 refine lK (fun m s L=> ∃(p5:Int) (p6:Int) (p7:σ),fw N fy a1 m p5 p6 p7=some r/\s=[(0,.func (.yield l) #[] #[]),(1,pV B1 0),(3,iV p5),(8,W A3 n3 c3),(9,iV (([0,1]:List Int).length:Int)),(10,iV p6)]/\L=uL A3 n3 c3 ([0,1]:List Int)::xQ A2 n2 c2 a1::aW B1 144 [W A2 n2 c2]::(G p7)) N ?_;rintro m4 _ _ ⟨p5,p6,p7,h,rfl,rfl⟩;rw [fw.eq_2] at h;refine ab ?_;refine aB<|gH J h (fun h=> ?_) (fun h=> ?_)
 ·refine ab ?_;refine ak (fun s L=> ∃a8 b0,qz N (fw N fy a1 m4) fy p6 a1 a8 b0=some r/\s=[(0,.func (.yield l) #[] #[]),(1,pV B1 0),(3,iV a8),(8,W A3 n3 c3),(9,iV (([0,1]:List Int).length:Int)),(10,iV p6)]/\L=uL A3 n3 c3 ([0,1]:List Int)::xQ A2 n2 c2 a1::aW B1 144 [W A2 n2 c2]::(G b0)) ?_ ?_
  ·refine ab ?_;obtain ⟨a6,b9,c8,c9,h⟩:=ba h;refine ab ?_;refine lK (fun m s L=> ∃(a7:Int) (p15:Int) (b5:σ),cY N (fw N fy a1 m4) fy a6 p6 a1 m a7 p15 b5=some r/\s=[(0,.func (.yield l) #[] #[]),(1,pV B1 0),(3,iV a7),(5,iV a6),(8,W A3 n3 c3),(9,iV (([0,1]:List Int).length:Int)),(10,iV p6),(14,W A2 n2 c2),(15,iV (a1.length:Int)),(16,iV p15)]/\L=uL A3 n3 c3 ([0,1]:List Int)::xQ A2 n2 c2 a1::aW B1 144 [W A2 n2 c2]::(G b5)) N ?_;rintro d0 _ _ ⟨a7,p15,b5,h,rfl,rfl⟩;rw [cY.eq_2] at h;refine ab ?_;refine aB<|gH J h (fun h=> ?_) (fun h=> ?_)
   ·refine ab ?_;refine ak (fun s L=> ∃b6 b7,mf N (fw N fy a1 m4) (cY N (fw N fy a1 m4) fy a6 p6 a1 d0) fy a6 p6 a1 p15 b6 b7=some r/\s=[(0,.func (.yield l) #[] #[]),(1,pV B1 0),(3,iV b6),(5,iV a6),(8,W A3 n3 c3),(9,iV (([0,1]:List Int).length:Int)),(10,iV p6),(14,W A2 n2 c2),(15,iV (a1.length:Int)),(16,iV p15)]/\L=uL A3 n3 c3 ([0,1]:List Int)::xQ A2 n2 c2 a1::aW B1 144 [W A2 n2 c2]::(G b7)) ?_ ?_
    ·refine ab ?_;obtain ⟨d1,d2,d3,d4,h⟩:=ba h;refine sY ?_;refine fS (sJ J J (by decide)) ?_;refine gH J h ?_ ?_<;>intro h
     ·exact jY
     refine sY ?_;obtain ⟨d6,k,h⟩:=aa h;refine gD (wb (a:=(a7,d1)) [uL A3 n3 c3 ([0,1]:List Int),xQ A2 n2 c2 a1,aW B1 144 [W A2 n2 c2]] hY k J J) ?_;rintro _ _ ⟨rfl,rfl⟩;refine dk h ?_ ?_<;>intro h
     ·exact eY
     refine ab ?_;obtain ⟨e0,h⟩:=ac h;exact jY
    rintro _ _ ⟨b6,b7,h,rfl,rfl⟩;refine ab ?_;obtain ⟨e1,h⟩:=ac h;exact lY
   exact jY
  rintro _ _ ⟨a8,b0,h,rfl,rfl⟩;refine ab ?_;obtain ⟨e2,h⟩:=ac h;exact lY
 exact eY
def mH (N:Nat)(a0:Xf):Option Unit:=
 some ()
theorem yG {N:Nat}{a0:Xf}{r:Unit}(h:mH N a0=some r):Okc Xk 124 [W A1 n1 c1] ([xQ A1 n1 c1 a0]) (fun u post=> ∃a6,u=.func (.func 163) #[] #[pV a6 0]/\post=[ah a6 144 [W A1 n1 c1]]):=by
 refine ce Tryz.func124 ?_;intro B2;refine ab ?_;refine fS (ja J) ?_;exact eN
def jS (a0:WZ)(a1:Xf):Option Bool:=
 (kf N a1 a0.N).bind fun y4=>some y4
theorem CW {N:Nat}{a0:WZ}{a1:Xf}{r:Bool}(h:jS N a0 a1=some r):Okc Xk 167 [(aF a0),pV B1 0] ([aW B1 144 [W A2 n2 c2],xQ A2 n2 c2 a1]) (fun u post=>u=.bool r/\post=[]):=by
 refine ce Tryz.func167 ?_;intro B3
 refine cR h (fun _ k=>ud k) fun y4 h=> ?_
 exact eN
def kD (N:Nat)(ff:WZ->Option Bool)(y6:W3)(a6:WZ×WZ):(W8)->Option (Option Exit×W8)
 |p13=>(ff a6.1).bind fun a7=>bif a7 then (aI (bm (p13.length+([a6.1,a6.2]:List WZ).length)) (some (none,p13++([a6.1,a6.2]:List WZ)))) else (some (none,p13))
def xT (a0:W3)(ff:WZ->Option Bool):Option W3:=
 (fO N a0).bind fun y6=>(nk N a0).bind fun a7=>(kc N a0 (cM (fun x st=>kD N ff y6 x st)) (none,[])).bind fun a6=>rc a6.1 (some (⟨y6.Zh,y6.Zq,y6.Zm,y6.Zn,y6.Zj,a6.2⟩:W3)) none (fun _=>none)
theorem Id {N:Nat}{ff:WZ->Option Bool}{r:W3}(h:xT N a0 ff=some r){vf:Value}{G:Xi}(hf:Qx Xk vf G (fun x=> [.agg #[iV x.Zh,iV x.N,.string x.S]]) (fun r=> .bool r) ff):Okc Xk 166 [.agg #[iV a0.Zh,iV a0.Zq,iV a0.Zm,iV a0.Zn,W A1 n1 c1,W A2 n2 c2],vf] (aQ A1 n1 c1 a0.Zj::aQ A2 n2 c2 a0.Zi::G) (fun u post=> ∃A0 n0 c0 A1 n1 c1,u=.agg #[iV r.Zh,iV r.Zq,iV r.Zm,iV r.Zn,W A0 n0 c0,W A1 n1 c1]/\post=[bj A0 n0 c0 r.Zj,bj A1 n1 c1 r.Zi]):=by
 refine ce Tryz.func166 ?_;intro B3
 refine Ws (rt J (Pz hf)) fun B4=> ?_
 intro B5
 refine G0 h (fun _ k=>iP k) fun y6 A7 n7 c7 A8 n8 c8 h=> ?_
 intro B9;refine sY ?_;obtain ⟨d3,k,h⟩:=aa h;refine gD (oR (xp k)) ?_;rintro _ _ ⟨_,⟨b5,rfl,rfl⟩,rfl⟩;refine ab ?_;refine gw ?_ bK (lr 0 J);refine ab ?_;obtain ⟨b6,k,h⟩:=aa h;refine uI (en:=(fun x=> [.agg #[iV x.1.Zh,iV x.1.N,.string x.1.S],.agg #[iV x.2.Zh,iV x.2.N,.string x.2.S]])) (fun x st=>kD N ff y6 x st) (fun (st:W8) (mz:((Option Addr×Nat×Nat)))=> [ah B4 26 [vf],ah B5 94 [iV 0,iV 0,iV 0,iV 0,W none 0 0,W none 0 0],bj A7 n7 c7 y6.Zj,bf ay 28 (.slice mz.1 mz.2.1 mz.2.2) st,ah B9 94 (iM y6 A7 n7 c7 mz.1 mz.2.1 mz.2.2)]++G) [aW b5 94 (iM a0 A1 n1 c1 A2 n2 c2),aQ A1 n1 c1 a0.Zj,aQ A2 n2 c2 a0.Zi] ([]) ((none,0,0)) J J call221.out J (fun _=>J) (fun l G hY=>(tV k hY).mono fun _ _ hh=>hh.2) ((bT ay 28 _).trans (bI [1,8,9] [] [6,5,3,0,2] 10 J)) h ?_ ?_ ?_ ?_
 ·rintro l a6 p13 je sr12 ⟨a7,a8,b0⟩ h;replace h:kD N ff y6 a6 p13=some (je,sr12):=h;simp only [Bd,YF,YG,YH,Yz,YA,Zf,XE]
  refine cl fun b7=> ?_
  intro b9;refine ab ?_;obtain ⟨d4,k,h⟩:=aa h;refine gD (JG (a:=a6.1) [ah b9 28 [iV a6.2.Zh,iV a6.2.N,.string a6.2.S],ah b7 28 [iV a6.1.Zh,iV a6.1.N,.string a6.1.S],ah B4 26 [vf],ah B5 94 [iV 0,iV 0,iV 0,iV 0,W none 0 0,W none 0 0],bj A7 n7 c7 y6.Zj,bj a7 a8 b0 p13,ah B9 94 (iM y6 A7 n7 c7 a7 a8 b0)] hf k J J) ?_;rintro _ _ ⟨rfl,rfl⟩;refine dk h ?_ ?_<;>intro h
  ·refine ab ?_;refine gD (aw (R:=ay) (vss:=[[iV a6.1.Zh,iV a6.1.N,.string a6.1.S],[iV a6.2.Zh,iV a6.2.N,.string a6.2.S]]) (xs:=[a6.1,a6.2]) J (Kj _ _ _ _ _ _) J J (fun _ _ hr=> .cons J (.cons J All2.nil))) ?_;rintro _ _ ⟨d6,e0,e1,rfl,rfl⟩;obtain ⟨c9,h⟩:=ac h
   refine sI (az 6 0 J J aj J J t9 sw J J c9) fun d0 d1 d2=> ?_
   obtain ⟨rfl,rfl⟩:=YZ (YX h);exact DD ((cS [3,4,5,6,7] 8).trans (fX (d0,d1,d2) J))
  refine ab ?_;obtain ⟨rfl,rfl⟩:=YZ (YX h);exact DD ((cS [2,3,4,5,6] 7).trans (fX (a7,a8,b0) J))
 ·rintro ⟨a7,a8,b0⟩ h;refine qP (ah B4 26 [vf]::ah B5 94 [iV 0,iV 0,iV 0,iV 0,W none 0 0,W none 0 0]::bj A7 n7 c7 y6.Zj::bj a7 a8 b0 b6.2::ah B9 94 (iM y6 A7 n7 c7 a7 a8 b0)::G) J<|ab ?_;obtain rfl:=bJ h;exact kL (rs:=[.cell 4 94]) (vs:=[.agg #[iV y6.Zh,iV y6.Zq,iV y6.Zm,iV y6.Zn,W A7 n7 c7,W a7 a8 b0]]) J (.cons (dy 1 J J agg94.out) .nil) J (R9 [2,3] 5 J J) ⟨_,_,_,_,_,_,J,J⟩
 ·rintro ⟨a7,a8,b0⟩ h;exact aL h
 rintro i ⟨a7,a8,b0⟩ h;exact aL h
def pY (a0:W3)(a1:Xf):Option W3:=
 (vP N a0).bind fun y7=>bif !y7 then (some (⟨0,0,0,0,[],[]⟩:W3)) else ((xT N a0 (fun x=>jS N x a1)).bind fun a6=>some a6)
theorem GE {N:Nat}{a1:Xf}{r:W3}(h:pY N a0 a1=some r):Okc Xk 126 [.agg #[iV a0.Zh,iV a0.Zq,iV a0.Zm,iV a0.Zn,W A1 n1 c1,W A2 n2 c2],W A3 n3 c3] ([aQ A1 n1 c1 a0.Zj,aQ A2 n2 c2 a0.Zi,xQ A3 n3 c3 a1]) (fun u post=> ∃A0 n0 c0 A1 n1 c1,u=.agg #[iV r.Zh,iV r.Zq,iV r.Zm,iV r.Zn,W A0 n0 c0,W A1 n1 c1]/\post=[bj A0 n0 c0 r.Zj,bj A1 n1 c1 r.Zi]):=by
 refine ce Tryz.func126 ?_;intro B4
 refine cl fun B5=> ?_
 intro B6;refine sY ?_
 refine cR h (fun _ k=>ET k) fun y7 h=> ?_
 refine gH J h ?_ ?_<;>intro h
 ·refine ab ?_;obtain rfl:=bJ h;exact kL (rs:=[.cell 4 94]) (vs:=[.agg #[iV 0,iV 0,iV 0,iV 0,W none 0 0,W none 0 0]]) J (.cons (dy 0 J J agg94.out) .nil) J ((bT ay 28 _).trans ((bT ay 28 _).trans (cS [1,0] 8))) ⟨_,_,_,_,_,_,J,J⟩
 refine ab ?_;refine gE (ja J) ?_;obtain ⟨a6,k,h⟩:=aa h
 refine SC (oR (Id k ⟨t5 J (t5 J ax),167, #[], #[pV B5 0],J,call167.out,fun _ _ hh=>CW hh⟩)) fun a7 a8 b0 b5 b6 b7=> ?_
 exact eN
def vi (a0:W3):Option Bool:=
 (bif decide (a0.Zh=10) then ((gG N a0).bind fun y5=>some y5) else (some false)).bind fun b4=>some b4
theorem IN {N:Nat}{r:Bool}(h:vi N a0=some r):Okc Xk 169 [.agg #[iV a0.Zh,iV a0.Zq,iV a0.Zm,iV a0.Zn,W A1 n1 c1,W A2 n2 c2]] ([aQ A1 n1 c1 a0.Zj,aQ A2 n2 c2 a0.Zi]) (fun u post=>u=.bool r/\post=[]):=by
 refine ce Tryz.func169 ?_;intro B3;refine ab ?_
 refine oz 3 9 6 h (fun _ g4 h=> ?_) fun b4 h=> ?_
 ·refine cR h (fun _ k=>mJ k) fun y5 h=> ?_
  exact gY
 exact eY
theorem F8 {r:Bool}: ∀v post,((fun (u:Value) (post:Xi)=>u=.bool r/\post=[])) v post-> ∀c∈post,iS c:=by
 rintro _ _ ⟨rfl,rfl⟩;exact ax
def vI (a0:W3):Option W3:=
 (dz N a0.Zj).bind fun y5=>(aq a0.Zi 0).bind fun x7=>some (⟨a0.Zh,a0.Zq,a0.Zm,a0.Zn,y5,([x7]:List WZ)⟩:W3)
theorem F9 {N:Nat}{r:W3}(h:vI N a0=some r):Okc Xk 170 [.agg #[iV a0.Zh,iV a0.Zq,iV a0.Zm,iV a0.Zn,W A1 n1 c1,W A2 n2 c2]] ([aQ A1 n1 c1 a0.Zj,aQ A2 n2 c2 a0.Zi]) (fun u post=> ∃A0 n0 c0 A1 n1 c1,u=.agg #[iV r.Zh,iV r.Zq,iV r.Zm,iV r.Zn,W A0 n0 c0,W A1 n1 c1]/\post=[bj A0 n0 c0 r.Zj,bj A1 n1 c1 r.Zi]):=by
 refine ce Tryz.func170 ?_;intro B3
 refine cl fun B4=> ?_
 refine LD h (fun _ k=>jT k) fun y5 A6 n6 c6 h=> ?_
 obtain ⟨x7,a6,a7,a8,h⟩:=ba h;refine ab ?_
 refine sI (aw (R:=ay) (vss:=[[iV x7.Zh,iV x7.N,.string x7.S]]) (xs:=[x7]) J (jy _ _ _) J J (fun _ _ hr=> .cons J All2.nil)) fun A8 n8 c8=> ?_
 exact eN
theorem Dr {r:W3}: ∀v post,((fun (u:Value) (post:Xi)=> ∃A0 n0 c0 A1 n1 c1,u=.agg #[iV r.Zh,iV r.Zq,iV r.Zm,iV r.Zn,W A0 n0 c0,W A1 n1 c1]/\post=[bj A0 n0 c0 r.Zj,bj A1 n1 c1 r.Zi])) v post-> ∀c∈post,iS c:=by
 rintro _ _ ⟨_,_,_,_,_,_,rfl,rfl⟩;exact t5 qG (t5 qG (ax))
def ib (N:Nat){σ:Type}(fy:(Int×W8)->σ->Option (Bool×σ))(a1:W3):Nat->Int->σ->Option σ
 |0,_,_=>none
 |m4+1,p5,p6=>aI (in64 (p5+4)) (bif decide (p5+4<=(a1.Zi.length:Int)) then (aI (in64 (p5+4)) (aI (in64 (p5+4)) (aI ((0:Int)<=p5/\(0:Int)<=p5+4/\p5.toNat<=(p5+4).toNat/\(p5+4).toNat<=a1.Zi.length) ((fy (p5,(a1.Zi.drop p5.toNat).take ((p5+4).toNat - p5.toNat)) p6).bind fun a6=>bif !a6.1 then (some a6.2) else (aI (in64 (p5+4)) ((ib N fy a1 m4) (p5+4) a6.2)))))) else (some p6))
def oA (a1:W3)(fy:(Int×W8)->σ->Option (Bool×σ))(s0:σ):Option σ:=
 ib N fy a1 N 1 s0
theorem yQ {N:Nat}{a1:W3}{fy:(Int×W8)->σ->Option (Bool×σ)}{s0 r:σ}(h:oA N a1 fy s0=some r){G:σ->Xi}(hY:ww Xk l G (fun (x:Int×W8) vs cs=> ∃A1 n1 c1,vs=[iV x.1,W A1 n1 c1]/\cs=[aQ A1 n1 c1 x.2]) fy):Okc Xk 197 [.func (.yield l) #[] #[],pV B1 0] (aW B1 94 (iM a1 A2 n2 c2 A3 n3 c3)::aQ A2 n2 c2 a1.Zj::aQ A3 n3 c3 a1.Zi::(G s0)) (fun u post=>u=.tuple #[]/\post=G r):=by
 refine ce Tryz.func197 ?_;refine lK (fun m s L=> ∃(p5:Int) (p6:σ),ib N fy a1 m p5 p6=some r/\s=[(0,.func (.yield l) #[] #[]),(1,pV B1 0),(3,iV p5)]/\L=aQ A2 n2 c2 a1.Zj::aQ A3 n3 c3 a1.Zi::aW B1 94 (iM a1 A2 n2 c2 A3 n3 c3)::(G p6)) N ?_;rintro m4 _ _ ⟨p5,p6,h,rfl,rfl⟩;rw [ib.eq_2] at h;refine sZ ?_;obtain ⟨q7,h⟩:=ac h;refine dk h ?_ ?_<;>intro h
 ·refine sY ?_;obtain ⟨q9,h⟩:=ac h;refine ab ?_;obtain ⟨b6,h⟩:=ac h;refine ab ?_;obtain ⟨a6,h⟩:=ac h;refine Qw 1 J (l:=p5.toNat) (h:=(p5+4).toNat) a6.2.2.1 a6.2.2.2 ?_;rintro a7 a8 b0 b5;refine gR (Mb 2 J b5 J t9 size28.out J (by rw [Xz a6.1];rfl) (by rw [Xz a6.2.1];rfl) (by rw [Xz a6.2.1];rfl) a6.2.2.1 a6.2.2.2) ?_;obtain ⟨b7,k,h⟩:=aa h;refine gD (Hq (a:=(p5,(a1.Zi.drop p5.toNat).take ((p5+4).toNat - p5.toNat))) [aQ a7 a8 b0 ((a1.Zi.drop p5.toNat).take ((p5+4).toNat - p5.toNat)),aQ A2 n2 c2 a1.Zj,aQ A3 n3 c3 a1.Zi,aW B1 94 (iM a1 A2 n2 c2 A3 n3 c3)] hY k J J ⟨_,_,_,J,J⟩ (Lv 0 J J)) ?_;rintro _ _ ⟨rfl,rfl⟩;refine dk h ?_ ?_<;>intro h
  ·exact eY
  refine ab ?_;obtain ⟨b9,h⟩:=ac h;exact lY
 exact eY
def rB (N:Nat)(a0:W3):Option Unit:=
 some ()
theorem Cz {N:Nat}{r:Unit}(h:rB N a0=some r):Okc Xk 171 [.agg #[iV a0.Zh,iV a0.Zq,iV a0.Zm,iV a0.Zn,W A1 n1 c1,W A2 n2 c2]] ([aQ A1 n1 c1 a0.Zj,aQ A2 n2 c2 a0.Zi]) (fun u post=> ∃a6,u=.func (.func 197) #[] #[pV a6 0]/\post=[ah a6 94 (iM a0 A1 n1 c1 A2 n2 c2)]):=by
 refine ce Tryz.func171 ?_;intro B3;refine ab ?_;refine fS (ja J) ?_;exact eN
theorem Ab {A1:Option Addr}{n1 c1:Nat}{A2:Option Addr}{n2 c2:Nat}: ∀v post,((fun (u:Value) (post:Xi)=> ∃a6,u=.func (.func 197) #[] #[pV a6 0]/\post=[ah a6 94 [iV a0.Zh,iV a0.Zq,iV a0.Zm,iV a0.Zn,W A1 n1 c1,W A2 n2 c2]])) v post-> ∀c∈post,iS c:=by
 rintro _ _ ⟨_,rfl,rfl⟩;exact t5 Cw (ax)
def nX (N:Nat)(a6:Int×W8)(a0:W3)(c9:(List (Int×Bool)))(d0:W3)(a7 c8:W8)(a8 b0:Int)(b5:ByteArray):Option (Option Exit×W8×W8):=
 (aq a6.2 0).bind fun b6=>(aq a6.2 1).bind fun b7=>(aq a6.2 3).bind fun b9=>aI (bm (a7.length+([b6,b7,(⟨a8,b0,b5⟩:WZ),b9]:List WZ).length)) (some (none,(a7++([b6,b7,(⟨a8,b0,b5⟩:WZ),b9]:List WZ),c8)))
def gu (a0:W3)(a8:(List (Int×Bool)))(b6:W3)(a6:Int×W8):(W8×W8)->Option (Option Exit×(W8×W8))
 |(b5,b0)=>(aq a6.2 0).bind fun c9=>bif !((lk a8 c9.N).getD false) then ((aq a0.Zi 0).bind fun b7=>(aq a6.2 1).bind fun b9=>(aq a6.2 3).bind fun c8=>aI (bm (b0.length+([b7,b9,c8]:List WZ).length)) (some (none,(b5,b0++([b7,b9,c8]:List WZ))))) else ((aq a6.2 2).bind fun a7=>(bif decide (a7.Zh=7) then (some (!((lk a8 a7.N).getD false))) else (some false)).bind fun d0=>bif d0 then (nX N a6 a0 a8 b6 b5 b0 0 0 (⟨#[]⟩)) else (nX N a6 a0 a8 b6 b5 b0 a7.Zh a7.N a7.S))
def rC (a0:W3)(a8:(List (Int×Bool))):Option (W3×W8):=
 (vI N a0).bind fun a6=>(rB N a0).bind fun b0=>(oA N a0 (cM (fun x st=>gu N a0 a8 a6 x st)) (none,(a6.Zi,[]))).bind fun a7=>rc a7.1 (some ((⟨a6.Zh,a6.Zq,a6.Zm,a6.Zn,a6.Zj,a7.2.1⟩:W3),a7.2.2)) none (fun _=>none)
def ji (N:Nat)(a1:Xf)(a0:W3):Nat->Int->(List (Int×Bool))->Option (W3×W8)
 |0,_,_=>none
 |a8+1,a6,a7=>bif decide (a6<(a1.length:Int)) then ((aq a1 a6).bind fun b0=>aI (in64 (a6+1)) ((ji N a1 a0 a8) (a6+1) (Bq a7 b0 true))) else (rC N a0 a7)
def nG (a0:W3)(a1:Xf):Option (W3×W8):=
 (vi N a0).bind fun y6=>bif !y6 then (some ((⟨0,0,0,0,[],[]⟩:W3),[])) else (ji N a1 a0 N 0 ([]:(List (Int×Bool))))
theorem Ek {N:Nat}{a1:Xf}{r:W3×W8}(h:nG N a0 a1=some r):Okc Xk 127 [.agg #[iV a0.Zh,iV a0.Zq,iV a0.Zm,iV a0.Zn,W A1 n1 c1,W A2 n2 c2],W A3 n3 c3] ([aQ A1 n1 c1 a0.Zj,aQ A2 n2 c2 a0.Zi,xQ A3 n3 c3 a1]) (fun u post=> ∃A0 n0 c0 A1 n1 c1 A2 n2 c2,u=.tuple #[.agg #[iV r.1.Zh,iV r.1.Zq,iV r.1.Zm,iV r.1.Zn,W A0 n0 c0,W A1 n1 c1],W A2 n2 c2]/\post=[bj A0 n0 c0 r.1.Zj,bj A1 n1 c1 r.1.Zi,bj A2 n2 c2 r.2]):=by
 refine Ca Tryz.func127 J J ?_;simp only [qI];refine Y ?_
 refine gB (rt J J) fun B4=>gB (bF zero94.out J) fun B5=>Y ?_
 refine aB<|Y ?_;refine gR (aD (us:=(iM a0 A1 n1 c1 A2 n2 c2)) 1 J J agg94.out J) ?_;obtain ⟨y6,k,h⟩:=aa h;refine gV (aX (IN k) J (t5 (cQ (i:=2) J J) (t5 (cQ (i:=3) J J) ax)) F8)<|Y ?_;refine gH J h ?_ ?_<;>intro h
 ·refine Y ?_;refine gE (nH J bld_94_.out)<|gW (ao (us:=[iV 0,iV 0,iV 0,iV 0,W none 0 0,W none 0 0]) (cs':=[iV 0,iV 0,iV 0,iV 0,W none 0 0,W none 0 0]) 0 J J J J size94.out J J J)<|Y ?_;obtain rfl:=bJ h;exact kL (rs:=[.cell 4 94,.tmp 5]) (vs:=[.agg #[iV 0,iV 0,iV 0,iV 0,W none 0 0,W none 0 0],W none 0 0]) J (.cons (dy 0 J J agg94.out) (.cons (dR J) .nil)) J ((bT ay 28 _).trans ((bT ay 28 _).trans ((bT ay 28 _).trans (cS [2,1,0] 8)))) ⟨_,_,_,_,_,_,_,_,_,J,J⟩
 refine Y ?_;refine gR (jO 4 J aE J Wx)<|gD (JF (ek:=jJ) (ev:=rb) J WF) ?_;rintro _ _ ⟨a7,rfl,rfl⟩
 refine gB (bF zero211.out J) fun d1=>gW (ao (us:=[.map (some a7)]) (cs':=[.map (some a7)]) 0 J J J J size211.out J J J)<|Y ?_
 refine ak (fun s L=> ∃d3,rC N a0 d3=some r/\s=[(2,pV B4 0),(4,pV B5 0),(5,W none 0 0),(6,pV d1 0)]/\L=[aQ A1 n1 c1 a0.Zj,aQ A2 n2 c2 a0.Zi,ah B4 94 (iM a0 A1 n1 c1 A2 n2 c2),ah B5 94 [iV 0,iV 0,iV 0,iV 0,W none 0 0,W none 0 0],bE jJ rb a7 d3,ah d1 211 [.map (some a7)]]) ?_ ?_
 ·refine Y ?_;refine gR (jO 6 J aE J Wx)<|Y ?_;refine im (fun m s L=> ∃f6 f2,ji N a1 a0 m f6 f2=some r/\s=[(2,pV B4 0),(4,pV B5 0),(5,W none 0 0),(6,pV d1 0),(21,W A3 n3 c3),(22,iV (a1.length:Int)),(23,iV f6)]/\L=[xQ A3 n3 c3 a1,aQ A1 n1 c1 a0.Zj,aQ A2 n2 c2 a0.Zi,ah B4 94 (iM a0 A1 n1 c1 A2 n2 c2),ah B5 94 [iV 0,iV 0,iV 0,iV 0,W none 0 0,W none 0 0],bE jJ rb a7 f2,ah d1 211 [.map (some a7)]]) N _ _ ⟨0,([]:(List (Int×Bool))),h,J,J⟩ sA (cS [6,4,5,3,2,1,0] 7) ?_;rintro (_|j4) _ _ ⟨f6,f2,h,rfl,rfl⟩
  ·exact aL h
  rw [ji.eq_2] at h;refine Y ?_;refine aB<|gH J h (fun h=> ?_) (fun h=> ?_)
  ·refine Y ?_;refine aB<|Y ?_;obtain ⟨g4,g5,g6,g7,h⟩:=ba h;refine gR (bS 0 J aE J J Wx size3.out g5 g6)<|gR (li (u:=iV g4) 0 J aE J g7 wc (fun _ _ _ h=>by rw [show _=_ from h];rfl))<|Y ?_;refine gW (nS (a:=g4) (b:=true) 5 J J J J WF (lq WB))<|oS ?_;refine Y ?_;obtain ⟨j2,h⟩:=ac h;refine gE (iO J J j2.1 j2.2)<|Y ?_;exact ⟨j4,_,_,Xb _,⟨f6+1,Bq f2 g4 true,h,J,J⟩,sA,cS [0,1,2,3,4,5,6] 7⟩
  refine Y ?_;exact ⟨_,_,⟨f2,h,J,J⟩,sA,cS [1,2,3,4,5,6] 7⟩
 rintro _ _ ⟨d3,h,rfl,rfl⟩;refine Y ?_;refine gR (aD (us:=(iM a0 A1 n1 c1 A2 n2 c2)) 2 J J agg94.out J) ?_;obtain ⟨a6,k,h⟩:=aa h;refine gD (aX (F9 k) J (t5 (cQ (i:=0) J J) (t5 (cQ (i:=1) J J) ax)) Dr) ?_;rintro _ _ ⟨_,⟨a8,b0,b5,g8,g9,h0,rfl,rfl⟩,rfl⟩
 refine gB (bF zero94.out J) fun e4=>gW (ao (us:=(iM a6 a8 b0 b5 g8 g9 h0)) (cs':=(iM a6 a8 b0 b5 g8 g9 h0)) 0 J J J J size94.out J J J)<|Y ?_
 refine gB (bF zero22.out J) fun e5=>Y ?_
 refine aB<|Y ?_;refine gR (aD (us:=(iM a0 A1 n1 c1 A2 n2 c2)) 6 J J agg94.out J) ?_;obtain ⟨l2,k,h⟩:=aa h;refine gD (aX (Cz k) J (t5 (cQ (i:=4) J J) (t5 (cQ (i:=5) J J) ax)) Ab) ?_;rintro _ _ ⟨_,⟨j5,rfl,rfl⟩,rfl⟩;refine Az<|qx<|gw ?_ bK (lr 0 J);obtain ⟨f9,k,h⟩:=aa h;refine H7 (R:=(fun (x:Int×W8) vs cs=> ∃A1 n1 c1,vs=[iV x.1,W A1 n1 c1]/\cs=[aQ A1 n1 c1 x.2])) (fun x st=>gu N a0 d3 a6 x st) (fun (st:W8×W8) (mz:((Option Addr×Nat×Nat)×(Option Addr×Nat×Nat)))=> [aQ A1 n1 c1 a0.Zj,aQ A2 n2 c2 a0.Zi,ah B4 94 (iM a0 A1 n1 c1 A2 n2 c2),ah B5 94 [iV 0,iV 0,iV 0,iV 0,W none 0 0,W none 0 0],bE jJ rb a7 d3,ah d1 211 [.map (some a7)],bj a8 b0 b5 a6.Zj,bf ay 28 (.slice mz.1.1 mz.1.2.1 mz.1.2.2) st.1,ah e4 94 (iM a6 a8 b0 b5 mz.1.1 mz.1.2.1 mz.1.2.2),bf ay 28 (.slice mz.2.1 mz.2.2.1 mz.2.2.2) st.2,ah e5 22 [.slice mz.2.1 mz.2.2.1 mz.2.2.2]]) [aW j5 94 (iM a0 A1 n1 c1 A2 n2 c2),aQ A1 n1 c1 a0.Zj,aQ A2 n2 c2 a0.Zi] ((a6.Zi,[])) (((g8,g9,h0),(none,0,0))) J J call197.out J (by rintro _ _ _ ⟨_,_,_,rfl,rfl⟩;rfl) (fun l G hY=>(yQ k hY).mono fun _ _ hh=>hh.2) ((bT ay 28 _).trans (bI [1,6,7] [] [6,7,8,9,10,11,4,5,3,0,2] 12 J)) h ?_ ?_ ?_ ?_
 ·rintro l f3 ⟨g0,f4⟩ je sr28 ⟨⟨c8,c9,d0⟩,⟨b6,b7,b9⟩⟩ h _ _ ⟨e1,e2,e3,rfl,rfl⟩;replace h:gu N a0 d3 a6 f3 (g0,f4)=some (je,sr28):=h;simp only [Bd,YF,YG,YH,Yz,YA,Zf,XE];refine Y ?_;refine aB<|dY [0,1] ?_;obtain ⟨j6,h1,h2,j7,h⟩:=ba h;refine zY [2] ?_;refine zR 3 J (qi 0 J aE J (toNat_lt h1 h2) MG) ?_;refine zY [4] ?_;refine zR 5 J (Ju (a:=j6.N) (z:=false) 5 J FO J J WF (lq WB) zero4.out) ?_;refine zX [6] ?_;refine qx<|gH J h (fun h=> ?_) (fun h=> ?_)
  ·refine aB ?_;obtain ⟨d4,h3,h4,h5,h⟩:=ba h;obtain ⟨d6,h6,h7,h8,h⟩:=ba h;obtain ⟨e0,h9,i0,i1,h⟩:=ba h;refine gw (t:=[(2,pV B4 0),(4,pV B5 0),(5,W none 0 0),(6,pV d1 0),(9,pV e4 0),(10,pV e5 0),(12,W e1 e2 e3)]) ?_ ml (ae _)
   refine iR O 12 [] [0,11] [43,44,45,46,47,48,49,50,51,52,53,54] [[],[],[1],[2],[3],[],[5],[6],[],[8],[9],[4,7,10]] [aV (W b6 b7 b9),
aV (pV B4 5),
aV (W A2 n2 c2),
aV (dG (W A2 n2 c2) ((0:Int).toNat) 3 0),
aV (.agg #[iV d4.Zh,iV d4.N,.string d4.S]),
aV (W e1 e2 e3),
aV (dG (W e1 e2 e3) ((1:Int).toNat) 3 0),
aV (.agg #[iV d6.Zh,iV d6.N,.string d6.S]),
aV (W e1 e2 e3),
aV (dG (W e1 e2 e3) ((3:Int).toNat) 3 0),
aV (.agg #[iV e0.Zh,iV e0.N,.string e0.S]),
aX3 (fun (e6:Option Addr) (e7 e8:Nat)=> W e6 e7 e8) (fun e6 e7 e8=> [bj e6 e7 e8 ([d4,d6,e0]:List WZ)])] [] (ae _) (me) O rfl rfl ?_ ?_ ?_
   ·exact md
   ·refine aG J ?_ ?_
    ·refine tH (aw (R:=ay) (vss:=[[iV d4.Zh,iV d4.N,.string d4.S],[iV d6.Zh,iV d6.N,.string d6.S],[iV e0.Zh,iV e0.N,.string e0.S]]) (xs:=[d4,d6,e0]) J (CL _ _ _ _ _ _ _ _ _) J J (fun _ _ hr=> .cons J (.cons J (.cons J All2.nil)))) J ?_;rintro _ _ ⟨j8,j9,k0,rfl,rfl⟩;exact Oh j8 j9 k0 (ae _)
    refine aG J (zh (dr (us:=[iV e0.Zh,iV e0.N,.string e0.S]) 0 J aE J i1 agg28.out (fun _ _ _ h=>by rw [show _=_ from h];rfl)) J (iI J (ae _)))<|qR (bS 0 J aE J J t9 size28.out h9 i0) ?_;refine qE (ap J) ?_;refine aG J (zh (dr (us:=[iV d6.Zh,iV d6.N,.string d6.S]) 0 J aE J h8 agg28.out (fun _ _ _ h=>by rw [show _=_ from h];rfl)) J (iI J (ae _)))<|qR (bS 0 J aE J J t9 size28.out h6 h7) ?_;refine qE (ap J) ?_;refine aG J (zh (dr (us:=[iV d4.Zh,iV d4.N,.string d4.S]) 2 J aE J h5 agg28.out (fun _ _ _ h=>by rw [show _=_ from h];rfl)) J (iI J (ae _)))<|qR (bS 2 J aE J J t9 size28.out h3 h4) ?_;refine qR (cD 3 J J sj J) ?_;refine qE (kK J xc) ?_;refine qR (cD 11 J J sj J) ?_;exact dK
   intro e6 e7 e8;refine oq (t:=[(43,W b6 b7 b9),(54,W e6 e7 e8),(2,pV B4 0),(4,pV B5 0),(5,W none 0 0),(6,pV d1 0),(9,pV e4 0),(10,pV e5 0),(12,W e1 e2 e3)]) (L':=[bj e6 e7 e8 ([d4,d6,e0]:List WZ),aQ e1 e2 e3 f3.2,aQ A1 n1 c1 a0.Zj,aQ A2 n2 c2 a0.Zi,ah B4 94 (iM a0 A1 n1 c1 A2 n2 c2),ah B5 94 [iV 0,iV 0,iV 0,iV 0,W none 0 0,W none 0 0],bE jJ rb a7 d3,ah d1 211 [.map (some a7)],bj a8 b0 b5 a6.Zj,bj c8 c9 d0 g0,ah e4 94 (iM a6 a8 b0 b5 c8 c9 d0),bj b6 b7 b9 f4,ah e5 22 [W b6 b7 b9]]) ?_ ml (ae _);obtain ⟨k1,h⟩:=ac h;refine uH 12 J O (az 11 0 J J aj J J t9 sw J J k1) J J J ?_;rintro _ _ ⟨i2,i3,i4,rfl,rfl⟩;refine Ar ?_;refine pU 13 J O (ao (us:=[W i2 i3 i4]) (cs':=[W i2 i3 i4]) 12 J J J J size22.out J J J) J J ?_;rintro _ _ rfl;refine mj O<|Y ?_;obtain ⟨rfl,rfl⟩:=YZ (YX h);exact DD ((cS [2,3,4,5,6,7,8,9,10,11,12] 13).trans (fX ((c8,c9,d0),(i2,i3,i4)) J))
  refine Y ?_;obtain ⟨d2,i5,i6,i7,h⟩:=ba h
  refine gR (bS 0 J aE J J t9 size28.out i5 i6)<|gR (dr (us:=[iV d2.Zh,iV d2.N,.string d2.S]) 0 J aE J i7 agg28.out (fun _ _ _ h=>by rw [show _=_ from h];rfl))<|gB (bF zero28.out J) fun i8=>gW (ao (us:=[iV d2.Zh,iV d2.N,.string d2.S]) (cs':=[iV d2.Zh,iV d2.N,.string d2.S]) 0 J J J J size28.out J J J)<|Y ?_
  refine ak (fun s L=> ∃e9 f0 f1,nX N f3 a0 d3 a6 g0 f4 e9 f0 f1=some (je,sr28)/\s=[(2,pV B4 0),(4,pV B5 0),(5,W none 0 0),(6,pV d1 0),(9,pV e4 0),(10,pV e5 0),(12,W e1 e2 e3),(13,pV i8 0)]/\L=[aQ e1 e2 e3 f3.2,aQ A1 n1 c1 a0.Zj,aQ A2 n2 c2 a0.Zi,ah B4 94 (iM a0 A1 n1 c1 A2 n2 c2),ah B5 94 [iV 0,iV 0,iV 0,iV 0,W none 0 0,W none 0 0],bE jJ rb a7 d3,ah d1 211 [.map (some a7)],bj a8 b0 b5 a6.Zj,bj c8 c9 d0 g0,ah e4 94 (iM a6 a8 b0 b5 c8 c9 d0),bj b6 b7 b9 f4,ah e5 22 [W b6 b7 b9],ah i8 28 [iV e9,iV f0,.string f1]]) ?_ ?_
  ·refine Y ?_
   refine JW 6 68 62 h (fun _ j3 h=> ?_) (fun _ j3 h=> ?_) fun l3 h=> ?_
   ·refine Y ?_;refine sv (Ju (a:=d2.N) (z:=false) 6 J FO J J WF (lq WB) zero4.out) J (bW j3 J) J<|Y ?_;obtain rfl:=bJ h;exact bD sA (cS [0,1,2,3,4,5,6,7,8,9,10,11,12] 13)
   ·refine Y ?_;obtain rfl:=bJ h;exact bD sA (cS [0,1,2,3,4,5,6,7,8,9,10,11,12] 13)
   refine Y ?_;refine gH J h ?_ ?_<;>intro h
   ·refine kC<|gE (nH J bld_28_.out)<|gW (ao (us:=[iV 0,iV 0,.string (⟨#[]⟩)]) (cs':=[iV 0,iV 0,.string (⟨#[]⟩)]) 0 J J J J size28.out J J J)<|oS ?_;refine Y ?_;exact ⟨_,_,⟨0,0,⟨#[]⟩,h,J,J⟩,sA,cS [1,2,3,4,5,6,7,8,9,10,11,12,0] 13⟩
   refine Y ?_;exact ⟨_,_,⟨d2.Zh,d2.N,d2.S,h,J,J⟩,sA,cS [1,2,3,4,5,6,7,8,9,10,11,12,0] 13⟩
  rintro _ _ ⟨e9,f0,f1,h,rfl,rfl⟩;refine be O ([aQ e1 e2 e3 f3.2,aQ A1 n1 c1 a0.Zj,aQ A2 n2 c2 a0.Zi,ah B4 94 (iM a0 A1 n1 c1 A2 n2 c2),ah B5 94 [iV 0,iV 0,iV 0,iV 0,W none 0 0,W none 0 0],bE jJ rb a7 d3,ah d1 211 [.map (some a7)],bj a8 b0 b5 a6.Zj,ah e4 94 (iM a6 a8 b0 b5 c8 c9 d0),bj b6 b7 b9 f4,ah e5 22 [W b6 b7 b9],ah i8 28 [iV e9,iV f0,.string f1]]) (cS [0,1,2,3,4,5,6,7,9,10,11,12] 13) ?_;refine zY [0,1,2] ?_;obtain ⟨g1,k2,k3,k4,h⟩:=ba h;refine zY [3,4,5] ?_;obtain ⟨g2,k5,k6,k7,h⟩:=ba h;refine zY [6,7,8,9] ?_;obtain ⟨g3,k8,k9,l0,h⟩:=ba h;refine zY [10,11] ?_
  refine zk 12 J (aw (R:=ay) (vss:=[[iV g1.Zh,iV g1.N,.string g1.S],[iV g2.Zh,iV g2.N,.string g2.S],[iV e9,iV f0,.string f1],[iV g3.Zh,iV g3.N,.string g3.S]]) (xs:=[g1,g2,(⟨e9,f0,f1⟩:WZ),g3]) J (Qb _ _ _ _ _ _ _ _ _ _ _ _) J J (fun _ _ hr=> .cons J (.cons J (.cons J (.cons J All2.nil))))) fun l4 l5 l6=> ?_
  obtain ⟨l1,h⟩:=ac h
  refine zk 13 J (az 9 0 J J aj J J t9 sw J J l1) fun i9 j0 j1=> ?_
  refine zY [14] ?_;refine gI 15 J O O (ao (us:=[W i9 j0 j1]) (cs':=(iM a6 a8 b0 b5 i9 j0 j1)) 10 J J J J size22.out J J J) ?_;rintro _ _ rfl;refine aY O<|Sc ?_;obtain ⟨rfl,rfl⟩:=YZ (YX h);exact DD ((cS [2,3,4,5,6,7,8,9,10,11,12] 14).trans (fX ((i9,j0,j1),(b6,b7,b9)) J))
 ·rintro ⟨⟨c8,c9,d0⟩,⟨b6,b7,b9⟩⟩ h;refine qP ([aQ A1 n1 c1 a0.Zj,aQ A2 n2 c2 a0.Zi,ah B4 94 (iM a0 A1 n1 c1 A2 n2 c2),ah B5 94 [iV 0,iV 0,iV 0,iV 0,W none 0 0,W none 0 0],bE jJ rb a7 d3,ah d1 211 [.map (some a7)],bj a8 b0 b5 a6.Zj,bj c8 c9 d0 f9.2.1,ah e4 94 (iM a6 a8 b0 b5 c8 c9 d0),bj b6 b7 b9 f9.2.2,ah e5 22 [W b6 b7 b9]]) J<|Y ?_;refine aB<|be O ([aQ A1 n1 c1 a0.Zj,aQ A2 n2 c2 a0.Zi,ah B4 94 (iM a0 A1 n1 c1 A2 n2 c2),bE jJ rb a7 d3,ah d1 211 [.map (some a7)],bj a8 b0 b5 a6.Zj,bj c8 c9 d0 f9.2.1,ah e4 94 (iM a6 a8 b0 b5 c8 c9 d0),bj b6 b7 b9 f9.2.2,ah e5 22 [W b6 b7 b9]]) (cS [0,1,2,4,5,6,7,8,9,10] 11) ?_;refine zY [0,1] ?_;refine zO 2 J (ao (us:=(iM a6 a8 b0 b5 c8 c9 d0)) (cs':=(iM a6 a8 b0 b5 c8 c9 d0)) 3 J J J J size94.out J J J) ?_;rintro _ _ rfl;refine bL ?_;refine zX [3] ?_;refine Y ?_;obtain rfl:=bJ h;exact kL (rs:=[.cell 4 94,.tmp 5]) (vs:=[.agg #[iV a6.Zh,iV a6.Zq,iV a6.Zm,iV a6.Zn,W a8 b0 b5,W c8 c9 d0],W b6 b7 b9]) J (.cons (dy 3 J J agg94.out) (.cons (dR J) .nil)) J (cS [6,7,9] 11) ⟨_,_,_,_,_,_,_,_,_,J,J⟩
 ·rintro ⟨⟨c8,c9,d0⟩,⟨b6,b7,b9⟩⟩ h;exact aL h
 rintro i ⟨⟨c8,c9,d0⟩,⟨b6,b7,b9⟩⟩ h;exact aL h
def yH (N:Nat)(p4:W8):Option W8:=
 some p4
def pa (N:Nat)(a7:W8->Int->Option W8)(a0:W8)(p7:Int)(a1:(List (Int×Int)))(p6:W8)(a6:WZ)(p13:Int):Option W8:=
 aI (bm (p6.length+([(⟨a6.Zh,p13,a6.S⟩:WZ)]:List WZ).length)) (aI (in64 (p7+1)) (a7 (p6++([(⟨a6.Zh,p13,a6.S⟩:WZ)]:List WZ)) (p7+1)))
def gZ (N:Nat)(a0:W8)(a1:(List (Int×Int))):Nat->W8->Int->Option W8
 |0,_,_=>none
 |m5+1,p6,p7=>bif decide (p7<(a0.length:Int)) then ((aq a0 p7).bind fun a6=>(bif (lk a1 a6.N).isSome then ((bif decide (a6.Zh=7) then (some true) else (some (decide (a6.Zh=9)))).bind fun a7=>some a7) else (some false)).bind fun a8=>bif a8 then (pa N (gZ N a0 a1 m5) a0 p7 a1 p6 a6 ((lk a1 a6.N).getD 0)) else (pa N (gZ N a0 a1 m5) a0 p7 a1 p6 a6 a6.N)) else (yH N p6)
def eo (a0:W8)(a1:(List (Int×Int))):Option W8:=
 gZ N a0 a1 N [] 0
theorem qA {N:Nat}{a0:W8}{a1:(List (Int×Int))}{r:W8}(h:eo N a0 a1=some r):Okc Xk 128 [W A1 n1 c1,.map (some M2)] ([aQ A1 n1 c1 a0,qU jJ wx M2 a1]) (fun u post=> ∃A0 n0 c0,u=W A0 n0 c0/\post=[bj A0 n0 c0 r]):=by
 refine Ca Tryz.func128 J J ?_;simp only [qI];refine Y ?_;refine ak (fun s L=> ∃p4 A4 n4 c4,yH N p4=some r/\s=[(4,W none 0 0),(5,W A4 n4 c4)]/\L=[bj A4 n4 c4 p4]) ?_ ?_
 ·refine Y ?_;refine gR (jO 0 J aE J t9)<|Y ?_;refine im (fun m s L=> ∃p6 p7 A6 n6 c6,gZ N a0 a1 m p6 p7=some r/\s=[(1,.map (some M2)),(4,W none 0 0),(5,W A6 n6 c6),(10,W A1 n1 c1),(11,iV (a0.length:Int)),(12,iV p7)]/\L=[qU jJ wx M2 a1,bj A6 n6 c6 p6,aQ A1 n1 c1 a0]) N _ _ ⟨[],0,none,0,0,h,J,J⟩ sA ((bT ay 28 _).trans (cS [2,0,1] 3)) ?_;rintro (_|m5) _ _ ⟨p6,p7,A6,n6,c6,h,rfl,rfl⟩
  ·exact aL h
  rw [gZ.eq_2] at h;refine Y ?_;refine aB<|gH J h (fun h=> ?_) (fun h=> ?_)
  ·refine Y ?_;refine aB<|Y ?_;obtain ⟨a6,a7,a8,b0,h⟩:=ba h
   refine gR (bS 2 J aE J J t9 size28.out a7 a8)<|gR (dr (us:=[iV a6.Zh,iV a6.N,.string a6.S]) 2 J aE J b0 agg28.out (fun _ _ _ h=>by rw [show _=_ from h];rfl))<|gB (bF zero28.out J) fun b5=>gW (ao (us:=[iV a6.Zh,iV a6.N,.string a6.S]) (cs':=[iV a6.Zh,iV a6.N,.string a6.S]) 0 J J J J size28.out J J J)<|Y ?_
   refine ak (fun s L=> ∃p13,pa N (gZ N a0 a1 m5) a0 p7 a1 p6 a6 p13=some r/\s=[(1,.map (some M2)),(4,W none 0 0),(5,W A6 n6 c6),(7,pV b5 0),(10,W A1 n1 c1),(11,iV (a0.length:Int)),(12,iV p7)]/\L=[qU jJ wx M2 a1,bj A6 n6 c6 p6,aQ A1 n1 c1 a0,ah b5 28 [iV a6.Zh,iV p13,.string a6.S]]) ?_ ?_
   ·refine Y ?_;refine gR (BJ (a:=a6.N) (z:=0) 1 J Tl J J Tryz.underlying182 (lq WB) zero3.out)<|Y ?_
    refine JW 9 33 24 h (fun _ b7 h=> ?_) (fun _ b7 h=> ?_) fun d2 h=> ?_
    ·refine Y ?_
     refine JW 4 32 28 h (fun _ b9 h=> ?_) (fun _ b9 h=> ?_) fun d3 h=> ?_
     ·refine Y ?_;obtain rfl:=bJ h;exact bD sA (cS [0,1,2,3] 4)
     ·refine Y ?_;obtain rfl:=bJ h;exact bD sA (cS [0,1,2,3] 4)
     refine Y ?_;obtain rfl:=bJ h;exact bD sA (cS [0,1,2,3] 4)
    ·refine Y ?_;obtain rfl:=bJ h;exact bD sA (cS [0,1,2,3] 4)
    refine Y ?_;refine gH J h ?_ ?_<;>intro h
    ·refine Y ?_;refine gW (ao (us:=[iV ((lk a1 a6.N).getD 0)]) (cs':=[iV a6.Zh,iV ((lk a1 a6.N).getD 0),.string a6.S]) 0 J J J J size3.out J J J)<|Y ?_;exact ⟨_,_,⟨(lk a1 a6.N).getD 0,h,J,J⟩,sA,cS [1,2,3,0] 4⟩
    refine Y ?_;exact ⟨_,_,⟨a6.N,h,J,J⟩,sA,cS [1,2,3,0] 4⟩
   rintro _ _ ⟨p13,h,rfl,rfl⟩;refine Y ?_;refine gR (aD (us:=[iV a6.Zh,iV p13,.string a6.S]) 3 J J agg28.out J)<|gD (aw (R:=ay) (vss:=[[iV a6.Zh,iV p13,.string a6.S]]) (xs:=[(⟨a6.Zh,p13,a6.S⟩:WZ)]) J (jy _ _ _) J J (fun _ _ hr=> .cons J All2.nil)) ?_;rintro _ _ ⟨d4,d6,e0,rfl,rfl⟩;obtain ⟨c8,h⟩:=ac h;refine gD (az 2 0 J J aj J J t9 sw J J c8) ?_;rintro _ _ ⟨c9,d0,d1,rfl,rfl⟩;refine oS ?_;refine Y ?_;obtain ⟨b6,h⟩:=ac h;refine gE (iO J J b6.1 b6.2)<|Y ?_;exact ⟨m5,_,_,Xb _,⟨p6++([(⟨a6.Zh,p13,a6.S⟩:WZ)]:List WZ),p7+1,c9,d0,d1,h,J,J⟩,sA,cS [1,2,3] 5⟩
  refine Y ?_;exact ⟨_,_,⟨p6,A6,n6,c6,h,J,J⟩,sA,cS [1] 3⟩
 rintro _ _ ⟨p4,A4,n4,c4,h,rfl,rfl⟩;refine Y ?_;obtain rfl:=bJ h;exact nI J J (cS [0] 1) ⟨_,_,_,J,J⟩
end
section
variable {A1 A2 A3 A4 A5 A6 A7:Option Addr}{B1 B2 B3 B6 B8 M2 M7 M9 c1 c2 c3 c4 c5 c6 c7 n1 n2 n3 n4 n5 n6 n7:Nat}
open Go.RowKit Asn
set_option maxRecDepth 20000
def kr (a1:W8)(a0:WY)(a6:Xg)(d1:Xf)(a7:(Option Exit×(List (Int×Int))))(c8:W8)(a8 b0 b5 b6:Int)(c9 d0:W8):Option (Option Exit×Xg×W8):=
 (eo N c9 a7.2).bind fun b7=>(eo N d0 a7.2).bind fun b9=>aI (bm (a6.length+([(⟨a8,b0,b5,b6,b7,b9⟩:W3)]:List W3).length)) (some (none,(a6++([(⟨a8,b0,b5,b6,b7,b9⟩:W3)]:List W3),c8)))
def mX (a1:W8)(a0:WY)(b0:Xf)(b6:(Option Exit×(List (Int×Int))))(b9:Int×Int):(Xg×W8)->Option (Option Exit×(Xg×W8))
 |(b7,b5)=>(lV N a0 b9.2).bind fun a6=>bif decide (a6.Zh=8) then ((pY N a6 b0).bind fun a8=>kr N a1 a0 b7 b0 b6 b5 a8.Zh a8.Zq a8.Zm a8.Zn a8.Zj a8.Zi) else (bif decide (a6.Zh=10) then ((nG N a6 b0).bind fun a7=>aI (bm (b5.length+a7.2.length)) (kr N a1 a0 b7 b0 b6 (b5++a7.2) a7.1.Zh a7.1.Zq a7.1.Zm a7.1.Zn a7.1.Zj a7.1.Zi)) else (kr N a1 a0 b7 b0 b6 b5 a6.Zh a6.Zq a6.Zm a6.Zn a6.Zj a6.Zi))
def mY (N:Nat)(a1:W8)(a0:WY)(a7:Xf)(a6:Int×Int):((List (Int×Int)))->Option (Option Exit×(List (Int×Int)))
 |p21=>aI (in64 (2*a6.1)) (aI (in64 ((2*a6.1)+2)) (some (none,Bq p21 a6.2 ((2*a6.1)+2))))
def pe (a0:WY)(a1:W8):Option (WY×W8×W8×Int):=
 (mI N a0 a1).bind fun y7=>bif !decide (y7=0) then (some ((⟨[],[]⟩:WY),[],[],y7)) else ((nN N a0 a1).bind fun a6=>(mH N a6).bind fun b6=>(gp N a6 (cM (fun x st=>mY N a1 a0 a6 x st)) (none,([]:(List (Int×Int))))).bind fun a7=>rc a7.1 ((mH N a6).bind fun b7=>(gp N a6 (cM (fun x st=>mX N a1 a0 a6 a7 x st)) (none,([],[]))).bind fun a8=>rc a8.1 ((eo N a1 a7.2).bind fun b0=>(eo N a8.2.2 a7.2).bind fun b5=>some ((⟨[],a8.2.1⟩:WY),b0,b5,0)) none (fun _=>none)) none (fun _=>none))
def kU (a1:W8)(a0:WY)(a6:Xg)(d1:Xf)(a7:(Option Exit×(List (Int×Int))))(c8:W8)(a8 b0 b5 b6:Int)(c9 d0:W8):Option (Option Exit×Xg×W8):=
 (eo N c9 a7.2).bind fun b7=>(eo N d0 a7.2).bind fun b9=>aI (bm (a6.length+([(⟨a8,b0,b5,b6,b7,b9⟩:W3)]:List W3).length)) (some (none,(a6++([(⟨a8,b0,b5,b6,b7,b9⟩:W3)]:List W3),c8)))
def kV (a1:W8)(a0:WY)(b0:Xf)(b6:(Option Exit×(List (Int×Int))))(b9:Int×Int):(Xg×W8)->Option (Option Exit×(Xg×W8))
 |(b7,b5)=>(lV N a0 b9.2).bind fun a6=>bif decide (a6.Zh=8) then ((pY N a6 b0).bind fun a8=>kU N a1 a0 b7 b0 b6 b5 a8.Zh a8.Zq a8.Zm a8.Zn a8.Zj a8.Zi) else (bif decide (a6.Zh=10) then ((nG N a6 b0).bind fun a7=>aI (bm (b5.length+a7.2.length)) (kU N a1 a0 b7 b0 b6 (b5++a7.2) a7.1.Zh a7.1.Zq a7.1.Zm a7.1.Zn a7.1.Zj a7.1.Zi)) else (kU N a1 a0 b7 b0 b6 b5 a6.Zh a6.Zq a6.Zm a6.Zn a6.Zj a6.Zi))
def kW (N:Nat)(a1:W8)(a0:WY)(a7:Xf)(a6:Int×Int):((List (Int×Int)))->Option (Option Exit×(List (Int×Int)))
 |p21=>aI (in64 (2*a6.1)) (aI (in64 ((2*a6.1)+2)) (some (none,Bq p21 a6.2 ((2*a6.1)+2))))
def du (a0:WY)(a1:W8):Option ((WY×W8×W8×Int) ⊕ (WY×W8×W8)):=
 (mI N a0 a1).bind fun y7=>bif !decide (y7=0) then (some (.inl ((⟨[],[]⟩:WY),[],[],y7))) else ((nN N a0 a1).bind fun a6=>(mH N a6).bind fun b6=>(gp N a6 (cM (fun x st=>kW N a1 a0 a6 x st)) (none,([]:(List (Int×Int))))).bind fun a7=>rc a7.1 ((mH N a6).bind fun b7=>(gp N a6 (cM (fun x st=>kV N a1 a0 a6 a7 x st)) (none,([],[]))).bind fun a8=>rc a8.1 ((eo N a1 a7.2).bind fun b0=>(eo N a8.2.2 a7.2).bind fun b5=>some (.inr ((⟨[],a8.2.1⟩:WY),b0,b5))) none (fun _=>none)) none (fun _=>none))
theorem uw {N:Nat}{a0:WY}{r:((WY×W8×W8×Int) ⊕ (WY×W8×W8))}(h:du N a0 a1=some r):Okc Xk 82 [.agg #[W A1 n1 c1,W A2 n2 c2],W A3 n3 c3] ([aQ A3 n3 c3 a1,iF A1 n1 c1 a0.Zp,iF A2 n2 c2 a0.Zr]) (fun u post=>ST (fun (r:WY×W8×W8×Int)=> ∃c8 c9 d0 d1 d2 d3 d4 d6 e0 e1 e2 e3,u=.tuple #[.agg #[W c8 c9 d0,W d1 d2 d3],W d4 d6 e0,W e1 e2 e3,iV r.2.2.2]/\post=[iF c8 c9 d0 r.1.Zp,iF d1 d2 d3 r.1.Zr,bj d4 d6 e0 r.2.1,bj e1 e2 e3 r.2.2.1,iF A1 n1 c1 a0.Zp,iF A2 n2 c2 a0.Zr]) (fun (r:WY×W8×W8)=> ∃c8 c9 d0 d1 d2 d3 d4 d6 e0 e1 e2 e3,u=.tuple #[.agg #[W c8 c9 d0,W d1 d2 d3],W d4 d6 e0,W e1 e2 e3,iV 0]/\post=[iF c8 c9 d0 r.1.Zp,iF d1 d2 d3 r.1.Zr,bj d4 d6 e0 r.2.1,bj e1 e2 e3 r.2.2,iF A1 n1 c1 a0.Zp,iF A2 n2 c2 a0.Zr]) r):=by
 refine ce Tryz.func82 ?_;intro B4
 refine cl fun B5=> ?_
 intro B6;refine sY ?_
 refine cR h (fun _ k=>FP k) fun y7 h=> ?_
 refine gH J h ?_ ?_<;>intro h
 ·refine ab ?_;obtain rfl:=bJ h;exact kL (rs:=[.cell 4 121,.tmp 5,.cell 6 22,.tmp 7]) (vs:=[.agg #[W none 0 0,W none 0 0],W none 0 0,W none 0 0,iV y7]) J (.cons (dy 1 J J agg121.out) (.cons (dR J) (.cons (Io 0 J J sj) (.cons (dR J) .nil)))) J ((bT jP 94 _).trans ((bT jP 94 _).trans ((bT ay 28 _).trans ((bT ay 28 _).trans (cS [3,2,1,0,8,9] 10))))) ⟨_,_,_,_,_,_,_,_,_,_,_,_,J,J⟩
 refine LD h (fun _ k=>GJ k) fun b5 a6 a7 a8 h=> ?_
 intro e7;refine ab ?_;refine gD (wV (ek:=jJ) (ev:=wx)) ?_;rintro _ _ ⟨b0,rfl,rfl⟩
 refine cl fun e8=> ?_
 refine sZ ?_;obtain ⟨k4,k,h⟩:=aa h;refine gD (oR (yG k)) ?_;rintro _ _ ⟨_,⟨i7,rfl,rfl⟩,rfl⟩;refine ab ?_;refine gw ?_ bK (lr 0 J);refine gw ?_ bK (bn 4 J);refine ab ?_;obtain ⟨f3,k,h⟩:=aa h;refine uI (en:=(fun x=> [iV x.1,iV x.2])) (fun x st=>kW N a1 a0 b5 x st) (fun (st:(List (Int×Int))) (mz:Unit)=> [aQ A3 n3 c3 a1,iF A1 n1 c1 a0.Zp,iF A2 n2 c2 a0.Zr,ah B4 121 [W A1 n1 c1,W A2 n2 c2],ah B5 121 [W none 0 0,W none 0 0],ah B6 22 [W none 0 0],xQ a6 a7 a8 b5,ah e7 144 [W a6 a7 a8],bE jJ wx b0 st,ah e8 182 [.map (some b0)]]) [aW i7 144 [W a6 a7 a8],xQ a6 a7 a8 b5] (([]:(List (Int×Int)))) (()) J J call163.out J (fun _=>J) (fun l G hY=>(ve k hY).mono fun _ _ hh=>hh.2) (bI [0,4] [] [8,9,10,7,6,5,4,3,2,1] 11 J) h ?_ ?_ ?_ ?_
 ·rintro l h7 p21 je sr20 _ h;replace h:kW N a1 a0 b5 h7 p21=some (je,sr20):=h;simp only [Bd,YF,YG,YH,Yz,YA,Zf,XE];refine ab ?_;obtain ⟨i5,h⟩:=ac h;refine gE (rD J J i5.1 i5.2) ?_;obtain ⟨k5,h⟩:=ac h;refine ab ?_;refine GB (nS (a:=h7.2) (b:=(2*h7.1)+2) 8 J J J J Tryz.underlying182 (lq WB)) ?_;obtain ⟨rfl,rfl⟩:=YZ (YX h);exact DD ((cS [0,1,2,3,4,5,6,7,8,9] 10).trans (fX () J))
 ·rintro _ h;refine qP ([aQ A3 n3 c3 a1,iF A1 n1 c1 a0.Zp,iF A2 n2 c2 a0.Zr,ah B4 121 [W A1 n1 c1,W A2 n2 c2],ah B5 121 [W none 0 0,W none 0 0],ah B6 22 [W none 0 0],xQ a6 a7 a8 b5,ah e7 144 [W a6 a7 a8],bE jJ wx b0 f3.2,ah e8 182 [.map (some b0)]]) J<|sY ?_;obtain ⟨k6,k,h⟩:=aa h;refine gD (oR (yG k)) ?_;rintro _ _ ⟨_,⟨i8,rfl,rfl⟩,rfl⟩;refine ab ?_;refine gw ?_ bK (lr 0 J);obtain ⟨i6,k,h⟩:=aa h;refine uI (en:=(fun x=> [iV x.1,iV x.2])) (fun x st=>kV N a1 a0 b5 f3 x st) (fun (st:Xg×W8) (mz:((Option Addr×Nat×Nat)×(Option Addr×Nat×Nat)))=> [aQ A3 n3 c3 a1,iF A1 n1 c1 a0.Zp,iF A2 n2 c2 a0.Zr,ah B4 121 [W A1 n1 c1,W A2 n2 c2],bf jP 94 (.slice mz.1.1 mz.1.2.1 mz.1.2.2) st.1,ah B5 121 [W none 0 0,.slice mz.1.1 mz.1.2.1 mz.1.2.2],bf ay 28 (.slice mz.2.1 mz.2.2.1 mz.2.2.2) st.2,ah B6 22 [.slice mz.2.1 mz.2.2.1 mz.2.2.2],xQ a6 a7 a8 b5,ah e7 144 [W a6 a7 a8],bE jJ wx b0 f3.2,ah e8 182 [.map (some b0)]]) [aW i8 144 [W a6 a7 a8],xQ a6 a7 a8 b5] (([],[])) (((none,0,0),(none,0,0))) J J call163.out J (fun _=>J) (fun l G hY=>(ve k hY).mono fun _ _ hh=>hh.2) ((bT jP 94 _).trans ((bT ay 28 _).trans (bI [2,9] [] [3,4,5,6,1,7,0,8,9,10,11,12] 13 J))) h ?_ ?_ ?_ ?_
  ·rintro l i9 ⟨h3,j0⟩ je sr27 ⟨⟨b6,b7,b9⟩,⟨h0,h1,h2⟩⟩ h;replace h:kV N a1 a0 b5 f3 i9 (h3,j0)=some (je,sr27):=h;simp only [Bd,YF,YG,YH,Yz,YA,Zf,XE]
   refine G0 h (fun _ k=>ym k) fun k7 k8 k9 l0 l1 l2 l3 h=> ?_
   intro e9;refine ab ?_;refine ak (fun s L=> ∃h4 f4 f6 f9 g0 h5 h6 g4 g5 g6 g7 g8 g9 g1 g2 g3,kU N a1 a0 h3 b5 f3 h4 f4 f6 f9 g0 h5 h6=some (je,sr27)/\s=[(1,W A3 n3 c3),(2,pV B4 0),(4,pV B5 0),(5,W none 0 0),(6,pV B6 0),(7,iV 0),(9,pV e7 0),(10,pV e8 0),(15,pV e9 0)]/\L=[aQ A3 n3 c3 a1,iF A1 n1 c1 a0.Zp,iF A2 n2 c2 a0.Zr,ah B4 121 [W A1 n1 c1,W A2 n2 c2],iF b6 b7 b9 h3,ah B5 121 [W none 0 0,W b6 b7 b9],bj g4 g5 g6 h4,ah B6 22 [W g4 g5 g6],xQ a6 a7 a8 b5,ah e7 144 [W a6 a7 a8],bE jJ wx b0 f3.2,ah e8 182 [.map (some b0)],bj g7 g8 g9 h5,bj g1 g2 g3 h6,ah e9 94 [iV f4,iV f6,iV f9,iV g0,W g7 g8 g9,W g1 g2 g3]]) ?_ ?_
   ·refine dk h ?_ ?_<;>intro h
    ·refine G0 h (fun _ k=>GE k) fun l4 l5 l6 l7 l8 l9 m0 h=> ?_
     exact jN
    refine dk h ?_ ?_<;>intro h
    ·refine ab ?_;obtain ⟨m1,k,h⟩:=aa h
     refine Wp (oR (Ek k)) fun m2 m3 m4 m5 m6 m7 m8 m9 n0=> ?_
     obtain ⟨j1,h⟩:=ac h
     refine sI (az 12 2 J J aj J J t9 sw J J j1) fun n8 n9 o0=> ?_
     exact jN
    exact jY
   refine fun s L=>aJ fun h4=>aJ fun f4=>aJ fun f6=>aJ fun f9=>aJ fun g0=>aJ fun h5=>aJ fun h6=>aJ fun g4=>aJ fun g5=>aJ fun g6=>aJ fun g7=>aJ fun g8=>aJ fun g9=>aJ fun g1=>aJ fun g2=>aJ fun g3=>J6 fun h=>aB ?_
   obtain ⟨h8,h9,h⟩:=aa h;obtain ⟨i0,i1,h⟩:=aa h;refine gw (t:=[(1,W A3 n3 c3),(2,pV B4 0),(4,pV B5 0),(5,W none 0 0),(6,pV B6 0),(7,iV 0),(9,pV e7 0),(10,pV e8 0),(15,pV e9 0)]) ?_ ml (ae _)
   refine iR O 9 [] [3,7,8] [62,63,64,65,66,67,68,69,70] [[],[0],[],[1,2],[],[4],[],[5,6],[]] [aV (pV e9 4),
aV (W g7 g8 g9),
aV (.map (some b0)),
aX3 (fun (e4:Option Addr) (e5 e6:Nat)=> W e4 e5 e6) (fun e4 e5 e6=> [bj e4 e5 e6 h8]),
aV (pV e9 5),
aV (W g1 g2 g3),
aV (.map (some b0)),
aX3 (fun (f0:Option Addr) (f1 f2:Nat)=> W f0 f1 f2) (fun f0 f1 f2=> [bj f0 f1 f2 i0]),
aV (pV e9 4)] [] (ae _) (me) O rfl rfl ?_ ?_ ?_
   ·exact md
   ·refine qE (kK J IP) ?_;refine aG J ?_ ?_
    ·refine tH (oR (qA i1)) J ?_;rintro _ _ ⟨_,⟨j2,j3,j4,rfl,rfl⟩,rfl⟩;exact Oh j2 j3 j4 (ae _)
    refine qR (cD 11 J J K5 J) ?_;refine qR (cD 14 J J sj J) ?_;refine qE (kK J xc) ?_;refine aG J ?_ ?_
    ·refine tH (oR (qA h9)) J ?_;rintro _ _ ⟨_,⟨j5,j6,j7,rfl,rfl⟩,rfl⟩;exact Oh j5 j6 j7 (ae _)
    refine qR (cD 11 J J K5 J) ?_;refine qR (cD 14 J J sj J) ?_;refine qE (kK J IP) ?_;exact dK
   intro e4 e5 e6 f0 f1 f2;refine oq (t:=[(65,W e4 e5 e6),(69,W f0 f1 f2),(70,pV e9 4),(1,W A3 n3 c3),(2,pV B4 0),(4,pV B5 0),(5,W none 0 0),(6,pV B6 0),(7,iV 0),(9,pV e7 0),(10,pV e8 0),(15,pV e9 0)]) (L':=[bj e4 e5 e6 h8,bj f0 f1 f2 i0,aQ A3 n3 c3 a1,iF A1 n1 c1 a0.Zp,iF A2 n2 c2 a0.Zr,ah B4 121 [W A1 n1 c1,W A2 n2 c2],iF b6 b7 b9 h3,ah B5 121 [W none 0 0,W b6 b7 b9],bj g4 g5 g6 h4,ah B6 22 [W g4 g5 g6],xQ a6 a7 a8 b5,ah e7 144 [W a6 a7 a8],bE jJ wx b0 f3.2,ah e8 182 [.map (some b0)],bj g7 g8 g9 h5,bj g1 g2 g3 h6,ah e9 94 [iV f4,iV f6,iV f9,iV g0,W g7 g8 g9,W g1 g2 g3]]) ?_ ml (ae _);refine pU 9 J O (ao (us:=[W e4 e5 e6]) (cs':=[iV f4,iV f6,iV f9,iV g0,W e4 e5 e6,W g1 g2 g3]) 16 J J J J size22.out J J J) J J ?_;rintro _ _ rfl;refine CS 10 J O (kK J xc) J J J<|pU 11 J O (ao (us:=[W f0 f1 f2]) (cs':=[iV f4,iV f6,iV f9,iV g0,W e4 e5 e6,W f0 f1 f2]) 16 J J J J size22.out J J J) J J ?_;rintro _ _ rfl;refine Ar ?_;refine mj O<|ab ?_
   refine mP (bn 0 J)<|mP (bn 1 J)<|gD (aw (R:=jP) (vss:=[[iV f4,iV f6,iV f9,iV g0,W e4 e5 e6,W f0 f1 f2]]) (xs:=[(⟨f4,f6,f9,g0,h8,i0⟩:W3)]) J (HZ _ _ _ _ _ _ _ _ _ _) J J (fun _ _ hr=> .cons (⟨_,_,_,_,_,_,J,hr 0 _ J J,hr 1 _ J J⟩) All2.nil)) ?_;rintro _ _ ⟨o1,o2,p1,rfl,rfl⟩;obtain ⟨j8,h⟩:=ac h
   refine sI (az 7 0 J J aj J J Ww Ud J J j8) fun A64 j9 k0=> ?_
   obtain ⟨rfl,rfl⟩:=YZ (YX h);exact DD ((cS [3,4,5,6,7,8,9,10,11,12,13,14] 18).trans (fX ((A64,j9,k0),(g4,g5,g6)) J))
  ·rintro ⟨⟨b6,b7,b9⟩,⟨h0,h1,h2⟩⟩ h;refine qP ([aQ A3 n3 c3 a1,iF A1 n1 c1 a0.Zp,iF A2 n2 c2 a0.Zr,ah B4 121 [W A1 n1 c1,W A2 n2 c2],iF b6 b7 b9 i6.2.1,ah B5 121 [W none 0 0,W b6 b7 b9],bj h0 h1 h2 i6.2.2,ah B6 22 [W h0 h1 h2],xQ a6 a7 a8 b5,ah e7 144 [W a6 a7 a8],bE jJ wx b0 f3.2,ah e8 182 [.map (some b0)]]) J<|ab ?_;refine dY [0,1,2,4,5] ?_;obtain ⟨p2,k,h⟩:=aa h
   refine zk 3 J (oR (qA k)) fun k1 k2 k3=> ?_
   obtain ⟨p3,k,h⟩:=aa h
   refine zk 6 J (oR (qA k)) fun i2 i3 i4=> ?_
   refine zO 7 J (ao (us:=[W none 0 0,W b6 b7 b9]) (cs':=[W none 0 0,W b6 b7 b9]) 7 J J J J size121.out J J J) ?_;rintro _ _ rfl;refine bL ?_;refine zY [8] ?_;refine gI 9 J O O (ao (us:=[W i2 i3 i4]) (cs':=[W i2 i3 i4]) 9 J J J J size22.out J J J) ?_;rintro _ _ rfl;refine zX [10] ?_;refine ab ?_;obtain rfl:=bJ h;exact kL (rs:=[.cell 4 121,.tmp 5,.cell 6 22,.tmp 7]) (vs:=[.agg #[W none 0 0,W b6 b7 b9],W k1 k2 k3,W i2 i3 i4,iV 0]) J (.cons (dy 7 J J agg121.out) (.cons (dR J) (.cons (Io 9 J J sj) (.cons (dR J) .nil)))) J ((bT jP 94 _).trans (cS [0,7,2,1,4,5] 15)) ⟨_,_,_,_,_,_,_,_,_,_,_,_,J,J⟩
  ·rintro ⟨⟨b6,b7,b9⟩,⟨h0,h1,h2⟩⟩ h;exact aL h
  rintro i ⟨⟨b6,b7,b9⟩,⟨h0,h1,h2⟩⟩ h;exact aL h
 ·rintro _ h;exact aL h
 rintro i _ h;exact aL h
def nD (a0:W8)(a1:W4):Option ((WY×W8×W8×Int) ⊕ (WY×W8×W8)):=
 (du N a1.m_ a0).bind fun a6=>Er a6 (fun y11_0=>some (.inl (y11_0.1,y11_0.2.1,y11_0.2.2.1,y11_0.2.2.2))) (fun y11_1=>some (.inr (y11_1.1,y11_1.2.1,y11_1.2.2)))
theorem cJ {N:Nat}{a0:W8}{a1:W4}{r:((WY×W8×W8×Int) ⊕ (WY×W8×W8))}(h:nD N a0 a1=some r):Okc Xk 81 [W A1 n1 c1,pV B2 0] ([aQ A1 n1 c1 a0,aW B2 76 [pV B3 0],ah B3 124 [W A4 n4 c4,W A5 n5 c5,W A6 n6 c6,W A7 n7 c7,pV B8 0],iF A4 n4 c4 a1.m_.Zp,iF A5 n5 c5 a1.m_.Zr,bj A6 n6 c6 a1.ZA,bj A7 n7 c7 a1.ZC,ah B8 213 [.map (some M9)],bE jJ rb M9 a1.ZD.at_]) (fun u post=>ST (fun (r:WY×W8×W8×Int)=> ∃a6 a7 a8 b0 b5 b6 b7 b9 c8 c9 d0 d1,u=.tuple #[.agg #[W a6 a7 a8,W b0 b5 b6],W b7 b9 c8,W c9 d0 d1,iV r.2.2.2]/\post=[iF a6 a7 a8 r.1.Zp,iF b0 b5 b6 r.1.Zr,bj b7 b9 c8 r.2.1,bj c9 d0 d1 r.2.2.1,iF A4 n4 c4 a1.m_.Zp,iF A5 n5 c5 a1.m_.Zr,bj A6 n6 c6 a1.ZA,bj A7 n7 c7 a1.ZC,ah B3 124 [W A4 n4 c4,W A5 n5 c5,W A6 n6 c6,W A7 n7 c7,pV B8 0],ah B8 213 [.map (some M9)],bE jJ rb M9 a1.ZD.at_]) (fun (r:WY×W8×W8)=> ∃a6 a7 a8 b0 b5 b6 b7 b9 c8 c9 d0 d1,u=.tuple #[.agg #[W a6 a7 a8,W b0 b5 b6],W b7 b9 c8,W c9 d0 d1,iV 0]/\post=[iF a6 a7 a8 r.1.Zp,iF b0 b5 b6 r.1.Zr,bj b7 b9 c8 r.2.1,bj c9 d0 d1 r.2.2,iF A4 n4 c4 a1.m_.Zp,iF A5 n5 c5 a1.m_.Zr,bj A6 n6 c6 a1.ZA,bj A7 n7 c7 a1.ZC,ah B3 124 [W A4 n4 c4,W A5 n5 c5,W A6 n6 c6,W A7 n7 c7,pV B8 0],ah B8 213 [.map (some M9)],bE jJ rb M9 a1.ZD.at_]) r):=by
 refine ce Tryz.func81 ?_;intro d4;refine ab ?_;obtain ⟨d3,d2,h⟩:=aa h;rcases d3 with y11_0|y11_1
 ·replace h:=G9 h
  refine UE (oC (uw d2)) fun d6 e0 e1 e2 e3 e4 e5 e6 e7 e8 e9 f0=> ?_
  exact eN
 replace h:=G8 h
 refine UE (oC (uw d2)) fun f1 f2 f3 f4 f6 f9 g0 g1 g2 g3 g4 g5=> ?_
 exact eN
def iK (N:Nat)(p3:W8):Option W8:=
 some p3
def mK (a1:Int):Option W8:=
 bif decide (a1<0) then none else (aI (in64 (0 - 0)) (aI (in64 (a1 - (0 - 0))) (bif decide (0<a1 - (0 - 0)) then (aI ((0:Int)<(a1 - (0 - 0))/\(a1 - (0 - 0))<=1099511627776) (iK N ([]:List WZ))) else (iK N []))))
theorem wB {N:Nat}{a1:Int}{r:W8}(h:mK N a1=some r):Okc Xk 154 [W none 0 0,iV a1] ([]) (fun u post=> ∃A0 n0 c0,u=W A0 n0 c0/\post=[bj A0 n0 c0 r]):=by
 refine ce Tryz.func154 ?_;refine sZ ?_;refine gH J h ?_ ?_<;>intro h
 ·exact aL h
 refine ab ?_;refine ak (fun s L=> ∃p3 A3 n3 c3,iK N p3=some r/\s=[(0,W A3 n3 c3),(4,W none 0 0)]/\L=[bj A3 n3 c3 p3]) ?_ ?_
 ·refine ab ?_;refine fS (MH J t9) ?_;refine gE (Gj J t9) ?_;obtain ⟨q4,h⟩:=ac h;refine ab ?_;obtain ⟨q5,h⟩:=ac h;refine dk h ?_ ?_<;>intro h
  ·refine ab ?_;refine gE (MH J t9)<|fS (Oa J t9 size28.out J) ?_;obtain ⟨q7,h⟩:=ac h
   refine sI (K2 J J t9 WB sw J q7.1 q7.2) fun A8 n8 c8=> ?_
   refine gE (Gj J t9)<|sI (Q0 (R:=ay) 0 J J t9 size28.out J J) fun A9 n9 c9=> ?_
   exact jN
  refine ab ?_;exact ⟨_,_,⟨[],none,0,0,h,J,J⟩,sA,(bT ay 28 _).trans (cS [0] 1)⟩
 rintro _ _ ⟨p3,A3,n3,c3,h,rfl,rfl⟩;exact eY
def kZ (N:Nat)(a6:W8):Option W8:=
 some a6
def lO (a0_0 a0_1:W8):Option W8:=
 (mK N ((0+(a0_0.length:Int))+(a0_1.length:Int))).bind fun y9=>aI (bm (y9.length+a0_0.length)) (aI (bm ((y9++a0_0).length+a0_1.length)) (kZ N ((y9++a0_0)++a0_1)))
def d9 (a0_0 a0_1:W8):Option W8:=
 aI (in64 (0+(a0_0.length:Int))) (bif decide (0+(a0_0.length:Int)<0) then none else (aI (in64 ((0+(a0_0.length:Int))+(a0_1.length:Int))) (bif decide ((0+(a0_0.length:Int))+(a0_1.length:Int)<0) then none else (lO N a0_0 a0_1))))
theorem fj {N:Nat}{a0_0 a0_1 r:W8}(h:d9 N a0_0 a0_1=some r):Okc Xk 120 [.slice (some ⟨B1,0,none⟩) 2 2] ([aW B1 22 [W A2 n2 c2,W A3 n3 c3],aQ A2 n2 c2 a0_0,aQ A3 n3 c3 a0_1]) (fun u post=> ∃A0 n0 c0,u=W A0 n0 c0/\post=[bj A0 n0 c0 r]):=by
 refine ce Tryz.func120 ?_;refine ak (fun s L=>lO N a0_0 a0_1=some r/\s=[(0,.slice (some ⟨B1,0,none⟩) 2 2),(2,W none 0 0),(3,iV ((0+(a0_0.length:Int))+(a0_1.length:Int)))]/\L=[aQ A2 n2 c2 a0_0,aQ A3 n3 c3 a0_1,aW B1 22 [W A2 n2 c2,W A3 n3 c3]]) ?_ ?_
 ·refine ab ?_;refine fS (Gj J WH) ?_;refine Kt 3<|Ox<|ab ?_;refine aB<|jE J<|sY ?_;refine fS (Gk J J WH size22.out (by decide) (by decide)) ?_;obtain ⟨q5,h⟩:=ac h;refine dk h ?_ ?_<;>intro h
  ·exact aL h
  refine ab ?_;refine fS (iO J J (by decide) (by decide)) ?_;refine Ox<|ab ?_;refine aB<|jE J<|sY ?_;refine fS (Gk J J WH size22.out (by decide) (by decide)) ?_;obtain ⟨q7,h⟩:=ac h;refine dk h ?_ ?_<;>intro h
  ·exact aL h
  refine ab ?_;refine fS (iO J J (by decide) (by decide)) ?_;refine Ox<|ab ?_;exact aB<|fY J<|jY
 rintro _ _ ⟨h,rfl,rfl⟩
 refine LD h (fun _ k=>wB k) fun y9 b7 b9 c8 h=> ?_
 refine ak (fun s L=> ∃a6 a7 a8 b0,kZ N a6=some r/\s=[(2,W none 0 0),(6,W a7 a8 b0)]/\L=[bj a7 a8 b0 a6]) ?_ ?_
 ·refine ab ?_;refine fS (Gj J WH) ?_;refine Kt 3<|Ox<|ab ?_;refine aB<|jE J<|sY ?_;refine fS (Gk J J WH size22.out (by decide) (by decide)) ?_;obtain ⟨b5,h⟩:=ac h
  refine sI (az 0 1 J J aE J J t9 sw J J b5) fun c9 d0 d1=> ?_
  refine fS (iO J J (by decide) (by decide)) ?_;refine Ox<|ab ?_;refine aB<|jE J<|sY ?_;refine fS (Gk J J WH size22.out (by decide) (by decide)) ?_;obtain ⟨b6,h⟩:=ac h
  refine sI (az 0 2 J J aE J J t9 sw J J b6) fun d2 d3 d4=> ?_
  refine fS (iO J J (by decide) (by decide)) ?_;refine Ox<|ab ?_;exact aB<|fY J<|jY
 rintro _ _ ⟨a6,a7,a8,b0,h,rfl,rfl⟩;exact eY
def py (N:Nat)(a0:W0):Option W0:=
 some (⟨[]⟩:W0)
theorem zV {N:Nat}{a0 r:W0}(h:py N a0=some r):Okc Xk 155 [pV B1 0] ([ah B1 213 [.map (some M2)],bE jJ rb M2 a0.at_]) (fun u post=> ∃M0,u=.tuple #[]/\post=[ah B1 213 [.map (some M0)],bE jJ rb M0 r.at_]):=by
 refine ce Tryz.func155 ?_;refine fS (wr J WA) ?_;refine jE J<|ab ?_;refine GB (O9 1 J J WF) ?_;exact eN
def fG (N:Nat)(a1:WY):Nat->Int->(List (Int×Bool))->Option W0
 |0,_,_=>none
 |m8+1,p9,a6=>bif decide (p9<(a1.Zr.length:Int)) then ((aq a1.Zr p9).bind fun a7=>aI (in64 (2*p9)) (aI (in64 ((2*p9)+2)) ((cP N (⟨a6⟩:W0) ((2*p9)+2) a7).bind fun a8=>aI (in64 (p9+1)) ((fG N a1 m8) (p9+1) a8.2.at_)))) else (some (⟨a6⟩:W0))
def eK (a0:W0)(a1:WY):Option W0:=
 (py N a0).bind fun y6=>fG N a1 N 0 y6.at_
theorem zU {N:Nat}{a0:W0}{a1:WY}{r:W0}(h:eK N a0 a1=some r):Okc Xk 121 [pV B1 0,.agg #[W A3 n3 c3,W A4 n4 c4]] ([iE A3 n3 c3 a1.Zp,iE A4 n4 c4 a1.Zr,ah B1 213 [.map (some M2)],bE jJ rb M2 a0.at_]) (fun u post=> ∃M0,u=.tuple #[]/\post=[ah B1 213 [.map (some M0)],bE jJ rb M0 r.at_]):=by
 refine ce Tryz.func121 ?_;intro B5;refine sY ?_;refine fS (dO J WA) ?_;refine fY J<|ab ?_;obtain ⟨y6,k,h⟩:=aa h;refine gD (oC (zV k)) ?_;rintro _ _ ⟨_,⟨M7,rfl,rfl⟩,rfl⟩;refine ab ?_;refine lK (fun m s L=> ∃(p9:Int) (a6:(List (Int×Bool))) (a7:Nat),fG N a1 m p9 a6=some r/\s=[(0,pV B1 0),(11,W A4 n4 c4),(12,iV (a1.Zr.length:Int)),(13,iV p9)]/\L=[iE A4 n4 c4 a1.Zr,bE jJ rb a7 a6,ah B1 213 [.map (some a7)]]) N ?_;rintro m8 _ _ ⟨p9,a6,a7,h,rfl,rfl⟩;rw [fG.eq_2] at h;refine ab ?_;refine aB<|gH J h (fun h=> ?_) (fun h=> ?_)
 ·refine sY ?_;obtain ⟨b0,b6,b7,a8,h⟩:=ba h;refine ab ?_;refine Ks 0 J a8 (uu b0) ?_;rintro _ _ ⟨b9,c8,c9,d0,d1,d2,rfl,rfl⟩;refine JX (BH (us:=(iM b0 b9 c8 c9 d0 d1 d2)) 0 J J agg94.out J) ?_;intro d3;refine ab ?_;obtain ⟨b5,h⟩:=ac h;refine gE (rD J J b5.1 b5.2) ?_;obtain ⟨d4,h⟩:=ac h;refine ab ?_;obtain ⟨d6,k,h⟩:=aa h;refine gD (oC (jr k)) ?_;rintro _ _ ⟨_,⟨e0,rfl,rfl⟩,rfl⟩;refine ab ?_;obtain ⟨e1,h⟩:=ac h;exact lY
 exact eY
theorem wF {r:W0}{B1:Nat}: ∀v post,((fun (u:Value) (post:Xi)=> ∃M0,u=.tuple #[]/\post=[ah B1 213 [.map (some M0)],bE jJ rb M0 r.at_])) v post-> ∀c∈post,iS c:=by
 rintro _ _ ⟨_,rfl,rfl⟩;exact t5 Cw (t5 Dq (ax))
def d8 (N:Nat)(a0:W4)(p13 a7:Xg)(p15 a8:W8)(a6:Int):Option (Int×W4):=
 bif !decide (a6=0) then (some (a6,a0)) else none
def ia (a6 p21:Xg)(a0:W4)(a7 a8:W8):Option (Int×W4):=
 (eK N a0.ZD (⟨a6,p21⟩:WY)).bind fun b0=>some (0,(⟨(⟨a6,p21⟩:WY),a7,a8,b0⟩:W4))
def d7 (a0:W4)(a7 p21:Xg)(a6 a8:W8):Option (Int×W4):=
 aI ((0:Int)<=(a0.ZA.length:Int)/\0<=(a0.ZA.length:Int).toNat/\(a0.ZA.length:Int).toNat<=a6.length) (aI ((0:Int)<=(a0.ZA.length:Int)/\(a0.ZA.length:Int).toNat<=a6.length/\a6.length<=a6.length) ((dz N ((a6.drop 0).take ((a0.ZA.length:Int).toNat - 0))).bind fun b0=>(d9 N ((a6.drop ((a0.ZA.length:Int).toNat)).take (a6.length - (a0.ZA.length:Int).toNat)) a8).bind fun b5=>ia N a7 p21 a0 b0 b5))
def iN (a0:W4):Option (Int×W4):=
 (aR N a0).bind fun y9=>bif y9 then (some (1,a0)) else ((d9 N a0.ZA a0.ZC).bind fun a6=>(nD N a6 a0).bind fun a7=>Er a7 (fun y27_0=>d8 N a0 y27_0.1.Zp y27_0.1.Zr y27_0.2.1 y27_0.2.2.1 y27_0.2.2.2) (fun y27_1=>d7 N a0 y27_1.1.Zp y27_1.1.Zr y27_1.2.1 y27_1.2.2))
theorem sH {N:Nat}{a0:W4}{r:Int×W4}(h:iN N a0=some r):Okc Xk 80 [pV B1 0,.func (.func 81) #[] #[pV B8 0]] ([aW B8 76 [pV B1 0],ah B1 124 [W A2 n2 c2,W A3 n3 c3,W A4 n4 c4,W A5 n5 c5,pV B6 0],iF A2 n2 c2 a0.m_.Zp,iF A3 n3 c3 a0.m_.Zr,bj A4 n4 c4 a0.ZA,bj A5 n5 c5 a0.ZC,ah B6 213 [.map (some M7)],bE jJ rb M7 a0.ZD.at_]) (fun u post=> ∃A0 n0 c0 A1 n1 c1 A2 n2 c2 A3 n3 c3 M4,u=iV r.1/\post=[ah B1 124 [W A0 n0 c0,W A1 n1 c1,W A2 n2 c2,W A3 n3 c3,pV B6 0],iF A0 n0 c0 r.2.m_.Zp,iF A1 n1 c1 r.2.m_.Zr,bj A2 n2 c2 r.2.ZA,bj A3 n3 c3 r.2.ZC,ah B6 213 [.map (some M4)],bE jJ rb M4 r.2.ZD.at_]):=by
 refine ce Tryz.func80 ?_;refine sZ ?_
 refine cR h (fun _ k=>dj k) fun y9 h=> ?_
 refine gH J h ?_ ?_<;>intro h
 ·exact eY
 refine ab ?_;refine ak (fun s L=>(∃p13 i5 p15 i6 i7 i8 i9 j0 j1 j2 j3 j4 j5 j6 j7 j8 j9 k0,d8 N a0 p13 i5 p15 i6 i7=some r/\s=[(0,pV B1 0),(4,iV 0),(5,pV i8 0),(6,W j5 j6 j7),(7,W j8 j9 k0),(8,iV i7)]/\L=[iF i9 j0 j1 p13,iF j2 j3 j4 i5,ah i8 121 [W i9 j0 j1,W j2 j3 j4],bj j5 j6 j7 p15,bj j8 j9 k0 i6,iF A2 n2 c2 a0.m_.Zp,iF A3 n3 c3 a0.m_.Zr,bj A4 n4 c4 a0.ZA,bj A5 n5 c5 a0.ZC,ah B1 124 [W A2 n2 c2,W A3 n3 c3,W A4 n4 c4,W A5 n5 c5,pV B6 0],bE jJ rb M7 a0.ZD.at_,ah B6 213 [.map (some M7)]])\/(∃(e3:Xg) (p21:Xg) (g1:W8) (h7:W8) (h8:Nat) (a6:Option Addr) (a7 a8:Nat) (b0:Option Addr) (b5 b6:Nat) (h9:Option Addr) (i0 i1:Nat) (f6:Option Addr) (f9 g0:Nat),d7 N a0 e3 p21 g1 h7=some r/\s=[(0,pV B1 0),(4,iV 0),(5,pV h8 0),(6,W h9 i0 i1),(7,W f6 f9 g0),(8,iV 0)]/\L=[iF a6 a7 a8 e3,iF b0 b5 b6 p21,ah h8 121 [W a6 a7 a8,W b0 b5 b6],bj h9 i0 i1 g1,bj f6 f9 g0 h7,iF A2 n2 c2 a0.m_.Zp,iF A3 n3 c3 a0.m_.Zr,bj A4 n4 c4 a0.ZA,bj A5 n5 c5 a0.ZC,ah B1 124 [W A2 n2 c2,W A3 n3 c3,W A4 n4 c4,W A5 n5 c5,pV B6 0],bE jJ rb M7 a0.ZD.at_,ah B6 213 [.map (some M7)]])) ?_ ?_
 ·refine be O _ (ae _)<|zY [0,1,2,3,4,5,6,7,8] ?_;refine mO 9 17 O ?_ ?_
  ·refine bB J (wW (cs:=[W A4 n4 c4,W A5 n5 c5]) J (zK _ _ _ _ _ _)) J J J ?_;rintro _ _ ⟨k1,rfl,rfl⟩;refine bL ?_;refine mO 10 17 O ?_ ?_
   ·obtain ⟨m7,k,h⟩:=aa h;refine bB J (oR (fj k)) J J J ?_;rintro _ _ ⟨_,⟨m8,m9,n8,rfl,rfl⟩,rfl⟩;refine bL ?_;refine mO 11 17 O ?_ ?_
    ·refine wA (bn 0 J) (cS [2,3,4,5,6,7,8,9] 10) ?_;refine OH ?_;obtain ⟨l7,g2,h⟩:=aa h;rcases l7 with y27_0|y27_1
     ·replace h:=G9 h;refine bB J (qu (cJ g2) J J J (bI [0,2] [3,4,5,6,7,8,9] [0,1,2] 10 J)) J J J ?_;rintro _ _ ⟨_,⟨k2,k3,k4,b9,c8,c9,e0,e1,e2,e4,e5,e6,rfl,rfl⟩,rfl⟩;refine bL ?_;refine bz ?_;refine zY [12,13,14,15,16] ?_
      refine Ng 17 J (bF zero121.out J) fun l8=> ?_
      refine zO 18 J (ao (us:=[W k2 k3 k4,W b9 c8 c9]) (cs':=[W k2 k3 k4,W b9 c8 c9]) 0 J J J J size121.out J J J) ?_;rintro _ _ rfl;refine bL ?_;refine bz ?_;refine zX [19,20,21] ?_;refine ab ?_;exact ⟨_,_,.inl (⟨y27_0.1.Zp,y27_0.1.Zr,y27_0.2.1,y27_0.2.2.1,y27_0.2.2.2,l8,k2,k3,k4,b9,c8,c9,e0,e1,e2,e4,e5,e6,h,J,J⟩),sA,cS [1,2,0,3,4,5,6,7,8,9,11,10] 15⟩
     replace h:=G8 h;refine bB J (qu (cJ g2) J J J (bI [0,2] [3,4,5,6,7,8,9] [0,1,2] 10 J)) J J J ?_;rintro _ _ ⟨_,⟨d0,d1,d2,d3,d4,d6,e7,e8,e9,f0,f1,f2,rfl,rfl⟩,rfl⟩;refine bL ?_;refine bz ?_;refine zY [12,13,14,15,16] ?_
     refine Ng 17 J (bF zero121.out J) fun l9=> ?_
     refine zO 18 J (ao (us:=[W d0 d1 d2,W d3 d4 d6]) (cs':=[W d0 d1 d2,W d3 d4 d6]) 0 J J J J size121.out J J J) ?_;rintro _ _ rfl;refine bL ?_;refine bz ?_;refine zX [19,20,21] ?_;refine ab ?_;exact ⟨_,_,.inr (⟨y27_1.1.Zp,y27_1.1.Zr,y27_1.2.1,y27_1.2.2,l9,d0,d1,d2,d3,d4,d6,e7,e8,e9,f0,f1,f2,h,J,J⟩),sA,cS [1,2,0,3,4,5,6,7,8,9,11,10] 15⟩
    refine bB J (bF zero121.out J) J J J ?_;rintro _ _ ⟨l3,rfl,rfl⟩;refine bL ?_;refine kM (bn 1 J) (cS [3,4,5,6,7,8,9,10] 11) ?_;refine bz ?_;obtain ⟨g3,b7,h⟩:=aa h;rcases g3 with y28_0|y28_1
    ·replace h:=G9 h
     refine Nf 11 J (qu (cJ b7) J J J (bI [1,3] [4,5,6,7,8,9,10] [0,1,2,3] 11 J)) fun b9 c8 c9 e0 e1 e2 e4 e5 e6 g4 g5 g6=> ?_
     refine zY [12,13,14,15,16] ?_;refine zO 18 J (ao (us:=[W b9 c8 c9,W e0 e1 e2]) (cs':=[W b9 c8 c9,W e0 e1 e2]) 11 J J J J size121.out J J J) ?_;rintro _ _ rfl;refine bL ?_;refine bz ?_;refine zX [19,20,21] ?_;refine ab ?_;exact ⟨_,_,.inl (⟨y28_0.1.Zp,y28_0.1.Zr,y28_0.2.1,y28_0.2.2.1,y28_0.2.2.2,l3,b9,c8,c9,e0,e1,e2,e4,e5,e6,g4,g5,g6,h,J,J⟩),sA,cS [0,1,11,2,3,4,5,6,7,8,10,9] 15⟩
    replace h:=G8 h
    refine Nf 11 J (qu (cJ b7) J J J (bI [1,3] [4,5,6,7,8,9,10] [0,1,2,3] 11 J)) fun d0 d1 d2 d3 d4 d6 e7 e8 e9 f0 f1 f2=> ?_
    refine zY [12,13,14,15,16] ?_;refine zO 18 J (ao (us:=[W d0 d1 d2,W d3 d4 d6]) (cs':=[W d0 d1 d2,W d3 d4 d6]) 11 J J J J size121.out J J J) ?_;rintro _ _ rfl;refine bL ?_;refine bz ?_;refine zX [19,20,21] ?_;refine ab ?_;exact ⟨_,_,.inr (⟨y28_1.1.Zp,y28_1.1.Zr,y28_1.2.1,y28_1.2.2,l3,d0,d1,d2,d3,d4,d6,e7,e8,e9,f0,f1,f2,h,J,J⟩),sA,cS [0,1,11,2,3,4,5,6,7,8,10,9] 15⟩
   refine bB J (bF zero121.out J) J J J ?_;rintro _ _ ⟨k5,rfl,rfl⟩;refine bL ?_;obtain ⟨m0,f3,h⟩:=aa h
   refine zk 10 J (oR (fj f3)) fun m1 m2 m3=> ?_
   refine kM (bn 0 J) (cS [3,4,5,6,7,8,9,10] 11) ?_;refine bz ?_;obtain ⟨g3,b7,h⟩:=aa h;rcases g3 with y28_0|y28_1
   ·replace h:=G9 h
    refine Nf 11 J (qu (cJ b7) J J J (bI [0,3] [4,5,6,7,8,9,10] [0,1,2,3] 11 J)) fun b9 c8 c9 e0 e1 e2 e4 e5 e6 g4 g5 g6=> ?_
    refine zY [12,13,14,15,16] ?_;refine zO 18 J (ao (us:=[W b9 c8 c9,W e0 e1 e2]) (cs':=[W b9 c8 c9,W e0 e1 e2]) 12 J J J J size121.out J J J) ?_;rintro _ _ rfl;refine bL ?_;refine bz ?_;refine zX [19,20,21] ?_;refine ab ?_;exact ⟨_,_,.inl (⟨y28_0.1.Zp,y28_0.1.Zr,y28_0.2.1,y28_0.2.2.1,y28_0.2.2.2,k5,b9,c8,c9,e0,e1,e2,e4,e5,e6,g4,g5,g6,h,J,J⟩),sA,cS [0,1,12,2,3,4,5,6,7,8,10,9] 15⟩
   replace h:=G8 h
   refine Nf 11 J (qu (cJ b7) J J J (bI [0,3] [4,5,6,7,8,9,10] [0,1,2,3] 11 J)) fun d0 d1 d2 d3 d4 d6 e7 e8 e9 f0 f1 f2=> ?_
   refine zY [12,13,14,15,16] ?_;refine zO 18 J (ao (us:=[W d0 d1 d2,W d3 d4 d6]) (cs':=[W d0 d1 d2,W d3 d4 d6]) 12 J J J J size121.out J J J) ?_;rintro _ _ rfl;refine bL ?_;refine bz ?_;refine zX [19,20,21] ?_;refine ab ?_;exact ⟨_,_,.inr (⟨y28_1.1.Zp,y28_1.1.Zr,y28_1.2.1,y28_1.2.2,k5,d0,d1,d2,d3,d4,d6,e7,e8,e9,f0,f1,f2,h,J,J⟩),sA,cS [0,1,12,2,3,4,5,6,7,8,10,9] 15⟩
  refine bB J (bF zero121.out J) J J J ?_;rintro _ _ ⟨k1,rfl,rfl⟩;refine bL ?_
  refine Ng 9 J (wW (cs:=[W A4 n4 c4,W A5 n5 c5]) J (zK _ _ _ _ _ _)) fun k5=> ?_
  obtain ⟨m0,f3,h⟩:=aa h
  refine zk 10 J (oR (fj f3)) fun m1 m2 m3=> ?_
  refine kM (bn 0 J) (cS [3,4,5,6,7,8,9,10] 11) ?_;refine bz ?_;obtain ⟨g3,b7,h⟩:=aa h;rcases g3 with y28_0|y28_1
  ·replace h:=G9 h
   refine Nf 11 J (qu (cJ b7) J J J (bI [0,3] [4,5,6,7,8,9,10] [0,1,2,3] 11 J)) fun b9 c8 c9 e0 e1 e2 e4 e5 e6 g4 g5 g6=> ?_
   refine zY [12,13,14,15,16] ?_;refine zO 18 J (ao (us:=[W b9 c8 c9,W e0 e1 e2]) (cs':=[W b9 c8 c9,W e0 e1 e2]) 13 J J J J size121.out J J J) ?_;rintro _ _ rfl;refine bL ?_;refine bz ?_;refine zX [19,20,21] ?_;refine ab ?_;exact ⟨_,_,.inl (⟨y28_0.1.Zp,y28_0.1.Zr,y28_0.2.1,y28_0.2.2.1,y28_0.2.2.2,k1,b9,c8,c9,e0,e1,e2,e4,e5,e6,g4,g5,g6,h,J,J⟩),sA,cS [0,1,13,2,3,4,5,6,7,8,10,9] 15⟩
  replace h:=G8 h
  refine Nf 11 J (qu (cJ b7) J J J (bI [0,3] [4,5,6,7,8,9,10] [0,1,2,3] 11 J)) fun d0 d1 d2 d3 d4 d6 e7 e8 e9 f0 f1 f2=> ?_
  refine zY [12,13,14,15,16] ?_;refine zO 18 J (ao (us:=[W d0 d1 d2,W d3 d4 d6]) (cs':=[W d0 d1 d2,W d3 d4 d6]) 13 J J J J size121.out J J J) ?_;rintro _ _ rfl;refine bL ?_;refine bz ?_;refine zX [19,20,21] ?_;refine ab ?_;exact ⟨_,_,.inr (⟨y28_1.1.Zp,y28_1.1.Zr,y28_1.2.1,y28_1.2.2,k1,d0,d1,d2,d3,d4,d6,e7,e8,e9,f0,f1,f2,h,J,J⟩),sA,cS [0,1,13,2,3,4,5,6,7,8,10,9] 15⟩
 rintro _ _ (⟨p13,i5,p15,i6,i7,i8,i9,j0,j1,j2,j3,j4,j5,j6,j7,j8,j9,k0,h,rfl,rfl⟩|⟨e3,p21,g1,h7,h8,a6,a7,a8,b0,b5,b6,h9,i0,i1,f6,f9,g0,h,rfl,rfl⟩)
 ·refine sZ ?_;refine gH J h ?_ ?_<;>intro h
  ·exact eY
  exact aL h
 refine sZ ?_;refine fY J<|ab ?_;refine ak (fun s L=> ∃i2 i3 g7 g8 g9 h0 h1 h2,ia N e3 p21 a0 i2 i3=some r/\s=[(0,pV B1 0),(4,iV 0)]/\L=[iF a6 a7 a8 e3,iF b0 b5 b6 p21,bj g7 g8 g9 i2,bj h0 h1 h2 i3,ah B1 124 [W a6 a7 a8,W b0 b5 b6,W g7 g8 g9,W h0 h1 h2,pV B6 0],bE jJ rb M7 a0.ZD.at_,ah B6 213 [.map (some M7)]]) ?_ ?_
 ·refine gw ?_ bK (bn 3 J);refine ab ?_;refine be O ([iF a6 a7 a8 e3,iF b0 b5 b6 p21,ah h8 121 [W a6 a7 a8,W b0 b5 b6],aQ h9 i0 i1 g1,bj f6 f9 g0 h7,iF A2 n2 c2 a0.m_.Zp,iF A3 n3 c3 a0.m_.Zr,bj A4 n4 c4 a0.ZA,bj A5 n5 c5 a0.ZC,bE jJ rb M7 a0.ZD.at_,ah B6 213 [.map (some M7)]]) (cS [0,1,2,3,4,5,6,7,8,10,11] 12) ?_;refine zY [0,1,2,3,4,5] ?_;obtain ⟨h3,h⟩:=ac h;refine DC 3 J (l:=0) (h:=(a0.ZA.length:Int).toNat) h3.2.1 h3.2.2 ?_;rintro n9 o0 o1 m4;refine zR 6 J (KN 4 J m4 J t9 size28.out J J (by rw [Xz h3.1];rfl) h3.2.1 h3.2.2) ?_;refine zY [8,9] ?_;obtain ⟨i4,h⟩:=ac h;refine DC 4 J (l:=(a0.ZA.length:Int).toNat) (h:=g1.length) i4.2.1 i4.2.2 ?_;rintro l4 l5 l6 m5;refine zR 10 J (wI 5 J m5 J t9 size28.out J (by rw [Xz i4.1];rfl) i4.2.1) ?_;refine zY [11] ?_;refine mO 7 12 O ?_ ?_
  ·obtain ⟨o2,k,h⟩:=aa h;refine bB J (oR (jT k)) J J J ?_;rintro _ _ ⟨_,⟨k6,k7,k8,rfl,rfl⟩,rfl⟩;refine bL ?_
   refine Ng 12 J (wW (cs:=[W l4 l5 l6,W f6 f9 g0]) J (zK _ _ _ _ _ _)) fun p1=> ?_
   obtain ⟨m6,f4,h⟩:=aa h
   refine zk 13 J (oR (fj f4)) fun h4 h5 h6=> ?_
   refine zY [14,15] ?_;refine zO 16 J (ao (us:=[W a6 a7 a8,W b0 b5 b6]) (cs':=[W a6 a7 a8,W b0 b5 b6,W A4 n4 c4,W A5 n5 c5,pV B6 0]) 14 J J J J size121.out J J J) ?_;rintro _ _ rfl;refine bL ?_;refine bz ?_;refine zY [17,18] ?_;refine zO 19 J (ao (us:=[W k6 k7 k8]) (cs':=[W a6 a7 a8,W b0 b5 b6,W k6 k7 k8,W A5 n5 c5,pV B6 0]) 14 J J J J size22.out J J J) ?_;rintro _ _ rfl;refine bL ?_;refine bz ?_;refine zY [20,21] ?_;refine zO 22 J (ao (us:=[W h4 h5 h6]) (cs':=[W a6 a7 a8,W b0 b5 b6,W k6 k7 k8,W h4 h5 h6,pV B6 0]) 14 J J J J size22.out J J J) ?_;rintro _ _ rfl;refine bL ?_;refine bz ?_;exact aY O<|jY
  refine bB J (wW (cs:=[W l4 l5 l6,W f6 f9 g0]) J (zK _ _ _ _ _ _)) J J J ?_;rintro _ _ ⟨p2,rfl,rfl⟩;refine bL ?_;obtain ⟨p3,k,h⟩:=aa h
  refine zk 7 J (oR (jT k)) fun k9 l0 l1=> ?_
  obtain ⟨m6,f4,h⟩:=aa h
  refine zk 13 J (oR (fj f4)) fun h4 h5 h6=> ?_
  refine zY [14,15] ?_;refine zO 16 J (ao (us:=[W a6 a7 a8,W b0 b5 b6]) (cs':=[W a6 a7 a8,W b0 b5 b6,W A4 n4 c4,W A5 n5 c5,pV B6 0]) 14 J J J J size121.out J J J) ?_;rintro _ _ rfl;refine bL ?_;refine bz ?_;refine zY [17,18] ?_;refine zO 19 J (ao (us:=[W k9 l0 l1]) (cs':=[W a6 a7 a8,W b0 b5 b6,W k9 l0 l1,W A5 n5 c5,pV B6 0]) 14 J J J J size22.out J J J) ?_;rintro _ _ rfl;refine bL ?_;refine bz ?_;refine zY [20,21] ?_;refine zO 22 J (ao (us:=[W h4 h5 h6]) (cs':=[W a6 a7 a8,W b0 b5 b6,W k9 l0 l1,W h4 h5 h6,pV B6 0]) 14 J J J J size22.out J J J) ?_;rintro _ _ rfl;refine bL ?_;refine bz ?_;exact aY O<|jY
 rintro _ _ ⟨i2,i3,g7,g8,g9,h0,h1,h2,h,rfl,rfl⟩;refine aB<|be O ([iF a6 a7 a8 e3,iF b0 b5 b6 p21,bj g7 g8 g9 i2,bj h0 h1 h2 i3,ah B1 124 [W a6 a7 a8,W b0 b5 b6,W g7 g8 g9,W h0 h1 h2,pV B6 0]]) (cS [0,1,2,3,4] 7) ?_;refine ab ?_;obtain ⟨p4,l2,h⟩:=aa h;refine kM (cS [6,5,0,1,2,3,4] 7) (cS [2,3,4,5,6] 7) ?_;refine bz ?_
 refine Ng 8 J (FG 2 2 (zU l2) J J J J (t5 (tM (i:=2) J J) (t5 (tM (i:=3) J J) ax)) wF) fun p5=> ?_
 exact eY
def dv (a0:W4):Option (Int×W4):=
 (iN N a0).bind fun y9=>some (y9.1,y9.2)
theorem Ba {N:Nat}{a0:W4}{r:Int×W4}(h:dv N a0=some r):Okc Xk 38 [pV B1 0] ([ah B1 124 [W A2 n2 c2,W A3 n3 c3,W A4 n4 c4,W A5 n5 c5,pV B6 0],iF A2 n2 c2 a0.m_.Zp,iF A3 n3 c3 a0.m_.Zr,bj A4 n4 c4 a0.ZA,bj A5 n5 c5 a0.ZC,ah B6 213 [.map (some M7)],bE jJ rb M7 a0.ZD.at_]) (fun u post=> ∃A0 n0 c0 A1 n1 c1 A2 n2 c2 A3 n3 c3 M4,u=iV r.1/\post=[ah B1 124 [W A0 n0 c0,W A1 n1 c1,W A2 n2 c2,W A3 n3 c3,pV B6 0],iF A0 n0 c0 r.2.m_.Zp,iF A1 n1 c1 r.2.m_.Zr,bj A2 n2 c2 r.2.ZA,bj A3 n3 c3 r.2.ZC,ah B6 213 [.map (some M4)],bE jJ rb M4 r.2.ZD.at_]):=by
 refine ce Tryz.func38 ?_;intro B8;refine ab ?_;refine gE (ja J) ?_;obtain ⟨y9,k,h⟩:=aa h;refine mP (lr 0 J)<|gD (oC (sH k)) ?_;rintro _ _ ⟨_,⟨a6,a7,a8,b0,b5,b6,b7,b9,c8,c9,d0,d1,d2,rfl,rfl⟩,rfl⟩;exact eY
theorem yM {N:Nat}{a0:W4}{r:Int×W4}(h:dv N a0=some r):Okc Xk 38 [pV B1 0] ([oDHeap B1 a0]) (fun u post=>u=iV r.1/\post=[oDHeap B1 r.2]):=Mk 0 rfl (fun _=>Ba h)
def t6 (a0:WP)(a1:W6)(a2:WQ):Option (W6×Bool×WP):=
 (eO N a0).bind fun y9=>aI (in64 (y9 - 1)) ((jd N a0 (y9 - 1)).bind fun a6=>bif decide (a2.Zh=0) then ((eC N a0 a6 a2.K a2.D).bind fun a7=>(gC N a1 a2.K a2.D).bind fun a8=>(bif a7.1==a8.2.1 then (some (a7.2.1==a8.2.2)) else (some false)).bind fun d0=>some (a8.1,d0,a7.2.2)) else (bif decide (a2.Zh=1) then ((tg N a1 a2.K).bind fun b0=>(qO N a0 a6 a2.K).bind fun b5=>some (b0.1,b5.1==b0.2,b5.2)) else (bif decide (a2.Zh=2) then ((lW N a1 a2.N).bind fun b6=>(jD N a0 a6 a2.N).bind fun b7=>some (b6.1,b7.1==b6.2,b7.2)) else (bif decide (a2.Zh=3) then ((wL N a1 a2.V).bind fun b9=>(tD N a0 a6 a2.V).bind fun c8=>some (b9.1,c8.1==b9.2,c8.2)) else (bif decide (a2.Zh=4) then ((qw N a0 a6).bind fun d1=>some ((⟨false,a1.Zz,a1.Zs,a1.Zt⟩:W6),true,d1)) else ((lT N a0).bind fun d2=>(dv N a0.Zv).bind fun c9=>some (a1,decide (c9.1=0),(⟨a0.ZI,a0.ZB,(),c9.2,a0.Zw,a0.ZF,a0.ZL,a0.ZM,a0.ZN,a0.ZG,a0.ZH⟩:WP))))))))
theorem DJ {N:Nat}{a0:WP}{a1:W6}{a2:WQ}{r:W6×Bool×WP}(h:t6 N a0 a1 a2=some r){B1 B2 B3:Nat}:Okc Xk 12 [pV B1 0,.agg #[.bool a1.Ext,.bool a1.Zz,W A4 n4 c4,W A5 n5 c5],(UF a2)] ([aQ A4 n4 c4 a1.Zs,qS A5 n5 c5 a1.Zt,sG,oDWorld B1 B2 B3 a0]) (fun u post=> ∃A0 n0 c0 A1 n1 c1,u=.tuple #[.agg #[.bool r.1.Ext,.bool r.1.Zz,W A0 n0 c0,W A1 n1 c1],.bool r.2.1]/\post=[aQ A0 n0 c0 r.1.Zs,qS A1 n1 c1 r.1.Zt,oDWorld B1 B2 B3 r.2.2]):=by
 refine ce Tryz.func12 ?_;intro B6
 refine cl fun B7=> ?_
 intro B8;refine ab ?_;obtain ⟨y9,k,h⟩:=aa h;refine gV (oR (ra k)) ?_;obtain ⟨f1,h⟩:=ac h;refine ab ?_;obtain ⟨a6,k,h⟩:=aa h;refine Ej (oR (sQ k)) ?_;intro e6;refine sY ?_;refine gH J h ?_ ?_<;>intro h
 ·refine ab ?_;obtain ⟨f2,k,h⟩:=aa h;refine Ej (oC (sL k)) ?_;obtain ⟨f3,k,h⟩:=aa h
  refine SC (oC (GL k)) fun f4 f6 f9 g0 g1 g2=> ?_
  intro g3;refine ab ?_;refine fS (Du J J WE) ?_
  refine JW 4 58 54 h (fun _ e7 h=> ?_) (fun _ e7 h=> ?_) fun g4 h=> ?_
  ·refine ab ?_;exact eP (Du J J WE) J (bW e7 J) J<|gY
  ·exact gY
  exact eY
 refine dk h ?_ ?_<;>intro h
 ·refine ab ?_;obtain ⟨a7,k,h⟩:=aa h
  refine SC (oC (GK k)) fun b5 b6 b7 b9 c8 c9=> ?_
  intro e8;refine ab ?_;refine aB<|be O ([ah e8 35 (jX a7.1 b5 b6 b7 b9 c8 c9),aQ b5 b6 b7 a7.1.Zs,qS b9 c8 c9 a7.1.Zt,ah e6 28 [iV a6.Zh,iV a6.N,.string a6.S],ah B7 43 (Mt a2),ah B6 35 (jX a1 A4 n4 c4 A5 n5 c5),aQ A4 n4 c4 a1.Zs,qS A5 n5 c5 a1.Zt,sG]) (cS [0,1,2,3,5,6,7,8,9] 11) ?_;refine zY [0,1,2,3,4,6] ?_;obtain ⟨g5,k,h⟩:=aa h;refine zD 5 J (oC (Eo k)) ?_;rintro _ _ ⟨_,⟨rfl,rfl⟩,rfl⟩;refine bL ?_;refine zE 7 J (Du J J WE) ?_;refine zO 8 J (ao (us:=(jX a7.1 b5 b6 b7 b9 c8 c9)) (cs':=(jX a7.1 b5 b6 b7 b9 c8 c9)) 5 J J J J size35.out J J J) ?_;rintro _ _ rfl;refine bL ?_;refine zX [9] ?_;exact eY
 refine dk h ?_ ?_<;>intro h
 ·refine ab ?_;obtain ⟨a8,k,h⟩:=aa h
  refine SC (oC (Aj k)) fun d0 d1 d2 d3 d4 d6=> ?_
  intro e9;refine ab ?_;refine aB<|be O ([ah e9 35 (jX a8.1 d0 d1 d2 d3 d4 d6),aQ d0 d1 d2 a8.1.Zs,qS d3 d4 d6 a8.1.Zt,ah e6 28 [iV a6.Zh,iV a6.N,.string a6.S],ah B7 43 (Mt a2),ah B6 35 (jX a1 A4 n4 c4 A5 n5 c5),aQ A4 n4 c4 a1.Zs,qS A5 n5 c5 a1.Zt,sG]) (cS [0,1,2,3,5,6,7,8,9] 11) ?_;refine zY [0,1,2,3,4,6] ?_;obtain ⟨g6,k,h⟩:=aa h;refine zD 5 J (oC (pp k)) ?_;rintro _ _ ⟨_,⟨rfl,rfl⟩,rfl⟩;refine bL ?_;refine zE 7 J (Du J J WE) ?_;refine zO 8 J (ao (us:=(jX a8.1 d0 d1 d2 d3 d4 d6)) (cs':=(jX a8.1 d0 d1 d2 d3 d4 d6)) 5 J J J J size35.out J J J) ?_;rintro _ _ rfl;refine bL ?_;refine zX [9] ?_;exact eY
 refine dk h ?_ ?_<;>intro h
 ·refine ab ?_;obtain ⟨b0,k,h⟩:=aa h
  refine SC (oC (Jv k)) fun e0 e1 e2 e3 e4 e5=> ?_
  intro f0;refine ab ?_;refine aB<|be O ([ah f0 35 (jX b0.1 e0 e1 e2 e3 e4 e5),aQ e0 e1 e2 b0.1.Zs,qS e3 e4 e5 b0.1.Zt,ah e6 28 [iV a6.Zh,iV a6.N,.string a6.S],ah B7 43 (Mt a2),ah B6 35 (jX a1 A4 n4 c4 A5 n5 c5),aQ A4 n4 c4 a1.Zs,qS A5 n5 c5 a1.Zt,sG]) (cS [0,1,2,3,5,6,7,8,9] 11) ?_;refine zY [0,1,2,3,4,6] ?_;obtain ⟨g7,k,h⟩:=aa h;refine zD 5 J (oC (G2 k)) ?_;rintro _ _ ⟨_,⟨rfl,rfl⟩,rfl⟩;refine bL ?_;refine zE 7 J (Du J J WE) ?_;refine zO 8 J (ao (us:=(jX b0.1 e0 e1 e2 e3 e4 e5)) (cs':=(jX b0.1 e0 e1 e2 e3 e4 e5)) 5 J J J J size35.out J J J) ?_;rintro _ _ rfl;refine bL ?_;refine zX [9] ?_;exact eY
 refine dk h ?_ ?_<;>intro h
 ·refine ab ?_;obtain ⟨g8,k,h⟩:=aa h;refine Ej (oC (Eh k)) ?_;exact eN
 refine ab ?_;obtain ⟨g9,k,h⟩:=aa h;refine gV (oR (xL k)) ?_;refine mP ((cS [7,0,1,2,3,4,5,6] 8).trans KX) ?_;refine ab ?_;obtain ⟨h0,k,h⟩:=aa h;refine gV (oC (yM k)) ?_;exact mP (Ly)<|eY
def vG (N:Nat)(a0 p4:W7)(p5:Int):Option W7:=
 aI ((0:Int)<=p5/\p5.toNat<=a0.length/\a0.length<=a0.length) (aI (bm (p4.length+((a0.drop p5.toNat).take (a0.length - p5.toNat)).length)) (some (p4++((a0.drop p5.toNat).take (a0.length - p5.toNat)))))
def uq (N:Nat)(a6:W7->Int->Int->Option W7)(p9:Int)(a0 a1 p13:W7)(a7:Int):Option W7:=
 aI (in64 (p9+1)) (a6 p13 a7 (p9+1))
def qn (a8:W7->Int->Int->Option W7)(p9:Int)(a0 a1 a6:W7)(b0:Int):Option W7:=
 (aq a1 p9).bind fun a7=>aI (bm (a6.length+([a7]:List WX).length)) (uq N a8 p9 a0 a1 (a6++([a7]:List WX)) b0)
def qm (N:Nat)(a8:W7->Int->Int->Option W7)(p9:Int)(a0 a1:W7):Nat->W7->Int->Option W7
 |0,_,_=>none
 |b5+1,a7,a6=>(bif decide (a6<(a0.length:Int)) then ((aq a0 a6).bind fun b6=>(aq a1 p9).bind fun b7=>some (decide (b6.N<=b7.N))) else (some false)).bind fun b9=>bif b9 then ((aq a0 a6).bind fun b0=>aI (bm (a7.length+([b0]:List WX).length)) (aI (in64 (a6+1)) ((qm N a8 p9 a0 a1 b5) (a7++([b0]:List WX)) (a6+1)))) else (qn N a8 p9 a0 a1 a7 a6)
def kF (N:Nat)(a0 a1:W7):Nat->W7->Int->Int->Option W7
 |0,_,_,_=>none
 |m6+1,p7,p8,p9=>bif decide (p9<(a1.length:Int)) then (qm N (kF N a0 a1 m6) p9 a0 a1 N p7 p8) else (vG N a0 p7 p8)
def qo (a0 a1:W7):Option W7:=
 kF N a0 a1 N [] 0 0
theorem GN {N:Nat}{a0 a1 r:W7}(h:qo N a0 a1=some r):Okc Xk 183 [W A1 n1 c1,W A2 n2 c2] ([sF A1 n1 c1 a0,sF A2 n2 c2 a1]) (fun u post=> ∃A0 n0 c0,u=W A0 n0 c0/\post=[jv A0 n0 c0 r]):=by
 refine ce Tryz.func183 ?_;refine ak (fun s L=> ∃p4 p5 A4 n4 c4,vG N a0 p4 p5=some r/\s=[(0,W A1 n1 c1),(4,W none 0 0),(5,W A4 n4 c4),(6,iV p5)]/\L=[sF A1 n1 c1 a0,jv A4 n4 c4 p4]) ?_ ?_
 ·refine ab ?_;refine im (fun m s L=> ∃p7 p8 p9 A7 n7 c7,kF N a0 a1 m p7 p8 p9=some r/\s=[(0,W A1 n1 c1),(1,W A2 n2 c2),(4,W none 0 0),(5,W A7 n7 c7),(6,iV p8),(7,iV p9)]/\L=[sF A1 n1 c1 a0,sF A2 n2 c2 a1,jv A7 n7 c7 p7]) N _ _ ⟨[],0,0,none,0,0,h,J,J⟩ sA ((bT gQ 39 _).trans (cS [1,2,0] 3)) ?_;rintro (_|m6) _ _ ⟨p7,p8,p9,A7,n7,c7,h,rfl,rfl⟩
  ·exact aL h
  rw [kF.eq_2] at h;refine sZ ?_;refine gH J h ?_ ?_<;>intro h
  ·refine ab ?_;refine ak (fun s L=> ∃p13 c8 c9 d0 d1,uq N (kF N a0 a1 m6) p9 a0 a1 p13 c8=some r/\s=[(0,W A1 n1 c1),(1,W A2 n2 c2),(4,W none 0 0),(5,W c9 d0 d1),(6,iV c8),(7,iV p9)]/\L=[sF A1 n1 c1 a0,sF A2 n2 c2 a1,jv c9 d0 d1 p13]) ?_ ?_
   ·refine ab ?_;refine ak (fun s L=> ∃d2 d3 d4 d6 e0,qn N (kF N a0 a1 m6) p9 a0 a1 d2 d3=some r/\s=[(0,W A1 n1 c1),(1,W A2 n2 c2),(4,W none 0 0),(5,W d4 d6 e0),(6,iV d3),(7,iV p9)]/\L=[sF A1 n1 c1 a0,sF A2 n2 c2 a1,jv d4 d6 e0 d2]) ?_ ?_
    ·refine ab ?_;refine im (fun m s L=> ∃e1 e2 e3 e4 e5,qm N (kF N a0 a1 m6) p9 a0 a1 m e1 e2=some r/\s=[(0,W A1 n1 c1),(1,W A2 n2 c2),(4,W none 0 0),(5,W e3 e4 e5),(6,iV e2),(7,iV p9)]/\L=[sF A1 n1 c1 a0,sF A2 n2 c2 a1,jv e3 e4 e5 e1]) N _ _ ⟨p7,p8,A7,n7,c7,h,J,J⟩ sA (cS [0,1,2] 3) ?_;rintro (_|g1) _ _ ⟨e1,e2,e3,e4,e5,h,rfl,rfl⟩
     ·exact aL h
     rw [qm.eq_2] at h;refine aB<|dY [0,1,2,3,4] ?_
     refine yJ [5,6,7,8,9,10,11,12,13,14,15,16] 0 18 30 h (fun _ a6 h rest=> ?_) (fun _ a6 h rest=> ?_) fun g2 h=> ?_
     ·refine yY [5,6] ?_;obtain ⟨g3,a7,a8,e6,h⟩:=ba h;refine jK 7 J O (bS 0 J aE J J EM size39.out a7 a8) (bW a6 J) J<|jK 8 J O (qi 0 J aE J (toNat_lt a7 a8) xd) (bW a6 J) J<|yY [9,10,11] ?_;obtain ⟨g4,b0,b5,e7,h⟩:=ba h;refine jK 12 J O (bS 1 J aE J J EM size39.out b0 b5) (bW a6 J) J<|jK 13 J O (qi 1 J aE J (toNat_lt b0 b5) xd) (bW a6 J) J<|yY [14,15,16] ?_;exact yS rest h
     ·refine yY [5,6,7,8,9,10,11,12,13,14,15,16] ?_;exact yS rest h
     refine aY O<|dk h (fun h=> ?_) (fun h=> ?_)
     ·refine ab ?_;obtain ⟨b6,e8,e9,f0,h⟩:=ba h;refine ab ?_;refine gD (aw (R:=gQ) (vss:=[[iV b6.Zh,iV b6.N,.string b6.S]]) (xs:=[b6]) J (iJ _ _ _) J J (fun _ _ hr=> .cons J All2.nil)) ?_;rintro _ _ ⟨g5,g6,g7,rfl,rfl⟩;obtain ⟨f1,h⟩:=ac h
      refine sI (az 3 0 J J aj J J EM tT J J f1) fun g8 g9 h0=> ?_
      obtain ⟨h1,h⟩:=ac h;exact lY
     exact jY
    rintro _ _ ⟨d2,d3,d4,d6,e0,h,rfl,rfl⟩;refine ab ?_;obtain ⟨b7,f2,f3,f4,h⟩:=ba h;refine ab ?_;refine gD (aw (R:=gQ) (vss:=[[iV b7.Zh,iV b7.N,.string b7.S]]) (xs:=[b7]) J (iJ _ _ _) J J (fun _ _ hr=> .cons J All2.nil)) ?_;rintro _ _ ⟨h2,h3,h4,rfl,rfl⟩;obtain ⟨f6,h⟩:=ac h
    refine sI (az 3 0 J J aj J J EM tT J J f6) fun h5 h6 h7=> ?_
    exact jN
   rintro _ _ ⟨p13,c8,c9,d0,d1,h,rfl,rfl⟩;refine ab ?_;obtain ⟨h8,h⟩:=ac h;exact lY
  exact jY
 rintro _ _ ⟨p4,p5,A4,n4,c4,h,rfl,rfl⟩;refine ab ?_;obtain ⟨b9,h⟩:=ac h;refine Nd 0 J (l:=p5.toNat) (h:=a0.length) b9.2.1 b9.2.2 ?_;rintro h9 i0 i1 f9;refine gR (wI 1 J f9 J EM size39.out J (by rw [Xz b9.1];rfl) b9.2.1) ?_;obtain ⟨g0,h⟩:=ac h
 refine sI (az 2 0 J J aE J J EM tT J J g0) fun i2 i3 i4=> ?_
 exact eN
def ko (N:Nat):Nat->W7->Option W7
 |0,_=>none
 |m2+1,a0=>bif decide ((a0.length:Int)<2) then (some a0) else (aI (in64 ((a0.length:Int).tdiv 2)) (aI ((0:Int)<=(a0.length:Int).tdiv 2/\0<=((a0.length:Int).tdiv 2).toNat/\((a0.length:Int).tdiv 2).toNat<=a0.length) (aI ((0:Int)<=(a0.length:Int).tdiv 2/\((a0.length:Int).tdiv 2).toNat<=a0.length/\a0.length<=a0.length) (((ko N m2) ((a0.drop 0).take (((a0.length:Int).tdiv 2).toNat - 0))).bind fun y9=>((ko N m2) ((a0.drop (((a0.length:Int).tdiv 2).toNat)).take (a0.length - ((a0.length:Int).tdiv 2).toNat))).bind fun a6=>(qo N y9 a6).bind fun a7=>some a7))))
theorem yv {N m2:Nat}{a0:W7}:ko N (m2+1) a0=bif decide ((a0.length:Int)<2) then (some a0) else (aI (in64 ((a0.length:Int).tdiv 2)) (aI ((0:Int)<=(a0.length:Int).tdiv 2/\0<=((a0.length:Int).tdiv 2).toNat/\((a0.length:Int).tdiv 2).toNat<=a0.length) (aI ((0:Int)<=(a0.length:Int).tdiv 2/\((a0.length:Int).tdiv 2).toNat<=a0.length/\a0.length<=a0.length) (((ko N m2) ((a0.drop 0).take (((a0.length:Int).tdiv 2).toNat - 0))).bind fun y9=>((ko N m2) ((a0.drop (((a0.length:Int).tdiv 2).toNat)).take (a0.length - ((a0.length:Int).tdiv 2).toNat))).bind fun a6=>(qo N y9 a6).bind fun a7=>some a7)))):=rfl
def wR (a0:W7):Option W7:=ko N N a0
theorem Fn {N:Nat}: ∀(m0:Nat) {a0:W7} {r:W7} (h:ko N m0 a0=some r) {A1:Option Addr} {n1 c1:Nat},Okc Xk 142 [W A1 n1 c1] ([sF A1 n1 c1 a0]) (fun u post=> ∃A0 n0 c0,u=W A0 n0 c0/\post=[sF A0 n0 c0 r]):=by
 intro m0
 induction m0 with
 |zero=>intro a0 r h A1 n1 c1;exact aL h
 |succ m2 ih=>
  intro a0 r h A1 n1 c1;rw [yv] at h;refine ce Tryz.func142 ?_;refine sZ ?_;refine gH J h ?_ ?_<;>intro h
  ·exact eY
  refine ab ?_;obtain ⟨q4,h⟩:=ac h;refine fS (Dt J J (by decide) q4.1 q4.2) ?_;refine dY [0,1] ?_;obtain ⟨q5,h⟩:=ac h;refine DC 0 J (l:=0) (h:=((a0.length:Int).tdiv 2).toNat) q5.2.1 q5.2.2 ?_;rintro A6 n6 c6 e6;refine zR 2 J (KN 1 J e6 J EM size39.out J J (by rw [Xz q5.1];rfl) q5.2.1 q5.2.2) ?_;refine zY [4,5] ?_;obtain ⟨q7,h⟩:=ac h;refine DC 1 J (l:=((a0.length:Int).tdiv 2).toNat) (h:=a0.length) q7.2.1 q7.2.2 ?_;rintro A8 n8 c8 e8;refine zR 6 J (wI 2 J e8 J EM size39.out J (by rw [Xz q7.1];rfl) q7.2.1) ?_;obtain ⟨y9,k,h⟩:=aa h;refine zD 3 J (oC (ih k)) ?_;rintro _ _ ⟨_,⟨a6,a7,a8,rfl,rfl⟩,rfl⟩;refine ⟨_,ae _,cv_tl,?_⟩;obtain ⟨b0,k,h⟩:=aa h;refine zD 7 J (oC (ih k)) ?_;rintro _ _ ⟨_,⟨b5,b6,b7,rfl,rfl⟩,rfl⟩;refine ⟨_,ae _,cv_tl,?_⟩;obtain ⟨b9,k,h⟩:=aa h
  refine zk 8 J (oR (GN k)) fun c9 d0 d1=> ?_
  refine zX [9] ?_;refine ab ?_;obtain rfl:=bJ h;exact nI J J ((bn 0 J).trans (cS [0] 6)) ⟨_,_,_,J,J⟩
theorem GM {N:Nat}{a0 r:W7}(h:wR N a0=some r):Okc Xk 142 [W A1 n1 c1] ([sF A1 n1 c1 a0]) (fun u post=> ∃A0 n0 c0,u=W A0 n0 c0/\post=[sF A0 n0 c0 r]):=Fn N h
end
section
variable {A1 A2 A3 A4 A5 A6 A7:Option Addr}{B1 B2 B3 B6 B8 c1 c2 c3 c4 c5 c6 c7 n1 n2 n3 n4 n5 n6 n7:Nat}
open Go.RowKit Asn
set_option maxRecDepth 20000
def tk (p3 p4 p5:W7):Option W7:=
 (wR N p3).bind fun a6=>aI (bm (([]:List WX).length+a6.length)) (aI (bm ((([]:List WX)++a6).length+p4.length)) (aI (bm (((([]:List WX)++a6)++p4).length+p5.length)) (some (((([]:List WX)++a6)++p4)++p5))))
def mD (N:Nat)(a7:W7->W7->W7->Int->Option W7)(a6:Int)(a0 a8 b0 b5:W7):Option W7:=
 aI (in64 (a6+1)) (a7 a8 b0 b5 (a6+1))
def kp (N:Nat)(a0:W7):Nat->W7->W7->W7->Int->Option W7
 |0,_,_,_,_=>none
 |m6+1,p7,p8,p9,a6=>bif decide (a6<(a0.length:Int)) then ((aq a0 a6).bind fun b6=>(pM N b6).bind fun b7=>bif !b7 then (mD N (kp N a0 m6) a6 a0 p7 p8 p9) else ((aq a0 a6).bind fun a7=>bif decide (a7.Zh=0) then ((aq a0 a6).bind fun a8=>aI (bm (p7.length+([a8]:List WX).length)) (mD N (kp N a0 m6) a6 a0 (p7++([a8]:List WX)) p8 p9)) else (bif decide (a7.Zh=1) then ((aq a0 a6).bind fun b0=>aI (bm (p8.length+([b0]:List WX).length)) (mD N (kp N a0 m6) a6 a0 p7 (p8++([b0]:List WX)) p9)) else ((aq a0 a6).bind fun b5=>aI (bm (p9.length+([b5]:List WX).length)) (mD N (kp N a0 m6) a6 a0 p7 p8 (p9++([b5]:List WX))))))) else (tk N p7 p8 p9)
def yy (a0:W7):Option W7:=
 kp N a0 N [] [] [] 0
theorem Iu {N:Nat}{a0 r:W7}(h:yy N a0=some r):Okc Xk 98 [W A1 n1 c1] ([sF A1 n1 c1 a0]) (fun u post=> ∃A0 n0 c0,u=W A0 n0 c0/\post=[jv A0 n0 c0 r]):=by
 refine Ca Tryz.func98 J J ?_;simp only [qI];refine Y ?_;refine ak (fun s L=> ∃p3 p4 p5 A3 n3 c3 A4 n4 c4 A5 n5 c5,tk N p3 p4 p5=some r/\s=[(2,W none 0 0),(3,W A3 n3 c3),(4,W A4 n4 c4),(5,W A5 n5 c5)]/\L=[jv A3 n3 c3 p3,jv A4 n4 c4 p4,jv A5 n5 c5 p5]) ?_ ?_
 ·refine Y ?_;refine im (fun m s L=> ∃p7 p8 p9 d0 A7 n7 c7 A8 n8 c8 A9 n9 c9,kp N a0 m p7 p8 p9 d0=some r/\s=[(0,W A1 n1 c1),(2,W none 0 0),(3,W A7 n7 c7),(4,W A8 n8 c8),(5,W A9 n9 c9),(6,iV d0)]/\L=[sF A1 n1 c1 a0,jv A7 n7 c7 p7,jv A8 n8 c8 p8,jv A9 n9 c9 p9]) N _ _ ⟨[],[],[],0,none,0,0,none,0,0,none,0,0,h,J,J⟩ sA ((bT gQ 39 _).trans ((bT gQ 39 _).trans ((bT gQ 39 _).trans (cS [3,2,1,0] 4)))) ?_;rintro (_|m6)
  all_goals (refine fun s L=>aJ fun p7=>aJ fun p8=>aJ fun p9=>aJ fun d0=>aJ fun A7=>aJ fun n7=>aJ fun c7=>aJ fun A8=>aJ fun n8=>aJ fun c8=>aJ fun A9=>aJ fun n9=>aJ fun c9=>J6 fun h=> ?_)
  ·exact aL h
  rw [kp.eq_2] at h;refine aB<|Y ?_;refine gR (jO 0 J aE J EM)<|Y ?_;refine gH J h ?_ ?_<;>intro h
  ·refine Y ?_;refine ak (fun s L=> ∃d3 d4 d6 e0 e1 e2 e3 e4 e5 e6 e7 e8,mD N (kp N a0 m6) d0 a0 d3 d4 d6=some r/\s=[(0,W A1 n1 c1),(2,W none 0 0),(3,W e0 e1 e2),(4,W e3 e4 e5),(5,W e6 e7 e8),(6,iV d0)]/\L=[sF A1 n1 c1 a0,jv e0 e1 e2 d3,jv e3 e4 e5 d4,jv e6 e7 e8 d6]) ?_ ?_
   ·refine vv<|aB<|Y ?_;obtain ⟨e9,b0,h⟩:=aa h;obtain ⟨f0,f1,b0⟩:=fI b0;refine gR (bS 0 J aE J J EM size39.out f0 f1)<|gR (dr (us:=[iV e9.Zh,iV e9.N,.string e9.S]) 0 J aE J b0 agg39.out (fun _ _ _ h=>by rw [show _=_ from h];rfl)) ?_;obtain ⟨h8,k,h⟩:=aa h;refine gV (aX (BN k) J (ax) yx)<|Y ?_;refine gH J h ?_ ?_<;>intro h
    ·refine Y ?_;exact ⟨_,_,⟨p7,p8,p9,A7,n7,c7,A8,n8,c8,A9,n9,c9,h,J,J⟩,sA,cS [0,1,2,3] 4⟩
    refine Y ?_;obtain ⟨g2,b5,h⟩:=aa h;obtain ⟨d1,d2,b5⟩:=fI b5;refine gR (bS 0 J aE J J EM size39.out d1 d2)<|gR (nu 0 J aE J (toNat_lt d1 d2) EK)<|gR (li (u:=iV g2.Zh) 0 J aE J b5 wc (fun _ _ _ h=>by rw [show _=_ from h];rfl))<|Y ?_;refine gH J h ?_ ?_<;>intro h
    ·refine Y ?_;obtain ⟨a6,b6,h⟩:=aa h;obtain ⟨f2,f3,b6⟩:=fI b6;refine gR (bS 0 J aE J J EM size39.out f2 f3)<|gR (dr (us:=[iV a6.Zh,iV a6.N,.string a6.S]) 0 J aE J b6 agg39.out (fun _ _ _ h=>by rw [show _=_ from h];rfl))<|gD (aw (R:=gQ) (vss:=[[iV a6.Zh,iV a6.N,.string a6.S]]) (xs:=[a6]) J (iJ _ _ _) J J (fun _ _ hr=> .cons J All2.nil)) ?_;rintro _ _ ⟨h9,i0,i1,rfl,rfl⟩;obtain ⟨g3,h⟩:=ac h;refine gD (az 2 0 J J aj J J EM tT J J g3) ?_;rintro _ _ ⟨g4,g5,g6,rfl,rfl⟩;refine Y ?_;exact ⟨_,_,⟨p7++([a6]:List WX),p8,p9,g4,g5,g6,A8,n8,c8,A9,n9,c9,h,J,J⟩,sA,cS [1,2,3,4] 5⟩
    refine Y ?_;refine gH J h ?_ ?_<;>intro h
    ·refine Y ?_;obtain ⟨a7,b7,h⟩:=aa h;obtain ⟨f4,f6,b7⟩:=fI b7;refine gR (bS 0 J aE J J EM size39.out f4 f6)<|gR (dr (us:=[iV a7.Zh,iV a7.N,.string a7.S]) 0 J aE J b7 agg39.out (fun _ _ _ h=>by rw [show _=_ from h];rfl))<|gD (aw (R:=gQ) (vss:=[[iV a7.Zh,iV a7.N,.string a7.S]]) (xs:=[a7]) J (iJ _ _ _) J J (fun _ _ hr=> .cons J All2.nil)) ?_;rintro _ _ ⟨i2,i3,i4,rfl,rfl⟩;obtain ⟨g7,h⟩:=ac h;refine gD (az 3 0 J J aj J J EM tT J J g7) ?_;rintro _ _ ⟨g8,g9,h0,rfl,rfl⟩;refine Y ?_;exact ⟨_,_,⟨p7,p8++([a7]:List WX),p9,A7,n7,c7,g8,g9,h0,A9,n9,c9,h,J,J⟩,sA,cS [1,2,3,4] 5⟩
    refine Y ?_;obtain ⟨a8,b9,h⟩:=aa h;obtain ⟨f9,g0,b9⟩:=fI b9;refine gR (bS 0 J aE J J EM size39.out f9 g0)<|gR (dr (us:=[iV a8.Zh,iV a8.N,.string a8.S]) 0 J aE J b9 agg39.out (fun _ _ _ h=>by rw [show _=_ from h];rfl))<|gD (aw (R:=gQ) (vss:=[[iV a8.Zh,iV a8.N,.string a8.S]]) (xs:=[a8]) J (iJ _ _ _) J J (fun _ _ hr=> .cons J All2.nil)) ?_;rintro _ _ ⟨i5,i6,i7,rfl,rfl⟩;obtain ⟨h1,h⟩:=ac h;refine gD (az 4 0 J J aj J J EM tT J J h1) ?_;rintro _ _ ⟨h2,h3,h4,rfl,rfl⟩;refine oS ?_;refine Y ?_;exact ⟨_,_,⟨p7,p8,p9++([a8]:List WX),A7,n7,c7,A8,n8,c8,h2,h3,h4,h,J,J⟩,sA,cS [1,2,3,4] 5⟩
   rintro _ _ ⟨d3,d4,d6,e0,e1,e2,e3,e4,e5,e6,e7,e8,h,rfl,rfl⟩;refine Y ?_;obtain ⟨g1,h⟩:=ac h;refine gE (iO J J g1.1 g1.2)<|Y ?_;exact ⟨m6,_,_,Xb _,⟨d3,d4,d6,d0+1,e0,e1,e2,e3,e4,e5,e6,e7,e8,h,J,J⟩,sA,cS [0,1,2,3] 4⟩
  refine Y ?_;exact ⟨_,_,⟨p7,p8,p9,A7,n7,c7,A8,n8,c8,A9,n9,c9,h,J,J⟩,sA,cS [1,2,3] 4⟩
 rintro _ _ ⟨p3,p4,p5,A3,n3,c3,A4,n4,c4,A5,n5,c5,h,rfl,rfl⟩;refine Y ?_;refine gD (aw (R:=gQ) (vss:=[]) (xs:=[]) J (CK) J J (fun _ _ hr=>All2.nil)) ?_;rintro _ _ ⟨i8,i9,j0,rfl,rfl⟩;refine Y ?_;obtain ⟨j1,k,h⟩:=aa h;refine mP (bn 1 J)<|gD (dt (GM k) J (bI [1] [] [0,1,2,3] 4 J)) ?_;rintro _ _ ⟨_,⟨j2,j3,j4,rfl,rfl⟩,rfl⟩;obtain ⟨h5,h⟩:=ac h;refine gD (az 1 0 J J aE J J EM tT J J h5) ?_;rintro _ _ ⟨j5,j6,j7,rfl,rfl⟩;refine oS ?_;refine Y ?_;obtain ⟨h6,h⟩:=ac h;refine gD (az 1 3 J J aj J J EM tT J J h6) ?_;rintro _ _ ⟨j8,j9,k0,rfl,rfl⟩;refine Y ?_;obtain ⟨h7,h⟩:=ac h;refine gD (az 1 4 J J aj J J EM tT J J h7) ?_;rintro _ _ ⟨k1,k2,k3,rfl,rfl⟩;refine Y ?_;obtain rfl:=bJ h;exact nI J J (cS [1] 5) ⟨_,_,_,J,J⟩
def wO (N:Nat)(a6:W7):Option W7:=
 some a6
def te (N:Nat)(a6:W7->Int->Option W7)(a7:Int)(a8:W7):Option W7:=
 aI (in64 (a7+1)) (a6 a8 (a7+1))
def wN (N:Nat)(b0:W7->Int->Option W7)(b6:Int):Nat->W7->Int->Option W7
 |0,_,_=>none
 |b7+1,a7,a6=>(bif decide (0<a6) then ((aq a7 a6).bind fun b9=>some (decide (b9.Zh=0))) else (some false)).bind fun c8=>(bif c8 then (aI (in64 (a6 - 1)) ((aq a7 (a6 - 1)).bind fun c9=>some (decide (c9.Zh=0)))) else (some false)).bind fun d0=>(bif d0 then (aI (in64 (a6 - 1)) ((aq a7 (a6 - 1)).bind fun d1=>(aq a7 a6).bind fun d2=>some (decide (d2.N<d1.N)))) else (some false)).bind fun d3=>bif d3 then ((aq a7 a6).bind fun b5=>aI (in64 (a6 - 1)) ((aq a7 (a6 - 1)).bind fun a8=>(aq a7 a6).bind fun d4=>aI (in64 (a6 - 1)) ((aq (List.set a7 a6.toNat (⟨a8.Zh,a8.N,a8.S⟩:WX)) (a6 - 1)).bind fun d6=>aI (in64 (a6 - 1)) ((wN N b0 b6 b7) (List.set (List.set a7 a6.toNat (⟨a8.Zh,a8.N,a8.S⟩:WX)) ((a6 - 1).toNat) (⟨b5.Zh,b5.N,b5.S⟩:WX)) (a6 - 1))))) else (te N b0 b6 a7)
def lZ (N:Nat):Nat->W7->Int->Option W7
 |0,_,_=>none
 |a8+1,a6,a7=>bif decide (a7<(a6.length:Int)) then (wN N (lZ N a8) a7 N a6 a7) else (wO N a6)
def qk (a6:W7):Option W7:=
 (yy N a6).bind fun a7=>lZ N N a7 1
def td (N:Nat)(a0:W6):Nat->W7->Int->Option W7
 |0,_,_=>none
 |b0+1,a7,a6=>bif decide (a6<(a0.Zt.length:Int)) then ((aq a0.Zt a6).bind fun a8=>aI (bm (a7.length+([a8.Zo]:List WX).length)) (aI (in64 (a6+1)) ((td N a0 b0) (a7++([a8.Zo]:List WX)) (a6+1)))) else (qk N a7)
def uU (a0:W6)(p6:W7):Option W7:=
 (cE N).bind fun a6=>aI (bm (p6.length+([a6]:List WX).length)) (td N a0 N (p6++([a6]:List WX)) 0)
def tf (N:Nat)(a6:W7->Int->Option W7)(p9:Int)(a0:W6)(a7:W7):Option W7:=
 aI (in64 (p9+1)) (a6 a7 (p9+1))
def pJ (N:Nat)(a0:W6):Nat->W7->Int->Option W7
 |0,_,_=>none
 |m7+1,p8,p9=>bif decide (p9<(a0.Zs.length:Int)) then ((aq a0.Zs p9).bind fun a6=>bif !decide (a6.Zh=8) then (aI (bm (p8.length+([(⟨0,p9,⟨#[]⟩⟩:WX)]:List WX).length)) (tf N (pJ N a0 m7) p9 a0 (p8++([(⟨0,p9,⟨#[]⟩⟩:WX)]:List WX)))) else (tf N (pJ N a0 m7) p9 a0 p8)) else (uU N a0 p8)
def uo (a0:W6):Option W7:=
 pJ N a0 N ([]:List WX) 0
theorem Jw {N:Nat}{a0:W6}{r:W7}(h:uo N a0=some r):Okc Xk 52 [.agg #[.bool a0.Ext,.bool a0.Zz,W A1 n1 c1,W A2 n2 c2]] ([aQ A1 n1 c1 a0.Zs,qS A2 n2 c2 a0.Zt]) (fun u post=> ∃A0 n0 c0,u=W A0 n0 c0/\post=[jv A0 n0 c0 r]):=by
 refine ce Tryz.func52 ?_;intro B3;refine ab ?_
 refine sI (aw (R:=gQ) (vss:=[]) (xs:=[]) J (CK) J J (fun _ _ hr=>All2.nil)) fun A4 n4 c4=> ?_
 refine ak (fun s L=> ∃p6 A6 n6 c6,uU N a0 p6=some r/\s=[(1,pV B3 0),(2,W none 0 0),(3,W A6 n6 c6)]/\L=[jv A6 n6 c6 p6,aQ A1 n1 c1 a0.Zs,qS A2 n2 c2 a0.Zt,ah B3 35 (jX a0 A1 n1 c1 A2 n2 c2)]) ?_ ?_
 ·refine ab ?_;refine lK (fun m s L=> ∃(p8:W7) (p9:Int) (A8:Option Addr) (n8 c8:Nat),pJ N a0 m p8 p9=some r/\s=[(1,pV B3 0),(2,W none 0 0),(3,W A8 n8 c8),(4,iV p9)]/\L=[jv A8 n8 c8 p8,aQ A1 n1 c1 a0.Zs,qS A2 n2 c2 a0.Zt,ah B3 35 (jX a0 A1 n1 c1 A2 n2 c2)]) N ?_;rintro m7 _ _ ⟨p8,p9,A8,n8,c8,h,rfl,rfl⟩;rw [pJ.eq_2] at h;refine sZ ?_;refine gH J h ?_ ?_<;>intro h
  ·refine ab ?_;refine ak (fun s L=> ∃d6 e0 e1 e2,tf N (pJ N a0 m7) p9 a0 d6=some r/\s=[(1,pV B3 0),(2,W none 0 0),(3,W e0 e1 e2),(4,iV p9)]/\L=[jv e0 e1 e2 d6,aQ A1 n1 c1 a0.Zs,qS A2 n2 c2 a0.Zt,ah B3 35 (jX a0 A1 n1 c1 A2 n2 c2)]) ?_ ?_
   ·refine ab ?_;obtain ⟨k5,e3,e4,i7,h⟩:=ba h;refine ab ?_;refine JX (nu 1 J aE J (toNat_lt e3 e4) rT) ?_;refine gH J h ?_ ?_<;>intro h
    ·refine ab ?_;refine gD (aw (R:=gQ) (vss:=[[iV 0,iV p9,.string (⟨#[]⟩)]]) (xs:=[(⟨0,p9,⟨#[]⟩⟩:WX)]) J (iJ _ _ _) J J (fun _ _ hr=> .cons J All2.nil)) ?_;rintro _ _ ⟨k6,k7,k8,rfl,rfl⟩;obtain ⟨i8,h⟩:=ac h
     refine sI (az 1 0 J J aj J J EM tT J J i8) fun i9 j0 j1=> ?_
     exact ⟨_,_,⟨p8++([(⟨0,p9,⟨#[]⟩⟩:WX)]:List WX),i9,j0,j1,h,J,J⟩,sA,cS [1,2,3,4] 5⟩
    exact jY
   rintro _ _ ⟨d6,e0,e1,e2,h,rfl,rfl⟩;refine ab ?_;obtain ⟨k9,h⟩:=ac h;exact lY
  exact jY
 rintro _ _ ⟨p6,A6,n6,c6,h,rfl,rfl⟩;refine ab ?_;obtain ⟨d3,k,h⟩:=aa h;refine gV (oR (iW k)) ?_;refine gD (aw (R:=gQ) (vss:=[[iV d3.Zh,iV d3.N,.string d3.S]]) (xs:=[d3]) J (iJ _ _ _) J J (fun _ _ hr=> .cons J All2.nil)) ?_;rintro _ _ ⟨l0,l1,l2,rfl,rfl⟩;obtain ⟨j2,h⟩:=ac h
 refine sI (az 1 0 J J aj J J EM tT J J j2) fun l3 l4 l5=> ?_
 refine ak (fun s L=> ∃e5 e6 e7 e8,qk N e5=some r/\s=[(2,W none 0 0),(3,W e6 e7 e8)]/\L=[jv e6 e7 e8 e5]) ?_ ?_
 ·refine ab ?_;refine lK (fun m s L=> ∃(e9:W7) (f0:Int) (f1:Option Addr) (f2 f3:Nat),td N a0 m e9 f0=some r/\s=[(1,pV B3 0),(2,W none 0 0),(3,W f1 f2 f3),(5,iV f0)]/\L=[jv f1 f2 f3 e9,aQ A1 n1 c1 a0.Zs,qS A2 n2 c2 a0.Zt,ah B3 35 (jX a0 A1 n1 c1 A2 n2 c2)]) N ?_;rintro l6 _ _ ⟨e9,f0,f1,f2,f3,h,rfl,rfl⟩;rw [td.eq_2] at h;refine sZ ?_;refine gH J h ?_ ?_<;>intro h
  ·refine sY ?_;obtain ⟨i3,f4,f6,j3,h⟩:=ba h;refine ab ?_;refine JX (nu 2 J aE J (toNat_lt f4 f6) EJ) ?_;refine gD (aw (R:=gQ) (vss:=[(jw i3.Zo)]) (xs:=[i3.Zo]) J (iJ _ _ _) J J (fun _ _ hr=> .cons J All2.nil)) ?_;rintro _ _ ⟨l7,l8,l9,rfl,rfl⟩;obtain ⟨j4,h⟩:=ac h
   refine sI (az 1 0 J J aj J J EM tT J J j4) fun m0 m1 m2=> ?_
   obtain ⟨m3,h⟩:=ac h;exact lY
  exact jY
 rintro _ _ ⟨e5,e6,e7,e8,h,rfl,rfl⟩
 refine LD h (fun _ k=>Iu k) fun m4 m5 m6 m8 h=> ?_
 refine ak (fun s L=> ∃f9 g0 g1 g2,wO N f9=some r/\s=[(2,W none 0 0),(3,W g0 g1 g2)]/\L=[jv g0 g1 g2 f9]) ?_ ?_
 ·refine ab ?_;refine lK (fun m s L=> ∃(g3:W7) (a6:Int) (g4:Option Addr) (g5 g6:Nat),lZ N m g3 a6=some r/\s=[(2,W none 0 0),(3,W g4 g5 g6),(6,iV a6)]/\L=[jv g4 g5 g6 g3]) N ?_;rintro i4 _ _ ⟨g3,a6,g4,g5,g6,h,rfl,rfl⟩;rw [lZ.eq_2] at h;refine sZ ?_;refine gH J h ?_ ?_<;>intro h
  ·refine ab ?_;refine ak (fun s L=> ∃g7 g8 g9 h0,te N (lZ N i4) a6 g7=some r/\s=[(2,W none 0 0),(3,W g8 g9 h0),(6,iV a6)]/\L=[jv g8 g9 h0 g7]) ?_ ?_
   ·refine ab ?_;refine lK (fun m s L=> ∃(h1:W7) (h2:Int) (h3:Option Addr) (h4 h5:Nat),wN N (lZ N i4) a6 m h1 h2=some r/\s=[(2,W none 0 0),(3,W h3 h4 h5),(6,iV a6),(7,iV h2)]/\L=[jv h3 h4 h5 h1]) N ?_;rintro m9 _ _ ⟨h1,h2,h3,h4,h5,h,rfl,rfl⟩;rw [wN.eq_2] at h;refine aB<|dY [0,1,2] ?_
    refine yJ [3,4,5,6,7,8,9] 23 60 67 h (fun _ h6 h rest=> ?_) (fun _ h6 h rest=> ?_) fun n9 h=> ?_
    ·refine yY [3,4] ?_;obtain ⟨o0,b5,b6,j5,h⟩:=ba h;refine jK 5 J O (bS 0 J aj J J EM size39.out b5 b6) (bW h6 J) J<|jK 6 J O (nu 0 J aj J (toNat_lt b5 b6) EK) (bW h6 J) J<|yY [7,8,9] ?_;exact yS rest h
    ·refine yY [3,4,5,6,7,8,9] ?_;exact yS rest h
    refine zY [10] ?_
    refine yJ [11,12,13,14,15,16,17,18] 14 68 76 h (fun _ d4 h rest=> ?_) (fun _ d4 h rest=> ?_) fun o1 h=> ?_
    ·refine yY [11,12] ?_;obtain ⟨i5,h⟩:=ac h;refine il 13 J O (vJ J J i5.1 i5.2) (bW d4 J) J ?_;obtain ⟨o2,b7,b9,j6,h⟩:=ba h;refine jK 14 J O (bS 0 J aj J J EM size39.out b7 b9) (bW d4 J) J<|jK 15 J O (nu 0 J aj J (toNat_lt b7 b9) EK) (bW d4 J) J<|yY [16,17,18] ?_;exact yS rest h
    ·refine yY [11,12,13,14,15,16,17,18] ?_;exact yS rest h
    refine zY [19] ?_
    refine yJ [20,21,22,23,24,25,26,27,28,29,30,31,32] 0 77 90 h (fun _ a7 h rest=> ?_) (fun _ a7 h rest=> ?_) fun p1 h=> ?_
    ·refine yY [20,21] ?_;obtain ⟨i6,h⟩:=ac h;refine il 22 J O (vJ J J i6.1 i6.2) (bW a7 J) J ?_;obtain ⟨p2,c9,d0,j7,h⟩:=ba h;refine jK 23 J O (bS 0 J aj J J EM size39.out c9 d0) (bW a7 J) J<|jK 24 J O (qi 0 J aj J (toNat_lt c9 d0) xd) (bW a7 J) J<|yY [25,26,27] ?_;obtain ⟨p3,d1,d2,j8,h⟩:=ba h;refine jK 28 J O (bS 0 J aj J J EM size39.out d1 d2) (bW a7 J) J<|jK 29 J O (qi 0 J aj J (toNat_lt d1 d2) xd) (bW a7 J) J<|yY [30,31,32] ?_;exact yS rest h
    ·refine yY [20,21,22,23,24,25,26,27,28,29,30,31,32] ?_;exact yS rest h
    refine aY O<|dk h (fun h=> ?_) (fun h=> ?_)
    ·refine sY ?_;obtain ⟨a8,j9,k0,k1,h⟩:=ba h
     refine cl fun p4=> ?_
     obtain ⟨p5,h⟩:=ac h;refine ab ?_;obtain ⟨b0,k2,k3,k4,h⟩:=ba h;refine ab ?_;obtain ⟨p7,h7,h8,h9,h⟩:=ba h;refine ab ?_;refine GB (bZ (us:=[iV b0.Zh,iV b0.N,.string b0.S]) (z:=(⟨b0.Zh,b0.N,b0.S⟩:WX)) 1 J J J J size39.out J (toNat_lt h7 h8) J (fun S w vs xk hk hr ho=>by obtain rfl:=YX (hk.symm.trans h9);rw [show _=_ from hr];rfl)) ?_;obtain ⟨q0,h⟩:=ac h;refine ab ?_;obtain ⟨q1,i0,i1,i2,h⟩:=ba h;refine ab ?_;refine GB (bZ (us:=[iV a8.Zh,iV a8.N,.string a8.S]) (z:=(⟨a8.Zh,a8.N,a8.S⟩:WX)) 1 J J J J size39.out J (toNat_lt i0 i1) J (fun S w vs xk hk hr ho=>by obtain rfl:=YX (hk.symm.trans i2);rw [show _=_ from hr];rfl)) ?_;obtain ⟨q2,h⟩:=ac h;exact lY
    exact jY
   rintro _ _ ⟨g7,g8,g9,h0,h,rfl,rfl⟩;refine ab ?_;obtain ⟨q3,h⟩:=ac h;exact lY
  exact jY
 rintro _ _ ⟨f9,g0,g1,g2,h,rfl,rfl⟩;exact eY
def xm (a0:WP)(a1:WZ):Option Bool:=
 (ca N a0 a1).bind fun y5=>some y5.2
theorem Kl {N:Nat}{a0:WP}{a1:WZ}{r:Bool}(h:xm N a0 a1=some r){B1 B2 B3:Nat}:Okc Xk 53 [pV B1 0,(aF a1)] ([pDWorld B1 B2 B3 a0]) (fun u post=>u=.bool r/\post=[]):=by
 refine ce Tryz.func53 ?_;intro B4
 refine G0 h (fun _ k=>dH k) fun y5 A6 n6 c6 A7 n7 c7 h=> ?_
 intro B8;exact eY
def vt (a0:WP)(a1:WZ):Option W8:=
 (ca N a0 a1).bind fun y5=>bif !y5.2 then (some []) else (some y5.1.Zi)
theorem I3 {N:Nat}{a0:WP}{a1:WZ}{r:W8}(h:vt N a0 a1=some r){B1 B2 B3:Nat}:Okc Xk 55 [pV B1 0,(aF a1)] ([pDWorld B1 B2 B3 a0]) (fun u post=> ∃A0 n0 c0,u=W A0 n0 c0/\post=[bj A0 n0 c0 r]):=by
 refine ce Tryz.func55 ?_;intro B4
 refine G0 h (fun _ k=>dH k) fun y5 A6 n6 c6 A7 n7 c7 h=> ?_
 intro B8;refine sY ?_;refine gH J h ?_ ?_<;>intro h
 ·refine ab ?_;obtain rfl:=bJ h;exact nI J J ((bT ay 28 _).trans (cS [0] 6)) ⟨_,_,_,J,J⟩
 exact eY
def va (N:Nat):Option Bool:=
 some true
def mV (N:Nat)(a0 a1:W8):Nat->Int->Option Bool
 |0,_=>none
 |m5+1,p6=>bif decide (p6<(a0.length:Int)) then ((aq a0 p6).bind fun x8=>(aq a1 p6).bind fun x9=>bif !decide (x8=x9) then (some false) else (aI (in64 (p6+1)) ((mV N a0 a1 m5) (p6+1)))) else (va N)
def nQ (a0 a1:W8):Option Bool:=
 bif !decide ((a0.length:Int)=(a1.length:Int)) then (some false) else (mV N a0 a1 N 0)
theorem BQ {N:Nat}{a0:W8}{r:Bool}(h:nQ N a0 a1=some r):Okc Xk 54 [W A1 n1 c1,W A2 n2 c2] ([aQ A1 n1 c1 a0,aQ A2 n2 c2 a1]) (fun u post=>u=.bool r/\post=[]):=by
 refine ce Tryz.func54 ?_;refine sZ ?_;refine gH J h ?_ ?_<;>intro h
 ·exact eY
 refine ab ?_;refine ak (fun s L=>va N=some r/\s=[(4,.bool false)]/\L=[]) ?_ ?_
 ·refine ab ?_;refine lK (fun m s L=> ∃(p6:Int),mV N a0 a1 m p6=some r/\s=[(0,W A1 n1 c1),(1,W A2 n2 c2),(4,.bool false),(5,iV p6)]/\L=[aQ A1 n1 c1 a0,aQ A2 n2 c2 a1]) N ?_;rintro m5 _ _ ⟨p6,h,rfl,rfl⟩;rw [mV.eq_2] at h;refine sZ ?_;refine gH J h ?_ ?_<;>intro h
  ·refine sY ?_;refine dY [] ?_;refine ab ?_;obtain ⟨x8,a6,a7,a8,h⟩:=ba h;refine ab ?_;obtain ⟨x9,b0,b5,b6,h⟩:=ba h;refine ab ?_;refine zE 8 J (zI (x:=x8) (y:=x9) J J) ?_;refine dk h ?_ ?_<;>intro h
   ·exact eY
   refine ab ?_;obtain ⟨b7,h⟩:=ac h;exact lY
  exact jY
 rintro _ _ ⟨h,rfl,rfl⟩;exact eY
def Ad (N:Nat):Option Bool:=
 some true
def rL (N:Nat)(a7:W7)(a2:WX)(a8:W7)(a0:WP)(a1:W6)(b0:WZ):Nat->Int->Option Bool
 |0,_=>none
 |b9+1,a6=>bif decide (a6<(((([]:List WX)++a7)++([a2]:List WX)).length:Int)) then ((aq a8 a6).bind fun b5=>(lI N a0 b0 b5).bind fun b6=>(ll N a1 b5).bind fun b7=>(bif !decide (b6.1=b7.1) then (some true) else (some (!(b6.2==b7.2)))).bind fun c8=>bif c8 then (some false) else (aI (in64 (a6+1)) ((rL N a7 a2 a8 a0 a1 b0 b9) (a6+1)))) else (Ad N)
def vC (a6:W7)(a2:WX)(a0:WP)(a1:W6)(a7:WZ)(a8:W7):Option Bool:=
 rL N a6 a2 a8 a0 a1 a7 N 0
def np (a0:WP)(a1:W6)(a2:WX):Option Bool:=
 (eO N a0).bind fun y8=>aI (in64 (y8 - 1)) ((jd N a0 (y8 - 1)).bind fun a6=>(uo N a1).bind fun a7=>(pT N a0 a6).bind fun a8=>(bif !decide (a8=(a1.Zs.length:Int)) then (some true) else ((xm N a0 a6).bind fun b0=>some (!b0))).bind fun b5=>(bif b5 then (some true) else ((mi N a0 a6).bind fun b6=>(rl N b6 a7).bind fun b7=>some (!b7))).bind fun b9=>(bif b9 then (some true) else ((vt N a0 a6).bind fun c8=>(nQ N c8 a1.Zs).bind fun c9=>some (!c9))).bind fun d0=>bif d0 then (some false) else (aI (bm (([]:List WX).length+a7.length)) (aI (bm ((([]:List WX)++a7).length+([a2]:List WX).length)) (vC N a7 a2 a0 a1 a6 ((([]:List WX)++a7)++([a2]:List WX))))))
theorem Bn {N:Nat}{a0:WP}{a1:W6}{a2:WX}{r:Bool}(h:np N a0 a1 a2=some r){B1 B2 B3:Nat}:Okc Xk 20 [pV B1 0,.agg #[.bool a1.Ext,.bool a1.Zz,W A4 n4 c4,W A5 n5 c5],(eI a2)] ([pDWorld B1 B2 B3 a0,aQ A4 n4 c4 a1.Zs,qS A5 n5 c5 a1.Zt,sG]) (fun u post=>u=.bool r/\post=[]):=by
 refine ce Tryz.func20 ?_;intro B6
 refine cl fun B7=> ?_
 obtain ⟨y8,k,h⟩:=aa h;refine gV (oR (ra k)) ?_;obtain ⟨q9,h⟩:=ac h;refine ab ?_;obtain ⟨a7,k,h⟩:=aa h;refine Ej (oR (sQ k)) ?_;intro d3;refine ab ?_;obtain ⟨d4,k,h⟩:=aa h
 refine sI (oR (Jw k)) fun g7 g8 g9=> ?_
 refine aB<|dY [0,1,3,4,5] ?_;obtain ⟨h0,k,h⟩:=aa h;refine zD 2 J (oR (xl k)) ?_;rintro _ _ ⟨_,⟨rfl,rfl⟩,rfl⟩;refine ⟨_,ae _,ae _,?_⟩;refine zY [6,7] ?_;obtain ⟨e8,b5,h⟩:=aa h;refine uG (fun l=>(((((l.setIfInBounds 8 true).setIfInBounds 9 true).setIfInBounds 10 true).setIfInBounds 11 true).setIfInBounds 12 true)) 17 34 e8 (fun rest=> ?_) ?_
 ·clear h;refine xo 29 J (fun b0=> ?_) (fun b0=> ?_)
  ·have h:=cZ b0 b5;refine fc 8 J O (qV b0 J) J<|fc 9 J O (qV b0 J) J<|fc 10 J O (qV b0 J) J<|fc 11 J O (qV b0 J) J<|zE 12 J (gv b0 J J) ?_;obtain rfl:=bJ h;exact oF rest (jp J (au (au (au (au (au bK J) J) J) J) J)) (ae _) (ae _)
  have h:=db b0 b5;refine il 8 J O (ap J) (cG b0 J) J<|jK 9 J O (aD (us:=[iV a7.Zh,iV a7.N,.string a7.S]) 1 J J agg28.out J) (cG b0 J) J ?_;obtain ⟨h1,k,h⟩:=aa h;refine kI 10 J O (oR (Kl k)) J (cG b0 J) J ?_;rintro _ _ ⟨_,⟨rfl,rfl⟩,rfl⟩;refine ⟨_,ae _,ae _,?_⟩;refine il 11 J O (Bc J) (cG b0 J) J<|zE 12 J (iw b0 J J) ?_;obtain rfl:=bJ h;exact oF rest (jp J (au (au (au (au (au bK J) J) J) J) J)) (ae _) (ae _)
 refine zY [13] ?_;obtain ⟨e9,b6,h⟩:=aa h;refine uG (fun l=>(((((((l.setIfInBounds 14 true).setIfInBounds 15 true).setIfInBounds 17 true).setIfInBounds 16 true).setIfInBounds 18 true).setIfInBounds 19 true).setIfInBounds 20 true)) 9 42 e9 (fun rest=> ?_) ?_
 ·clear h;refine xo 35 J (fun a8=> ?_) (fun a8=> ?_)
  ·have h:=cZ a8 b6;refine fc 14 J O (qV a8 J) J<|fc 15 J O (qV a8 J) J<|fc 17 J O (qV a8 J) J<|fc 16 J O (qV a8 J) J<|fc 18 J O (qV a8 J) J<|fc 19 J O (qV a8 J) J<|zE 20 J (gv a8 J J) ?_;obtain rfl:=bJ h;exact oF rest (jp J (au (au (au (au (au (au (au bK J) J) J) J) J) J) J)) (ae _) (ae _)
  have h:=db a8 b6;refine il 14 J O (ap J) (cG a8 J) J<|jK 15 J O (aD (us:=[iV a7.Zh,iV a7.N,.string a7.S]) 1 J J agg28.out J) (cG a8 J) J<|il 17 J O (ap J) (cG a8 J) J ?_;obtain ⟨h2,k,h⟩:=aa h;refine kI 16 J O (oR (vO k)) J (cG a8 J) J ?_;rintro _ _ ⟨_,⟨h3,h4,h5,rfl,rfl⟩,rfl⟩;refine bL ?_;obtain ⟨h6,k,h⟩:=aa h;refine kI 18 J O (oR (yw k)) J (cG a8 J) J ?_;rintro _ _ ⟨_,⟨rfl,rfl⟩,rfl⟩;refine bL ?_;refine il 19 J O (Bc J) (cG a8 J) J<|zE 20 J (iw a8 J J) ?_;obtain rfl:=bJ h;exact oF rest (jp J (au (au (au (au (au (au (au bK J) J) J) J) J) J) J)) (cS [1,2,3,4,5,6,7,8] 9) (ae _)
 refine zY [21] ?_;obtain ⟨f0,b7,h⟩:=aa h;refine uG (fun l=>((((((((l.setIfInBounds 22 true).setIfInBounds 23 true).setIfInBounds 25 true).setIfInBounds 26 true).setIfInBounds 24 true).setIfInBounds 27 true).setIfInBounds 28 true).setIfInBounds 29 true)) 0 51 f0 (fun rest=> ?_) ?_
 ·clear h;refine xo 43 J (fun a6=> ?_) (fun a6=> ?_)
  ·have h:=cZ a6 b7;refine fc 22 J O (qV a6 J) J<|fc 23 J O (qV a6 J) J<|fc 25 J O (qV a6 J) J<|fc 26 J O (qV a6 J) J<|fc 24 J O (qV a6 J) J<|fc 27 J O (qV a6 J) J<|fc 28 J O (qV a6 J) J<|zE 29 J (gv a6 J J) ?_;obtain rfl:=bJ h;exact oF rest (jp J (au (au (au (au (au (au (au (au bK J) J) J) J) J) J) J) J)) (ae _) (ae _)
  have h:=db a6 b7;refine il 22 J O (ap J) (cG a6 J) J<|jK 23 J O (aD (us:=[iV a7.Zh,iV a7.N,.string a7.S]) 1 J J agg28.out J) (cG a6 J) J<|il 25 J O (kK J EL) (cG a6 J) J<|jK 26 J O (cD 3 J J sj J) (cG a6 J) J ?_;obtain ⟨h7,k,h⟩:=aa h;refine kI 24 J O (oR (I3 k)) J (cG a6 J) J ?_;rintro _ _ ⟨_,⟨h8,h9,i0,rfl,rfl⟩,rfl⟩;refine bL ?_;obtain ⟨i1,k,h⟩:=aa h;refine kI 27 J O (oR (BQ k)) J (cG a6 J) J ?_;rintro _ _ ⟨_,⟨rfl,rfl⟩,rfl⟩;refine bL ?_;refine il 28 J O (Bc J) (cG a6 J) J<|zE 29 J (iw a6 J J) ?_;obtain rfl:=bJ h;exact oF rest (jp J (au (au (au (au (au (au (au (au bK J) J) J) J) J) J) J) J)) (cS [1,2,3,4,5,6,7,8] 9) (ae _)
 refine aY O<|dk h (fun h=> ?_) (fun h=> ?_)
 ·exact eY
 refine ab ?_;refine ak (fun s L=>Ad N=some r/\s=[(6,.bool false)]/\L=[sG]) ?_ ?_
 ·refine ak (fun s L=> ∃b9 c8 c9 d0,vC N d4 a2 a0 a1 a7 b9=some r/\s=[(0,pV B1 0),(4,pV B6 0),(6,.bool false),(7,pV d3 0),(57,W c8 c9 d0),(58,iV (((([]:List WX)++d4)++([a2]:List WX)).length:Int)),(59,iV 0)]/\L=[jv c8 c9 d0 b9,pDWorld B1 B2 B3 a0,aQ A4 n4 c4 a1.Zs,qS A5 n5 c5 a1.Zt,ah B6 35 (jX a1 A4 n4 c4 A5 n5 c5),ah d3 28 [iV a7.Zh,iV a7.N,.string a7.S],sG]) ?_ ?_
  ·refine be O _ (ae _)<|zY [1,3,7] ?_;refine mO 0 4 O ?_ ?_
   ·refine bB J (aw (R:=gQ) (vss:=[]) (xs:=[]) J (CK) J J (fun _ _ hr=>All2.nil)) J J J ?_;rintro _ _ ⟨f1,f2,f3,rfl,rfl⟩;refine bL ?_;refine mO 2 4 O ?_ ?_
    ·obtain ⟨f4,h⟩:=ac h;refine bB J (az 0 1 J J aj J J EM tT J J f4) J J J ?_;rintro _ _ ⟨i2,i3,i4,rfl,rfl⟩;refine bL ?_;refine bz ?_
     refine zk 4 J (aw (R:=gQ) (vss:=[(jw a2)]) (xs:=[a2]) J (iJ _ _ _) J J (fun _ _ hr=> .cons J All2.nil)) fun e2 e3 e4=> ?_
     obtain ⟨d1,h⟩:=ac h
     refine zk 5 J (az 1 0 J J aj J J EM tT J J d1) fun e5 e6 e7=> ?_
     refine zD 6 J (sR (jO 1 J aj J EM)) ?_;rintro _ _ ⟨rfl,rfl⟩;refine bL ?_;exact aY O<|jY
    refine bB J (aw (R:=gQ) (vss:=[(jw a2)]) (xs:=[a2]) J (iJ _ _ _) J J (fun _ _ hr=> .cons J All2.nil)) J J J ?_;rintro _ _ ⟨f6,f9,g0,rfl,rfl⟩;refine bL ?_;obtain ⟨e0,h⟩:=ac h
    refine zk 2 J (az 1 2 J J aj J J EM tT J J e0) fun e2 e3 e4=> ?_
    obtain ⟨d1,h⟩:=ac h
    refine zk 5 J (az 1 0 J J aj J J EM tT J J d1) fun e5 e6 e7=> ?_
    refine zD 6 J (sR (jO 1 J aj J EM)) ?_;rintro _ _ ⟨rfl,rfl⟩;refine bL ?_;exact aY O<|jY
   refine bB J (aw (R:=gQ) (vss:=[(jw a2)]) (xs:=[a2]) J (iJ _ _ _) J J (fun _ _ hr=> .cons J All2.nil)) J J J ?_;rintro _ _ ⟨f1,f2,f3,rfl,rfl⟩;refine bL ?_
   refine zk 0 J (aw (R:=gQ) (vss:=[]) (xs:=[]) J (CK) J J (fun _ _ hr=>All2.nil)) fun f6 f9 g0=> ?_
   obtain ⟨e0,h⟩:=ac h
   refine zk 2 J (az 0 2 J J aj J J EM tT J J e0) fun e2 e3 e4=> ?_
   obtain ⟨d1,h⟩:=ac h
   refine zk 5 J (az 0 1 J J aj J J EM tT J J d1) fun e5 e6 e7=> ?_
   refine zD 6 J (sR (jO 0 J aj J EM)) ?_;rintro _ _ ⟨rfl,rfl⟩;refine bL ?_;exact aY O<|jY
  rintro _ _ ⟨b9,c8,c9,d0,h,rfl,rfl⟩;refine ab ?_;refine im (fun m s L=> ∃e1,rL N d4 a2 b9 a0 a1 a7 m e1=some r/\s=[(0,pV B1 0),(4,pV B6 0),(6,.bool false),(7,pV d3 0),(57,W c8 c9 d0),(58,iV (((([]:List WX)++d4)++([a2]:List WX)).length:Int)),(59,iV e1)]/\L=[jv c8 c9 d0 b9,pDWorld B1 B2 B3 a0,aQ A4 n4 c4 a1.Zs,qS A5 n5 c5 a1.Zt,ah B6 35 (jX a1 A4 n4 c4 A5 n5 c5),ah d3 28 [iV a7.Zh,iV a7.N,.string a7.S],sG]) N _ _ ⟨0,h,J,J⟩ sA (cS [0,1,2,3,4,5,6] 7) ?_;rintro (_|i5) _ _ ⟨e1,h,rfl,rfl⟩
  ·exact aL h
  rw [rL.eq_2] at h;refine ab ?_;refine aB<|gH J h (fun h=> ?_) (fun h=> ?_)
  ·refine sY ?_;obtain ⟨i6,g1,g2,g3,h⟩:=ba h
   refine cl fun i7=> ?_
   obtain ⟨g4,k,h⟩:=aa h;refine Ej (oR (xj k)) ?_;intro i8;refine ab ?_;obtain ⟨g5,k,h⟩:=aa h;refine Ej (oR (um k)) ?_;intro i9;refine ab ?_;refine fS (Ob (x:=g4.1) (y:=g5.1) J J) ?_;obtain ⟨g6,d2,h⟩:=aa h;refine ii 4 83 g6 ?_ ?_
   ·clear h;refine fU 79 J (fun d6=> ?_) (fun d6=> ?_)
    ·have h:=cZ d6 d2;exact gY
    have h:=db d6 d2;refine ab ?_;exact eP (PN J J WE) J (cG d6 J) J<|gY
   refine dk h ?_ ?_<;>intro h
   ·exact eY
   refine ab ?_;obtain ⟨j0,h⟩:=ac h;exact lY
  exact jY
 rintro _ _ ⟨h,rfl,rfl⟩;exact eY
theorem xV {r:Bool}: ∀v post,((fun (u:Value) (post:Xi)=>u=.bool r/\post=[])) v post-> ∀c∈post,iS c:=by
 rintro _ _ ⟨rfl,rfl⟩;exact ax
def t8 (a6:WP)(a7 a8:Bool)(b0:W8)(b5:Xh):Option Bool:=
 (cE N).bind fun b6=>(np N a6 (⟨a7,a8,b0,b5⟩:W6) b6).bind fun b7=>(bif b7 then ((pt N).bind fun b9=>some b9) else (some false)).bind fun c8=>some c8
def t7 (a6:Int->WP->Bool->Bool->W8->Xh->Option Bool)(a7:Int)(a1:List WQ)(d1:W8)(d2:Xh)(d3 d4 a8 b0:Bool)(b5:W8)(b6:Xh)(b9:Bool)(b7:WP):Option Bool:=
 (bif !b9 then (some true) else ((aq a1 a7).bind fun c8=>(np N b7 (⟨a8,b0,b5,b6⟩:W6) c8.K).bind fun c9=>some (!c9))).bind fun d0=>bif d0 then (some false) else (aI (in64 (a7+1)) (a6 (a7+1) b7 a8 b0 b5 b6))
def jo (N:Nat)(a1:List WQ):Nat->Int->WP->Bool->Bool->W8->Xh->Option Bool
 |0,_,_,_,_,_,_=>none
 |b9+1,a7,b7,a8,b0,b5,b6=>(bif decide (a7<(a1.length:Int)) then (some (decide (a7<40))) else (some false)).bind fun c8=>bif c8 then ((aq a1 a7).bind fun c9=>(t6 N b7 (⟨a8,b0,b5,b6⟩:W6) c9).bind fun a6=>t7 N (jo N a1 b9) a7 a1 b5 b6 a8 b0 a6.1.Ext a6.1.Zz a6.1.Zs a6.1.Zt a6.2.1 a6.2.2) else (t8 N b7 a8 b0 b5 b6)
def qa (a0:W8)(a1:List WQ):Option Bool:=
 (tY N a0).bind fun a7=>Er a7 (fun y16_0=>some false) (fun y16_1=>bif !y16_1.2.2 then (some false) else ((gl N y16_1.1 y16_1.2.1).bind fun a8=>(zv N a0).bind fun a6=>jo N a1 N 0 a8.2 a6.Ext a6.Zz a6.Zs a6.Zt))
def mQ (N:Nat)(a0:W8)(a1:List WQ):Nat->Int->Option Bool
 |0,_=>none
 |m8+1,p9=>bif decide (p9<(a0.length:Int)) then ((aq a0 p9).bind fun a6=>(nl N a6).bind fun a7=>bif !a7 then ((pt N).bind fun a8=>some a8) else (aI (in64 (p9+1)) ((mQ N a0 a1 m8) (p9+1)))) else (qa N a0 a1)
def nL (a0:W8)(a1:List WQ):Option Bool:=
 (bif decide (200<(a0.length:Int)) then (some true) else ((AB N a1).bind fun y4=>some (!y4))).bind fun b3=>bif b3 then ((pt N).bind fun y6=>some y6) else (mQ N a0 a1 N 0)
theorem Bo {N:Nat}{a0:W8}{a1:List WQ}{r:Bool}(h:nL N a0 a1=some r):Okc Xk 5 [W A1 n1 c1,W A2 n2 c2] ([aQ A1 n1 c1 a0,iy vX (W A2 n2 c2) a1,sG]) (fun u post=>u=.bool r/\post=[]):=by
 refine Ca WI J J ?_;simp only [qI];refine Y ?_;refine aB<|Y ?_;refine gR (jO 0 J aE J t9)<|Y ?_;obtain ⟨b3,k3,h⟩:=aa h;refine ii 4 20 b3 ?_ ?_
 ·clear h;refine fU 16 J (fun g3=> ?_) (fun g3=> ?_)
  ·have h:=cZ g3 k3;refine Y ?_;obtain rfl:=bJ h;exact bD sA (cS [0,1,2] 3)
  have h:=db g3 k3;refine Y ?_;obtain ⟨y4,k,h⟩:=aa h;refine gU (aX (Je k) J (t5 (cQ (i:=1) J J) ax) GG) (cG g3 J)<|Y ?_;obtain rfl:=bJ h;exact bD sA (cS [0,1,2] 3)
 refine Y ?_;refine gH J h ?_ ?_<;>intro h
 ·refine Y ?_;obtain ⟨y6,k,h⟩:=aa h;refine gV (aX (xU k) J (t5 (cQ (i:=2) J J) ax) vy)<|Y ?_;obtain rfl:=bJ h;exact nI J J (cS [] 3) ⟨J,J⟩
 refine Y ?_;refine ak (fun s L=>qa N a0 a1=some r/\s=[(0,W A1 n1 c1),(1,W A2 n2 c2),(4,.bool false)]/\L=[aQ A1 n1 c1 a0,iy vX (W A2 n2 c2) a1,sG]) ?_ ?_
 ·refine Y ?_;refine gR (jO 0 J aE J t9)<|Y ?_;refine im (fun m s L=> ∃p9,mQ N a0 a1 m p9=some r/\s=[(0,W A1 n1 c1),(1,W A2 n2 c2),(4,.bool false),(23,iV (a0.length:Int)),(24,iV p9)]/\L=[aQ A1 n1 c1 a0,iy vX (W A2 n2 c2) a1,sG]) N _ _ ⟨0,h,J,J⟩ sA (cS [0,1,2] 3) ?_;rintro (_|m8) _ _ ⟨p9,h,rfl,rfl⟩
  ·exact aL h
  rw [mQ.eq_2] at h;refine Y ?_;refine aB<|gH J h (fun h=> ?_) (fun h=> ?_)
  ·refine Y ?_;refine aB<|Y ?_;obtain ⟨i4,e7,h⟩:=aa h;obtain ⟨i5,i6,e7⟩:=fI e7;refine gR (bS 0 J aE J J t9 size28.out i5 i6)<|gR (dr (us:=[iV i4.Zh,iV i4.N,.string i4.S]) 0 J aE J e7 agg28.out (fun _ _ _ h=>by rw [show _=_ from h];rfl)) ?_;obtain ⟨l6,k,h⟩:=aa h;refine gV (aX (r7 k) J (ax) GF)<|Y ?_;refine gH J h ?_ ?_<;>intro h
   ·refine Y ?_;obtain ⟨l7,k,h⟩:=aa h;refine gV (aX (xU k) J (t5 (cQ (i:=2) J J) ax) vy)<|Y ?_;obtain rfl:=bJ h;exact nI J J (cS [] 3) ⟨J,J⟩
   refine Y ?_;obtain ⟨k4,h⟩:=ac h;refine gE (iO J J k4.1 k4.2)<|Y ?_;exact ⟨m8,_,_,Xb _,⟨p9+1,h,J,J⟩,sA,cS [0,1,2] 3⟩
  refine Y ?_;exact ⟨_,_,⟨h,J,J⟩,sA,cS [0,1,2] 3⟩
 rintro _ _ ⟨h,rfl,rfl⟩;refine Y ?_;obtain ⟨k7,f9,h⟩:=aa h;rcases k7 with y16_0|y16_1
 ·replace h:=G9 h;refine gV (dt (iT f9) J (bI [0] [] [0,1,2] 3 J))<|Y ?_
  refine gB (bF zero28.out J) fun l8=>Y ?_
  refine gW (ao (us:=[iV y16_0.Zh,iV y16_0.N,.string y16_0.S]) (cs':=[iV y16_0.Zh,iV y16_0.N,.string y16_0.S]) 0 J J J J size28.out J J J)<|Y ?_;refine aB<|Y ?_;refine jE J<|Y ?_;obtain rfl:=bJ h;exact nI J J (cS [] 4) ⟨J,J⟩
 replace h:=G8 h;refine gD (dt (iT f9) J (bI [0] [] [0,1,2] 3 J)) ?_;rintro _ _ ⟨_,⟨f1,i7,i8,rfl,rfl⟩,rfl⟩;refine oS ?_;refine Y ?_
 refine gB (bF zero28.out J) fun l9=>Y ?_
 refine gW (ao (us:=[iV y16_1.2.1.Zh,iV y16_1.2.1.N,.string y16_1.2.1.S]) (cs':=[iV y16_1.2.1.Zh,iV y16_1.2.1.N,.string y16_1.2.1.S]) 0 J J J J size28.out J J J)<|Y ?_;refine aB<|Y ?_;refine gH J h ?_ ?_<;>intro h
 ·refine Y ?_;obtain rfl:=bJ h;exact nI J J (cS [] 5) ⟨J,J⟩
 refine Y ?_;refine gR (aD (us:=[iV y16_1.2.1.Zh,iV y16_1.2.1.N,.string y16_1.2.1.S]) 0 J J agg28.out J) ?_;obtain ⟨k8,k,h⟩:=aa h;refine gV (dt (xI k) J (bI [] [1] [0,2,3,4] 5 J))<|Y ?_;obtain ⟨f2,k,h⟩:=aa h;refine gD (aX (KP k) J (t5 (cQ (i:=2) J J) ax) Is) ?_;rintro _ _ ⟨_,⟨i9,j0,j1,j2,j3,j4,rfl,rfl⟩,rfl⟩
 refine gB (bF zero35.out J) fun d1=>gW (ao (us:=(jX f2 i9 j0 j1 j2 j3 j4)) (cs':=(jX f2 i9 j0 j1 j2 j3 j4)) 0 J J J J size35.out J J J)<|oS ?_
 refine Y ?_;refine ak (fun s L=> ∃j5 g6 g7 j6 j7 g8 g9 h0 h1 h2 h3,t8 N j5 g6 g7 j6 j7=some r/\s=[(4,.bool false),(6,pV f1 0),(9,pV d1 0)]/\L=[oDWorld f1 i7 i8 j5,aQ g8 g9 h0 j6,qS h1 h2 h3 j7,ah d1 35 [.bool g6,.bool g7,W g8 g9 h0,W h1 h2 h3],sG]) ?_ ?_
 ·refine Y ?_;refine im (fun m s L=> ∃f3 h4 a7 a8 f4 f6 b0 b5 b6 b7 b9 c8,jo N a1 m f3 h4 a7 a8 f4 f6=some r/\s=[(1,W A2 n2 c2),(4,.bool false),(6,pV f1 0),(9,pV d1 0),(10,iV f3)]/\L=[iy vX (W A2 n2 c2) a1,oDWorld f1 i7 i8 h4,aQ b0 b5 b6 f4,qS b7 b9 c8 f6,ah d1 35 [.bool a7,.bool a8,W b0 b5 b6,W b7 b9 c8],sG]) N _ _ ⟨0,k8.2,f2.Ext,f2.Zz,f2.Zs,f2.Zt,i9,j0,j1,j2,j3,j4,h,J,J⟩ sA ((bn 1 J).trans ((bn 2 J).trans (cS [6,3,1,2,0,7] 8))) ?_;rintro (_|k5) _ _ ⟨f3,h4,a7,a8,f4,f6,b0,b5,b6,b7,b9,c8,h,rfl,rfl⟩
  ·exact aL h
  rw [jo.eq_2] at h;refine aB<|Y ?_;refine gR (jO 0 J aE J z5)<|Y ?_;obtain ⟨k9,g0,h⟩:=aa h;refine ii 3 55 k9 ?_ ?_
  ·clear h;refine fU 52 J (fun j8=> ?_) (fun j8=> ?_)
   ·have h:=cZ j8 g0;refine Y ?_;obtain rfl:=bJ h;exact bD sA (cS [0,1,2,3,4,5] 6)
   have h:=db j8 g0;refine Y ?_;obtain rfl:=bJ h;exact bD sA (cS [0,1,2,3,4,5] 6)
  refine Y ?_;refine gH J h ?_ ?_<;>intro h
  ·refine Y ?_;refine aB<|vv<|ak (fun s L=> ∃d6 e0 h5 h6 j9 h7 k0 e1 e2 e3 e4 e5 e6,t7 N (jo N a1 k5) f3 a1 f4 f6 a7 a8 d6 e0 h5 h6 j9 h7=some r/\s=[(1,W A2 n2 c2),(4,.bool false),(6,pV f1 0),(9,pV d1 0),(10,iV f3),(11,pV k0 0),(12,.bool j9)]/\L=[iy vX (W A2 n2 c2) a1,aQ e1 e2 e3 h5,qS e4 e5 e6 h6,ah k0 35 [.bool d6,.bool e0,W e1 e2 e3,W e4 e5 e6],oDWorld f1 i7 i8 h7,aQ b0 b5 b6 f4,qS b7 b9 c8 f6,ah d1 35 [.bool a7,.bool a8,W b0 b5 b6,W b7 b9 c8],sG]) ?_ ?_
   ·refine be O ([iy vX (W A2 n2 c2) a1,ah d1 35 [.bool a7,.bool a8,W b0 b5 b6,W b7 b9 c8],sG]) (cS [0,4,5] 6) ?_;refine zE 0 J (ap J) ?_;refine zR 1 J (aD (us:=[.bool a7,.bool a8,W b0 b5 b6,W b7 b9 c8]) 1 J J agg35.out J) ?_;refine zE 2 J (ap J) ?_;refine zE 3 J (ap J) ?_;obtain ⟨l0,e8,h⟩:=aa h;obtain ⟨k1,k2,e8⟩:=fI e8;refine zR 4 J (bS 0 J aE J J z5 size43.out k1 k2) ?_;refine zR 5 J (dr (us:=Mt l0) 0 J aE J e8 agg43.out (fun _ _ _ h=>by rw [show _=_ from h];rfl)) ?_;refine mO 6 10 O ?_ ?_
    ·obtain ⟨c9,k,h⟩:=aa h;refine bB J (dt (DJ k) J (bI [2,3,5] [1] [0,2,3,4,5] 6 J)) J J J ?_;rintro _ _ ⟨_,⟨h8,h9,i0,d2,d3,d4,rfl,rfl⟩,rfl⟩;refine ⟨[aQ h8 h9 i0 c9.1.Zs,qS d2 d3 d4 c9.1.Zt,iy vX (W A2 n2 c2) a1,ah d1 35 [.bool a7,.bool a8,W b0 b5 b6,W b7 b9 c8],sG],cS [0,1,3,6,7] 8,(cv_tl).trans (cv_tl),?_⟩;refine zE 7 J (ap J) ?_;refine zE 8 J (dl J J) ?_;refine zE 9 J (dl J J) ?_;refine zD 10 J (bF zero35.out J) ?_;rintro _ _ ⟨l1,rfl,rfl⟩;refine ng (cS [1,2,4,7,8] 9) ?_;refine zO 11 J (ao (us:=(jX c9.1 h8 h9 i0 d2 d3 d4)) (cs':=(jX c9.1 h8 h9 i0 d2 d3 d4)) 0 J J J J size35.out J J J) ?_;rintro _ _ rfl;refine ng (cS [1,2,4,7,8] 9) ?_;refine zE 12 J (ck J) ?_;exact aY O<|qx<|⟨_,_,⟨c9.1.Ext,c9.1.Zz,c9.1.Zs,c9.1.Zt,c9.2.1,c9.2.2,l1,h8,h9,i0,d2,d3,d4,h,J,J⟩,sA,cS [4,1,2,0,3,5,6,7,8] 9⟩
    refine bB J (bF zero35.out J) J J J ?_;rintro _ _ ⟨l2,rfl,rfl⟩;refine ng (cS [1,5,6] 7) ?_;obtain ⟨d0,k,h⟩:=aa h;refine zD 6 J (dt (DJ k) J (bI [3,4,6] [2] [0,1,3,4,5,6] 7 J)) ?_;rintro _ _ ⟨_,⟨d2,d3,d4,i1,i2,i3,rfl,rfl⟩,rfl⟩;refine ⟨[aQ d2 d3 d4 d0.1.Zs,qS i1 i2 i3 d0.1.Zt,iy vX (W A2 n2 c2) a1,ah d1 35 [.bool a7,.bool a8,W b0 b5 b6,W b7 b9 c8],sG],cS [0,1,4,7,8] 9,(cv_tl).trans (cv_tl),?_⟩;refine zE 7 J (ap J) ?_;refine zE 8 J (dl J J) ?_;refine zE 9 J (dl J J) ?_;refine zO 11 J (ao (us:=(jX d0.1 d2 d3 d4 i1 i2 i3)) (cs':=(jX d0.1 d2 d3 d4 i1 i2 i3)) 3 J J J J size35.out J J J) ?_;rintro _ _ rfl;refine ng (cS [0,1,4,7,8] 9) ?_;refine zE 12 J (ck J) ?_;exact aY O<|qx<|⟨_,_,⟨d0.1.Ext,d0.1.Zz,d0.1.Zs,d0.1.Zt,d0.2.1,d0.2.2,l2,d2,d3,d4,i1,i2,i3,h,J,J⟩,sA,cS [4,0,1,3,2,5,6,7,8] 9⟩
   refine fun s L=>aJ fun d6=>aJ fun e0=>aJ fun h5=>aJ fun h6=>aJ fun j9=>aJ fun h7=>aJ fun k0=>aJ fun e1=>aJ fun e2=>aJ fun e3=>aJ fun e4=>aJ fun e5=>aJ fun e6=>J6 fun h=>Y ?_
   refine gR (aD (us:=[.bool d6,.bool e0,W e1 e2 e3,W e4 e5 e6]) 3 J J agg35.out J)<|gW (ao (us:=[.bool d6,.bool e0,W e1 e2 e3,W e4 e5 e6]) (cs':=[.bool d6,.bool e0,W e1 e2 e3,W e4 e5 e6]) 7 J J J J size35.out J J J)<|Y ?_;refine aB<|be O _ (ae _)<|zE 0 J (ap J) ?_;refine zE 1 J (Bc J) ?_;refine zE 2 J (ap J) ?_;obtain ⟨l3,g1,h⟩:=aa h;refine uG (fun l=>((((((((((l.setIfInBounds 3 true).setIfInBounds 4 true).setIfInBounds 5 true).setIfInBounds 6 true).setIfInBounds 7 true).setIfInBounds 8 true).setIfInBounds 9 true).setIfInBounds 10 true).setIfInBounds 11 true).setIfInBounds 12 true)) 0 81 l3 (fun rest=> ?_) ?_
   ·clear h;refine xo 71 J (fun a6=> ?_) (fun a6=> ?_)
    ·have h:=cZ a6 g1;refine fc 3 J O (qV a6 J) J<|fc 4 J O (qV a6 J) J<|fc 5 J O (qV a6 J) J<|fc 6 J O (qV a6 J) J<|fc 7 J O (qV a6 J) J<|fc 8 J O (qV a6 J) J<|fc 9 J O (qV a6 J) J<|fc 10 J O (qV a6 J) J<|fc 11 J O (qV a6 J) J<|zE 12 J (gv a6 J J) ?_;obtain rfl:=bJ h;exact oF rest (jp J (au (au (au (au (au (au (au (au (au (au bK J) J) J) J) J) J) J) J) J) J)) (ae _) (ae _)
    have h:=db a6 g1;refine il 3 J O (ap J) (cG a6 J) J<|jK 4 J O (aD (us:=[.bool d6,.bool e0,W e1 e2 e3,W e4 e5 e6]) 7 J J agg35.out J) (cG a6 J) J<|il 5 J O (ap J) (cG a6 J) J<|il 6 J O (ap J) (cG a6 J) J ?_;obtain ⟨l4,e9,h⟩:=aa h;obtain ⟨g2,g4,e9⟩:=fI e9;refine jK 7 J O (bS 0 J aE J J z5 size43.out g2 g4) (cG a6 J) J<|jK 8 J O (qi 0 J aE J (toNat_lt g2 g4) MC) (cG a6 J) J<|jK 9 J O (dr (us:=jw l4.K) 0 J aE J e9 agg39.out (fun _ _ _ h=>by rw [show _=_ from h];rfl)) (cG a6 J) J ?_;obtain ⟨m0,k,h⟩:=aa h;refine kI 10 J O (aX (Bn k) J (t5 (zB (i:=4) J) (t5 (cQ (i:=1) J J) (t5 (cQ (i:=2) J J) (t5 (cQ (i:=8) J J) ax)))) xV) J (cG a6 J) J ?_;rintro _ _ ⟨_,⟨rfl,rfl⟩,rfl⟩;refine ⟨_,ae _,ae _,?_⟩;refine il 11 J O (Bc J) (cG a6 J) J<|zE 12 J (iw a6 J J) ?_;obtain rfl:=bJ h;exact oF rest (jp J (au (au (au (au (au (au (au (au (au (au bK J) J) J) J) J) J) J) J) J) J)) (ae _) (ae _)
   refine aY O<|qx<|gH J h (fun h=> ?_) (fun h=> ?_)
   ·refine Y ?_;obtain rfl:=bJ h;exact nI J J (cS [] 9) ⟨J,J⟩
   refine Y ?_;obtain ⟨k6,h⟩:=ac h;refine gE (iO J J k6.1 k6.2)<|Y ?_;exact ⟨k5,_,_,Xb _,⟨f3+1,h7,d6,e0,h5,h6,e1,e2,e3,e4,e5,e6,h,J,J⟩,sA,cS [0,4,1,2,7,8] 9⟩
  refine Y ?_;exact ⟨_,_,⟨h4,a7,a8,f4,f6,b0,b5,b6,b7,b9,c8,h,J,J⟩,sA,cS [1,2,3,4,5] 6⟩
 rintro _ _ ⟨j5,g6,g7,j6,j7,g8,g9,h0,h1,h2,h3,h,rfl,rfl⟩;refine aB<|be O _ (ae _)<|zE 0 J (ap J) ?_;refine zR 1 J (aD (us:=[.bool g6,.bool g7,W g8 g9 h0,W h1 h2 h3]) 3 J J agg35.out J) ?_;obtain ⟨m1,k,h⟩:=aa h;refine zD 2 J (aX (iW k) J (ax) o6) ?_;rintro _ _ ⟨_,⟨rfl,rfl⟩,rfl⟩;refine ⟨_,ae _,ae _,?_⟩;obtain ⟨m2,k,h⟩:=aa h;refine zD 3 J (aX (Bn k) J (t5 (zB (i:=0) J) (t5 (cQ (i:=1) J J) (t5 (cQ (i:=2) J J) (t5 (cQ (i:=4) J J) ax)))) xV) ?_;rintro _ _ ⟨_,⟨rfl,rfl⟩,rfl⟩;refine ⟨_,ae _,ae _,?_⟩;refine zE 4 J (ap J) ?_;obtain ⟨l5,g5,h⟩:=aa h;refine uG (fun l=>((l.setIfInBounds 5 true).setIfInBounds 6 true)) 1 88 l5 (fun rest=> ?_) ?_
 ·clear h;refine xo 86 J (fun f0=> ?_) (fun f0=> ?_)
  ·have h:=cZ f0 g5;obtain ⟨m3,k,h⟩:=aa h;refine kI 5 J O (aX (xU k) J (t5 (cQ (i:=4) J J) ax) vy) J (bW f0 J) J ?_;rintro _ _ ⟨_,⟨rfl,rfl⟩,rfl⟩;refine ⟨_,ae _,ae _,?_⟩;refine zE 6 J (gv f0 J J) ?_;obtain rfl:=bJ h;exact oF rest (jp J (au (au bK J) J)) (ae _) (ae _)
  have h:=db f0 g5;refine fc 5 J O (Bb f0 J) J<|zE 6 J (iw f0 J J) ?_;obtain rfl:=bJ h;exact oF rest (jp J (au (au bK J) J)) (ae _) (ae _)
 refine zE 7 J (ck J) ?_;refine aY O<|Y ?_;obtain rfl:=bJ h;exact nI J J (cS [] 5) ⟨J,J⟩
end
end Go.Proofs.YtmcifcmlojonnaaGreatDoor