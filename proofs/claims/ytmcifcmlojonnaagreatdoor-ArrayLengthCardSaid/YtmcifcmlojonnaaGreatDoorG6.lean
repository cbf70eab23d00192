/- Merged texts: part 6. No conditions of their own. -/
import Derived.Test.YtmcifcmlojonnaaGreatDoorG5
set_option maxHeartbeats 4000000
namespace Go.Proofs.YtmcifcmlojonnaaGreatDoor
variable (N:Nat){a1 a3:Int}{a4:WG}{a2:WL}{a0:WM}
section
theorem Ww:type_of% Tryz.underlying247:=Tryz.underlying247
variable {A1 A2 A3 A4 A5 A6:Option Addr}{B1 B2 B3 B6 M3 M7 c1 c2 c3 c4 c5 c6 n1 n2 n3 n4 n5 n6:Nat}
open Go.RowKit Asn
set_option maxRecDepth 20000
def gP (a0:WQ)(a1:Int)(a2:WL)(a3:Int):Option (Int×Int×WQ):=
 (fJ N a0 a1 a2 a3).bind fun y5=>bif !decide (y5=0) then (some (0,y5,a0)) else ((dA N a0 a1 a2).bind fun y7=>bif !y7.2.2 then (some (0,3,a0)) else ((fq N a0 a1).bind fun y9=>aL ((0:Int)<=y7.1/\y7.1.toNat<y9.length) ((aq (List.drop y7.1.toNat y9) 0).bind fun a6=>(gN N a0 a1 y7.1).bind fun a8=>(kh N a0 a8 (List.set (List.drop y7.1.toNat y9) ((0:Int).toNat) (⟨a6.Up,(⟨a6.Zf.Za,a6.Zf.N,a6.Zf.S⟩:WL),a3,a6.ZC⟩:WE))).bind fun a7=>some (a7.1,a7.2.1,a7.2.2))))
theorem xd {N:Nat}{a0:WQ}{r:Int×Int×WQ}(h:gP N a0 a1 a2 a3=some r):Okc Xa 151 [pV B1 0,iV a1,(eT a2),iV a3] ([ah B1 170 [W A2 n2 c2,.map (some M3)],bd bC 166 (W A2 n2 c2) a0.Zp,bB eo vV M3 a0.ZD]) (fun u post=> ∃A0 n0 c0 M1,u=.tuple #[iV r.1,iV r.2.1]/\post=[ah B1 170 [W A0 n0 c0,.map (some M1)],bd bC 166 (W A0 n0 c0) r.2.2.Zp,bB eo vV M1 r.2.2.ZD]):=by
 refine ce Tryz.func151 ?_;intro B4;refine sY ?_
 refine cR h (fun _ k=>ni k) fun y5 h=> ?_
 refine gH J h ?_ ?_<;>intro h
 ·exact eY
 refine cR h (fun _ k=>kS k) fun y7 h=> ?_
 refine sZ ?_;refine gH J h ?_ ?_<;>intro h
 ·exact eY
 refine MB h (fun _ k=>lP k) fun y9 b6 b7 b9 h=> ?_
 obtain ⟨b5,h⟩:=ae h
 refine vc (SS (l:=y7.1.toNat) 0 J J Wm size166.out J (by rw [Xp b5.1];rfl) b5.2) fun c7 c8 c9=> ?_
 obtain ⟨a8,a6,a7,b0,h⟩:=bz h;refine gR (cM 0 J Mr J J Wm size166.out a6 a7) ?_;refine gR (uB 0 J Mr J (toNat_lt a6 a7) BY) ?_;refine G8 (Nq (us:=[iV a3]) (z:=(⟨a8.Up,(⟨a8.Zf.Za,a8.Zf.N,a8.Zf.S⟩:WL),a3,a8.ZC⟩:WE)) 0 J J J J size3.out J (toNat_lt a6 a7) J (fun S w vs xk hk hr=>by obtain rfl:=YM (hk.symm.trans b0);rw [show _=_ from hr];rfl)) ?_
 refine cR h (fun _ k=>qL k) fun d0 h=> ?_
 refine mO (R3 0 J) ?_;refine ab ?_;obtain ⟨d1,k,h⟩:=aa h;refine gD (oC (pj k)) ?_;rintro _ _ ⟨_,⟨d2,d3,d4,d6,rfl,rfl⟩,rfl⟩;exact eY
theorem vm {N:Nat}{a0:WQ}{r:Int×Int×WQ}(h:gP N a0 a1 a2 a3=some r):Okc Xa 151 [pV B1 0,iV a1,(eT a2),iV a3] ([oDTable B1 a0]) (fun u post=>u=.tuple #[iV r.1,iV r.2.1]/\post=[oDTable B1 r.2.2]):=LS 0 rfl (fun _=>xd h)
def nr (y9:WU×Int×Bool)(a0:WN)(a6:Int×Int×WQ)(a1:WU)(a7:WW)(a8:WM):Option (Bool×WN):=
 (bJ N (⟨(⟨a0.Zn.Za,a6.1,a0.Zn.Ze,a0.Zn.Zg,a7,a0.Zn.Zb⟩:WI),a8,a0.at_⟩:WN) true).bind fun b0=>some (true,b0)
def gX (y9:WU×Int×Bool)(a1:WU)(a0:WN)(a7:Int)(a8:WM):Option (Bool×WN):=
 aL (in64 (y9.2.1+1)) (aL (in64 (y9.2.1+1)) ((aq a0.Zn.Zc (y9.2.1+1)).bind fun b0=>(iG N (⟨(⟨a0.Zn.Za,a7,a0.Zn.Ze,a0.Zn.Zg,a0.Zn.Zc,a0.Zn.Zb⟩:WI),a8,a0.at_⟩:WN) a1 b0).bind fun a6=>(aq a0.Zn.Zc (y9.2.1+1)).bind fun b6=>(bJ N (⟨(⟨a0.Zn.Za,a7,a0.Zn.Ze,a0.Zn.Zg,List.set a0.Zn.Zc ((y9.2.1+1).toNat) (⟨a6.1.Za,a6.1.N,a6.1.S⟩:WV),a0.Zn.Zb⟩:WI),a6.2,a0.at_⟩:WN) (!decide (y9.1.Zd=a1.Zd))).bind fun b5=>some (true,b5)))
def gp (a0:WN)(a1:WU):Option (Bool×WN):=
 (cV N a0.w_).bind fun y8=>(bZ N a0 a1.Zf).bind fun y9=>bif !y9.2.2 then ((fu N a0.w_.Zp a0.Zn.Zi).bind fun b0=>bif decide (1024<=b0) then (some (false,a0)) else ((js N a0.w_.Zp a0.Zn.Zi a1.Zf a1.Zd).bind fun a6=>bif !decide (a6.2.1=0) then (some (false,(⟨a0.Zn,(⟨a0.w_.ZB,a0.w_.Zu,(),a0.w_.Zo,a6.2.2,a0.w_.Zy,a0.w_.ZE,a0.w_.ZF,a0.w_.ZG,a0.w_.Zz,a0.w_.ZA⟩:WM),a0.at_⟩:WN))) else ((iG N (⟨(⟨a0.Zn.Za,a6.1,a0.Zn.Ze,a0.Zn.Zg,a0.Zn.Zc,a0.Zn.Zb⟩:WI),(⟨a0.w_.ZB,a0.w_.Zu,(),a0.w_.Zo,a6.2.2,a0.w_.Zy,a0.w_.ZE,a0.w_.ZF,a0.w_.ZG,a0.w_.Zz,a0.w_.ZA⟩:WM),a0.at_⟩:WN) a1 (⟨0,0,⟨#[]⟩⟩:WV)).bind fun a8=>aL (cF (a0.Zn.Zc.length+([a8.1]:List WV).length)) (nr N y9 a0 a6 a1 (a0.Zn.Zc++([a8.1]:List WV)) a8.2)))) else (bif !decide (y9.1.Zd=a1.Zd) then ((gP N a0.w_.Zp a0.Zn.Zi a1.Zf a1.Zd).bind fun a7=>bif !decide (a7.2.1=0) then (some (false,(⟨a0.Zn,(⟨a0.w_.ZB,a0.w_.Zu,(),a0.w_.Zo,a7.2.2,a0.w_.Zy,a0.w_.ZE,a0.w_.ZF,a0.w_.ZG,a0.w_.Zz,a0.w_.ZA⟩:WM),a0.at_⟩:WN))) else (gX N y9 a1 a0 a7.1 (⟨a0.w_.ZB,a0.w_.Zu,(),a0.w_.Zo,a7.2.2,a0.w_.Zy,a0.w_.ZE,a0.w_.ZF,a0.w_.ZG,a0.w_.Zz,a0.w_.ZA⟩:WM))) else (gX N y9 a1 a0 a0.Zn.Zi a0.w_))
theorem sD {N:Nat}{a0:WN}{a1:WU}{r:Bool×WN}(h:gp N a0 a1=some r){B4 B5 B6:Nat}:Okc Xa 105 [pV B1 0,(cc a1)] ([ah B1 135 [iV a0.Zn.Za,iV a0.Zn.Zi,iV a0.Zn.Ze,iV a0.Zn.Zg,W A2 n2 c2,W A3 n3 c3,pV B4 0,iV a0.at_.Za,iV a0.at_.N,.string a0.at_.S],bf A2 n2 c2 a0.Zn.Zc,bf A3 n3 c3 a0.Zn.Zb,oDWorld B4 B5 B6 a0.w_]) (fun u post=> ∃A0 n0 c0 A1 n1 c1,u=.bool r.1/\post=[ah B1 135 [iV r.2.Zn.Za,iV r.2.Zn.Zi,iV r.2.Zn.Ze,iV r.2.Zn.Zg,W A0 n0 c0,W A1 n1 c1,pV B4 0,iV r.2.at_.Za,iV r.2.at_.N,.string r.2.at_.S],bf A0 n0 c0 r.2.Zn.Zc,bf A1 n1 c1 r.2.Zn.Zb,oDWorld B4 B5 B6 r.2.w_]):=by
 refine ce Tryz.func105 ?_;intro B7
 refine cR h (fun _ k=>eP k) fun y8 h=> ?_
 refine cR h (fun _ k=>kU k) fun y9 h=> ?_
 intro b7;refine sY ?_;refine gH J h ?_ ?_<;>intro h
 ·refine sZ ?_
  refine cR h (fun _ k=>xx k) fun e8 h=> ?_
  refine gH J h ?_ ?_<;>intro h
  ·exact eY
  refine ab ?_;refine aA ?_;refine bh O ([ah b7 50 (bW y9.1),ah B7 50 (bW a1),ah B1 135 [iV a0.Zn.Za,iV a0.Zn.Zi,iV a0.Zn.Ze,iV a0.Zn.Zg,W A2 n2 c2,W A3 n3 c3,pV B4 0,iV a0.at_.Za,iV a0.at_.N,.string a0.at_.S],bf A2 n2 c2 a0.Zn.Zc,bf A3 n3 c3 a0.Zn.Zb]) (cS [0,1,2,3,4] 6) ?_;refine ab ?_;refine kJ ((cS [5,0,1,2,3,4] 6).trans At) (cS [2,3,4,5,6] 7) ?_;refine bu ?_;obtain ⟨b9,k,h⟩:=aa h;refine zD 10 J (oC (xa k)) ?_;rintro _ _ ⟨_,⟨rfl,rfl⟩,rfl⟩;refine bY ?_;refine bu ?_;refine kJ (AI) (cS [1,2,3,4,5] 6) ?_;refine bu ?_;refine sY ?_;refine gH J h ?_ ?_<;>intro h
  ·exact eY
  refine ab ?_;refine am (fun s L=> ∃c9 d0 d1 d2 d3,nr N y9 a0 b9 a1 c9 d0=some r/\s=[(0,pV B1 0),(3,pV B7 0),(4,.bool false),(5,pV B6 0),(6,pV b7 0),(7,iV y9.2.1)]/\L=[bf d1 d2 d3 c9,bf A3 n3 c3 a0.Zn.Zb,ah B1 135 [iV a0.Zn.Za,iV b9.1,iV a0.Zn.Ze,iV a0.Zn.Zg,W d1 d2 d3,W A3 n3 c3,pV B4 0,iV a0.at_.Za,iV a0.at_.N,.string a0.at_.S],ah B7 50 (bW a1),ah b7 50 (bW y9.1),oDWorld B4 B5 B6 d0]) ?_ ?_
  ·refine bh O ([ah b7 50 (bW y9.1),ah B7 50 (bW a1),bf A3 n3 c3 a0.Zn.Zb]) (cS [1,2,5] 6) ?_;refine zY [0,1,2,3,4,6,7] ?_;refine zE 8 J (nB J bld_28_.out) ?_;refine oA 5 9 O ?_ ?_
   ·refine bL J (vE (ck 3 J J sC J)) J J J ?_;rintro _ _ ⟨rfl,rfl⟩;refine bY ?_;obtain ⟨a6,b5,h⟩:=aa h;refine zD 9 J (oC (nq b5)) ?_;rintro _ _ ⟨_,⟨rfl,rfl⟩,rfl⟩;refine bY ?_;refine bu ?_
    refine Dc 10 J (aB (R:=ay) (vss:=[[iV a6.1.Za,iV a6.1.N,.string a6.1.S]]) (xs:=[a6.1]) J (jA _ _ _) J J (fun _ _ hr=> .cons J All2.nil)) fun e2 e3 e4=> ?_
    obtain ⟨c7,h⟩:=ae h
    refine Dc 11 J (aX 3 0 J J ao J J t9 sd J J c7) fun a7 a8 b0=> ?_
    refine zY [12,13,14] ?_;refine zO 15 J (aj (us:=[W a7 a8 b0]) (cs':=[iV a0.Zn.Za,iV b9.1,iV a0.Zn.Ze,iV a0.Zn.Zg,W a7 a8 b0,W A3 n3 c3,pV B4 0,iV a0.at_.Za,iV a0.at_.N,.string a0.at_.S]) 2 J J J J size22.out J J J) ?_;rintro _ _ rfl;refine bY ?_;refine bu ?_;refine bq O ?_;exact jY
   obtain ⟨a6,b5,h⟩:=aa h;refine bL J (oC (nq b5)) J J J ?_;rintro _ _ ⟨_,⟨rfl,rfl⟩,rfl⟩;refine bY ?_;refine bu ?_;refine oA 5 10 O ?_ ?_
   ·refine bL J (vE (ck 1 J J sC J)) J J J ?_;rintro _ _ ⟨rfl,rfl⟩;refine bY ?_
    refine Dc 10 J (aB (R:=ay) (vss:=[[iV a6.1.Za,iV a6.1.N,.string a6.1.S]]) (xs:=[a6.1]) J (jA _ _ _) J J (fun _ _ hr=> .cons J All2.nil)) fun e2 e3 e4=> ?_
    obtain ⟨c7,h⟩:=ae h
    refine Dc 11 J (aX 3 0 J J ao J J t9 sd J J c7) fun a7 a8 b0=> ?_
    refine zY [12,13,14] ?_;refine zO 15 J (aj (us:=[W a7 a8 b0]) (cs':=[iV a0.Zn.Za,iV b9.1,iV a0.Zn.Ze,iV a0.Zn.Zg,W a7 a8 b0,W A3 n3 c3,pV B4 0,iV a0.at_.Za,iV a0.at_.N,.string a0.at_.S]) 2 J J J J size22.out J J J) ?_;rintro _ _ rfl;refine bY ?_;refine bu ?_;refine bq O ?_;exact jY
   refine bL J (aB (R:=ay) (vss:=[[iV a6.1.Za,iV a6.1.N,.string a6.1.S]]) (xs:=[a6.1]) J (jA _ _ _) J J (fun _ _ hr=> .cons J All2.nil)) J J J ?_;rintro _ _ ⟨e2,e3,e4,rfl,rfl⟩;refine bY ?_;refine zD 5 J (vE (ck 2 J J sC J)) ?_;rintro _ _ ⟨rfl,rfl⟩;refine bY ?_;obtain ⟨c7,h⟩:=ae h
   refine Dc 11 J (aX 3 0 J J ao J J t9 sd J J c7) fun a7 a8 b0=> ?_
   refine zY [12,13,14] ?_;refine zO 15 J (aj (us:=[W a7 a8 b0]) (cs':=[iV a0.Zn.Za,iV b9.1,iV a0.Zn.Ze,iV a0.Zn.Zg,W a7 a8 b0,W A3 n3 c3,pV B4 0,iV a0.at_.Za,iV a0.at_.N,.string a0.at_.S]) 2 J J J J size22.out J J J) ?_;rintro _ _ rfl;refine bY ?_;refine bu ?_;refine bq O ?_;exact jY
  rintro _ _ ⟨c9,d0,d1,d2,d3,h,rfl,rfl⟩
  refine TT h (fun _ k=>jI k) fun e9 f0 f1 f2 f3 f4 f6 h=> ?_
  exact eN
 refine ab ?_;refine am (fun s L=> ∃c8 d4,gX N y9 a1 a0 c8 d4=some r/\s=[(0,pV B1 0),(3,pV B7 0),(4,.bool false),(7,iV y9.2.1),(11,.bool (!decide (y9.1.Zd=a1.Zd)))]/\L=[bf A2 n2 c2 a0.Zn.Zc,bf A3 n3 c3 a0.Zn.Zb,ah B1 135 [iV a0.Zn.Za,iV c8,iV a0.Zn.Ze,iV a0.Zn.Zg,W A2 n2 c2,W A3 n3 c3,pV B4 0,iV a0.at_.Za,iV a0.at_.N,.string a0.at_.S],ah B7 50 (bW a1),oDWorld B4 B5 B6 d4]) ?_ ?_
 ·refine dv h ?_ ?_<;>intro h
  ·refine aA ?_;refine bh O ([ah b7 50 (bW y9.1),ah B7 50 (bW a1),ah B1 135 [iV a0.Zn.Za,iV a0.Zn.Zi,iV a0.Zn.Ze,iV a0.Zn.Zg,W A2 n2 c2,W A3 n3 c3,pV B4 0,iV a0.at_.Za,iV a0.at_.N,.string a0.at_.S],bf A2 n2 c2 a0.Zn.Zc,bf A3 n3 c3 a0.Zn.Zb]) (cS [0,1,2,3,4] 6) ?_;refine ab ?_;refine kJ ((cS [5,0,1,2,3,4] 6).trans At) (cS [2,3,4,5,6] 7) ?_;refine bu ?_;obtain ⟨f9,k,h⟩:=aa h;refine zD 10 J (oC (vm k)) ?_;rintro _ _ ⟨_,⟨rfl,rfl⟩,rfl⟩;refine bY ?_;refine bu ?_;refine kJ (AI) (cS [1,2,3,4,5] 6) ?_;refine bu ?_;refine sY ?_;refine gH J h ?_ ?_<;>intro h
   ·exact eY
   exact jY
  exact jY
 rintro _ _ ⟨c8,d4,h,rfl,rfl⟩;refine aA ?_;refine bh O ([bf A2 n2 c2 a0.Zn.Zc,bf A3 n3 c3 a0.Zn.Zb,ah B1 135 [iV a0.Zn.Za,iV c8,iV a0.Zn.Ze,iV a0.Zn.Zg,W A2 n2 c2,W A3 n3 c3,pV B4 0,iV a0.at_.Za,iV a0.at_.N,.string a0.at_.S],ah B7 50 (bW a1)]) (cS [0,1,2,3] 5) ?_;refine ab ?_;obtain ⟨g0,h⟩:=ae h;refine ab ?_;obtain ⟨g1,h⟩:=ae h;refine ab ?_;obtain ⟨g2,e5,e6,e7,h⟩:=bz h;refine ab ?_;obtain ⟨b6,k,h⟩:=aa h;refine zD 18 J (oC (nq k)) ?_;rintro _ _ ⟨_,⟨rfl,rfl⟩,rfl⟩;refine bY ?_;refine bu ?_;obtain ⟨g3,d6,e0,e1,h⟩:=bz h;refine ab ?_;refine gI 20 J O O (cg (us:=[iV b6.1.Za,iV b6.1.N,.string b6.1.S]) (z:=(⟨b6.1.Za,b6.1.N,b6.1.S⟩:WV)) 2 J J J J size28.out J (toNat_lt d6 e0) J (fun S w vs xk hk hr ho=>by obtain rfl:=YM (hk.symm.trans e1);rw [show _=_ from hr];rfl)) ?_;rintro _ _ rfl;refine bu ?_
 refine TT h (fun _ k=>jI k) fun g4 g5 g6 g7 g8 g9 h0 h=> ?_
 exact eN
def sQ (a0:WM)(a1:WV)(a2:WL)(a3:WV)(a4:Int):Option (Bool×WM):=
 (gF N a0 a1).bind fun y7=>DY y7 (fun y7_0=>some (false,a0)) (fun y7_1=>(bc N a2).bind fun a7=>(bif !a7 then (some true) else (some (decide (a4<0)))).bind fun a8=>(bif a8 then (some true) else (some (decide (7<a4)))).bind fun b16=>bif b16 then (some (false,a0)) else ((gp N (⟨y7_1.Zn,a0,y7_1.at_⟩:WN) (⟨a2,a4,a3,(⟨0,0,⟨#[]⟩⟩:WV),(⟨0,0,⟨#[]⟩⟩:WV)⟩:WU)).bind fun a6=>some (a6.1,a6.2.w_)))
theorem Gn {N:Nat}{a1 a3:WV}{a4:Int}{r:Bool×WM}(h:sQ N a0 a1 a2 a3 a4=some r){B1 B2 B3:Nat}:Okc Xa 146 [pV B1 0,(aE a1),(eT a2),(aE a3),iV a4] ([oDWorld B1 B2 B3 a0]) (fun u post=>u=.bool r.1/\post=[oDWorld B1 B2 B3 r.2]):=by
 refine ce Tryz.func146 ?_;intro B4
 refine cl fun B5=> ?_
 intro B6;refine ab ?_;obtain ⟨y7,a6,h⟩:=aa h;rcases y7 with y7_0|y7_1
 ·replace h:=GD h;refine gD (oR (db a6)) ?_;rintro _ _ ⟨_,⟨rfl,rfl⟩,rfl⟩;refine sY ?_;refine iN J ?_;exact eY
 replace h:=GC h;refine gD (oR (db a6)) ?_;rintro _ _ ⟨_,⟨B8,A9,n9,c9,a7,a8,b0,rfl,rfl⟩,rfl⟩;refine sY ?_
 refine cR h (fun _ k=>nM k) fun b5 h=> ?_
 refine gS 3 29 26 h ?_;intro b6 h;refine ab ?_;refine gS 3 33 30 h ?_;intro b16 h;refine dv h ?_ ?_<;>intro h
 ·exact eY
 refine TT h (fun _ k=>sD k) fun b7 b9 c7 c8 d0 d1 d2 h=> ?_
 exact eN
def yo (N:Nat)(a0:WV)(a1:Int):Option WG:=
 some (⟨51,ai .i64 a1 7,a0,(⟨0,0,⟨#[]⟩⟩:WV),(⟨0,0,⟨#[]⟩⟩:WV)⟩:WG)
theorem Ir {N:Nat}{a0:WV}{r:WG}(h:yo N a0 a1=some r):Okc Xa 185 [(aE a0),iV a1] ([]) (fun u post=>u=(fV r)/\post=[]):=by
 refine ce Tryz.func185 ?_;intro B1
 refine cl fun B2=> ?_
 refine fY (aI J J) ?_;exact eN
def zi (a0:WU):Option WG:=
 bif !decide (ai .i64 a0.Zd 8=0) then (some (⟨60,ai .i64 a0.Zd 6,(⟨0,0,⟨#[]⟩⟩:WV),a0.Zq,a0.Zr⟩:WG)) else ((yo N a0.Value a0.Zd).bind fun y4=>some y4)
theorem Lf {N:Nat}{a0:WU}{r:WG}(h:zi N a0=some r):Okc Xa 147 [(cc a0)] ([]) (fun u post=>u=(fV r)/\post=[]):=by
 refine ce Tryz.func147 ?_;intro B1
 refine cl fun B2=> ?_
 refine sZ ?_;refine fY (aI J J) ?_;refine gH J h ?_ ?_<;>intro h
 ·refine ab ?_;refine fY (aI J J) ?_;exact eN
 refine cR h (fun _ k=>Ir k) fun y4 h=> ?_
 exact eN
def jW (a0:WM)(a1:WV)(a2:WL)(a3:WG):Option (Bool×WM):=
 (gF N a0 a1).bind fun y7=>DY y7 (fun y7_0=>some (false,a0)) (fun y7_1=>(bc N a2).bind fun b0=>bif !b0 then (some (false,a0)) else ((bZ N (⟨y7_1.Zn,a0,y7_1.at_⟩:WN) a2).bind fun a6=>(du N a6.1 a6.2.2 (!decide (ai .i64 y7_1.Zn.Ze 1=0)) a2 a3).bind fun a7=>bif a7.2 then ((gp N (⟨y7_1.Zn,a0,y7_1.at_⟩:WN) a7.1).bind fun a8=>some (a8.1,a8.2.w_)) else (some (false,a0))))
theorem vG {N:Nat}{a1:WV}{a3:WG}{r:Bool×WM}(h:jW N a0 a1 a2 a3=some r){B1 B2 B3:Nat}:Okc Xa 60 [pV B1 0,(aE a1),(eT a2),(fV a3)] ([oDWorld B1 B2 B3 a0]) (fun u post=>u=.bool r.1/\post=[oDWorld B1 B2 B3 r.2]):=by
 refine ce Tryz.func60 ?_;intro B4
 refine cl fun B5=> ?_
 intro B6;refine ab ?_;obtain ⟨y7,b7,h⟩:=aa h;rcases y7 with y7_0|y7_1
 ·replace h:=GD h;refine gD (oR (db b7)) ?_;rintro _ _ ⟨_,⟨rfl,rfl⟩,rfl⟩;refine sY ?_;refine iN J ?_;exact eY
 replace h:=GC h;refine gD (oR (db b7)) ?_;rintro _ _ ⟨_,⟨B8,A9,n9,c9,b9,c7,c8,rfl,rfl⟩,rfl⟩;refine sY ?_
 refine cR h (fun _ k=>nM k) fun d1 h=> ?_
 refine gH J h ?_ ?_<;>intro h
 ·exact eY
 refine cR h (fun _ k=>kU k) fun a7 h=> ?_
 intro b5;refine ab ?_;refine aA ?_;obtain ⟨a6,b6,h⟩:=aa h;refine gw (t:=[(6,pV B5 0),(7,pV B6 0),(8,.bool false),(9,pV B8 0),(10,.bool true),(11,pV b5 0),(13,.bool a7.2.2)]) ?_ mh (ad _)
 refine iW O 16 [14] [13,14,15] [36,37,38,39,40,41,42,43,44,45,46,47,35,48,49,14] [[],[],[],[2],[3],[4],[5],[6],[7],[],[],[0,1,8,9,10],[11],[12],[12],[]] [aV ((cc a7.1)),
aV (.bool a7.2.2),
aV (pV B8 0),
aV (pV B8 0),
aV (pV B8 0),
aV (pV B8 2),
aV (iV y7_1.Zn.Ze),
aV (iV (ai .i64 y7_1.Zn.Ze 1)),
aV (.bool (!decide (ai .i64 y7_1.Zn.Ze 1=0))),
aV ((eT a2)),
aV ((fV a3)),
aV (.tuple #[(cc a6.1),.bool a6.2]),
aV (.tuple #[(cc a6.1),.bool a6.2]),
aV ((cc a6.1)),
aV (.bool a6.2),
aX1 (fun (a8:Nat)=>pV a8 0) (fun a8=> [ah a8 50 [iV 0,iV 0,.string (⟨#[]⟩),iV 0,iV 0,iV 0,.string (⟨#[]⟩),iV 0,iV 0,.string (⟨#[]⟩),iV 0,iV 0,.string (⟨#[]⟩)]])] [] (ad _) (fA rfl mc) O rfl rfl ?_ ?_ ?_
 ·refine fz J ?_ ?_
  ·exact nD (cO J J) J (iL J (ad _))
  exact mb
 ·refine aF J ?_ ?_
  ·refine th (bw zero50.out J) J ?_;rintro _ _ ⟨d0,rfl,rfl⟩;exact N0 d0 (ad _)
  refine qE (cO J J) ?_;refine qE (cO J J) ?_;refine qE (ap J) ?_;refine aF J ?_ ?_
  ·refine th (oR (ve b6)) J ?_;rintro _ _ ⟨_,⟨rfl,rfl⟩,rfl⟩;exact iL J (ad _)
  refine qR (ax (us:=iw a3) 4 J J agg41.out J) ?_;refine qR (ax (us:=lH a2) 5 J J agg39.out J) ?_;refine qE (Sw J J) ?_;refine qE (aI J J) ?_;refine qR (ck 1 J J va J) ?_;refine qE (kH J Mh) ?_;refine qE (qx J JJ) ?_;refine qE (dE J) ?_;refine qE (ap J) ?_;refine qE (ap J) ?_;refine qR (ax (us:=bW a7.1) 0 J J agg50.out J) ?_;exact dH
 intro a8;refine oe (t:=[(48,(cc a6.1)),(49,.bool a6.2),(14,pV a8 0),(6,pV B5 0),(7,pV B6 0),(8,.bool false),(9,pV B8 0),(10,.bool true),(11,pV b5 0),(13,.bool a7.2.2)]) (L':=[ah a8 50 [iV 0,iV 0,.string (⟨#[]⟩),iV 0,iV 0,iV 0,.string (⟨#[]⟩),iV 0,iV 0,.string (⟨#[]⟩),iV 0,iV 0,.string (⟨#[]⟩)],ah b5 50 (bW a7.1),ah B8 135 [iV y7_1.Zn.Za,iV y7_1.Zn.Zi,iV y7_1.Zn.Ze,iV y7_1.Zn.Zg,W A9 n9 c9,W b9 c7 c8,pV B1 0,iV y7_1.at_.Za,iV y7_1.at_.N,.string y7_1.at_.S],bf A9 n9 c9 y7_1.Zn.Zc,bf b9 c7 c8 y7_1.Zn.Zb,ah B6 41 (iw a3),ah B5 39 (lH a2),ah B4 28 (bP a1),oDWorld B1 B2 B3 a0]) ?_ mh (ad _);refine pO 16 J O (aj (us:=bW a6.1) (cs':=bW a6.1) 0 J J J J size50.out J J J) J J ?_;rintro _ _ rfl;refine Cn 17 J O (cm J) J J J ?_;refine mg O ?_;refine ab ?_;refine eC 51 J (fun b0=> ?_) (fun b0=> ?_)
 ·replace h:=cG b0 h;refine ab ?_;obtain ⟨d2,k,h⟩:=aa h;refine Cp (oC (sD k)) J (ca b0 J) J ?_;rintro _ _ ⟨_,⟨d3,d4,d6,e0,e1,e2,rfl,rfl⟩,rfl⟩;exact eY
 replace h:=cH b0 h;exact eY
def uS (a0:WM)(a1:WV)(a2:WU):Option WM:=
 (sQ N a0 a1 a2.Zf (⟨0,0,⟨#[]⟩⟩:WV) 7).bind fun y6=>(zi N a2).bind fun y7=>(jW N y6.2 a1 a2.Zf y7).bind fun y9=>some y9.2
theorem IB {N:Nat}{a1:WV}{a2:WU}{r:WM}(h:uS N a0 a1 a2=some r){B1 B2 B3:Nat}:Okc Xa 104 [pV B1 0,(aE a1),(cc a2)] ([oDWorld B1 B2 B3 a0]) (fun u post=>u=.tuple #[]/\post=[oDWorld B1 B2 B3 r]):=by
 refine ce Tryz.func104 ?_;intro B4
 refine cl fun B5=> ?_
 refine cC h (fun _ k=>Gn k) fun y6 h=> ?_
 refine cR h (fun _ k=>Lf k) fun y7 h=> ?_
 intro B8
 refine cC h (fun _ k=>vG k) fun y9 h=> ?_
 exact eN
def jD (a8:WU×Bool)(a0:WM)(a1:WV)(a2:WI)(a3:WL)(a6:WU×Bool)(b0:WW):Option (Bool×Bool×WM):=
 (az N a0 a1 (⟨a2.Za,a2.Zi,a2.Ze,a2.Zg,a2.Zc,b0⟩:WI)).bind fun a7=>bif decide (a6.1.Zd=7) then ((td N a7 a1 a3 a8.2).bind fun b5=>some (true,false,b5)) else ((uS N a7 a1 a6.1).bind fun b6=>some (true,false,b6))
def jE (a8:WU×Bool)(a0:WM)(a1:WV)(a2:WI)(a3:WL)(a6:WU×Bool)(a7:WW):Option (Bool×Bool×WM):=
 (aq a7 a3.N).bind fun b0=>bif decide (a6.1.Zd=7) then ((aq (List.set a7 a3.N.toNat (⟨8,0,(⟨#[]⟩:ByteArray)⟩:WV)) a3.N).bind fun b5=>jD N a8 a0 a1 a2 a3 a6 (List.set (List.set a7 a3.N.toNat (⟨8,0,(⟨#[]⟩:ByteArray)⟩:WV)) a3.N.toNat (⟨a6.1.Value.Za,a6.1.Value.N,a6.1.Value.S⟩:WV))) else (jD N a8 a0 a1 a2 a3 a6 (List.set a7 a3.N.toNat (⟨8,0,(⟨#[]⟩:ByteArray)⟩:WV)))
def jC (N:Nat)(a7:WU×Bool)(a0:WM)(a1:WV)(a2:WI)(a3:WL)(a8:WU×Bool):Nat->WW->Option (Bool×Bool×WM)
 |0,_=>none
 |b0+1,a6=>bif decide ((a6.length:Int)<=a3.N) then (aL (cF (a6.length+([(⟨8,0,(⟨#[]⟩:ByteArray)⟩:WV)]:List WV).length)) ((jC N a7 a0 a1 a2 a3 a8 b0) (a6++([(⟨8,0,(⟨#[]⟩:ByteArray)⟩:WV)]:List WV)))) else (jE N a7 a0 a1 a2 a3 a8 a6)
def nR (a0:WM)(a1:WV)(a2:WI)(a3:WL)(a4:WG):Option (Bool×Bool×WM):=
 (jh N a0 a1 a3).bind fun a7=>(du N a7.1 a7.2 (!decide (ai .i64 a2.Ze 1=0)) a3 a4).bind fun a6=>bif !a6.2 then (some (false,false,a0)) else (bif decide (4096<=a3.N) then (some (false,true,a0)) else ((bif decide ((a2.Zb.length:Int)<=a3.N) then (some (!decide (ai .i64 a2.Ze 32=0))) else (some false)).bind fun b16=>bif b16 then (some (false,false,a0)) else ((qi N a0 a1 a3).bind fun a8=>(bif !decide (a6.1.Zd=7) then (some (!a8.2)) else (some false)).bind fun b0=>(bif b0 then ((ju N a0 a1).bind fun b5=>some (decide (1024<=(b5.length:Int)))) else (some false)).bind fun b6=>bif b6 then (some (false,false,a0)) else (jC N a8 a0 a1 a2 a3 a6 N a2.Zb))))
theorem Ck {N:Nat}{a1:WV}{a2:WI}{a3:WL}{r:Bool×Bool×WM}(h:nR N a0 a1 a2 a3 a4=some r){B1 B2 B3:Nat}:Okc Xa 59 [pV B1 0,(aE a1),.agg #[iV a2.Za,iV a2.Zi,iV a2.Ze,iV a2.Zg,W A4 n4 c4,W A5 n5 c5],(eT a3),(fV a4)] ([rE,oDWorld B1 B2 B3 a0,bf A4 n4 c4 a2.Zc,bf A5 n5 c5 a2.Zb]) (fun u post=>u=.tuple #[.bool r.1,.bool r.2.1]/\post=[oDWorld B1 B2 B3 r.2.2]):=by
 refine ce Tryz.func59 ?_;intro B6
 refine cl fun B7=> ?_
 intro B8
 refine cl fun B9=> ?_
 refine cR h (fun _ k=>tf k) fun f1 h=> ?_
 intro f2;refine ab ?_;refine fY (aI J J) ?_
 refine cR h (fun _ k=>ve k) fun a6 h=> ?_
 intro a7;refine sY ?_;refine gH J h ?_ ?_<;>intro h
 ·exact eY
 refine dv h ?_ ?_<;>intro h
 ·exact eY
 refine ab ?_
 refine ou 5 56 51 h (fun _ e4 h=> ?_) fun b16 h=> ?_
 ·refine ab ?_;refine eW (aI J J) J (ca e4 J) J ?_;exact gY
 refine dv h ?_ ?_<;>intro h
 ·exact eY
 refine cR h (fun _ k=>zV k) fun a8 h=> ?_
 intro f3;refine sY ?_;refine gS 3 70 67 h ?_;intro f4 h;refine ab ?_
 refine ou 6 77 71 h (fun _ e5 h=> ?_) fun f6 h=> ?_
 ·refine ab ?_;obtain ⟨f9,k,h⟩:=aa h;refine Cp (oR (o3 k)) J (ca e5 J) J ?_;rintro _ _ ⟨_,⟨g0,g1,g2,rfl,rfl⟩,rfl⟩;exact gY
 refine dv h ?_ ?_<;>intro h
 ·exact eY
 refine ab ?_;refine am (fun s L=> ∃b0 b5 b6 b7,jE N a8 a0 a1 a2 a3 a6 b0=some r/\s=[(0,pV B1 0),(6,pV B6 0),(7,pV B7 0),(8,pV B8 0),(10,.bool false),(11,.bool false),(14,pV a7 0),(17,.bool a8.2)]/\L=[oDWorld B1 B2 B3 a0,ah B6 28 (bP a1),bf A4 n4 c4 a2.Zc,bf b5 b6 b7 b0,ah B7 94 (iS a2 A4 n4 c4 b5 b6 b7),ah B8 39 (lH a3),ah a7 50 (bW a6.1),rE]) ?_ ?_
 ·refine ab ?_;refine lK (fun m s L=> ∃(b9:WW) (c7:Option Addr) (c8 c9:Nat),jC N a8 a0 a1 a2 a3 a6 m b9=some r/\s=[(0,pV B1 0),(6,pV B6 0),(7,pV B7 0),(8,pV B8 0),(10,.bool false),(11,.bool false),(14,pV a7 0),(17,.bool a8.2)]/\L=[oDWorld B1 B2 B3 a0,ah B6 28 (bP a1),bf A4 n4 c4 a2.Zc,bf c7 c8 c9 b9,ah B7 94 (iS a2 A4 n4 c4 c7 c8 c9),ah B8 39 (lH a3),ah a7 50 (bW a6.1),rE]) N ?_;rintro e6 _ _ ⟨b9,c7,c8,c9,h,rfl,rfl⟩;rw [jC.eq_2] at h;refine sZ ?_;refine gH J h ?_ ?_<;>intro h
  ·refine ab ?_;refine gD (aB (R:=ay) (vss:=[Uu]) (xs:=[(⟨8,0,(⟨#[]⟩:ByteArray)⟩:WV)]) J (jA _ _ _) J J (fun _ _ hr=> .cons J All2.nil)) ?_;rintro _ _ ⟨g3,g4,g5,rfl,rfl⟩;obtain ⟨e7,h⟩:=ae h
   refine vc (aX 4 0 J J ao J J t9 sd J J e7) fun e8 e9 f0=> ?_
   exact ⟨e6,_,_,W0 _,⟨b9++([(⟨8,0,(⟨#[]⟩:ByteArray)⟩:WV)]:List WV),e8,e9,f0,h,J,J⟩,sA,cS [1,2,3,4,5,6,7,8] 9⟩
  exact jY
 rintro _ _ ⟨b0,b5,b6,b7,h,rfl,rfl⟩;refine ab ?_;obtain ⟨g6,d0,d1,d2,h⟩:=bz h;refine ab ?_;refine G8 (cg (us:=Uu) (z:=(⟨8,0,(⟨#[]⟩:ByteArray)⟩:WV)) 3 J J J J size28.out J (toNat_lt d0 d1) J (fun S w vs xk hk hr ho=>by obtain rfl:=YM (hk.symm.trans d2);rw [show _=_ from hr];rfl)) ?_;refine am (fun s L=> ∃d3 d4 d6 e0,jD N a8 a0 a1 a2 a3 a6 d3=some r/\s=[(0,pV B1 0),(6,pV B6 0),(7,pV B7 0),(8,pV B8 0),(10,.bool false),(11,.bool false),(14,pV a7 0),(17,.bool a8.2)]/\L=[oDWorld B1 B2 B3 a0,ah B6 28 (bP a1),bf A4 n4 c4 a2.Zc,bf d4 d6 e0 d3,ah B7 94 (iS a2 A4 n4 c4 d4 d6 e0),ah B8 39 (lH a3),ah a7 50 (bW a6.1),rE]) ?_ ?_
 ·refine dv h ?_ ?_<;>intro h
  ·refine ab ?_;obtain ⟨g7,e1,e2,e3,h⟩:=bz h;refine ab ?_;refine G8 (cg (us:=bP a6.1.Value) (z:=(⟨a6.1.Value.Za,a6.1.Value.N,a6.1.Value.S⟩:WV)) 3 J J J J size28.out J (toNat_lt e1 e2) J (fun S w vs xk hk hr ho=>by obtain rfl:=YM (hk.symm.trans e3);rw [show _=_ from hr];rfl)) ?_;exact ⟨_,_,⟨List.set (List.set b0 a3.N.toNat (⟨8,0,(⟨#[]⟩:ByteArray)⟩:WV)) a3.N.toNat (⟨a6.1.Value.Za,a6.1.Value.N,a6.1.Value.S⟩:WV),b5,b6,b7,h,J,J⟩,sA,cS [0,1,2,3,4,5,6,7] 8⟩
  refine ab ?_;exact ⟨_,_,⟨List.set b0 a3.N.toNat (⟨8,0,(⟨#[]⟩:ByteArray)⟩:WV),b5,b6,b7,h,J,J⟩,sA,cS [0,1,2,3,4,5,6,7] 8⟩
 rintro _ _ ⟨d3,d4,d6,e0,h,rfl,rfl⟩;refine ab ?_;refine mO (bv 2 J) ?_;refine mO (bv 3 J) ?_
 refine cC h (fun _ k=>dB k) fun g8 h=> ?_
 refine sZ ?_;refine gH J h ?_ ?_<;>intro h
 ·refine cC h (fun _ k=>Gv k) fun g9 h=> ?_
  exact eN
 refine cC h (fun _ k=>IB k) fun h0 h=> ?_
 exact eN
def eu (a0:WM)(a1:WV)(a2:WL)(a3:WG):Option (Bool×Bool×WM):=
 (cB N a0 a1).bind fun y7=>(bif !y7.2 then (some true) else ((bc N a2).bind fun b0=>some (!b0))).bind fun b5=>(bif b5 then (some true) else ((fD N a3).bind fun b6=>some (!b6))).bind fun b7=>bif b7 then (some (false,false,a0)) else ((bX N).bind fun b9=>bif decide (a2=b9) then ((nb N a0 a1 y7.1 a3).bind fun a6=>some (a6.1,a6.2.1,a6.2.2)) else (bif decide (a2.Za=0) then ((nR N a0 a1 y7.1 a2 a3).bind fun a7=>some (a7.1,a7.2.1,a7.2.2)) else ((jW N a0 a1 a2 a3).bind fun a8=>some (a8.1,false,a8.2))))
theorem sr {N:Nat}{a1:WV}{a3:WG}{r:Bool×Bool×WM}(h:eu N a0 a1 a2 a3=some r){B1 B2 B3:Nat}:Okc Xa 24 [pV B1 0,(aE a1),(eT a2),(fV a3)] ([rE,oDWorld B1 B2 B3 a0]) (fun u post=>u=.tuple #[.bool r.1,.bool r.2.1]/\post=[oDWorld B1 B2 B3 r.2.2]):=by
 refine ce Tryz.func24 ?_;intro B4
 refine cl fun B5=> ?_
 intro B6
 refine Ix h (fun _ k=>fi k) fun y7 A8 n8 c8 A9 n9 c9 h=> ?_
 intro a7;refine sY ?_
 refine wT 4 25 21 h (fun _ a8 h=> ?_) fun b0 h=> ?_
 ·refine cR h (fun _ k=>nM k) fun b5 h=> ?_
  exact gY
 refine ab ?_
 refine wT 4 30 26 h (fun _ b6 h=> ?_) fun b7 h=> ?_
 ·refine cR h (fun _ k=>Gt k) fun b9 h=> ?_
  exact gY
 refine dv h ?_ ?_<;>intro h
 ·exact eY
 refine dY [] ?_;refine ab ?_;obtain ⟨a6,k,h⟩:=aa h;refine zD 1 J (oR (jB k)) ?_;rintro _ _ ⟨_,⟨rfl,rfl⟩,rfl⟩;refine ⟨_,ad _,ad _,?_⟩;refine zE 2 J (vO (x:=a2) (y:=a6) J J) ?_;refine dv h ?_ ?_<;>intro h
 ·refine ab ?_;refine mO (bv 1 J) ?_;refine mO (bv 2 J) ?_
  refine cC h (fun _ k=>AM k) fun c7 h=> ?_
  exact eN
 refine dv h ?_ ?_<;>intro h
 ·refine cC h (fun _ k=>Ck k) fun d0 h=> ?_
  exact eN
 refine cC h (fun _ k=>vG k) fun d1 h=> ?_
 exact eN
def pN (a0:WM)(a1:WV):Option Int:=
 (cB N a0 a1).bind fun y5=>bif !y5.2 then (some 0) else (some (y5.1.Zb.length:Int))
theorem wK {N:Nat}{a1:WV}{r:Int}(h:pN N a0 a1=some r){B1 B2 B3:Nat}:Okc Xa 18 [pV B1 0,(aE a1)] ([pDWorld B1 B2 B3 a0]) (fun u post=>u=iV r/\post=[]):=by
 refine ce Tryz.func18 ?_;intro B4
 refine Ix h (fun _ k=>fi k) fun y5 A6 n6 c6 A7 n7 c7 h=> ?_
 intro B8;refine sY ?_;refine gH J h ?_ ?_<;>intro h
 ·exact eY
 exact eY
theorem ui {r:Int}: ∀v post,((fun (u:Value) (post:W8)=>u=iV r/\post=[])) v post-> ∀c∈post,ij c:=by
 rintro _ _ ⟨rfl,rfl⟩;exact au
def Df (N:Nat)(p4 p5:Int)(p6:ByteArray):Option Bool:=
 some false
def De (p9:WM)(p13 a6:Int)(p15:ByteArray)(b6:Bool):Option Bool:=
 (bif !b6 then (some true) else ((kA N p9 (⟨p13,a6,p15⟩:WV)).bind fun b7=>(pu N 0).bind fun b9=>(pu N 2).bind fun c7=>(dp N).bind fun c8=>(Ap N b7 ([b9,c7,c8]:List WL)).bind fun c9=>some (!c9))).bind fun d0=>bif d0 then (some false) else ((pu N 5).bind fun d1=>(Ad N 7 7).bind fun d2=>(eu N p9 (⟨p13,a6,p15⟩:WV) d1 d2).bind fun a7=>(pN N a7.2.2 (⟨p13,a6,p15⟩:WV)).bind fun d3=>(ig N a7.2.2 (⟨p13,a6,p15⟩:WV) 1).bind fun a8=>(bif !a7.1 then (some true) else (some a7.2.1)).bind fun d4=>(bif d4 then (some true) else (some (!decide (d3=6)))).bind fun d6=>(bif d6 then (some true) else (some (!a8.1))).bind fun e0=>(bif e0 then (some true) else ((kA N a8.2 (⟨p13,a6,p15⟩:WV)).bind fun e1=>(pu N 0).bind fun e2=>(dp N).bind fun e3=>(Ap N e1 ([e2,e3]:List WL)).bind fun e4=>some (!e4))).bind fun e5=>bif e5 then (some false) else ((pu N 2).bind fun e6=>(Ad N 7 0).bind fun e7=>(eu N a8.2 (⟨p13,a6,p15⟩:WV) e6 e7).bind fun b0=>bif b0.1 then ((ig N b0.2.2 (⟨p13,a6,p15⟩:WV) 0).bind fun b5=>(bif !b5.1 then ((pN N b5.2 (⟨p13,a6,p15⟩:WV)).bind fun e8=>some (decide (e8=3))) else (some false)).bind fun e9=>some e9) else (some false)))
def qV:Option Bool:=
 (ir N).bind fun a6=>(tv N ([(⟨3,1,⟨#[]⟩⟩:WV),a6,(⟨3,1,⟨#[]⟩⟩:WV)]:List WV)).bind fun a7=>DY a7 (fun y19_0=>Df N y19_0.Za y19_0.N y19_0.S) (fun y19_1=>De N y19_1.1 y19_1.2.1.Za y19_1.2.1.N y19_1.2.1.S y19_1.2.2)
theorem xt {N:Nat}{r:Bool}(h:qV N=some r):Okc Xa 7 [] ([rE]) (fun u post=>u=.bool r/\post=[]):=by
 refine CJ Tryz.func7 J J ?_;simp only [qQ];refine Y ?_;refine gE (nB J (bld_28_0_1 _ _).out) ?_
 refine gB (bw zero28.out J) fun B1=> ?_
 refine gW (aj (us:=[iV 3,iV 1,.string (⟨#[]⟩)]) (cs':=[iV 3,iV 1,.string (⟨#[]⟩)]) 0 J J J J size28.out J J J) ?_;refine im ?_;refine Y ?_;refine am (fun s L=>(∃p4 p5 p6 B3,Df N p4 p5 p6=some r/\s=[(0,.bool false),(2,.pointer none),(3,pV B3 0),(4,.bool false)]/\L=[ah B3 28 [iV p4,iV p5,.string p6],rE])\/(∃(p9:WM) (p13:Int) (a7:Int) (p15:ByteArray) (e0:Bool) (B8:Nat) (e3:Nat) (e4:Nat) (e1:Nat),De N p9 p13 a7 p15 e0=some r/\s=[(0,.bool false),(2,pV B8 0),(3,pV e1 0),(4,.bool e0)]/\L=[oDWorld B8 e3 e4 p9,ah e1 28 [iV p13,iV a7,.string p15],rE])) ?_ ?_
 ·refine bh O _ (ad _) ?_;refine yY [0,2] ?_;refine oA 1 9 O ?_ ?_
  ·obtain ⟨a8,k,h⟩:=aa h;refine bL J (aH (pE k) J (au) rA) J J J ?_;rintro _ _ ⟨_,⟨rfl,rfl⟩,rfl⟩;refine ⟨_,ad _,ad _,?_⟩;refine oA 3 9 O ?_ ?_
   ·refine bL J (aB (R:=ay) (vss:=[[iV 3,iV 1,.string (⟨#[]⟩)],[iV a8.Za,iV a8.N,.string a8.S],[iV 3,iV 1,.string (⟨#[]⟩)]]) (xs:=[(⟨3,1,⟨#[]⟩⟩:WV),a8,(⟨3,1,⟨#[]⟩⟩:WV)]) J (Cg _ _ _ _ _ _ _ _ _) J J (fun _ _ hr=> .cons J (.cons J (.cons J All2.nil)))) J J J ?_;rintro _ _ ⟨g0,g1,g2,rfl,rfl⟩;refine mj (cS [1,2] 3) ?_;refine oA 4 9 O ?_ ?_
    ·obtain ⟨e8,c7,h⟩:=aa h;rcases e8 with y19_0|y19_1
     ·replace h:=GD h;refine vY (bv 0 J) (cS [1,2] 3) ?_;refine Oo ?_;refine bL J (dq (iY c7) J (bH [0] [] [0,1,2] 3 J)) J J J ?_;rintro _ _ ⟨_,⟨rfl,rfl⟩,rfl⟩;refine mj (cS [1,2] 3) ?_;refine bu ?_;refine yY [5,6,7,8] ?_;refine zD 9 J (bw zero28.out J) ?_;rintro _ _ ⟨e9,rfl,rfl⟩;refine mj (cS [2,3] 4) ?_;refine zE 10 J (cm J) ?_;refine zO 11 J (aj (us:=[iV y19_0.Za,iV y19_0.N,.string y19_0.S]) (cs':=[iV y19_0.Za,iV y19_0.N,.string y19_0.S]) 0 J J J J size28.out J J J) ?_;rintro _ _ rfl;refine mj (cS [2,3] 4) ?_;refine bu ?_;refine zE 12 J (cm J) ?_;refine bq O ?_;refine qk ?_;exact ⟨_,_,.inl (⟨y19_0.Za,y19_0.N,y19_0.S,e9,h,J,J⟩),sA,cS [0,3] 4⟩
     replace h:=GC h;refine vY (bv 0 J) (cS [1,2] 3) ?_;refine Oo ?_;refine bL J (dq (iY c7) J (bH [0] [] [0,1,2] 3 J)) J J J ?_;rintro _ _ ⟨_,⟨b5,b6,b7,rfl,rfl⟩,rfl⟩;refine mj (cS [2,3] 4) ?_;refine bu ?_;refine yY [5,6,7,8] ?_;refine zD 9 J (bw zero28.out J) ?_;rintro _ _ ⟨f0,rfl,rfl⟩;refine mj (cS [3,4] 5) ?_;refine zE 10 J (cm J) ?_;refine zO 11 J (aj (us:=[iV y19_1.2.1.Za,iV y19_1.2.1.N,.string y19_1.2.1.S]) (cs':=[iV y19_1.2.1.Za,iV y19_1.2.1.N,.string y19_1.2.1.S]) 0 J J J J size28.out J J J) ?_;rintro _ _ rfl;refine mj (cS [3,4] 5) ?_;refine bu ?_;refine zE 12 J (cm J) ?_;refine bq O ?_;refine qk ?_;exact ⟨_,_,.inr (⟨y19_1.1,y19_1.2.1.Za,y19_1.2.1.N,y19_1.2.1.S,y19_1.2.2,b5,b6,b7,f0,h,J,J⟩),sA,cS [1,0,4] 5⟩
    refine bL J (bw zero28.out J) J J J ?_;rintro _ _ ⟨e5,rfl,rfl⟩;refine mj (cS [2,3] 4) ?_;obtain ⟨c8,a6,h⟩:=aa h;rcases c8 with y20_0|y20_1
    ·replace h:=GD h;refine kJ (bv 1 J) (cS [2,3] 4) ?_;refine bu ?_;refine zD 4 J (dq (iY a6) J (bH [1] [] [0,1,2,3] 4 J)) ?_;rintro _ _ ⟨_,⟨rfl,rfl⟩,rfl⟩;refine mj (cS [2,3] 4) ?_;refine bu ?_;refine yY [5,6,7,8,10] ?_;refine zO 11 J (aj (us:=[iV y20_0.Za,iV y20_0.N,.string y20_0.S]) (cs':=[iV y20_0.Za,iV y20_0.N,.string y20_0.S]) 0 J J J J size28.out J J J) ?_;rintro _ _ rfl;refine mj (cS [2,3] 4) ?_;refine bu ?_;refine zE 12 J (cm J) ?_;refine bq O ?_;refine qk ?_;exact ⟨_,_,.inl (⟨y20_0.Za,y20_0.N,y20_0.S,e5,h,J,J⟩),sA,cS [0,3] 4⟩
    replace h:=GC h;refine kJ (bv 1 J) (cS [2,3] 4) ?_;refine bu ?_;refine zD 4 J (dq (iY a6) J (bH [1] [] [0,1,2,3] 4 J)) ?_;rintro _ _ ⟨_,⟨b5,b6,b7,rfl,rfl⟩,rfl⟩;refine mj (cS [3,4] 5) ?_;refine bu ?_;refine yY [5,6,7,8,10] ?_;refine zO 11 J (aj (us:=[iV y20_1.2.1.Za,iV y20_1.2.1.N,.string y20_1.2.1.S]) (cs':=[iV y20_1.2.1.Za,iV y20_1.2.1.N,.string y20_1.2.1.S]) 1 J J J J size28.out J J J) ?_;rintro _ _ rfl;refine mj (cS [3,4] 5) ?_;refine bu ?_;refine zE 12 J (cm J) ?_;refine bq O ?_;refine qk ?_;exact ⟨_,_,.inr (⟨y20_1.1,y20_1.2.1.Za,y20_1.2.1.N,y20_1.2.1.S,y20_1.2.2,b5,b6,b7,e5,h,J,J⟩),sA,cS [0,1,4] 5⟩
   refine bL J (bw zero28.out J) J J J ?_;rintro _ _ ⟨e6,rfl,rfl⟩;refine mj (cS [1,2] 3) ?_;refine zD 3 J (aB (R:=ay) (vss:=[[iV 3,iV 1,.string (⟨#[]⟩)],[iV a8.Za,iV a8.N,.string a8.S],[iV 3,iV 1,.string (⟨#[]⟩)]]) (xs:=[(⟨3,1,⟨#[]⟩⟩:WV),a8,(⟨3,1,⟨#[]⟩⟩:WV)]) J (Cg _ _ _ _ _ _ _ _ _) J J (fun _ _ hr=> .cons J (.cons J (.cons J All2.nil)))) ?_;rintro _ _ ⟨f1,f2,f3,rfl,rfl⟩;refine mj (cS [2,3] 4) ?_;obtain ⟨c8,a6,h⟩:=aa h;rcases c8 with y20_0|y20_1
   ·replace h:=GD h;refine kJ (bv 0 J) (cS [2,3] 4) ?_;refine bu ?_;refine zD 4 J (dq (iY a6) J (bH [0] [] [0,1,2,3] 4 J)) ?_;rintro _ _ ⟨_,⟨rfl,rfl⟩,rfl⟩;refine mj (cS [2,3] 4) ?_;refine bu ?_;refine yY [5,6,7,8,10] ?_;refine zO 11 J (aj (us:=[iV y20_0.Za,iV y20_0.N,.string y20_0.S]) (cs':=[iV y20_0.Za,iV y20_0.N,.string y20_0.S]) 1 J J J J size28.out J J J) ?_;rintro _ _ rfl;refine mj (cS [2,3] 4) ?_;refine bu ?_;refine zE 12 J (cm J) ?_;refine bq O ?_;refine qk ?_;exact ⟨_,_,.inl (⟨y20_0.Za,y20_0.N,y20_0.S,e6,h,J,J⟩),sA,cS [1,3] 4⟩
   replace h:=GC h;refine kJ (bv 0 J) (cS [2,3] 4) ?_;refine bu ?_;refine zD 4 J (dq (iY a6) J (bH [0] [] [0,1,2,3] 4 J)) ?_;rintro _ _ ⟨_,⟨b5,b6,b7,rfl,rfl⟩,rfl⟩;refine mj (cS [3,4] 5) ?_;refine bu ?_;refine yY [5,6,7,8,10] ?_;refine zO 11 J (aj (us:=[iV y20_1.2.1.Za,iV y20_1.2.1.N,.string y20_1.2.1.S]) (cs':=[iV y20_1.2.1.Za,iV y20_1.2.1.N,.string y20_1.2.1.S]) 2 J J J J size28.out J J J) ?_;rintro _ _ rfl;refine mj (cS [3,4] 5) ?_;refine bu ?_;refine zE 12 J (cm J) ?_;refine bq O ?_;refine qk ?_;exact ⟨_,_,.inr (⟨y20_1.1,y20_1.2.1.Za,y20_1.2.1.N,y20_1.2.1.S,y20_1.2.2,b5,b6,b7,e6,h,J,J⟩),sA,cS [0,2,4] 5⟩
  refine bL J (bw zero28.out J) J J J ?_;rintro _ _ ⟨e7,rfl,rfl⟩;refine mj (cS [1,2] 3) ?_;obtain ⟨d0,k,h⟩:=aa h;refine zD 1 J (aH (pE k) J (au) rA) ?_;rintro _ _ ⟨_,⟨rfl,rfl⟩,rfl⟩;refine mj (cS [1,2] 3) ?_;refine zD 3 J (aB (R:=ay) (vss:=[[iV 3,iV 1,.string (⟨#[]⟩)],[iV d0.Za,iV d0.N,.string d0.S],[iV 3,iV 1,.string (⟨#[]⟩)]]) (xs:=[(⟨3,1,⟨#[]⟩⟩:WV),d0,(⟨3,1,⟨#[]⟩⟩:WV)]) J (Cg _ _ _ _ _ _ _ _ _) J J (fun _ _ hr=> .cons J (.cons J (.cons J All2.nil)))) ?_;rintro _ _ ⟨f1,f2,f3,rfl,rfl⟩;refine mj (cS [2,3] 4) ?_;obtain ⟨c8,a6,h⟩:=aa h;rcases c8 with y20_0|y20_1
  ·replace h:=GD h;refine kJ (bv 0 J) (cS [2,3] 4) ?_;refine bu ?_;refine zD 4 J (dq (iY a6) J (bH [0] [] [0,1,2,3] 4 J)) ?_;rintro _ _ ⟨_,⟨rfl,rfl⟩,rfl⟩;refine mj (cS [2,3] 4) ?_;refine bu ?_;refine yY [5,6,7,8,10] ?_;refine zO 11 J (aj (us:=[iV y20_0.Za,iV y20_0.N,.string y20_0.S]) (cs':=[iV y20_0.Za,iV y20_0.N,.string y20_0.S]) 1 J J J J size28.out J J J) ?_;rintro _ _ rfl;refine mj (cS [2,3] 4) ?_;refine bu ?_;refine zE 12 J (cm J) ?_;refine bq O ?_;refine qk ?_;exact ⟨_,_,.inl (⟨y20_0.Za,y20_0.N,y20_0.S,e7,h,J,J⟩),sA,cS [1,3] 4⟩
  replace h:=GC h;refine kJ (bv 0 J) (cS [2,3] 4) ?_;refine bu ?_;refine zD 4 J (dq (iY a6) J (bH [0] [] [0,1,2,3] 4 J)) ?_;rintro _ _ ⟨_,⟨b5,b6,b7,rfl,rfl⟩,rfl⟩;refine mj (cS [3,4] 5) ?_;refine bu ?_;refine yY [5,6,7,8,10] ?_;refine zO 11 J (aj (us:=[iV y20_1.2.1.Za,iV y20_1.2.1.N,.string y20_1.2.1.S]) (cs':=[iV y20_1.2.1.Za,iV y20_1.2.1.N,.string y20_1.2.1.S]) 2 J J J J size28.out J J J) ?_;rintro _ _ rfl;refine mj (cS [3,4] 5) ?_;refine bu ?_;refine zE 12 J (cm J) ?_;refine bq O ?_;refine qk ?_;exact ⟨_,_,.inr (⟨y20_1.1,y20_1.2.1.Za,y20_1.2.1.N,y20_1.2.1.S,y20_1.2.2,b5,b6,b7,e7,h,J,J⟩),sA,cS [0,2,4] 5⟩
 rintro _ _ (⟨p4,p5,p6,B3,h,rfl,rfl⟩|⟨p9,p13,a7,p15,e0,B8,e3,e4,e1,h,rfl,rfl⟩)
 ·refine aA ?_;refine Y ?_;refine iN J ?_;refine Y ?_;obtain rfl:=bD h;exact od J J (cS [] 2) ⟨J,J⟩
 refine aA ?_;refine Y ?_
 refine JA 10 33 23 h (fun _ b0 h=> ?_) (fun _ b0 h=> ?_) fun g3 h=> ?_
 ·refine Y ?_;obtain rfl:=bD h;exact aU sA (cS [0,1,2] 3)
 ·refine Y ?_;refine sc (ax (us:=[iV p13,iV a7,.string p15]) 1 J J agg28.out J) J (dw b0 J) J ?_;obtain ⟨g4,k,h⟩:=aa h;refine Cp (aH (rL k) J (t5 (qq (i:=0) J) (t5 (dc (i:=2) J J) au)) ph) J (dw b0 J) J ?_;rintro _ _ ⟨_,⟨g5,g6,g7,rfl,rfl⟩,rfl⟩;obtain ⟨d1,k,h⟩:=aa h;refine gU (aH (pS k) J (au) nh) (dw b0 J) ?_;obtain ⟨d2,k,h⟩:=aa h;refine gU (aH (pS k) J (au) nh) (dw b0 J) ?_;obtain ⟨d3,k,h⟩:=aa h;refine gU (aH (kC k) J (au) oX) (dw b0 J) ?_;refine Cp (aB (R:=nY) (vss:=[[iV d1.Za,iV d1.N,.string d1.S],[iV d2.Za,iV d2.N,.string d2.S],[iV d3.Za,iV d3.N,.string d3.S]]) (xs:=[d1,d2,d3]) J (PX _ _ _ _ _ _ _ _ _) J J (fun _ _ hr=> .cons J (.cons J (.cons J All2.nil)))) J (dw b0 J) J ?_;rintro _ _ ⟨g8,g9,h0,rfl,rfl⟩;obtain ⟨h1,k,h⟩:=aa h;refine gU (aH (Dr k) J (t5 (jw (i:=1) J) (t5 (jw (i:=0) J) au)) zN) (dw b0 J) ?_;refine Y ?_;obtain rfl:=bD h;exact aU sA (cS [2,3,4] 5)
 refine Y ?_;refine gH J h ?_ ?_<;>intro h
 ·refine Y ?_;obtain rfl:=bD h;exact od J J (cS [] 3) ⟨J,J⟩
 refine Y ?_;refine aA ?_;refine bh O _ (ad _) ?_;refine yY [0,1] ?_;obtain ⟨h2,k,h⟩:=aa h;refine zD 2 J (aH (pS k) J (au) nh) ?_;rintro _ _ ⟨_,⟨rfl,rfl⟩,rfl⟩;refine ⟨_,ad _,ad _,?_⟩;obtain ⟨h3,k,h⟩:=aa h;refine zD 3 J (aH (Di k) J (au) zG) ?_;rintro _ _ ⟨_,⟨rfl,rfl⟩,rfl⟩;refine ⟨_,ad _,ad _,?_⟩;obtain ⟨h4,k,h⟩:=aa h;refine IJ 4 J O O (dq (sr k) J (bH [2] [0] [1,2] 3 J)) ?_;rintro _ _ ⟨_,⟨rfl,rfl⟩,rfl⟩;refine bu ?_;refine yY [5,6,7,8,9] ?_;refine bq O ?_;refine Y ?_;refine gR (ax (us:=[iV p13,iV a7,.string p15]) 1 J J agg28.out J) ?_;obtain ⟨h5,k,h⟩:=aa h;refine gV (aH (wK k) J (t5 (qq (i:=0) J) au) ui) ?_;refine Y ?_;refine gR (ax (us:=[iV p13,iV a7,.string p15]) 1 J J agg28.out J) ?_;obtain ⟨h6,k,h⟩:=aa h;refine gV (dq (my k) J (bH [2] [0] [1,2] 3 J)) ?_;refine im ?_;refine Y ?_;refine aA ?_;refine Y ?_
 refine JA 2 52 50 h (fun _ f4 h=> ?_) (fun _ f4 h=> ?_) fun h7 h=> ?_
 ·refine Y ?_;obtain rfl:=bD h;exact aU sA (cS [0,1,2] 3)
 ·refine Y ?_;obtain rfl:=bD h;exact aU sA (cS [0,1,2] 3)
 refine Y ?_
 refine JA 3 56 53 h (fun _ f6 h=> ?_) (fun _ f6 h=> ?_) fun h8 h=> ?_
 ·refine Y ?_;obtain rfl:=bD h;exact aU sA (cS [0,1,2] 3)
 ·refine Y ?_;obtain rfl:=bD h;exact aU sA (cS [0,1,2] 3)
 refine Y ?_
 refine JA 3 60 57 h (fun _ f9 h=> ?_) (fun _ f9 h=> ?_) fun h9 h=> ?_
 ·refine Y ?_;obtain rfl:=bD h;exact aU sA (cS [0,1,2] 3)
 ·refine Y ?_;obtain rfl:=bD h;exact aU sA (cS [0,1,2] 3)
 refine Y ?_
 refine JA 9 70 61 h (fun _ b9 h=> ?_) (fun _ b9 h=> ?_) fun i0 h=> ?_
 ·refine Y ?_;obtain rfl:=bD h;exact aU sA (cS [0,1,2] 3)
 ·refine Y ?_;refine sc (ax (us:=[iV p13,iV a7,.string p15]) 1 J J agg28.out J) J (dw b9 J) J ?_;obtain ⟨i1,k,h⟩:=aa h;refine Cp (aH (rL k) J (t5 (qq (i:=0) J) (t5 (dc (i:=2) J J) au)) ph) J (dw b9 J) J ?_;rintro _ _ ⟨_,⟨i2,i3,i4,rfl,rfl⟩,rfl⟩;obtain ⟨d4,k,h⟩:=aa h;refine gU (aH (pS k) J (au) nh) (dw b9 J) ?_;obtain ⟨d6,k,h⟩:=aa h;refine gU (aH (kC k) J (au) oX) (dw b9 J) ?_;refine Cp (aB (R:=nY) (vss:=[[iV d4.Za,iV d4.N,.string d4.S],[iV d6.Za,iV d6.N,.string d6.S]]) (xs:=[d4,d6]) J (PY _ _ _ _ _ _) J J (fun _ _ hr=> .cons J (.cons J All2.nil))) J (dw b9 J) J ?_;rintro _ _ ⟨i5,i6,i7,rfl,rfl⟩;obtain ⟨i8,k,h⟩:=aa h;refine gU (aH (Dr k) J (t5 (jw (i:=1) J) (t5 (jw (i:=0) J) au)) zN) (dw b9 J) ?_;refine Y ?_;obtain rfl:=bD h;exact aU sA (cS [2,3,4] 5)
 refine Y ?_;refine gH J h ?_ ?_<;>intro h
 ·refine Y ?_;obtain rfl:=bD h;exact od J J (cS [] 3) ⟨J,J⟩
 refine Y ?_;refine aA ?_;refine bh O _ (ad _) ?_;refine yY [0,1] ?_;obtain ⟨i9,k,h⟩:=aa h;refine zD 2 J (aH (pS k) J (au) nh) ?_;rintro _ _ ⟨_,⟨rfl,rfl⟩,rfl⟩;refine ⟨_,ad _,ad _,?_⟩;obtain ⟨j0,k,h⟩:=aa h;refine zD 3 J (aH (Di k) J (au) zG) ?_;rintro _ _ ⟨_,⟨rfl,rfl⟩,rfl⟩;refine ⟨_,ad _,ad _,?_⟩;obtain ⟨j1,k,h⟩:=aa h;refine IJ 4 J O O (dq (sr k) J (bH [2] [0] [1,2] 3 J)) ?_;rintro _ _ ⟨_,⟨rfl,rfl⟩,rfl⟩;refine bu ?_;refine yY [5,6,7,8,9] ?_;refine bq O ?_;refine Y ?_;refine eC 80 J (fun c9=> ?_) (fun c9=> ?_)
 ·replace h:=cG c9 h;refine Y ?_;refine sc (ax (us:=[iV p13,iV a7,.string p15]) 1 J J agg28.out J) J (ca c9 J) J ?_;obtain ⟨j2,k,h⟩:=aa h;refine gU (dq (my k) J (bH [2] [0] [1,2] 3 J)) (ca c9 J) ?_;refine im ?_;refine Y ?_
  refine JA 5 91 86 h (fun _ e2 h=> ?_) (fun _ e2 h=> ?_) fun j3 h=> ?_
  ·refine Y ?_;refine sc (ax (us:=[iV p13,iV a7,.string p15]) 1 J J agg28.out J) J (ca e2 J) J ?_;obtain ⟨j4,k,h⟩:=aa h;refine gU (aH (wK k) J (t5 (qq (i:=0) J) au) ui) (ca e2 J) ?_;refine Y ?_;obtain rfl:=bD h;exact aU sA (cS [0,1,2] 3)
  ·refine Y ?_;obtain rfl:=bD h;exact aU sA (cS [0,1,2] 3)
  refine Y ?_;obtain rfl:=bD h;exact od J J (cS [] 3) ⟨J,J⟩
 replace h:=cH c9 h;refine Y ?_;obtain rfl:=bD h;exact od J J (cS [] 3) ⟨J,J⟩
theorem uV {r:Bool}: ∀v post,((fun (u:Value) (post:W8)=>u=.bool r/\post=[])) v post-> ∀c∈post,ij c:=by
 rintro _ _ ⟨rfl,rfl⟩;exact au
def gm (a0:WM)(a1:WV):Option (Int×WM):=
 (gu N a0.Zo a1).bind fun y8=>some (y8.1,(⟨a0.ZB,a0.Zu,(),y8.2,a0.Zp,a0.Zy,a0.ZE,a0.ZF,a0.ZG,a0.Zz,a0.ZA⟩:WM))
theorem zw {N:Nat}{a1:WV}{r:Int×WM}(h:gm N a0 a1=some r):Okc Xa 10 [pV B1 0,(aE a1)] ([ah B1 81 (zZ a0 B2 B3 A4 n4 c4 A5 n5 c5 A6 n6 c6),oDHeap B2 a0.Zo,oDTable B3 a0.Zp,pJ A4 n4 c4 a0.Zy,AB A5 n5 c5 a0.Zz,pJ A6 n6 c6 a0.ZA]) (fun u post=> ∃A0 n0 c0 A1 n1 c1 A2 n2 c2,u=iV r.1/\post=[ah B1 81 (zZ r.2 B2 B3 A0 n0 c0 A1 n1 c1 A2 n2 c2),oDHeap B2 r.2.Zo,oDTable B3 r.2.Zp,pJ A0 n0 c0 r.2.Zy,AB A1 n1 c1 r.2.Zz,pJ A2 n2 c2 r.2.ZA]):=by
 refine ce Tryz.func10 ?_;intro B7;refine sY ?_;refine fY (dL J Ws) ?_;refine fG J ?_;refine ab ?_;refine aA ?_;refine bh O ([ah B7 28 (bP a1),ah B1 81 (zZ a0 B2 B3 A4 n4 c4 A5 n5 c5 A6 n6 c6),oDTable B3 a0.Zp,pJ A4 n4 c4 a0.Zy,AB A5 n5 c5 a0.Zz,pJ A6 n6 c6 a0.ZA]) (cS [0,1,3,4,5,6] 7) ?_;refine ab ?_;obtain ⟨y8,k,h⟩:=aa h;refine zD 5 J (oC (dS k)) ?_;rintro _ _ ⟨_,⟨rfl,rfl⟩,rfl⟩;refine bY ?_;exact eY
theorem xf {N:Nat}{a1:WV}{r:Int×WM}(h:gm N a0 a1=some r){B1 B2 B3:Nat}:Okc Xa 10 [pV B1 0,(aE a1)] ([oDWorld B1 B2 B3 a0]) (fun u post=>u=iV r.1/\post=[oDWorld B1 B2 B3 r.2]):=LS 0 rfl (fun _=>zw h)
def yV (N:Nat)(a0:WW):Option WO:=
 aL (cF (([]:List WV).length+a0.length)) (some (⟨true,false,([]:List WV)++a0,[]⟩:WO))
theorem Kt {N:Nat}{a0:WW}{r:WO}(h:yV N a0=some r):Okc Xa 11 [W A1 n1 c1] ([aY A1 n1 c1 a0]) (fun u post=> ∃A0 n0 c0 A1 n1 c1,u=.agg #[.bool r.Ext,.bool r.Zs,W A0 n0 c0,W A1 n1 c1]/\post=[bf A0 n0 c0 r.Zk,bd iq 50 (W A1 n1 c1) r.Zm]):=by
 refine ce Tryz.func11 ?_;intro B2;refine ab ?_
 refine vc (aB (R:=ay) (vss:=[]) (xs:=[]) J (yx) J J (fun _ _ hr=>All2.nil)) fun A3 n3 c3=> ?_
 obtain ⟨q4,h⟩:=ae h
 refine vc (aX 0 2 J J bj J J t9 sd J J q4) fun A5 n5 c5=> ?_
 obtain rfl:=bD h;exact kI (rs:=[.cell 2 35]) (vs:=[.agg #[.bool true,.bool false,W A5 n5 c5,W none 0 0]]) J (.cons (dy 1 J J agg35.out) .nil) J ((ci iq 50 _).trans (cS [1,0] 4)) ⟨_,_,_,_,_,_,J,J⟩
theorem HX {r:WO}: ∀v post,((fun (u:Value) (post:W8)=> ∃A0 n0 c0 A1 n1 c1,u=.agg #[.bool r.Ext,.bool r.Zs,W A0 n0 c0,W A1 n1 c1]/\post=[bf A0 n0 c0 r.Zk,bd iq 50 (W A1 n1 c1) r.Zm])) v post-> ∀c∈post,ij c:=by
 rintro _ _ ⟨_,_,_,_,_,_,rfl,rfl⟩;exact t5 qv (t5 qv (au))
def kq (a0:WD):Option WW:=
 (aM N a0).bind fun y8=>bif y8 then (some []) else ((dz N a0.Zt).bind fun a6=>some a6)
theorem AD {N:Nat}{a0:WD}{r:WW}(h:kq N a0=some r):Okc Xa 40 [pV B1 0] ([aW B1 124 [W A2 n2 c2,W A3 n3 c3,W A4 n4 c4,W A5 n5 c5,pV B6 0],iI A2 n2 c2 a0.m_.Zh,iI A3 n3 c3 a0.m_.Zj,aY A4 n4 c4 a0.Zt,aY A5 n5 c5 a0.Zv,aW B6 213 [.map (some M7)],qJ jK qP M7 a0.Zw.at_]) (fun u post=> ∃A0 n0 c0,u=W A0 n0 c0/\post=[bf A0 n0 c0 r]):=by
 refine ce Tryz.func40 ?_;refine sZ ?_
 refine cR h (fun _ k=>dj k) fun y8 h=> ?_
 refine gH J h ?_ ?_<;>intro h
 ·refine ab ?_;obtain rfl:=bD h;exact od J J ((ci ay 28 _).trans (cS [0] 8)) ⟨_,_,_,J,J⟩
 refine MB h (fun _ k=>jT k) fun a6 a7 a8 b0 h=> ?_
 exact eN
theorem ye {N:Nat}{a0:WD}{r:WW}(h:kq N a0=some r):Okc Xa 40 [pV B1 0] ([pDHeap B1 a0]) (fun u post=> ∃A0 n0 c0,u=W A0 n0 c0/\post=[bf A0 n0 c0 r]):=Nr 0 rfl (fun _=>AD h)
def eK (a0:WM):Option Int:=
 (kq N a0.Zo).bind fun y7=>some (y7.length:Int)
theorem zx {N:Nat}{r:Int}(h:eK N a0=some r):Okc Xa 14 [pV B1 0] ([aW B1 81 (zZ a0 B2 B3 A4 n4 c4 A5 n5 c5 A6 n6 c6),pDHeap B2 a0.Zo,pDTable B3 a0.Zp,gK sJ (W A4 n4 c4) a0.Zy,gK nI (W A5 n5 c5) a0.Zz,gK sJ (W A6 n6 c6) a0.ZA]) (fun u post=>u=iV r/\post=[]):=by
 refine ce Tryz.func14 ?_;refine sZ ?_;refine fY (dL J Ws) ?_;refine fG J ?_
 refine MB h (fun _ k=>ye k) fun y7 A8 n8 c8 h=> ?_
 exact eN
theorem xg {r:Int}: ∀v post,((fun (u:Value) (post:W8)=>u=iV r/\post=[])) v post-> ∀c∈post,ij c:=by
 rintro _ _ ⟨rfl,rfl⟩;exact au
theorem qO {N:Nat}{r:Int}(h:eK N a0=some r){B1 B2 B3:Nat}:Okc Xa 14 [pV B1 0] ([pDWorld B1 B2 B3 a0]) (fun u post=>u=iV r/\post=[]):=Nr 0 rfl (fun _=>zx h)
theorem vq {r:Int}: ∀v post,((fun (u:Value) (post:W8)=>u=iV r/\post=[])) v post-> ∀c∈post,ij c:=xg
def ji (a0:WM)(a1:Int):Option WV:=
 (di N a0.Zo a1).bind fun y8=>some y8
theorem Bb {N:Nat}{r:WV}(h:ji N a0 a1=some r):Okc Xa 13 [pV B1 0,iV a1] ([aW B1 81 (zZ a0 B2 B3 A4 n4 c4 A5 n5 c5 A6 n6 c6),pDHeap B2 a0.Zo,pDTable B3 a0.Zp,gK sJ (W A4 n4 c4) a0.Zy,gK nI (W A5 n5 c5) a0.Zz,gK sJ (W A6 n6 c6) a0.ZA]) (fun u post=>u=(aE r)/\post=[]):=by
 refine ce Tryz.func13 ?_;intro B7;refine sY ?_;refine fY (dL J Ws) ?_;refine fG J ?_
 refine cR h (fun _ k=>iK k) fun y8 h=> ?_
 exact eN
theorem zB {r:WV}: ∀v post,((fun (u:Value) (post:W8)=>u=(aE r)/\post=[])) v post-> ∀c∈post,ij c:=by
 rintro _ _ ⟨rfl,rfl⟩;exact au
theorem sy {N:Nat}{r:WV}(h:ji N a0 a1=some r){B1 B2 B3:Nat}:Okc Xa 13 [pV B1 0,iV a1] ([pDWorld B1 B2 B3 a0]) (fun u post=>u=(aE r)/\post=[]):=Nr 0 rfl (fun _=>Bb h)
theorem xm {r:WV}: ∀v post,((fun (u:Value) (post:W8)=>u=(aE r)/\post=[])) v post-> ∀c∈post,ij c:=zB
def oK (N:Nat)(a1 p13:Int):Option Int:=
 bif decide (a1<=p13) then (some (-1)) else (some p13)
def qe (a0 a1 p7:Int):Option Int:=
 (bif decide (65<=a0) then (some (decide (a0<=70))) else (some false)).bind fun a6=>bif a6 then (aL (in64 ((IntKind.i64.wrap a0) - 65)) (aL (in64 (((IntKind.i64.wrap a0) - 65)+10)) (oK N a1 (((IntKind.i64.wrap a0) - 65)+10)))) else (oK N a1 p7)
def qf (a0 a1 p2:Int):Option Int:=
 (bif decide (97<=a0) then (some (decide (a0<=102))) else (some false)).bind fun b8=>bif b8 then (aL (in64 ((IntKind.i64.wrap a0) - 97)) (aL (in64 (((IntKind.i64.wrap a0) - 97)+10)) (qe N a0 a1 (((IntKind.i64.wrap a0) - 97)+10)))) else (qe N a0 a1 p2)
def uI (a0 a1:Int):Option Int:=
 (bif decide (48<=a0) then (some (decide (a0<=57))) else (some false)).bind fun b3=>bif b3 then (aL (in64 ((IntKind.i64.wrap a0) - 48)) (qf N a0 a1 ((IntKind.i64.wrap a0) - 48))) else (qf N a0 a1 (-1))
theorem H1 {N:Nat}{a0 r:Int}(h:uI N a0 a1=some r):Okc Xa 187 [.int .u8 a0,iV a1] ([]) (fun u post=>u=iV r/\post=[]):=by
 refine ce Tryz.func187 ?_;refine am (fun s L=> ∃p2,qf N a0 a1 p2=some r/\s=[(0,.int .u8 a0),(1,iV a1),(4,iV 0),(5,iV p2)]/\L=[]) ?_ ?_
 ·refine ab ?_;refine gS 3 11 8 h ?_;intro b3 h;refine dv h ?_ ?_<;>intro h
  ·refine ab ?_;refine gE (wV J J Wp) ?_;obtain ⟨q5,h⟩:=ae h;exact jY
  exact jY
 rintro _ _ ⟨p2,h,rfl,rfl⟩;refine am (fun s L=> ∃p7,qe N a0 a1 p7=some r/\s=[(0,.int .u8 a0),(1,iV a1),(4,iV 0),(5,iV p7)]/\L=[]) ?_ ?_
 ·refine ab ?_;refine gS 3 20 17 h ?_;intro b8 h;refine dv h ?_ ?_<;>intro h
  ·refine ab ?_;refine gE (wV J J Wp) ?_;obtain ⟨a6,h⟩:=ae h;refine ab ?_;obtain ⟨a7,h⟩:=ae h;exact jY
  exact jY
 rintro _ _ ⟨p7,h,rfl,rfl⟩;refine am (fun s L=> ∃p13,oK N a1 p13=some r/\s=[(1,iV a1),(4,iV 0),(5,iV p13)]/\L=[]) ?_ ?_
 ·refine ab ?_;refine gS 3 30 27 h ?_;intro a8 h;refine dv h ?_ ?_<;>intro h
  ·refine ab ?_;refine gE (wV J J Wp) ?_;obtain ⟨b0,h⟩:=ae h;refine ab ?_;obtain ⟨b5,h⟩:=ae h;exact jY
  exact jY
 rintro _ _ ⟨p13,h,rfl,rfl⟩;refine sZ ?_;refine gH J h ?_ ?_<;>intro h
 ·exact eY
 exact eY
def wu (N:Nat)(a0:ByteArray)(p2:Int):Option (Int×Bool):=
 some (p2,!(a0.toList==(⟨#[]⟩:ByteArray).toList))
def sP (N:Nat)(a6:Int->Int->Option (Int×Bool))(a0:ByteArray)(a1 p5 p8:Int):Option (Int×Bool):=
 aL (in64 (p5+1)) (a6 p8 (p5+1))
def rD (a6:Int->Int->Option (Int×Bool))(a0:ByteArray)(a1 p5 p13:Int):Option (Int×Bool):=
 bif decide (9007199254740992<p13) then (sP N a6 a0 a1 p5 (-1)) else (sP N a6 a0 a1 p5 p13)
def ma (N:Nat)(a0:ByteArray)(a1:Int):Nat->Int->Int->Option (Int×Bool)
 |0,_,_=>none
 |m3+1,p4,p5=>bif decide (p5<(a0.size:Int)) then ((FB a0 p5).bind fun x9=>(uI N x9 a1).bind fun a6=>bif decide (a6<0) then (some (0,false)) else (bif decide (0<=p4) then (aL (in64 (p4*a1)) (aL (in64 ((p4*a1)+a6)) (rD N (ma N a0 a1 m3) a0 a1 p5 ((p4*a1)+a6)))) else (rD N (ma N a0 a1 m3) a0 a1 p5 p4))) else (wu N a0 p4)
def xX (a0:ByteArray)(a1:Int):Option (Int×Bool):=
 ma N a0 a1 N 0 0
theorem H2 {N:Nat}{a0:ByteArray}{r:Int×Bool}(h:xX N a0 a1=some r):Okc Xa 152 [.string a0,iV a1] ([]) (fun u post=>u=.tuple #[iV r.1,.bool r.2]/\post=[]):=by
 refine ce Tryz.func152 ?_;refine am (fun s L=> ∃p2,wu N a0 p2=some r/\s=[(0,.string a0),(4,iV 0),(5,.bool false),(6,iV p2)]/\L=[]) ?_ ?_
 ·refine ab ?_;refine lK (fun m s L=> ∃(p4:Int) (p5:Int),ma N a0 a1 m p4 p5=some r/\s=[(0,.string a0),(1,iV a1),(4,iV 0),(5,.bool false),(6,iV p4),(7,iV p5)]/\L=[]) N ?_;rintro m3 _ _ ⟨p4,p5,h,rfl,rfl⟩;rw [ma.eq_2] at h;refine sZ ?_;refine fY (qw J Wn) ?_;refine gH J h ?_ ?_<;>intro h
  ·refine ab ?_;refine am (fun s L=> ∃p8,sP N (ma N a0 a1 m3) a0 a1 p5 p8=some r/\s=[(0,.string a0),(1,iV a1),(4,iV 0),(5,.bool false),(6,iV p8),(7,iV p5)]/\L=[]) ?_ ?_
   ·refine ab ?_;obtain ⟨x9,a7,h⟩:=aa h;refine fY (tr J J Wn a7) ?_
    refine cR h (fun _ k=>H1 k) fun a8 h=> ?_
    refine sZ ?_;refine gH J h ?_ ?_<;>intro h
    ·exact eY
    refine ab ?_;refine am (fun s L=> ∃p13,rD N (ma N a0 a1 m3) a0 a1 p5 p13=some r/\s=[(0,.string a0),(1,iV a1),(4,iV 0),(5,.bool false),(6,iV p13),(7,iV p5)]/\L=[]) ?_ ?_
    ·refine dv h ?_ ?_<;>intro h
     ·refine ab ?_;obtain ⟨a6,h⟩:=ae h;refine fY (rp J J a6.1 a6.2) ?_;obtain ⟨b0,h⟩:=ae h;exact jY
     exact jY
    rintro _ _ ⟨p13,h,rfl,rfl⟩;refine dv h ?_ ?_<;>intro h
    ·exact jY
    exact jY
   rintro _ _ ⟨p8,h,rfl,rfl⟩;refine ab ?_;obtain ⟨b5,h⟩:=ae h;exact lY
  exact jY
 rintro _ _ ⟨p2,h,rfl,rfl⟩;refine ab ?_;refine fY (FO J J) ?_;exact eN
end
section
variable {A1 A2 A5 A6:Option Addr}{B1 B2 B3 c1 c2 c5 c6 n1 n2 n5 n6:Nat}
open Go.RowKit Asn
set_option maxRecDepth 20000
def uF (a0:ByteArray):Option (Int×Bool):=
 (bif a0.toList==(⟨#[]⟩:ByteArray).toList then (some true) else (some (decide (10<(a0.size:Int))))).bind fun b1=>(bif b1 then (some true) else ((FB a0 0).bind fun x3=>(bif decide (x3=48) then (some (decide (1<(a0.size:Int)))) else (some false)).bind fun b4=>some b4)).bind fun b2=>bif b2 then (some (0,false)) else ((xX N a0 10).bind fun y6=>(bif !y6.2 then (some true) else (some (decide (4294967294<y6.1)))).bind fun b7=>bif b7 then (some (0,false)) else (some (y6.1,true)))
theorem H0 {N:Nat}{a0:ByteArray}{r:Int×Bool}(h:uF N a0=some r):Okc Xa 109 [.string a0] ([]) (fun u post=>u=.tuple #[iV r.1,.bool r.2]/\post=[]):=by
 refine ce Tryz.func109 ?_;refine sZ ?_;refine fY (rZ J J) ?_
 refine wT 4 12 8 h (fun _ g1 h=> ?_) fun b1 h=> ?_
 ·refine ab ?_;refine eW (qw J Wn) J (dw g1 J) J ?_;exact gY
 refine ab ?_
 refine wT 9 22 13 h (fun _ g2 h=> ?_) fun b2 h=> ?_
 ·refine ab ?_;obtain ⟨x3,a6,h⟩:=aa h;refine eW (tr J J Wn a6) J (dw g2 J) J ?_;refine ab ?_
  refine ou 4 21 17 h (fun _ g4 h=> ?_) fun b4 h=> ?_
  ·refine ab ?_;refine eW (qw J Wn) J (ca g4 J) J ?_;exact gY
  exact gY
 refine dv h ?_ ?_<;>intro h
 ·exact eY
 refine cR h (fun _ k=>H2 k) fun y6 h=> ?_
 refine sZ ?_;refine gS 3 33 30 h ?_;intro b7 h;refine dv h ?_ ?_<;>intro h
 ·exact eY
 exact eY
def uE (a0:WL):Option Bool:=
 bif decide (a0.Za=0) then ((bif decide (0<=a0.N) then (some (decide (a0.N<=4294967294))) else (some false)).bind fun b3=>(bif b3 then (some (a0.S.toList==(⟨#[]⟩:ByteArray).toList)) else (some false)).bind fun b4=>some b4) else (bif decide (a0.Za=1) then ((uF N a0.S).bind fun y6=>(bif decide (a0.N=0) then (some (!y6.2)) else (some false)).bind fun b7=>(bif b7 then (some (decide ((a0.S.size:Int)<=65536))) else (some false)).bind fun b8=>some b8) else (bif decide (a0.Za=2) then ((bif decide (1<=a0.N) then (some (a0.S.toList==(⟨#[]⟩:ByteArray).toList)) else (some false)).bind fun a6=>some a6) else (some false)))
theorem HZ {N:Nat}{a0:WL}{r:Bool}(h:uE N a0=some r):Okc Xa 69 [(eT a0)] ([]) (fun u post=>u=.bool r/\post=[]):=by
 refine ce Tryz.func69 ?_;intro B1;refine sY ?_;refine gH J h ?_ ?_<;>intro h
 ·refine ab ?_;refine gS 4 16 12 h ?_;intro b3 h;refine ab ?_
  refine ou 4 21 17 h (fun _ g4 h=> ?_) fun b4 h=> ?_
  ·refine ab ?_;refine eW (rZ J J) J (ca g4 J) J ?_;exact gY
  exact eY
 refine dv h ?_ ?_<;>intro h
 ·refine cR h (fun _ k=>H0 k) fun y6 h=> ?_
  refine gS 3 36 33 h ?_;intro b7 h;refine ab ?_
  refine ou 5 42 37 h (fun _ g8 h=> ?_) fun b8 h=> ?_
  ·refine ab ?_;refine eW (qw J Wn) J (ca g8 J) J ?_;exact gY
  exact eY
 refine dv h ?_ ?_<;>intro h
 ·refine ab ?_
  refine ou 4 52 48 h (fun _ a6 h=> ?_) fun a7 h=> ?_
  ·refine ab ?_;refine eW (rZ J J) J (ca a6 J) J ?_;exact gY
  exact eY
 exact eY
theorem EP {r:Bool}: ∀v post,((fun (u:Value) (post:W8)=>u=.bool r/\post=[])) v post-> ∀c∈post,ij c:=by
 rintro _ _ ⟨rfl,rfl⟩;exact au
def bM (N:Nat)(a0 a1:Int):Option Bool:=
 aL ((a1:Int)≠0/\in64 (a0.tdiv a1)) (some (decide ((a0.tdiv a1).tmod 2=1)))
theorem cY {N:Nat}{a0:Int}{r:Bool}(h:bM N a0 a1=some r):Okc Xa 112 [iV a0,iV a1] ([]) (fun u post=>u=.bool r/\post=[]):=by
 refine ce Tryz.func112 ?_;obtain ⟨q1,h⟩:=ae h;refine gE (FP J J q1.1 q1.2.1 q1.2.2) ?_;refine fY (sn J J (by decide)) ?_;exact eN
def ba (a0:WG)(a1:Int):Option Bool:=
 (bM N a0.Has a1).bind fun y2=>some y2
theorem bI {N:Nat}{a0:WG}{r:Bool}(h:ba N a0 a1=some r):Okc Xa 113 [(fV a0),iV a1] ([]) (fun u post=>u=.bool r/\post=[]):=by
 refine ce Tryz.func113 ?_;intro B1
 refine cR h (fun _ k=>cY k) fun y2 h=> ?_
 exact eN
def kD (a0:WG):Option Bool:=
 (ba N a0 1).bind fun y2=>(bif y2 then (some true) else ((ba N a0 2).bind fun y4=>some y4)).bind fun b3=>some b3
theorem xR {N:Nat}{a0:WG}{r:Bool}(h:kD N a0=some r):Okc Xa 110 [(fV a0)] ([]) (fun u post=>u=.bool r/\post=[]):=by
 refine ce Tryz.func110 ?_;intro B1
 refine cR h (fun _ k=>bI k) fun y2 h=> ?_
 refine wT 3 8 5 h (fun _ g3 h=> ?_) fun b3 h=> ?_
 ·refine cR h (fun _ k=>bI k) fun y4 h=> ?_
  exact gY
 exact eY
def dD (a0:WG):Option Bool:=
 (ba N a0 4).bind fun y2=>(bif y2 then (some true) else ((ba N a0 8).bind fun y4=>some y4)).bind fun b3=>some b3
theorem oY {N:Nat}{a0:WG}{r:Bool}(h:dD N a0=some r):Okc Xa 111 [(fV a0)] ([]) (fun u post=>u=.bool r/\post=[]):=by
 refine ce Tryz.func111 ?_;intro B1
 refine cR h (fun _ k=>bI k) fun y2 h=> ?_
 refine wT 3 8 5 h (fun _ g3 h=> ?_) fun b3 h=> ?_
 ·refine cR h (fun _ k=>bI k) fun y4 h=> ?_
  exact gY
 exact eY
def ra (N:Nat)(a0:WV)(a1:Bool):Option Bool:=
 bif !a1 then (some (decide (a0=(⟨0,0,⟨#[]⟩⟩:WV)))) else ((bif decide (a0.Za=0) then (some true) else (some (decide (a0.Za=7)))).bind fun b3=>some b3)
theorem Dq {N:Nat}{a0:WV}{a1 r:Bool}(h:ra N a0 a1=some r):Okc Xa 114 [(aE a0),.bool a1] ([]) (fun u post=>u=.bool r/\post=[]):=by
 refine ce Tryz.func114 ?_;intro B1;refine sY ?_;refine gH J h ?_ ?_<;>intro h
 ·refine ab ?_;refine fY (vP (x:=a0) (y:=(⟨0,0,⟨#[]⟩⟩:WV)) J J) ?_;exact eN
 refine ab ?_;refine gS 4 17 13 h ?_;intro b3 h;exact eY
def dW (a0:WG):Option Bool:=
 (bif decide (a0.Has<0) then (some true) else (some (decide (63<a0.Has)))).bind fun b2=>(bif b2 then (some true) else (some (decide (a0.Zd<0)))).bind fun b3=>(bif b3 then (some true) else (some (decide (7<a0.Zd)))).bind fun b4=>(bif b4 then (some true) else ((kD N a0).bind fun y6=>(bif y6 then ((dD N a0).bind fun y8=>some y8) else (some false)).bind fun b7=>some b7)).bind fun b5=>bif b5 then (some false) else ((bM N a0.Zd 1).bind fun a6=>(bif a6 then ((ba N a0 2).bind fun a7=>some (!a7)) else (some false)).bind fun a8=>(bif a8 then (some true) else ((bM N a0.Zd 2).bind fun b0=>(bif b0 then ((ba N a0 16).bind fun b6=>some (!b6)) else (some false)).bind fun b9=>some b9)).bind fun c7=>(bif c7 then (some true) else ((bM N a0.Zd 4).bind fun c8=>(bif c8 then ((ba N a0 32).bind fun c9=>some (!c9)) else (some false)).bind fun d0=>some d0)).bind fun d1=>bif d1 then (some false) else ((ba N a0 1).bind fun d2=>(bif !d2 then (some (!decide (a0.Value=(⟨0,0,⟨#[]⟩⟩:WV)))) else (some false)).bind fun d3=>(bif d3 then (some true) else (some (decide (a0.Value.Za<0)))).bind fun d4=>(bif d4 then (some true) else (some (decide (7<a0.Value.Za)))).bind fun d6=>bif d6 then (some false) else ((ba N a0 4).bind fun e0=>(ra N a0.Zq e0).bind fun e1=>(bif e1 then ((ba N a0 8).bind fun e2=>(ra N a0.Zr e2).bind fun e3=>some e3) else (some false)).bind fun e4=>some e4)))
theorem HY {N:Nat}{a0:WG}{r:Bool}(h:dW N a0=some r):Okc Xa 70 [(fV a0)] ([]) (fun u post=>u=.bool r/\post=[]):=by
 refine ce Tryz.func70 ?_;intro B1;refine sY ?_;refine gS 4 10 6 h ?_;intro b2 h;refine ab ?_;refine gS 4 15 11 h ?_;intro b3 h;refine ab ?_;refine gS 4 20 16 h ?_;intro b4 h;refine ab ?_;obtain ⟨b5,d6,h⟩:=aa h;refine fd 7 28 b5 ?_ ?_
 ·clear h;refine eC 21 J (fun g5=> ?_) (fun g5=> ?_)
  ·have h:=cG g5 d6;exact gY
  have h:=cH g5 d6;refine ab ?_;obtain ⟨y6,k,h⟩:=aa h;refine gU (oR (xR k)) (dw g5 J) ?_;refine ab ?_;obtain ⟨b7,e0,h⟩:=aa h;refine fd 3 27 b7 ?_ ?_
  ·clear h;refine eC 24 J (fun g7=> ?_) (fun g7=> ?_)
   ·have h:=cG g7 e0;refine ab ?_;obtain ⟨y8,k,h⟩:=aa h;refine gU (oR (oY k)) (ca g7 J) ?_;exact gY
   have h:=cH g7 e0;exact gY
  exact gY
 refine dv h ?_ ?_<;>intro h
 ·exact eY
 refine sY ?_;obtain ⟨e8,k,h⟩:=aa h;refine F6 (oR (cY k)) ?_;obtain ⟨e1,a7,h⟩:=aa h;refine fd 4 36 e1 ?_ ?_
 ·clear h;refine eC 32 J (fun c9=> ?_) (fun c9=> ?_)
  ·have h:=cG c9 a7;refine ab ?_;obtain ⟨e9,k,h⟩:=aa h;refine gU (oR (bI k)) (ca c9 J) ?_;exact gY
  have h:=cH c9 a7;exact gY
 refine ab ?_;obtain ⟨e2,a8,h⟩:=aa h;refine fd 9 46 e2 ?_ ?_
 ·clear h;refine eC 37 J (fun d0=> ?_) (fun d0=> ?_)
  ·have h:=cG d0 a8;exact gY
  have h:=cH d0 a8;refine ab ?_;obtain ⟨f0,k,h⟩:=aa h;refine gU (oR (cY k)) (dw d0 J) ?_;refine ab ?_;obtain ⟨e3,b0,h⟩:=aa h;refine fd 4 45 e3 ?_ ?_
  ·clear h;refine eC 41 J (fun d1=> ?_) (fun d1=> ?_)
   ·have h:=cG d1 b0;refine ab ?_;obtain ⟨f1,k,h⟩:=aa h;refine gU (oR (bI k)) (ca d1 J) ?_;exact gY
   have h:=cH d1 b0;exact gY
  exact gY
 refine ab ?_;obtain ⟨e4,b6,h⟩:=aa h;refine fd 9 56 e4 ?_ ?_
 ·clear h;refine eC 47 J (fun d2=> ?_) (fun d2=> ?_)
  ·have h:=cG d2 b6;exact gY
  have h:=cH d2 b6;refine ab ?_;obtain ⟨f2,k,h⟩:=aa h;refine gU (oR (cY k)) (dw d2 J) ?_;refine ab ?_;obtain ⟨e5,b9,h⟩:=aa h;refine fd 4 55 e5 ?_ ?_
  ·clear h;refine eC 51 J (fun d3=> ?_) (fun d3=> ?_)
   ·have h:=cG d3 b9;refine ab ?_;obtain ⟨f3,k,h⟩:=aa h;refine gU (oR (bI k)) (ca d3 J) ?_;exact gY
   have h:=cH d3 b9;exact gY
  exact gY
 refine dv h ?_ ?_<;>intro h
 ·exact eY
 refine sY ?_;obtain ⟨f4,k,h⟩:=aa h;refine F6 (oR (bI k)) ?_;obtain ⟨e6,c7,h⟩:=aa h;refine fd 5 65 e6 ?_ ?_
 ·clear h;refine eC 60 J (fun d4=> ?_) (fun d4=> ?_)
  ·have h:=cG d4 c7;refine ab ?_;refine eW (C3 (x:=a0.Value) (y:=(⟨0,0,⟨#[]⟩⟩:WV)) J J) J (ca d4 J) J ?_;exact gY
  have h:=cH d4 c7;exact gY
 refine ab ?_;refine gS 5 71 66 h ?_;intro f6 h;refine ab ?_;refine gS 5 77 72 h ?_;intro f9 h;refine dv h ?_ ?_<;>intro h
 ·exact eY
 refine ab ?_;refine dY [0,1,2] ?_;obtain ⟨g0,k,h⟩:=aa h;refine zD 3 J (oR (bI k)) ?_;rintro _ _ ⟨_,⟨rfl,rfl⟩,rfl⟩;refine ⟨_,ad _,ad _,?_⟩;obtain ⟨g1,k,h⟩:=aa h;refine zD 4 J (oR (Dq k)) ?_;rintro _ _ ⟨_,⟨rfl,rfl⟩,rfl⟩;refine ⟨_,ad _,ad _,?_⟩;refine zY [5] ?_;obtain ⟨e7,c8,h⟩:=aa h;refine vU (fun l=>((((((l.setIfInBounds 6 true).setIfInBounds 7 true).setIfInBounds 8 true).setIfInBounds 9 true).setIfInBounds 10 true).setIfInBounds 11 true)) 1 89 e7 (fun rest=> ?_) ?_
 ·clear h;refine zo 83 J (fun a6=> ?_) (fun a6=> ?_)
  ·have h:=cG a6 c8;refine io 6 J O (kH J Mj) (ca a6 J) J ?_;refine sF 7 J O (ax (us:=bP a0.Zr) 0 J J agg28.out J) (ca a6 J) J ?_;refine sF 8 J O (ax (us:=iw a0) 0 J J agg41.out J) (ca a6 J) J ?_;obtain ⟨g2,k,h⟩:=aa h;refine pt 9 J O (oR (bI k)) J (ca a6 J) J ?_;rintro _ _ ⟨_,⟨rfl,rfl⟩,rfl⟩;refine ⟨_,ad _,ad _,?_⟩;obtain ⟨g3,k,h⟩:=aa h;refine pt 10 J O (oR (Dq k)) J (ca a6 J) J ?_;rintro _ _ ⟨_,⟨rfl,rfl⟩,rfl⟩;refine ⟨_,ad _,ad _,?_⟩;refine zE 11 J (iy a6 J J) ?_;obtain rfl:=bD h;exact qF rest (la J (av (av (av (av (av (av bQ J) J) J) J) J) J)) (ad _) (ad _)
  have h:=cH a6 c8;refine iM 6 J O (uc a6 J) J ?_;refine iM 7 J O (uc a6 J) J ?_;refine iM 8 J O (uc a6 J) J ?_;refine iM 9 J O (uc a6 J) J ?_;refine iM 10 J O (uc a6 J) J ?_;refine zE 11 J (jy a6 J J) ?_;obtain rfl:=bD h;exact qF rest (la J (av (av (av (av (av (av bQ J) J) J) J) J) J)) (ad _) (ad _)
 refine zX [12] ?_;exact eY
theorem EN {r:Bool}: ∀v post,((fun (u:Value) (post:W8)=>u=.bool r/\post=[])) v post-> ∀c∈post,ij c:=by
 rintro _ _ ⟨rfl,rfl⟩;exact au
def Bj (N:Nat):Option Int:=
 some (-1)
def qa (N:Nat)(a0:WO)(a1:WL):Nat->Int->Option Int
 |0,_=>none
 |m6+1,p7=>bif decide (p7<(a0.Zm.length:Int)) then ((aq a0.Zm p7).bind fun x9=>bif decide (x9.Zf=a1) then (some p7) else (aL (in64 (p7+1)) ((qa N a0 a1 m6) (p7+1)))) else (Bj N)
def lD (a0:WO)(a1:WL):Option Int:=
 qa N a0 a1 N 0
theorem wk {N:Nat}{a0:WO}{a1:WL}{r:Int}(h:lD N a0 a1=some r):Okc Xa 73 [.agg #[.bool a0.Ext,.bool a0.Zs,W A1 n1 c1,W A2 n2 c2],(eT a1)] ([aY A1 n1 c1 a0.Zk,sU A2 n2 c2 a0.Zm]) (fun u post=>u=iV r/\post=[]):=by
 refine ce Tryz.func73 ?_;intro B3
 refine cl fun B4=> ?_
 refine am (fun s L=>Bj N=some r/\s=[(4,iV 0)]/\L=[]) ?_ ?_
 ·refine ab ?_;refine lK (fun m s L=> ∃(p7:Int),qa N a0 a1 m p7=some r/\s=[(2,pV B3 0),(3,pV B4 0),(4,iV 0),(5,iV p7)]/\L=[aY A1 n1 c1 a0.Zk,sU A2 n2 c2 a0.Zm,ah B3 35 (kY a0 A1 n1 c1 A2 n2 c2),ah B4 39 (lH a1)]) N ?_;rintro m6 _ _ ⟨p7,h,rfl,rfl⟩;rw [qa.eq_2] at h;refine sZ ?_;refine gH J h ?_ ?_<;>intro h
  ·refine sY ?_;refine dY [] ?_;refine ab ?_;obtain ⟨x9,a6,a7,a8,h⟩:=bz h;refine ab ?_;refine zR 4 J (sg 1 J bj J (toNat_lt a6 a7) Ij) ?_;refine ab ?_;refine zE 7 J (vO (x:=x9.Zf) (y:=a1) J J) ?_;refine dv h ?_ ?_<;>intro h
   ·exact eY
   refine ab ?_;obtain ⟨b0,h⟩:=ae h;exact lY
  exact jY
 rintro _ _ ⟨h,rfl,rfl⟩;exact eY
theorem EL {r:Int}: ∀v post,((fun (u:Value) (post:W8)=>u=iV r/\post=[])) v post-> ∀c∈post,ij c:=by
 rintro _ _ ⟨rfl,rfl⟩;exact au
def wo (N:Nat)(a0:WO)(a1:WL)(a6:Int):Option (WU×Bool):=
 some ((⟨a1,a6,(⟨3,(a0.Zk.length:Int),⟨#[]⟩⟩:WV),(⟨0,0,⟨#[]⟩⟩:WV),(⟨0,0,⟨#[]⟩⟩:WV)⟩:WU),true)
def nJ (a0:WO)(a1:WL):Option (WU×Bool):=
 (dp N).bind fun y6=>bif decide (a1=y6) then (bif !a0.Zs then (wo N a0 a1 1) else (wo N a0 a1 0)) else ((bif decide (a1.Za=0) then (some (a1.S.toList==(⟨#[]⟩:ByteArray).toList)) else (some false)).bind fun b12=>(bif b12 then (some (decide (0<=a1.N))) else (some false)).bind fun a7=>(bif a7 then (some (decide (a1.N<(a0.Zk.length:Int)))) else (some false)).bind fun a8=>(bif a8 then ((aq a0.Zk a1.N).bind fun b0=>some (!decide (b0.Za=8))) else (some false)).bind fun b5=>bif b5 then ((aq a0.Zk a1.N).bind fun b6=>some ((⟨a1,7,b6,(⟨0,0,⟨#[]⟩⟩:WV),(⟨0,0,⟨#[]⟩⟩:WV)⟩:WU),true)) else ((lD N a0 a1).bind fun a6=>bif decide (a6<0) then (some ((⟨(⟨0,0,⟨#[]⟩⟩:WL),0,(⟨0,0,⟨#[]⟩⟩:WV),(⟨0,0,⟨#[]⟩⟩:WV),(⟨0,0,⟨#[]⟩⟩:WV)⟩:WU),false)) else ((aq a0.Zm a6).bind fun b7=>some (b7,true))))
theorem wn {N:Nat}{a0:WO}{a1:WL}{r:WU×Bool}(h:nJ N a0 a1=some r):Okc Xa 56 [.agg #[.bool a0.Ext,.bool a0.Zs,W A1 n1 c1,W A2 n2 c2],(eT a1)] ([aY A1 n1 c1 a0.Zk,sU A2 n2 c2 a0.Zm]) (fun u post=>u=.tuple #[(cc r.1),.bool r.2]/\post=[]):=by
 refine ce Tryz.func56 ?_;intro B3
 refine cl fun B4=> ?_
 intro B5;refine ab ?_;refine aA ?_;refine dY [] ?_;refine ab ?_;obtain ⟨y6,k,h⟩:=aa h;refine zD 1 J (oR (kC k)) ?_;rintro _ _ ⟨_,⟨rfl,rfl⟩,rfl⟩;refine ⟨_,ad _,ad _,?_⟩;refine zE 2 J (vO (x:=a1) (y:=y6) J J) ?_;refine dv h ?_ ?_<;>intro h
 ·refine cl fun B8=> ?_
  refine am (fun s L=> ∃a7,wo N a0 a1 a7=some r/\s=[(2,pV B3 0),(3,pV B4 0),(4,pV B5 0),(5,.bool false),(6,pV B8 0)]/\L=[aY A1 n1 c1 a0.Zk,sU A2 n2 c2 a0.Zm,ah B3 35 (kY a0 A1 n1 c1 A2 n2 c2),ah B4 39 (lH a1),ah B5 50 [iV 0,iV 0,.string (⟨#[]⟩),iV 0,iV 0,iV 0,.string (⟨#[]⟩),iV 0,iV 0,.string (⟨#[]⟩),iV 0,iV 0,.string (⟨#[]⟩)],ah B8 50 [iV a1.Za,iV a1.N,.string a1.S,iV a7,iV 3,iV (a0.Zk.length:Int),.string (⟨#[]⟩),iV 0,iV 0,.string (⟨#[]⟩),iV 0,iV 0,.string (⟨#[]⟩)]]) ?_ ?_
  ·refine dv h ?_ ?_<;>intro h
   ·exact jY
   exact jY
  rintro _ _ ⟨a7,h,rfl,rfl⟩;exact eY
 refine sY ?_
 refine ou 4 29 25 h (fun _ b5 h=> ?_) fun b12 h=> ?_
 ·refine ab ?_;refine eW (rZ J J) J (ca b5 J) J ?_;exact gY
 refine ab ?_;refine gS 4 34 30 h ?_;intro d2 h;refine ab ?_;refine gS 7 42 35 h ?_;intro d3 h;refine ab ?_
 refine ou 9 52 43 h (fun _ b6 h=> ?_) fun d4 h=> ?_
 ·refine ab ?_;obtain ⟨d6,a8,b0,b7,h⟩:=bz h;refine ab ?_;refine sc (sg 3 J bj J (toNat_lt a8 b0) sW) J (ca b6 J) J ?_;exact gY
 refine dv h ?_ ?_<;>intro h
 ·refine dY [] ?_;refine ab ?_;obtain ⟨a6,b9,c7,c8,h⟩:=bz h;refine ab ?_;refine gI 8 J O O (aj (us:=[iV a1.Za,iV a1.N,.string a1.S,iV 7,iV a6.Za,iV a6.N,.string a6.S,iV 0,iV 0,.string (⟨#[]⟩),iV 0,iV 0,.string (⟨#[]⟩)]) (cs':=[iV a1.Za,iV a1.N,.string a1.S,iV 7,iV a6.Za,iV a6.N,.string a6.S,iV 0,iV 0,.string (⟨#[]⟩),iV 0,iV 0,.string (⟨#[]⟩)]) 0 J J J J size50.out J J J) ?_;rintro _ _ rfl;exact eY
 refine cR h (fun _ k=>wk k) fun e0 h=> ?_
 refine sZ ?_;refine gH J h ?_ ?_<;>intro h
 ·exact eY
 refine ab ?_;obtain ⟨e1,c9,d0,d1,h⟩:=bz h;exact eY
theorem Bk {r:WU×Bool}: ∀v post,((fun (u:Value) (post:W8)=>u=.tuple #[(cc r.1),.bool r.2]/\post=[])) v post-> ∀c∈post,ij c:=by
 rintro _ _ ⟨rfl,rfl⟩;exact au
def sM (N:Nat)(a0:WG)(a1:WL)(a6:Int):Option WU:=
 some (⟨a1,a6,a0.Value,(⟨0,0,⟨#[]⟩⟩:WV),(⟨0,0,⟨#[]⟩⟩:WV)⟩:WU)
def sN (a0:WG)(a1:WL)(p13:Int):Option WU:=
 (dD N a0).bind fun a6=>bif a6 then (aL (in64 (p13+8)) (some (⟨a1,p13+8,(⟨0,0,⟨#[]⟩⟩:WV),a0.Zq,a0.Zr⟩:WU))) else ((ba N a0 2).bind fun a7=>(bif a7 then ((bM N a0.Zd 1).bind fun a8=>some a8) else (some false)).bind fun b0=>bif b0 then (aL (in64 (p13+1)) (sM N a0 a1 (p13+1))) else (sM N a0 a1 p13))
def uD (a0:WG)(a1:WL)(p6:Int):Option WU:=
 (ba N a0 32).bind fun a6=>(bif a6 then ((bM N a0.Zd 4).bind fun a7=>some a7) else (some false)).bind fun a8=>bif a8 then (aL (in64 (p6+4)) (sN N a0 a1 (p6+4))) else (sN N a0 a1 p6)
def wp (a0:WG)(a1:WL):Option WU:=
 (ba N a0 16).bind fun y7=>(bif y7 then ((bM N a0.Zd 2).bind fun y9=>some y9) else (some false)).bind fun b8=>bif b8 then (aL (in64 (0+2)) (uD N a0 a1 (0+2))) else (uD N a0 a1 0)
theorem Ja {N:Nat}{a0:WG}{a1:WL}{r:WU}(h:wp N a0 a1=some r):Okc Xa 115 [(fV a0),(eT a1)] ([]) (fun u post=>u=(cc r)/\post=[]):=by
 refine ce Tryz.func115 ?_;intro B1
 refine cl fun B2=> ?_
 intro B3
 refine cl fun B4=> ?_
 refine am (fun s L=> ∃p6,uD N a0 a1 p6=some r/\s=[(2,pV B1 0),(4,pV B3 0),(5,pV B4 0)]/\L=[ah B1 41 (iw a0),ah B3 50 [iV 0,iV 0,.string (⟨#[]⟩),iV 0,iV 0,iV 0,.string (⟨#[]⟩),iV 0,iV 0,.string (⟨#[]⟩),iV 0,iV 0,.string (⟨#[]⟩)],ah B4 50 [iV a1.Za,iV a1.N,.string a1.S,iV p6,iV 0,iV 0,.string (⟨#[]⟩),iV 0,iV 0,.string (⟨#[]⟩),iV 0,iV 0,.string (⟨#[]⟩)]]) ?_ ?_
 ·refine cR h (fun _ k=>bI k) fun y7 h=> ?_
  refine ou 4 14 10 h (fun _ g8 h=> ?_) fun b8 h=> ?_
  ·refine cR h (fun _ k=>cY k) fun y9 h=> ?_
   exact gY
  refine dv h ?_ ?_<;>intro h
  ·refine ab ?_;obtain ⟨a7,h⟩:=ae h;exact jY
  exact jY
 rintro _ _ ⟨p6,h,rfl,rfl⟩;refine am (fun s L=> ∃p13,sN N a0 a1 p13=some r/\s=[(2,pV B1 0),(4,pV B3 0),(5,pV B4 0)]/\L=[ah B1 41 (iw a0),ah B3 50 [iV 0,iV 0,.string (⟨#[]⟩),iV 0,iV 0,iV 0,.string (⟨#[]⟩),iV 0,iV 0,.string (⟨#[]⟩),iV 0,iV 0,.string (⟨#[]⟩)],ah B4 50 [iV a1.Za,iV a1.N,.string a1.S,iV p13,iV 0,iV 0,.string (⟨#[]⟩),iV 0,iV 0,.string (⟨#[]⟩),iV 0,iV 0,.string (⟨#[]⟩)]]) ?_ ?_
 ·refine cR h (fun _ k=>bI k) fun a8 h=> ?_
  refine ou 4 25 21 h (fun _ b0 h=> ?_) fun b5 h=> ?_
  ·refine cR h (fun _ k=>cY k) fun b6 h=> ?_
   exact gY
  refine dv h ?_ ?_<;>intro h
  ·refine ab ?_;obtain ⟨b7,h⟩:=ae h;exact jY
  exact jY
 rintro _ _ ⟨p13,h,rfl,rfl⟩;refine sZ ?_
 refine cR h (fun _ k=>oY k) fun b9 h=> ?_
 refine gH J h ?_ ?_<;>intro h
 ·refine ab ?_;obtain ⟨c7,h⟩:=ae h;exact eY
 refine ab ?_;refine am (fun s L=> ∃a6,sM N a0 a1 a6=some r/\s=[(2,pV B1 0),(4,pV B3 0),(5,pV B4 0)]/\L=[ah B1 41 (iw a0),ah B3 50 [iV 0,iV 0,.string (⟨#[]⟩),iV 0,iV 0,iV 0,.string (⟨#[]⟩),iV 0,iV 0,.string (⟨#[]⟩),iV 0,iV 0,.string (⟨#[]⟩)],ah B4 50 [iV a1.Za,iV a1.N,.string a1.S,iV a6,iV 0,iV 0,.string (⟨#[]⟩),iV 0,iV 0,.string (⟨#[]⟩),iV 0,iV 0,.string (⟨#[]⟩)]]) ?_ ?_
 ·refine cR h (fun _ k=>bI k) fun c8 h=> ?_
  refine ou 4 49 45 h (fun _ c9 h=> ?_) fun d0 h=> ?_
  ·refine cR h (fun _ k=>cY k) fun d1 h=> ?_
   exact gY
  refine dv h ?_ ?_<;>intro h
  ·refine ab ?_;obtain ⟨d2,h⟩:=ae h;exact jY
  exact jY
 rintro _ _ ⟨a6,h,rfl,rfl⟩;exact eY
def pF (N:Nat)(a0 a1:WV):Option Bool:=
 (bif decide (a0.Za=a1.Za) then (some (decide (a0.N=a1.N))) else (some false)).bind fun b3=>(bif b3 then (some (a0.S.toList==a1.S.toList)) else (some false)).bind fun b4=>some b4
theorem wq {N:Nat}{a0 a1:WV}{r:Bool}(h:pF N a0 a1=some r):Okc Xa 153 [(aE a0),(aE a1)] ([]) (fun u post=>u=.bool r/\post=[]):=by
 refine ce Tryz.func153 ?_;intro B1
 refine cl fun B2=> ?_
 refine gS 6 16 10 h ?_;intro b3 h;refine ab ?_
 refine ou 6 23 17 h (fun _ g4 h=> ?_) fun b4 h=> ?_
 ·refine ab ?_;refine eW (rZ J J) J (ca g4 J) J ?_;exact gY
 exact eY
def pp (a0:WU)(a1:WG):Option Bool:=
 (ba N a1 32).bind fun y3=>(bif y3 then ((bM N a1.Zd 4).bind fun y5=>some y5) else (some false)).bind fun b4=>bif b4 then (some true) else ((ba N a1 16).bind fun y7=>(bif y7 then ((bM N a1.Zd 2).bind fun y9=>(bM N a0.Zd 2).bind fun a6=>some (!(y9==a6))) else (some false)).bind fun b8=>bif b8 then (some true) else ((bM N a0.Zd 8).bind fun a7=>bif a7 then ((kD N a1).bind fun a8=>(bif a8 then (some true) else ((ba N a1 4).bind fun b0=>(bif b0 then ((pF N a1.Zq a0.Zq).bind fun b5=>some (!b5)) else (some false)).bind fun b6=>some b6)).bind fun b7=>(bif b7 then (some true) else ((ba N a1 8).bind fun b9=>(bif b9 then ((pF N a1.Zr a0.Zr).bind fun c7=>some (!c7)) else (some false)).bind fun c8=>some c8)).bind fun c9=>some c9) else ((dD N a1).bind fun d0=>bif d0 then (some true) else ((bM N a0.Zd 1).bind fun d1=>bif d1 then (some false) else ((ba N a1 2).bind fun d2=>(bif d2 then ((bM N a1.Zd 1).bind fun d3=>some d3) else (some false)).bind fun d4=>(bif d4 then (some true) else ((ba N a1 1).bind fun d6=>(bif d6 then ((pF N a1.Value a0.Value).bind fun e0=>some (!e0)) else (some false)).bind fun b32=>some b32)).bind fun e1=>some e1)))))
theorem I9 {N:Nat}{a0:WU}{a1:WG}{r:Bool}(h:pp N a0 a1=some r):Okc Xa 116 [(cc a0),(fV a1)] ([]) (fun u post=>u=.bool r/\post=[]):=by
 refine ce Tryz.func116 ?_;intro B1
 refine cl fun B2=> ?_
 refine sZ ?_;obtain ⟨y3,k,h⟩:=aa h;refine F6 (oR (bI k)) ?_;obtain ⟨b4,d3,h⟩:=aa h;refine fd 4 11 b4 ?_ ?_
 ·clear h;refine eC 7 J (fun g4=> ?_) (fun g4=> ?_)
  ·have h:=cG g4 d3;refine ab ?_;obtain ⟨y5,k,h⟩:=aa h;refine gU (oR (cY k)) (ca g4 J) ?_;exact gY
  have h:=cH g4 d3;exact gY
 refine dv h ?_ ?_<;>intro h
 ·exact eY
 refine ab ?_;refine aA ?_;refine dY [0] ?_;obtain ⟨y7,k,h⟩:=aa h;refine zD 1 J (oR (bI k)) ?_;rintro _ _ ⟨_,⟨rfl,rfl⟩,rfl⟩;refine ⟨_,ad _,ad _,?_⟩;refine zY [2] ?_;obtain ⟨b8,d4,h⟩:=aa h;refine vU (fun l=>((((((((l.setIfInBounds 3 true).setIfInBounds 4 true).setIfInBounds 6 true).setIfInBounds 7 true).setIfInBounds 5 true).setIfInBounds 8 true).setIfInBounds 9 true).setIfInBounds 10 true)) 0 22 b8 (fun rest=> ?_) ?_
 ·clear h;refine zo 14 J (fun g8=> ?_) (fun g8=> ?_)
  ·have h:=cG g8 d4;refine io 3 J O (kH J Mk) (ca g8 J) J ?_;refine sF 4 J O (ck 0 J J va J) (ca g8 J) J ?_;refine io 6 J O (kH J Mi) (ca g8 J) J ?_;refine sF 7 J O (ck 1 J J va J) (ca g8 J) J ?_;obtain ⟨y9,k,h⟩:=aa h;refine pt 5 J O (oR (cY k)) J (ca g8 J) J ?_;rintro _ _ ⟨_,⟨rfl,rfl⟩,rfl⟩;refine ⟨_,ad _,ad _,?_⟩;obtain ⟨e5,k,h⟩:=aa h;refine pt 8 J O (oR (cY k)) J (ca g8 J) J ?_;rintro _ _ ⟨_,⟨rfl,rfl⟩,rfl⟩;refine ⟨_,ad _,ad _,?_⟩;refine io 9 J O (PA J J Wu) (ca g8 J) J ?_;refine zE 10 J (iy g8 J J) ?_;obtain rfl:=bD h;exact qF rest (la J (av (av (av (av (av (av (av (av bQ J) J) J) J) J) J) J) J)) (ad _) (ad _)
  have h:=cH g8 d4;refine iM 3 J O (uc g8 J) J ?_;refine iM 4 J O (uc g8 J) J ?_;refine iM 6 J O (uc g8 J) J ?_;refine iM 7 J O (uc g8 J) J ?_;refine iM 5 J O (uc g8 J) J ?_;refine iM 8 J O (uc g8 J) J ?_;refine iM 9 J O (uc g8 J) J ?_;refine zE 10 J (jy g8 J J) ?_;obtain rfl:=bD h;exact qF rest (la J (av (av (av (av (av (av (av (av bQ J) J) J) J) J) J) J) J)) (ad _) (ad _)
 refine bq O ?_;refine dv h ?_ ?_<;>intro h
 ·exact eY
 refine sY ?_;obtain ⟨e6,k,h⟩:=aa h;refine F6 (oR (cY k)) ?_;refine gH J h ?_ ?_<;>intro h
 ·refine ab ?_;obtain ⟨e7,k,h⟩:=aa h;refine F6 (oR (xR k)) ?_;obtain ⟨d6,a6,h⟩:=aa h;refine fd 11 39 d6 ?_ ?_
  ·clear h;refine eC 28 J (fun b9=> ?_) (fun b9=> ?_)
   ·have h:=cG b9 a6;exact gY
   have h:=cH b9 a6;refine ab ?_;obtain ⟨e8,k,h⟩:=aa h;refine gU (oR (bI k)) (dw b9 J) ?_;refine ab ?_;obtain ⟨e0,a7,h⟩:=aa h;refine fd 7 38 e0 ?_ ?_
   ·clear h;refine eC 31 J (fun c7=> ?_) (fun c7=> ?_)
    ·have h:=cG c7 a7;refine ab ?_;obtain ⟨e9,k,h⟩:=aa h;refine gU (oR (wq k)) (ca c7 J) ?_;exact gY
    have h:=cH c7 a7;exact gY
   exact gY
  refine ab ?_;obtain ⟨e1,a8,h⟩:=aa h;refine fd 11 51 e1 ?_ ?_
  ·clear h;refine eC 40 J (fun c8=> ?_) (fun c8=> ?_)
   ·have h:=cG c8 a8;exact gY
   have h:=cH c8 a8;refine ab ?_;obtain ⟨f0,k,h⟩:=aa h;refine gU (oR (bI k)) (dw c8 J) ?_;refine ab ?_;obtain ⟨e2,b0,h⟩:=aa h;refine fd 7 50 e2 ?_ ?_
   ·clear h;refine eC 43 J (fun c9=> ?_) (fun c9=> ?_)
    ·have h:=cG c9 b0;refine ab ?_;obtain ⟨f1,k,h⟩:=aa h;refine gU (oR (wq k)) (ca c9 J) ?_;exact gY
    have h:=cH c9 b0;exact gY
   exact gY
  exact eY
 refine sY ?_;obtain ⟨f2,k,h⟩:=aa h;refine F6 (oR (oY k)) ?_;refine gH J h ?_ ?_<;>intro h
 ·exact eY
 refine sY ?_;obtain ⟨f3,k,h⟩:=aa h;refine F6 (oR (cY k)) ?_;refine gH J h ?_ ?_<;>intro h
 ·exact eY
 refine ab ?_;obtain ⟨f4,k,h⟩:=aa h;refine F6 (oR (bI k)) ?_;obtain ⟨e3,b5,h⟩:=aa h;refine fd 4 63 e3 ?_ ?_
 ·clear h;refine eC 59 J (fun d0=> ?_) (fun d0=> ?_)
  ·have h:=cG d0 b5;refine ab ?_;obtain ⟨f6,k,h⟩:=aa h;refine gU (oR (cY k)) (ca d0 J) ?_;exact gY
  have h:=cH d0 b5;exact gY
 refine ab ?_;obtain ⟨e4,b6,h⟩:=aa h;refine fd 11 75 e4 ?_ ?_
 ·clear h;refine eC 64 J (fun d1=> ?_) (fun d1=> ?_)
  ·have h:=cG d1 b6;exact gY
  have h:=cH d1 b6;refine ab ?_;obtain ⟨f9,k,h⟩:=aa h;refine gU (oR (bI k)) (dw d1 J) ?_;refine ab ?_;obtain ⟨b32,b7,h⟩:=aa h;refine fd 7 74 b32 ?_ ?_
  ·clear h;refine eC 67 J (fun d2=> ?_) (fun d2=> ?_)
   ·have h:=cG d2 b7;refine ab ?_;obtain ⟨g0,k,h⟩:=aa h;refine gU (oR (wq k)) (ca d2 J) ?_;exact gY
   have h:=cH d2 b7;exact gY
  exact gY
 exact eY
def uC (N:Nat)(a2:Int)(p3:Bool):Option Int:=
 bif p3 then (some a2) else (some 0)
def lW (a0:WG)(a1 a2:Int)(a3:Bool):Option Int:=
 (ba N a0 a1).bind fun y4=>bif y4 then ((bM N a0.Zd a2).bind fun y6=>uC N a2 y6) else (uC N a2 a3)
theorem xT {N:Nat}{a0:WG}{a2:Int}{a3:Bool}{r:Int}(h:lW N a0 a1 a2 a3=some r):Okc Xa 117 [(fV a0),iV a1,iV a2,.bool a3] ([]) (fun u post=>u=iV r/\post=[]):=by
 refine ce Tryz.func117 ?_;intro B1;refine ab ?_;refine am (fun s L=> ∃p3,uC N a2 p3=some r/\s=[(2,iV a2),(8,iV 0),(9,.bool p3)]/\L=[]) ?_ ?_
 ·refine cR h (fun _ k=>bI k) fun y4 h=> ?_
  refine gH J h ?_ ?_<;>intro h
  ·refine cR h (fun _ k=>cY k) fun y6 h=> ?_
   exact jN
  exact jY
 rintro _ _ ⟨p3,h,rfl,rfl⟩;refine sZ ?_;refine gH J h ?_ ?_<;>intro h
 ·exact eY
 exact eY
def np (N:Nat)(a0:Bool)(a1:WV)(a2:Bool)(a3:WV):Option WV:=
 bif a0 then (some a1) else (bif a2 then (some a3) else (some (⟨0,0,⟨#[]⟩⟩:WV)))
theorem xQ {N:Nat}{a0:Bool}{a1:WV}{a2:Bool}{a3 r:WV}(h:np N a0 a1 a2 a3=some r):Okc Xa 118 [.bool a0,(aE a1),.bool a2,(aE a3)] ([]) (fun u post=>u=(aE r)/\post=[]):=by
 refine ce Tryz.func118 ?_;intro B1
 refine cl fun B2=> ?_
 intro B3;refine sY ?_;refine gH J h ?_ ?_<;>intro h
 ·exact eY
 refine sY ?_;refine gH J h ?_ ?_<;>intro h
 ·exact eY
 exact eY
def lE (a0:WU)(a1 a2:Bool)(a3:WL)(a4:WG):Option (WU×Bool):=
 bif !a1 then (bif !a2 then (some ((⟨(⟨0,0,⟨#[]⟩⟩:WL),0,(⟨0,0,⟨#[]⟩⟩:WV),(⟨0,0,⟨#[]⟩⟩:WV),(⟨0,0,⟨#[]⟩⟩:WV)⟩:WU),false)) else ((wp N a4 a3).bind fun y7=>some (y7,true))) else ((bM N a0.Zd 4).bind fun y8=>(bif !y8 then ((pp N a0 a4).bind fun b5=>some b5) else (some false)).bind fun b9=>bif b9 then (some ((⟨(⟨0,0,⟨#[]⟩⟩:WL),0,(⟨0,0,⟨#[]⟩⟩:WV),(⟨0,0,⟨#[]⟩⟩:WV),(⟨0,0,⟨#[]⟩⟩:WV)⟩:WU),false)) else ((bM N a0.Zd 2).bind fun b6=>(lW N a4 16 2 b6).bind fun a6=>(bM N a0.Zd 4).bind fun b7=>(lW N a4 32 4 b7).bind fun a7=>aL (in64 (a6+a7)) ((bM N a0.Zd 8).bind fun a8=>(dD N a4).bind fun c7=>(bif c7 then (some true) else ((bif a8 then ((kD N a4).bind fun c8=>some (!c8)) else (some false)).bind fun c9=>some c9)).bind fun d0=>bif d0 then (aL (in64 ((a6+a7)+8)) ((ba N a4 4).bind fun d1=>(np N d1 a4.Zq a8 a0.Zq).bind fun d2=>(ba N a4 8).bind fun d3=>(np N d3 a4.Zr a8 a0.Zr).bind fun d4=>some ((⟨a3,(a6+a7)+8,(⟨0,0,⟨#[]⟩⟩:WV),d2,d4⟩:WU),true))) else ((bif !a8 then ((bM N a0.Zd 1).bind fun d6=>some d6) else (some false)).bind fun e0=>(lW N a4 2 1 e0).bind fun b0=>aL (in64 ((a6+a7)+b0)) ((ba N a4 1).bind fun e1=>(np N e1 a4.Value (!a8) a0.Value).bind fun e2=>some ((⟨a3,(a6+a7)+b0,e2,(⟨0,0,⟨#[]⟩⟩:WV),(⟨0,0,⟨#[]⟩⟩:WV)⟩:WU),true))))))
theorem Bl {N:Nat}{a0:WU}{a1 a2:Bool}{a3:WL}{r:WU×Bool}(h:lE N a0 a1 a2 a3 a4=some r):Okc Xa 72 [(cc a0),.bool a1,.bool a2,(eT a3),(fV a4)] ([]) (fun u post=>u=.tuple #[(cc r.1),.bool r.2]/\post=[]):=by
 refine ce Tryz.func72 ?_;intro B1
 refine cl fun B2=> ?_
 intro B3
 refine cl fun B4=> ?_
 refine sZ ?_;refine gH J h ?_ ?_<;>intro h
 ·refine sZ ?_;refine gH J h ?_ ?_<;>intro h
  ·exact eY
  refine cR h (fun _ k=>Ja k) fun y7 h=> ?_
  exact eN
 refine sY ?_
 refine cR h (fun _ k=>cY k) fun y8 h=> ?_
 refine ou 4 30 26 h (fun _ g9 h=> ?_) fun b9 h=> ?_
 ·refine cR h (fun _ k=>I9 k) fun c9 h=> ?_
  exact gY
 refine dv h ?_ ?_<;>intro h
 ·exact eY
 refine cl fun d0=> ?_
 refine dY [0,1,2,5,6,7] ?_;obtain ⟨d1,k,h⟩:=aa h;refine zD 3 J (oR (cY k)) ?_;rintro _ _ ⟨_,⟨rfl,rfl⟩,rfl⟩;refine ⟨_,ad _,ad _,?_⟩;obtain ⟨a7,k,h⟩:=aa h;refine zD 4 J (oR (xT k)) ?_;rintro _ _ ⟨_,⟨rfl,rfl⟩,rfl⟩;refine ⟨_,ad _,ad _,?_⟩;obtain ⟨d2,k,h⟩:=aa h;refine zD 8 J (oR (cY k)) ?_;rintro _ _ ⟨_,⟨rfl,rfl⟩,rfl⟩;refine ⟨_,ad _,ad _,?_⟩;obtain ⟨a8,k,h⟩:=aa h;refine zD 9 J (oR (xT k)) ?_;rintro _ _ ⟨_,⟨rfl,rfl⟩,rfl⟩;refine ⟨_,ad _,ad _,?_⟩;obtain ⟨c7,h⟩:=ae h;refine zE 10 J (iz J J c7.1 c7.2) ?_;refine zY [11] ?_;refine gI 12 J O O (aj (us:=[iV (a7+a8)]) (cs':=[iV a3.Za,iV a3.N,.string a3.S,iV (a7+a8),iV 0,iV 0,.string (⟨#[]⟩),iV 0,iV 0,.string (⟨#[]⟩),iV 0,iV 0,.string (⟨#[]⟩)]) 0 J J J J size3.out J J J) ?_;rintro _ _ rfl;refine bq O ?_
 refine cR h (fun _ k=>cY k) fun d3 h=> ?_
 refine sZ ?_
 refine cR h (fun _ k=>oY k) fun d4 h=> ?_
 refine wT 7 58 51 h (fun _ d6 h=> ?_) fun e0 h=> ?_
 ·refine ab ?_
  refine ou 4 57 53 h (fun _ e1 h=> ?_) fun e2 h=> ?_
  ·refine cR h (fun _ k=>xR k) fun e3 h=> ?_
   exact gY
  exact gY
 refine dv h ?_ ?_<;>intro h
 ·refine ab ?_;obtain ⟨e4,h⟩:=ae h;refine ab ?_;refine dY [0,2,3,4,5,6] ?_;obtain ⟨e5,k,h⟩:=aa h;refine zD 1 J (oR (bI k)) ?_;rintro _ _ ⟨_,⟨rfl,rfl⟩,rfl⟩;refine ⟨_,ad _,ad _,?_⟩;obtain ⟨a6,k,h⟩:=aa h;refine zD 7 J (oR (xQ k)) ?_;rintro _ _ ⟨_,⟨rfl,rfl⟩,rfl⟩;refine ⟨_,ad _,ad _,?_⟩;refine zY [8] ?_;refine gI 9 J O O (aj (us:=[iV a6.Za,iV a6.N,.string a6.S]) (cs':=[iV a3.Za,iV a3.N,.string a3.S,iV ((a7+a8)+8),iV 0,iV 0,.string (⟨#[]⟩),iV a6.Za,iV a6.N,.string a6.S,iV 0,iV 0,.string (⟨#[]⟩)]) 0 J J J J size28.out J J J) ?_;rintro _ _ rfl;refine bq O ?_;refine ab ?_;refine dY [0,2,3,4,5,6] ?_;obtain ⟨e6,k,h⟩:=aa h;refine zD 1 J (oR (bI k)) ?_;rintro _ _ ⟨_,⟨rfl,rfl⟩,rfl⟩;refine ⟨_,ad _,ad _,?_⟩;obtain ⟨b0,k,h⟩:=aa h;refine zD 7 J (oR (xQ k)) ?_;rintro _ _ ⟨_,⟨rfl,rfl⟩,rfl⟩;refine ⟨_,ad _,ad _,?_⟩;refine zY [8] ?_;refine gI 9 J O O (aj (us:=[iV b0.Za,iV b0.N,.string b0.S]) (cs':=[iV a3.Za,iV a3.N,.string a3.S,iV ((a7+a8)+8),iV 0,iV 0,.string (⟨#[]⟩),iV a6.Za,iV a6.N,.string a6.S,iV b0.Za,iV b0.N,.string b0.S]) 0 J J J J size28.out J J J) ?_;rintro _ _ rfl;refine bq O ?_;exact eY
 refine ab ?_;refine dY [0,1,2,3,4,5] ?_
 refine yJ [6,7,8,9] 4 87 91 h (fun _ b6 h rest=> ?_) (fun _ b6 h rest=> ?_) fun e7 h=> ?_
 ·refine yY [6,7] ?_;obtain ⟨e8,k,h⟩:=aa h;refine pt 8 J O (oR (cY k)) J (ca b6 J) J ?_;rintro _ _ ⟨_,⟨rfl,rfl⟩,rfl⟩;refine ⟨_,ad _,ad _,?_⟩;refine zE 9 J (iy b6 J J) ?_;exact yS rest h
 ·refine yY [6,7,8,9] ?_;exact yS rest h
 obtain ⟨b7,k,h⟩:=aa h;refine zD 10 J (oR (xT k)) ?_;rintro _ _ ⟨_,⟨rfl,rfl⟩,rfl⟩;refine ⟨_,ad _,ad _,?_⟩;obtain ⟨c8,h⟩:=ae h;refine zE 11 J (iz J J c8.1 c8.2) ?_;refine zY [12] ?_;refine gI 13 J O O (aj (us:=[iV ((a7+a8)+b7)]) (cs':=[iV a3.Za,iV a3.N,.string a3.S,iV ((a7+a8)+b7),iV 0,iV 0,.string (⟨#[]⟩),iV 0,iV 0,.string (⟨#[]⟩),iV 0,iV 0,.string (⟨#[]⟩)]) 0 J J J J size3.out J J J) ?_;rintro _ _ rfl;refine bq O ?_;refine ab ?_;refine dY [0,2,3,4,5,6,7] ?_;obtain ⟨e9,k,h⟩:=aa h;refine zD 1 J (oR (bI k)) ?_;rintro _ _ ⟨_,⟨rfl,rfl⟩,rfl⟩;refine ⟨_,ad _,ad _,?_⟩;obtain ⟨b5,k,h⟩:=aa h;refine zD 8 J (oR (xQ k)) ?_;rintro _ _ ⟨_,⟨rfl,rfl⟩,rfl⟩;refine ⟨_,ad _,ad _,?_⟩;refine zY [9] ?_;refine gI 10 J O O (aj (us:=[iV b5.Za,iV b5.N,.string b5.S]) (cs':=[iV a3.Za,iV a3.N,.string a3.S,iV ((a7+a8)+b7),iV b5.Za,iV b5.N,.string b5.S,iV 0,iV 0,.string (⟨#[]⟩),iV 0,iV 0,.string (⟨#[]⟩)]) 0 J J J J size28.out J J J) ?_;rintro _ _ rfl;refine bq O ?_;exact eY
theorem EO {r:WU×Bool}: ∀v post,((fun (u:Value) (post:W8)=>u=.tuple #[(cc r.1),.bool r.2]/\post=[])) v post-> ∀c∈post,ij c:=by
 rintro _ _ ⟨rfl,rfl⟩;exact au
def xO (N:Nat)(a0:WO)(p9:WW):Option WO:=
 some (⟨a0.Ext,a0.Zs,p9,a0.Zm⟩:WO)
def sK (N:Nat)(a1:Int)(a0:WO):Nat->WW->Option WO
 |0,_=>none
 |a8+1,a6=>bif decide ((a6.length:Int)<a1) then ((ir N).bind fun a7=>aL (cF (a6.length+([a7]:List WV).length)) ((sK N a1 a0 a8) (a6++([a7]:List WV)))) else (xO N a0 a6)
def nm (a0:WO)(a1:Int):Option WO:=
 aL (cF (([]:List WV).length+a0.Zk.length)) (sK N a1 a0 N (([]:List WV)++a0.Zk))
theorem xM {N:Nat}{a0 r:WO}(h:nm N a0 a1=some r):Okc Xa 75 [.agg #[.bool a0.Ext,.bool a0.Zs,W A1 n1 c1,W A2 n2 c2],iV a1] ([aY A1 n1 c1 a0.Zk,sU A2 n2 c2 a0.Zm]) (fun u post=> ∃A0 n0 c0 A1 n1 c1,u=.agg #[.bool r.Ext,.bool r.Zs,W A0 n0 c0,W A1 n1 c1]/\post=[bf A0 n0 c0 r.Zk,sU A1 n1 c1 r.Zm]):=by
 refine ce Tryz.func75 ?_;intro B3
 refine cl fun B4=> ?_
 refine vc (aB (R:=ay) (vss:=[]) (xs:=[]) J (yx) J J (fun _ _ hr=>All2.nil)) fun A5 n5 c5=> ?_
 obtain ⟨q6,h⟩:=ae h
 refine vc (aX 0 3 J J bj J J t9 sd J J q6) fun A7 n7 c7=> ?_
 refine am (fun s L=> ∃p9 A9 n9 c9,xO N a0 p9=some r/\s=[(2,pV B3 0),(4,pV B4 0),(5,W A9 n9 c9)]/\L=[bf A9 n9 c9 p9,aY A1 n1 c1 a0.Zk,sU A2 n2 c2 a0.Zm,ah B3 35 (kY a0 A1 n1 c1 A2 n2 c2),ah B4 35 [.bool false,.bool false,W none 0 0,W none 0 0]]) ?_ ?_
 ·refine ab ?_;refine lK (fun m s L=> ∃(a7:WW) (a8:Option Addr) (b0 b5:Nat),sK N a1 a0 m a7=some r/\s=[(1,iV a1),(2,pV B3 0),(4,pV B4 0),(5,W a8 b0 b5)]/\L=[bf a8 b0 b5 a7,aY A1 n1 c1 a0.Zk,sU A2 n2 c2 a0.Zm,ah B3 35 (kY a0 A1 n1 c1 A2 n2 c2),ah B4 35 [.bool false,.bool false,W none 0 0,W none 0 0]]) N ?_;rintro b7 _ _ ⟨a7,a8,b0,b5,h,rfl,rfl⟩;rw [sK.eq_2] at h;refine sZ ?_;refine gH J h ?_ ?_<;>intro h
  ·refine ab ?_;obtain ⟨a6,k,h⟩:=aa h;refine gV (oR (pE k)) ?_;refine gD (aB (R:=ay) (vss:=[[iV a6.Za,iV a6.N,.string a6.S]]) (xs:=[a6]) J (jA _ _ _) J J (fun _ _ hr=> .cons J All2.nil)) ?_;rintro _ _ ⟨b9,c8,d0,rfl,rfl⟩;obtain ⟨b6,h⟩:=ae h
   refine vc (aX 1 0 J J ao J J t9 sd J J b6) fun d1 d2 d3=> ?_
   exact lN
  exact jY
 rintro _ _ ⟨p9,A9,n9,c9,h,rfl,rfl⟩;exact eY
def tO (N:Nat)(a0:WO)(p8:W7):Option WO:=
 some (⟨a0.Ext,a0.Zs,a0.Zk,p8⟩:WO)
def oV (N:Nat)(a7:W7->Int->Option WO)(a6:Int)(a0:WO)(a1:WL)(a8:W7):Option WO:=
 aL (in64 (a6+1)) (a7 a8 (a6+1))
def ll (N:Nat)(a0:WO)(a1:WL):Nat->W7->Int->Option WO
 |0,_,_=>none
 |m9+1,a7,a6=>bif decide (a6<(a0.Zm.length:Int)) then ((aq a0.Zm a6).bind fun b0=>bif !decide (b0.Zf=a1) then ((aq a0.Zm a6).bind fun a8=>aL ((a7.length+([a8]:List WU).length)<=549755813888) (oV N (ll N a0 a1 m9) a6 a0 a1 (a7++([a8]:List WU)))) else (oV N (ll N a0 a1 m9) a6 a0 a1 a7)) else (tO N a0 a7)
def ei (a0:WO)(a1:WL):Option WO:=
 ll N a0 a1 N ([]:List WU) 0
theorem tM {N:Nat}{a0:WO}{a1:WL}{r:WO}(h:ei N a0 a1=some r):Okc Xa 76 [.agg #[.bool a0.Ext,.bool a0.Zs,W A1 n1 c1,W A2 n2 c2],(eT a1)] ([aY A1 n1 c1 a0.Zk,sU A2 n2 c2 a0.Zm]) (fun u post=> ∃A0 n0 c0 A1 n1 c1,u=.agg #[.bool r.Ext,.bool r.Zs,W A0 n0 c0,W A1 n1 c1]/\post=[aY A0 n0 c0 r.Zk,sU A1 n1 c1 r.Zm]):=by
 refine CJ Tryz.func76 J J ?_;simp only [qQ];refine Y ?_
 refine gB (rf J J) fun B3=> ?_
 refine gB (rf J J) fun B4=> ?_
 refine gB (bw zero35.out J) fun B5=> ?_
 refine Y ?_;refine gD (aB (R:=iq) (vss:=[]) (xs:=[]) J (JX) J J (fun _ _ hr=>All2.nil)) ?_;rintro _ _ ⟨A6,n6,c6,rfl,rfl⟩;refine Y ?_;refine am (fun s L=> ∃p8 A8 n8 c8,tO N a0 p8=some r/\s=[(2,pV B3 0),(4,pV B5 0),(5,W A8 n8 c8)]/\L=[bd iq 50 (W A8 n8 c8) p8,aY A1 n1 c1 a0.Zk,sU A2 n2 c2 a0.Zm,ah B3 35 (kY a0 A1 n1 c1 A2 n2 c2),ah B5 35 [.bool false,.bool false,W none 0 0,W none 0 0]]) ?_ ?_
 ·refine Y ?_;refine iX (fun m s L=> ∃a7 a8 b0 b5 b6,ll N a0 a1 m a7 a8=some r/\s=[(2,pV B3 0),(3,pV B4 0),(4,pV B5 0),(5,W b0 b5 b6),(6,iV a8)]/\L=[bd iq 50 (W b0 b5 b6) a7,aY A1 n1 c1 a0.Zk,sU A2 n2 c2 a0.Zm,ah B3 35 (kY a0 A1 n1 c1 A2 n2 c2),ah B4 39 (lH a1),ah B5 35 [.bool false,.bool false,W none 0 0,W none 0 0]]) N _ _ ⟨([]:List WU),0,A6,n6,c6,h,J,J⟩ sA (cS [0,4,5,3,2,1] 6) ?_;rintro (_|m9) _ _ ⟨a7,a8,b0,b5,b6,h,rfl,rfl⟩
  ·exact aJ h
  rw [ll.eq_2] at h;refine aA ?_;refine Y ?_;refine gR (lj 2 J bj J EM) ?_;refine Y ?_;refine gH J h ?_ ?_<;>intro h
  ·refine Y ?_;refine am (fun s L=> ∃c9 d0 d1 d2,oV N (ll N a0 a1 m9) a8 a0 a1 c9=some r/\s=[(2,pV B3 0),(3,pV B4 0),(4,pV B5 0),(5,W d0 d1 d2),(6,iV a8)]/\L=[bd iq 50 (W d0 d1 d2) c9,aY A1 n1 c1 a0.Zk,sU A2 n2 c2 a0.Zm,ah B3 35 (kY a0 A1 n1 c1 A2 n2 c2),ah B4 39 (lH a1),ah B5 35 [.bool false,.bool false,W none 0 0,W none 0 0]]) ?_ ?_
   ·refine wM ?_;refine aA ?_;refine bh O _ (ad _) ?_;refine yY [0,1,2] ?_;obtain ⟨e1,b7,h⟩:=aa h;obtain ⟨b9,c7,b7⟩:=jZ b7;refine zR 3 J (cM 2 J bj J J EM size50.out b9 c7) ?_;refine zR 4 J (sg 2 J bj J (toNat_lt b9 c7) Ij) ?_;refine yY [5,6] ?_;refine zE 7 J (C0 (x:=e1.Zf) (y:=a1) J J) ?_;refine bq O ?_;refine qk ?_;refine gH J h ?_ ?_<;>intro h
    ·refine Y ?_;obtain ⟨d3,a6,h⟩:=aa h;obtain ⟨d4,d6,a6⟩:=jZ a6;refine gR (cM 2 J bj J J EM size50.out d4 d6) ?_;refine gR (ee (us:=bW d3) 2 J bj J a6 agg50.out (fun _ _ _ h=>by rw [show _=_ from h];rfl)) ?_;refine gD (aB (R:=iq) (vss:=[(bW d3)]) (xs:=[d3]) J (FZ _ _ _ _ _ _ _ _ _ _ _ _ _) J J (fun _ _ hr=> .cons J All2.nil)) ?_;rintro _ _ ⟨e6,e7,e8,rfl,rfl⟩;obtain ⟨e2,h⟩:=ae h;refine gD (t6 1 0 J J ao J J EM Qn J J J e2) ?_;rintro _ _ ⟨e3,e4,e5,rfl,rfl⟩;refine Y ?_;exact ⟨_,_,⟨a7++([d3]:List WU),e3,e4,e5,h,J,J⟩,sA,cS [1,2,3,4,5,6] 7⟩
    refine Y ?_;exact ⟨_,_,⟨a7,b0,b5,b6,h,J,J⟩,sA,cS [0,1,2,3,4,5] 6⟩
   rintro _ _ ⟨c9,d0,d1,d2,h,rfl,rfl⟩;refine Y ?_;obtain ⟨e0,h⟩:=ae h;refine gE (iz J J e0.1 e0.2) ?_;refine Y ?_;exact ⟨m9,_,_,W0 _,⟨c9,a8+1,d0,d1,d2,h,J,J⟩,sA,cS [0,1,2,3,4,5] 6⟩
  refine Y ?_;exact ⟨_,_,⟨a7,b0,b5,b6,h,J,J⟩,sA,cS [0,1,2,3,5] 6⟩
 rintro _ _ ⟨p8,A8,n8,c8,h,rfl,rfl⟩;refine Y ?_;refine gW (aj (us:=[W A8 n8 c8]) (cs':=(kY a0 A1 n1 c1 A8 n8 c8)) 3 J J J J size33.out J J J) ?_;refine Y ?_;refine gR (ax (us:=(kY a0 A1 n1 c1 A8 n8 c8)) 3 J J agg35.out J) ?_;refine gW (aj (us:=(kY a0 A1 n1 c1 A8 n8 c8)) (cs':=(kY a0 A1 n1 c1 A8 n8 c8)) 4 J J J J size35.out J J J) ?_;refine im ?_;refine Y ?_;obtain rfl:=bD h;exact kI (rs:=[.cell 4 35]) (vs:=[.agg #[.bool a0.Ext,.bool a0.Zs,W A1 n1 c1,W A8 n8 c8]]) J (.cons (dy 4 J J agg35.out) .nil) J ((bv 0 J).trans (cS [1,0] 5)) ⟨_,_,_,_,_,_,J,J⟩
def Ao (N:Nat)(p6 p7:Bool)(p8:WW)(p9:W7):Option (WO×Bool):=
 some ((⟨p6,p7,p8,p9⟩:WO),true)
def pD (N:Nat)(a1:Int):Nat->Bool->Bool->WW->W7->Option (WO×Bool)
 |0,_,_,_,_=>none
 |b6+1,a7,a8,p13,b0=>bif decide (a1<(p13.length:Int)) then (aL (in64 ((p13.length:Int) - 1)) ((nJ N (⟨a7,a8,p13,b0⟩:WO) (⟨0,(p13.length:Int) - 1,⟨#[]⟩⟩:WL)).bind fun b5=>(bif b5.2 then (some (decide (ai .i64 b5.1.Zd 4=0))) else (some false)).bind fun b7=>bif b7 then (some ((⟨a7,a8,p13,b0⟩:WO),false)) else ((ei N (⟨a7,a8,p13,b0⟩:WO) (⟨0,(p13.length:Int) - 1,⟨#[]⟩⟩:WL)).bind fun a6=>aL ((0:Int)<=(p13.length:Int) - 1/\0<=((p13.length:Int) - 1).toNat/\((p13.length:Int) - 1).toNat<=a6.Zk.length) ((pD N a1 b6) a6.Ext a6.Zs ((a6.Zk.drop 0).take (((p13.length:Int) - 1).toNat - 0)) a6.Zm)))) else (Ao N a7 a8 p13 b0)
def CE (a0:WO)(a1:Int):Option (WO×Bool):=
 pD N a1 N a0.Ext a0.Zs a0.Zk a0.Zm
theorem Ks {N:Nat}{a0:WO}{r:WO×Bool}(h:CE N a0 a1=some r):Okc Xa 77 [.agg #[.bool a0.Ext,.bool a0.Zs,W A1 n1 c1,W A2 n2 c2],iV a1] ([aY A1 n1 c1 a0.Zk,sU A2 n2 c2 a0.Zm]) (fun u post=> ∃A0 n0 c0 A1 n1 c1,u=.tuple #[.agg #[.bool r.1.Ext,.bool r.1.Zs,W A0 n0 c0,W A1 n1 c1],.bool r.2]/\post=[aY A0 n0 c0 r.1.Zk,sU A1 n1 c1 r.1.Zm]):=by
 refine ce Tryz.func77 ?_;intro B3
 refine cl fun B4=> ?_
 refine am (fun s L=> ∃p6 p7 p8 p9 A8 n8 c8 A9 n9 c9,Ao N p6 p7 p8 p9=some r/\s=[(2,pV B3 0),(4,pV B4 0),(5,.bool false)]/\L=[aY A8 n8 c8 p8,sU A9 n9 c9 p9,ah B3 35 [.bool p6,.bool p7,W A8 n8 c8,W A9 n9 c9],ah B4 35 [.bool false,.bool false,W none 0 0,W none 0 0]]) ?_ ?_
 ·refine ab ?_;refine iX (fun m s L=> ∃a7 a8 p13 b0 b5 b6 b7 b9 c7 d0,pD N a1 m a7 a8 p13 b0=some r/\s=[(1,iV a1),(2,pV B3 0),(4,pV B4 0),(5,.bool false)]/\L=[aY b5 b6 b7 p13,sU b9 c7 d0 b0,ah B3 35 [.bool a7,.bool a8,W b5 b6 b7,W b9 c7 d0],ah B4 35 [.bool false,.bool false,W none 0 0,W none 0 0]]) N _ _ ⟨a0.Ext,a0.Zs,a0.Zk,a0.Zm,A1,n1,c1,A2,n2,c2,h,J,J⟩ sA (cS [2,3,1,0] 4) ?_;rintro (_|d3) _ _ ⟨a7,a8,p13,b0,b5,b6,b7,b9,c7,d0,h,rfl,rfl⟩
  ·exact aJ h
  rw [pD.eq_2] at h;refine sZ ?_;refine gH J h ?_ ?_<;>intro h
  ·refine ab ?_;obtain ⟨d4,h⟩:=ae h
   refine cl fun d6=> ?_
   obtain ⟨e0,k,h⟩:=aa h;refine F6 (oR (wn k)) ?_;intro e1;refine sY ?_
   refine JA 5 31 26 h (fun _ d1 h=> ?_) (fun _ d1 h=> ?_) fun e2 h=> ?_
   ·refine ab ?_;refine eW (aI J J) J (ca d1 J) J ?_;exact gY
   ·exact gY
   refine dv h ?_ ?_<;>intro h
   ·exact eY
   refine ab ?_;obtain ⟨e3,k,h⟩:=aa h
   refine Su (oC (tM k)) fun e4 e5 e6 e7 e8 e9=> ?_
   obtain ⟨a6,h⟩:=ae h;refine Ql 0 J (l:=0) (h:=((p13.length:Int) - 1).toNat) a6.2.1 a6.2.2 ?_;rintro f0 f1 f2 d2;refine K7 (OG 1 J d2 J t9 size28.out J J (by rw [Xp a6.1];rfl) a6.2.1 a6.2.2) ?_;exact lN
  exact jY
 rintro _ _ ⟨p6,p7,p8,p9,A8,n8,c8,A9,n9,c9,h,rfl,rfl⟩;exact eY
def lV (a0:WO)(a1:Int):Option (WO×Bool):=
 (bif decide (a1<0) then (some true) else (some (decide (4096<a1)))).bind fun b5=>(bif b5 then (some true) else ((bif a0.Zs then (some (!decide (a1=(a0.Zk.length:Int)))) else (some false)).bind fun b7=>some b7)).bind fun b6=>bif b6 then (some (a0,false)) else ((nm N a0 a1).bind fun y9=>(CE N y9 a1).bind fun a6=>some (a6.1,a6.2))
theorem zM {N:Nat}{a0:WO}{r:WO×Bool}(h:lV N a0 a1=some r):Okc Xa 33 [.agg #[.bool a0.Ext,.bool a0.Zs,W A1 n1 c1,W A2 n2 c2],iV a1] ([aY A1 n1 c1 a0.Zk,sU A2 n2 c2 a0.Zm]) (fun u post=> ∃A0 n0 c0 A1 n1 c1,u=.tuple #[.agg #[.bool r.1.Ext,.bool r.1.Zs,W A0 n0 c0,W A1 n1 c1],.bool r.2]/\post=[aY A0 n0 c0 r.1.Zk,sU A1 n1 c1 r.1.Zm]):=by
 refine ce Tryz.func33 ?_;intro B3
 refine cl fun B4=> ?_
 refine sZ ?_;refine gS 3 11 8 h ?_;intro b5 h;refine ab ?_
 refine wT 10 22 12 h (fun _ g6 h=> ?_) fun b6 h=> ?_
 ·refine ab ?_;refine gS 6 21 15 h ?_;intro b7 h;exact gY
 refine dv h ?_ ?_<;>intro h
 ·exact eY
 refine TT h (fun _ k=>xM k) fun y9 a7 a8 b0 b9 c7 c8 h=> ?_
 obtain ⟨c9,a6,h⟩:=aa h;refine mO (bv 0 J) ?_;refine ab ?_
 refine Su (oC (Ks a6)) fun d0 d1 d2 d3 d4 d6=> ?_
 exact eN
end
section
variable {A1 A2 A3 A4 A5 A6:Option Addr}{B1 B2 B3 B6 M3 M5 M6 c1 c2 c3 c4 c5 c6 n1 n2 n3 n4 n5 n6:Nat}
open Go.RowKit Asn
set_option maxRecDepth 20000
def kl (N:Nat)(a6:Bool)(a7:WW)(a8:W7)(p21 b0:Bool):Option (WO×Bool×Bool):=
 some ((⟨p21,b0,a7,a8⟩:WO),a6,false)
def km (a1:WG)(a6 p21 b0:Bool)(a7:WW)(a8:W7):Option (WO×Bool×Bool):=
 (bif !decide (ai .i64 a1.Has 2=0) then (some (decide (ai .i64 a1.Zd 1=0))) else (some false)).bind fun b5=>bif b5 then (kl N a6 a7 a8 p21 true) else (kl N a6 a7 a8 p21 b0)
def oW (a0:WO)(a1:WG):Option (WO×Bool×Bool):=
 (bif !decide (ai .i64 a1.Has 1=0) then ((bif !decide (a1.Value.Za=3) then (some true) else (some (decide (a1.Value.N<0)))).bind fun b7=>(bif b7 then (some true) else (some (decide (4096<a1.Value.N)))).bind fun b8=>some b8) else (some false)).bind fun b6=>bif b6 then (some (a0,false,true)) else ((dp N).bind fun a7=>(nJ N a0 a7).bind fun a8=>(dp N).bind fun b0=>(lE N a8.1 true a0.Ext b0 a1).bind fun b5=>bif !b5.2 then (some (a0,false,false)) else (bif !decide (ai .i64 a1.Has 1=0) then ((lV N a0 a1.Value.N).bind fun a6=>km N a1 a6.2 a6.1.Ext a6.1.Zs a6.1.Zk a6.1.Zm) else (km N a1 true a0.Ext a0.Zs a0.Zk a0.Zm)))
theorem CD {N:Nat}{a0:WO}{a1:WG}{r:WO×Bool×Bool}(h:oW N a0 a1=some r):Okc Xa 71 [.agg #[.bool a0.Ext,.bool a0.Zs,W A1 n1 c1,W A2 n2 c2],(fV a1)] ([aY A1 n1 c1 a0.Zk,sU A2 n2 c2 a0.Zm]) (fun u post=> ∃A0 n0 c0 A1 n1 c1,u=.tuple #[.agg #[.bool r.1.Ext,.bool r.1.Zs,W A0 n0 c0,W A1 n1 c1],.bool r.2.1,.bool r.2.2]/\post=[aY A0 n0 c0 r.1.Zk,sU A1 n1 c1 r.1.Zm]):=by
 refine ce Tryz.func71 ?_;intro B3
 refine cl fun B4=> ?_
 intro B5;refine ab ?_;refine fY (aI J J) ?_;refine sZ ?_
 refine JA 17 35 18 h (fun _ g6 h=> ?_) (fun _ g6 h=> ?_) fun b6 h=> ?_
 ·refine ab ?_;refine gS 5 28 23 h ?_;intro b7 h;refine ab ?_;refine gS 5 34 29 h ?_;intro b8 h;exact gY
 ·exact gY
 refine dv h ?_ ?_<;>intro h
 ·exact eY
 refine ab ?_;refine aA ?_;obtain ⟨d4,d6,h⟩:=aa h;obtain ⟨a6,e0,h⟩:=aa h;refine gw (t:=[(2,pV B3 0),(3,pV B4 0),(4,pV B5 0),(5,.bool false),(6,.bool false),(7,.bool (!decide (ai .i64 a1.Has 1=0)))]) ?_ mh (ad _)
 refine iW O 7 [5] [4,5,6] [38,39,40,37,41,42,8] [[],[],[0,1],[2],[3],[3],[]] [aV (.agg #[.bool a0.Ext,.bool a0.Zs,W A1 n1 c1,W A2 n2 c2]),
aV (.agg #[iV d4.Za,iV d4.N,.string d4.S]),
aV (.tuple #[(cc a6.1),.bool a6.2]),
aV (.tuple #[(cc a6.1),.bool a6.2]),
aV ((cc a6.1)),
aV (.bool a6.2),
aX1 (fun (a8:Nat)=>pV a8 0) (fun a8=> [ah a8 50 [iV 0,iV 0,.string (⟨#[]⟩),iV 0,iV 0,iV 0,.string (⟨#[]⟩),iV 0,iV 0,.string (⟨#[]⟩),iV 0,iV 0,.string (⟨#[]⟩)]])] [] (ad _) (fA rfl mc) O rfl rfl ?_ ?_ ?_
 ·refine fz J ?_ ?_
  ·exact nD (cO J J) J (iL J (ad _))
  exact mb
 ·refine aF J ?_ ?_
  ·refine th (bw zero50.out J) J ?_;rintro _ _ ⟨e7,rfl,rfl⟩;exact N0 e7 (ad _)
  refine qE (cO J J) ?_;refine qE (cO J J) ?_;refine qE (ap J) ?_;refine aF J ?_ ?_
  ·refine th (oR (wn e0)) J ?_;rintro _ _ ⟨_,⟨rfl,rfl⟩,rfl⟩;exact iL J (ad _)
  refine aF J ?_ ?_
  ·refine th (oR (kC d6)) J ?_;rintro _ _ ⟨_,⟨rfl,rfl⟩,rfl⟩;exact iL J (ad _)
  refine qR (ax (us:=(kY a0 A1 n1 c1 A2 n2 c2)) 2 J J agg35.out J) ?_;exact dH
 intro a8;refine oe (t:=[(41,(cc a6.1)),(42,.bool a6.2),(8,pV a8 0),(2,pV B3 0),(3,pV B4 0),(4,pV B5 0),(5,.bool false),(6,.bool false),(7,.bool (!decide (ai .i64 a1.Has 1=0)))]) (L':=[ah a8 50 [iV 0,iV 0,.string (⟨#[]⟩),iV 0,iV 0,iV 0,.string (⟨#[]⟩),iV 0,iV 0,.string (⟨#[]⟩),iV 0,iV 0,.string (⟨#[]⟩)],ah B5 35 [.bool false,.bool false,W none 0 0,W none 0 0],ah B4 41 (iw a1),ah B3 35 (kY a0 A1 n1 c1 A2 n2 c2),aY A1 n1 c1 a0.Zk,sU A2 n2 c2 a0.Zm]) ?_ mh (ad _);refine pO 7 J O (aj (us:=bW a6.1) (cs':=bW a6.1) 0 J J J J size50.out J J J) J J ?_;rintro _ _ rfl;refine Cn 8 J O (cm J) J J J ?_;refine mg O ?_;refine ab ?_;refine aA ?_;refine aA ?_;obtain ⟨e1,e2,h⟩:=aa h;obtain ⟨a7,e3,h⟩:=aa h;refine gw (t:=[(2,pV B3 0),(3,pV B4 0),(4,pV B5 0),(5,.bool false),(6,.bool false),(7,.bool (!decide (ai .i64 a1.Has 1=0))),(8,pV a8 0)]) ?_ mh (ad _)
 refine iW O 10 [8] [7,8,9] [44,45,46,47,48,49,43,50,51,10] [[],[],[1],[],[],[0,2,3,4],[5],[6],[6],[]] [aV ((cc a6.1)),
aV (pV B3 0),
aV (.bool a0.Ext),
aV (.agg #[iV e1.Za,iV e1.N,.string e1.S]),
aV ((fV a1)),
aV (.tuple #[(cc a7.1),.bool a7.2]),
aV (.tuple #[(cc a7.1),.bool a7.2]),
aV ((cc a7.1)),
aV (.bool a7.2),
aX1 (fun (b0:Nat)=>pV b0 0) (fun b0=> [ah b0 50 [iV 0,iV 0,.string (⟨#[]⟩),iV 0,iV 0,iV 0,.string (⟨#[]⟩),iV 0,iV 0,.string (⟨#[]⟩),iV 0,iV 0,.string (⟨#[]⟩)]])] [] (ad _) (fA rfl mc) O rfl rfl ?_ ?_ ?_
 ·refine fz J ?_ ?_
  ·exact nD (cO J J) J (iL J (ad _))
  exact mb
 ·refine aF J ?_ ?_
  ·refine th (bw zero50.out J) J ?_;rintro _ _ ⟨e8,rfl,rfl⟩;exact N0 e8 (ad _)
  refine qE (cO J J) ?_;refine qE (cO J J) ?_;refine qE (ap J) ?_;refine aF J ?_ ?_
  ·refine th (oR (Bl e3)) J ?_;rintro _ _ ⟨_,⟨rfl,rfl⟩,rfl⟩;exact iL J (ad _)
  refine qR (ax (us:=iw a1) 2 J J agg41.out J) ?_;refine aF J ?_ ?_
  ·refine th (oR (kC e2)) J ?_;rintro _ _ ⟨_,⟨rfl,rfl⟩,rfl⟩;exact iL J (ad _)
  refine qR (ck 3 J J Un J) ?_;refine qE (qx J Mm) ?_;refine qR (ax (us:=bW a6.1) 0 J J agg50.out J) ?_;exact dH
 intro b0;refine oe (t:=[(50,(cc a7.1)),(51,.bool a7.2),(10,pV b0 0),(2,pV B3 0),(3,pV B4 0),(4,pV B5 0),(5,.bool false),(6,.bool false),(7,.bool (!decide (ai .i64 a1.Has 1=0))),(8,pV a8 0)]) (L':=[ah b0 50 [iV 0,iV 0,.string (⟨#[]⟩),iV 0,iV 0,iV 0,.string (⟨#[]⟩),iV 0,iV 0,.string (⟨#[]⟩),iV 0,iV 0,.string (⟨#[]⟩)],ah a8 50 (bW a6.1),ah B5 35 [.bool false,.bool false,W none 0 0,W none 0 0],ah B4 41 (iw a1),ah B3 35 (kY a0 A1 n1 c1 A2 n2 c2),aY A1 n1 c1 a0.Zk,sU A2 n2 c2 a0.Zm]) ?_ mh (ad _);refine pO 10 J O (aj (us:=bW a7.1) (cs':=bW a7.1) 0 J J J J size50.out J J J) J J ?_;rintro _ _ rfl;refine zW ?_;refine Cn 11 J O (cm J) J J J ?_;refine mg O ?_;refine dv h ?_ ?_<;>intro h
 ·exact eY
 refine ab ?_;refine am (fun s L=> ∃b5 p21 e4 b9 c7 c8 c9 d0 d1 d2 d3,km N a1 b5 p21 e4 b9 c7=some r/\s=[(2,pV B3 0),(3,pV B4 0),(4,pV B5 0),(5,.bool false),(6,.bool false),(12,.bool b5)]/\L=[aY c8 c9 d0 b9,sU d1 d2 d3 c7,ah B3 35 [.bool p21,.bool e4,W c8 c9 d0,W d1 d2 d3],ah B4 41 (iw a1),ah B5 35 [.bool false,.bool false,W none 0 0,W none 0 0]]) ?_ ?_
 ·refine dv h ?_ ?_<;>intro h
  ·refine ab ?_;obtain ⟨e9,k,h⟩:=aa h
   refine Su (oC (zM k)) fun f0 f1 f2 f3 f4 f6=> ?_
   exact jN
  exact jY
 rintro _ _ ⟨b5,p21,e4,b9,c7,c8,c9,d0,d1,d2,d3,h,rfl,rfl⟩;refine am (fun s L=> ∃e5,kl N b5 b9 c7 p21 e5=some r/\s=[(2,pV B3 0),(4,pV B5 0),(5,.bool false),(6,.bool false),(12,.bool b5)]/\L=[aY c8 c9 d0 b9,sU d1 d2 d3 c7,ah B3 35 [.bool p21,.bool e5,W c8 c9 d0,W d1 d2 d3],ah B5 35 [.bool false,.bool false,W none 0 0,W none 0 0]]) ?_ ?_
 ·refine ab ?_;refine fY (aI J J) ?_
  refine JA 5 73 68 h (fun _ e6 h=> ?_) (fun _ e6 h=> ?_) fun f9 h=> ?_
  ·refine ab ?_;refine eW (aI J J) J (ca e6 J) J ?_;exact gY
  ·exact gY
  refine dv h ?_ ?_<;>intro h
  ·exact jY
  exact jY
 rintro _ _ ⟨e5,h,rfl,rfl⟩;exact eY
def wj (N:Nat)(a0:WO)(a6:W7):Option WO:=
 some (⟨a0.Ext,a0.Zs,a0.Zk,a6⟩:WO)
def nl (a0:WO)(a1:WU):Option WO:=
 (lD N a0 a1.Zf).bind fun y6=>aL ((([]:List WU).length+a0.Zm.length)<=549755813888) (bif decide (y6<0) then (aL (((([]:List WU)++a0.Zm).length+([a1]:List WU).length)<=549755813888) (wj N a0 ((([]:List WU)++a0.Zm)++([a1]:List WU)))) else ((aq (([]:List WU)++a0.Zm) y6).bind fun a6=>wj N a0 (List.set (([]:List WU)++a0.Zm) y6.toNat (⟨(⟨a1.Zf.Za,a1.Zf.N,a1.Zf.S⟩:WL),a1.Zd,(⟨a1.Value.Za,a1.Value.N,a1.Value.S⟩:WV),(⟨a1.Zq.Za,a1.Zq.N,a1.Zq.S⟩:WV),(⟨a1.Zr.Za,a1.Zr.N,a1.Zr.S⟩:WV)⟩:WU))))
theorem Dp {N:Nat}{a0:WO}{a1:WU}{r:WO}(h:nl N a0 a1=some r):Okc Xa 74 [.agg #[.bool a0.Ext,.bool a0.Zs,W A1 n1 c1,W A2 n2 c2],(cc a1)] ([aY A1 n1 c1 a0.Zk,sU A2 n2 c2 a0.Zm]) (fun u post=> ∃A0 n0 c0 A1 n1 c1,u=.agg #[.bool r.Ext,.bool r.Zs,W A0 n0 c0,W A1 n1 c1]/\post=[aY A0 n0 c0 r.Zk,sU A1 n1 c1 r.Zm]):=by
 refine ce Tryz.func74 ?_;intro B3
 refine cl fun B4=> ?_
 intro B5
 refine cR h (fun _ k=>wk k) fun y6 h=> ?_
 refine vc (aB (R:=iq) (vss:=[]) (xs:=[]) J (JX) J J (fun _ _ hr=>All2.nil)) fun A7 n7 c7=> ?_
 obtain ⟨q8,h⟩:=ae h
 refine vc (t6 0 5 J J bj J J EM Qn J J J q8) fun A9 n9 c9=> ?_
 refine am (fun s L=> ∃b0 a6 a7 a8,wj N a0 b0=some r/\s=[(2,pV B3 0),(4,pV B5 0),(6,W a6 a7 a8)]/\L=[bd iq 50 (W a6 a7 a8) b0,aY A1 n1 c1 a0.Zk,sU A2 n2 c2 a0.Zm,ah B3 35 (kY a0 A1 n1 c1 A2 n2 c2),ah B5 35 [.bool false,.bool false,W none 0 0,W none 0 0]]) ?_ ?_
 ·refine dv h ?_ ?_<;>intro h
  ·refine ab ?_;refine gD (aB (R:=iq) (vss:=[(bW a1)]) (xs:=[a1]) J (FZ _ _ _ _ _ _ _ _ _ _ _ _ _) J J (fun _ _ hr=> .cons J All2.nil)) ?_;rintro _ _ ⟨c8,d0,d1,rfl,rfl⟩;obtain ⟨b9,h⟩:=ae h
   refine vc (t6 1 0 J J ao J J EM Qn J J J b9) fun d2 d3 d4=> ?_
   exact jN
  refine ab ?_;obtain ⟨d6,b5,b6,b7,h⟩:=bz h;refine ab ?_;refine G8 (cg (us:=bW a1) (z:=(⟨(⟨a1.Zf.Za,a1.Zf.N,a1.Zf.S⟩:WL),a1.Zd,(⟨a1.Value.Za,a1.Value.N,a1.Value.S⟩:WV),(⟨a1.Zq.Za,a1.Zq.N,a1.Zq.S⟩:WV),(⟨a1.Zr.Za,a1.Zr.N,a1.Zr.S⟩:WV)⟩:WU)) 0 J J J J size50.out J (toNat_lt b5 b6) J (fun S w vs xk hk hr ho=>by obtain rfl:=YM (hk.symm.trans b7);rw [show _=_ from hr];rfl)) ?_;exact ⟨_,_,⟨List.set (([]:List WU)++a0.Zm) y6.toNat (⟨(⟨a1.Zf.Za,a1.Zf.N,a1.Zf.S⟩:WL),a1.Zd,(⟨a1.Value.Za,a1.Value.N,a1.Value.S⟩:WV),(⟨a1.Zq.Za,a1.Zq.N,a1.Zq.S⟩:WV),(⟨a1.Zr.Za,a1.Zr.N,a1.Zr.S⟩:WV)⟩:WU),A9,n9,c9,h,J,J⟩,sA,cS [0,4,5,3,1] 6⟩
 rintro _ _ ⟨b0,a6,a7,a8,h,rfl,rfl⟩;refine ab ?_;obtain rfl:=bD h;exact kI (rs:=[.cell 4 35]) (vs:=[.agg #[.bool a0.Ext,.bool a0.Zs,W A1 n1 c1,W a6 a7 a8]]) J (.cons (dy 4 J J agg35.out) .nil) J ((bv 0 J).trans (cS [1,0] 5)) ⟨_,_,_,_,_,_,J,J⟩
def gC (a0:WO)(a1:WL)(a2:WG):Option (WO×Bool×Bool):=
 (uE N a1).bind fun y7=>(bif !y7 then (some true) else ((dW N a2).bind fun y9=>some (!y9))).bind fun b8=>bif b8 then (some (a0,false,false)) else ((dp N).bind fun b7=>bif decide (a1=b7) then ((oW N a0 a2).bind fun a8=>some (a8.1,a8.2.1,a8.2.2)) else ((nJ N a0 a1).bind fun b5=>(lE N b5.1 b5.2 a0.Ext a1 a2).bind fun a7=>bif !a7.2 then (some (a0,false,false)) else ((lD N a0 a1).bind fun b9=>(bif decide (b9<0) then (some (decide (1024<=(a0.Zm.length:Int)))) else (some false)).bind fun b6=>bif !decide (a1.Za=0) then (bif b6 then (some (a0,false,false)) else ((nl N a0 a7.1).bind fun c7=>some (c7,true,false))) else (bif decide (4096<=a1.N) then (some (a0,false,true)) else ((bif decide ((a0.Zk.length:Int)<=a1.N) then (some a0.Zs) else (some false)).bind fun c8=>bif c8 then (some (a0,false,false)) else ((bif b6 then (some (!decide (a7.1.Zd=7))) else (some false)).bind fun c9=>bif c9 then (some (a0,false,false)) else (aL (in64 (a1.N+1)) ((nm N a0 (a1.N+1)).bind fun a6=>bif decide (a7.1.Zd=7) then ((aq a6.Zk a1.N).bind fun d2=>(ei N (⟨a6.Ext,a6.Zs,List.set a6.Zk a1.N.toNat (⟨a7.1.Value.Za,a7.1.Value.N,a7.1.Value.S⟩:WV),a6.Zm⟩:WO) a1).bind fun d0=>some (d0,true,false)) else ((ir N).bind fun b0=>(aq a6.Zk a1.N).bind fun d3=>(nl N (⟨a6.Ext,a6.Zs,List.set a6.Zk a1.N.toNat (⟨b0.Za,b0.N,b0.S⟩:WV),a6.Zm⟩:WO) a7.1).bind fun d1=>some (d1,true,false))))))))))
theorem Gg {N:Nat}{a0:WO}{a1:WL}{a2:WG}{r:WO×Bool×Bool}(h:gC N a0 a1 a2=some r):Okc Xa 30 [.agg #[.bool a0.Ext,.bool a0.Zs,W A1 n1 c1,W A2 n2 c2],(eT a1),(fV a2)] ([aY A1 n1 c1 a0.Zk,sU A2 n2 c2 a0.Zm]) (fun u post=> ∃A0 n0 c0 A1 n1 c1,u=.tuple #[.agg #[.bool r.1.Ext,.bool r.1.Zs,W A0 n0 c0,W A1 n1 c1],.bool r.2.1,.bool r.2.2]/\post=[aY A0 n0 c0 r.1.Zk,sU A1 n1 c1 r.1.Zm]):=by
 refine CJ Tryz.func30 J J ?_;simp only [qQ];refine Y ?_
 refine gB (rf J J) fun B3=> ?_
 refine gB (rf J J) fun B4=> ?_
 refine gB (rf J J) fun B5=> ?_
 refine gB (bw zero35.out J) fun B6=> ?_
 refine Y ?_;refine aA ?_;refine Y ?_;refine gR (ax (us:=lH a1) 2 J J agg39.out J) ?_;obtain ⟨y7,k,h⟩:=aa h;refine gV (aH (HZ k) J (au) EP) ?_;refine Y ?_;obtain ⟨b8,h7,h⟩:=aa h;refine fd 4 20 b8 ?_ ?_
 ·clear h;refine eC 16 J (fun g8=> ?_) (fun g8=> ?_)
  ·have h:=cG g8 h7;refine Y ?_;obtain rfl:=bD h;exact aU sA (cS [0,1,2,3,4,5] 6)
  have h:=cH g8 h7;refine sc (ax (us:=iw a2) 1 J J agg41.out J) J (dw g8 J) J ?_;obtain ⟨y9,k,h⟩:=aa h;refine gU (aH (HY k) J (au) EN) (dw g8 J) ?_;refine Y ?_;obtain rfl:=bD h;exact aU sA (cS [0,1,2,3,4,5] 6)
 refine Y ?_;refine gH J h ?_ ?_<;>intro h
 ·refine Y ?_;refine gR (ax (us:=(kY a0 A1 n1 c1 A2 n2 c2)) 3 J J agg35.out J) ?_;refine gW (aj (us:=(kY a0 A1 n1 c1 A2 n2 c2)) (cs':=(kY a0 A1 n1 c1 A2 n2 c2)) 0 J J J J size35.out J J J) ?_;refine Y ?_;obtain rfl:=bD h;exact kI (rs:=[.cell 6 35,.tmp 7,.tmp 8]) (vs:=[.agg #[.bool a0.Ext,.bool a0.Zs,W A1 n1 c1,W A2 n2 c2],.bool false,.bool false]) J (.cons (dy 0 J J agg35.out) (.cons (dP J) (.cons (dP J) .nil))) J (cS [4,5] 6) ⟨_,_,_,_,_,_,J,J⟩
 refine Y ?_;refine aA ?_;refine aA ?_;refine bh O _ (ad _) ?_;refine zR 0 J (ax (us:=lH a1) 2 J J agg39.out J) ?_;obtain ⟨h9,k,h⟩:=aa h;refine zD 1 J (aH (kC k) J (au) oX) ?_;rintro _ _ ⟨_,⟨rfl,rfl⟩,rfl⟩;refine ⟨_,ad _,ad _,?_⟩;refine zE 2 J (vO (x:=a1) (y:=h9) J J) ?_;refine bq O ?_;refine qk ?_;refine gH J h ?_ ?_<;>intro h
 ·refine Y ?_;refine gR (ax (us:=(kY a0 A1 n1 c1 A2 n2 c2)) 3 J J agg35.out J) ?_;refine gR (ax (us:=iw a2) 1 J J agg41.out J) ?_;obtain ⟨b0,k,h⟩:=aa h;refine gD (dq (CD k) J (bH [4,5] [] [0,1,2,3,4,5] 6 J)) ?_;rintro _ _ ⟨_,⟨e6,e7,e8,e9,f0,f1,rfl,rfl⟩,rfl⟩;refine Y ?_;refine gW (aj (us:=(kY b0.1 e6 e7 e8 e9 f0 f1)) (cs':=(kY b0.1 e6 e7 e8 e9 f0 f1)) 2 J J J J size35.out J J J) ?_;refine im ?_;refine Y ?_;obtain rfl:=bD h;exact kI (rs:=[.cell 6 35,.tmp 7,.tmp 8]) (vs:=[.agg #[.bool b0.1.Ext,.bool b0.1.Zs,W e6 e7 e8,W e9 f0 f1],.bool b0.2.1,.bool b0.2.2]) J (.cons (dy 2 J J agg35.out) (.cons (dP J) (.cons (dP J) .nil))) J (cS [0,1] 8) ⟨_,_,_,_,_,_,J,J⟩
 refine Y ?_;refine gR (ax (us:=(kY a0 A1 n1 c1 A2 n2 c2)) 3 J J agg35.out J) ?_;refine gR (ax (us:=lH a1) 2 J J agg39.out J) ?_;obtain ⟨f2,k,h⟩:=aa h;refine gV (aH (wn k) J (t5 (dc (i:=4) J J) (t5 (dc (i:=5) J J) au)) Bk) ?_;refine Y ?_
 refine gB (bw zero50.out J) fun i3=> ?_
 refine gW (aj (us:=bW f2.1) (cs':=bW f2.1) 0 J J J J size50.out J J J) ?_;refine Y ?_;refine gR (ax (us:=bW f2.1) 0 J J agg50.out J) ?_;refine Y ?_;refine gR (ax (us:=lH a1) 3 J J agg39.out J) ?_;refine gR (ax (us:=iw a2) 2 J J agg41.out J) ?_;obtain ⟨a6,k,h⟩:=aa h;refine gV (aH (Bl k) J (au) EO) ?_;refine Y ?_;refine gW (aj (us:=bW a6.1) (cs':=bW a6.1) 0 J J J J size50.out J J J) ?_;refine Y ?_;refine aA ?_;refine Y ?_;refine gH J h ?_ ?_<;>intro h
 ·refine Y ?_;refine gR (ax (us:=(kY a0 A1 n1 c1 A2 n2 c2)) 4 J J agg35.out J) ?_;refine gW (aj (us:=(kY a0 A1 n1 c1 A2 n2 c2)) (cs':=(kY a0 A1 n1 c1 A2 n2 c2)) 1 J J J J size35.out J J J) ?_;refine im ?_;refine Y ?_;obtain rfl:=bD h;exact kI (rs:=[.cell 6 35,.tmp 7,.tmp 8]) (vs:=[.agg #[.bool a0.Ext,.bool a0.Zs,W A1 n1 c1,W A2 n2 c2],.bool false,.bool false]) J (.cons (dy 1 J J agg35.out) (.cons (dP J) (.cons (dP J) .nil))) J (cS [5,6] 7) ⟨_,_,_,_,_,_,J,J⟩
 refine Y ?_;refine gR (ax (us:=(kY a0 A1 n1 c1 A2 n2 c2)) 4 J J agg35.out J) ?_;refine gR (ax (us:=lH a1) 3 J J agg39.out J) ?_;obtain ⟨i4,k,h⟩:=aa h;refine gV (aH (wk k) J (t5 (dc (i:=5) J J) (t5 (dc (i:=6) J J) au)) EL) ?_;refine Y ?_;obtain ⟨i0,b6,h⟩:=aa h;refine fd 5 59 i0 ?_ ?_
 ·clear h;refine eC 54 J (fun d1=> ?_) (fun d1=> ?_)
  ·have h:=cG d1 b6;refine Y ?_;refine sc (lj 6 J bj J EM) J (ca d1 J) J ?_;refine Y ?_;obtain rfl:=bD h;exact aU sA (cS [0,1,2,3,4,5,6] 7)
  have h:=cH d1 b6;refine Y ?_;obtain rfl:=bD h;exact aU sA (cS [0,1,2,3,4,5,6] 7)
 refine Y ?_;refine aA ?_;refine Y ?_;refine gH J h ?_ ?_<;>intro h
 ·refine aA ?_;refine Y ?_;refine gH J h ?_ ?_<;>intro h
  ·refine Y ?_;refine gR (ax (us:=(kY a0 A1 n1 c1 A2 n2 c2)) 4 J J agg35.out J) ?_;refine gW (aj (us:=(kY a0 A1 n1 c1 A2 n2 c2)) (cs':=(kY a0 A1 n1 c1 A2 n2 c2)) 1 J J J J size35.out J J J) ?_;refine Y ?_;obtain rfl:=bD h;exact kI (rs:=[.cell 6 35,.tmp 7,.tmp 8]) (vs:=[.agg #[.bool a0.Ext,.bool a0.Zs,W A1 n1 c1,W A2 n2 c2],.bool false,.bool false]) J (.cons (dy 1 J J agg35.out) (.cons (dP J) (.cons (dP J) .nil))) J (cS [5,6] 7) ⟨_,_,_,_,_,_,J,J⟩
  refine Y ?_;refine gR (ax (us:=(kY a0 A1 n1 c1 A2 n2 c2)) 4 J J agg35.out J) ?_;refine gR (ax (us:=bW a6.1) 0 J J agg50.out J) ?_;obtain ⟨d2,k,h⟩:=aa h;refine gD (dq (Dp k) J (bH [5,6] [] [0,1,2,3,4,5,6] 7 J)) ?_;rintro _ _ ⟨_,⟨f3,f4,f6,f9,g0,g1,rfl,rfl⟩,rfl⟩;refine gW (aj (us:=(kY d2 f3 f4 f6 f9 g0 g1)) (cs':=(kY d2 f3 f4 f6 f9 g0 g1)) 3 J J J J size35.out J J J) ?_;refine im ?_;refine Y ?_;obtain rfl:=bD h;exact kI (rs:=[.cell 6 35,.tmp 7,.tmp 8]) (vs:=[.agg #[.bool d2.Ext,.bool d2.Zs,W f3 f4 f6,W f9 g0 g1],.bool true,.bool false]) J (.cons (dy 3 J J agg35.out) (.cons (dP J) (.cons (dP J) .nil))) J (cS [0,1] 9) ⟨_,_,_,_,_,_,J,J⟩
 refine Y ?_;refine aA ?_;refine Y ?_;refine gH J h ?_ ?_<;>intro h
 ·refine Y ?_;refine gR (ax (us:=(kY a0 A1 n1 c1 A2 n2 c2)) 4 J J agg35.out J) ?_;refine gW (aj (us:=(kY a0 A1 n1 c1 A2 n2 c2)) (cs':=(kY a0 A1 n1 c1 A2 n2 c2)) 1 J J J J size35.out J J J) ?_;refine Y ?_;obtain rfl:=bD h;exact kI (rs:=[.cell 6 35,.tmp 7,.tmp 8]) (vs:=[.agg #[.bool a0.Ext,.bool a0.Zs,W A1 n1 c1,W A2 n2 c2],.bool false,.bool true]) J (.cons (dy 1 J J agg35.out) (.cons (dP J) (.cons (dP J) .nil))) J (cS [5,6] 7) ⟨_,_,_,_,_,_,J,J⟩
 refine Y ?_;refine aA ?_;refine Y ?_;refine gR (lj 5 J bj J t9) ?_;refine Y ?_;obtain ⟨i1,b7,h⟩:=aa h;refine fd 3 81 i1 ?_ ?_
 ·clear h;refine eC 78 J (fun g2=> ?_) (fun g2=> ?_)
  ·have h:=cG g2 b7;refine Y ?_;obtain rfl:=bD h;exact aU sA (cS [0,1,2,3,4,5,6] 7)
  have h:=cH g2 b7;refine Y ?_;obtain rfl:=bD h;exact aU sA (cS [0,1,2,3,4,5,6] 7)
 refine Y ?_;refine gH J h ?_ ?_<;>intro h
 ·refine Y ?_;refine gR (ax (us:=(kY a0 A1 n1 c1 A2 n2 c2)) 4 J J agg35.out J) ?_;refine gW (aj (us:=(kY a0 A1 n1 c1 A2 n2 c2)) (cs':=(kY a0 A1 n1 c1 A2 n2 c2)) 1 J J J J size35.out J J J) ?_;refine Y ?_;obtain rfl:=bD h;exact kI (rs:=[.cell 6 35,.tmp 7,.tmp 8]) (vs:=[.agg #[.bool a0.Ext,.bool a0.Zs,W A1 n1 c1,W A2 n2 c2],.bool false,.bool false]) J (.cons (dy 1 J J agg35.out) (.cons (dP J) (.cons (dP J) .nil))) J (cS [5,6] 7) ⟨_,_,_,_,_,_,J,J⟩
 refine Y ?_;refine aA ?_;refine Y ?_;obtain ⟨i2,b9,h⟩:=aa h;refine fd 4 88 i2 ?_ ?_
 ·clear h;refine eC 84 J (fun g3=> ?_) (fun g3=> ?_)
  ·have h:=cG g3 b9;refine Y ?_;obtain rfl:=bD h;exact aU sA (cS [0,1,2,3,4,5,6] 7)
  have h:=cH g3 b9;refine Y ?_;obtain rfl:=bD h;exact aU sA (cS [0,1,2,3,4,5,6] 7)
 refine Y ?_;refine gH J h ?_ ?_<;>intro h
 ·refine Y ?_;refine gR (ax (us:=(kY a0 A1 n1 c1 A2 n2 c2)) 4 J J agg35.out J) ?_;refine gW (aj (us:=(kY a0 A1 n1 c1 A2 n2 c2)) (cs':=(kY a0 A1 n1 c1 A2 n2 c2)) 1 J J J J size35.out J J J) ?_;refine im ?_;refine Y ?_;obtain rfl:=bD h;exact kI (rs:=[.cell 6 35,.tmp 7,.tmp 8]) (vs:=[.agg #[.bool a0.Ext,.bool a0.Zs,W A1 n1 c1,W A2 n2 c2],.bool false,.bool false]) J (.cons (dy 1 J J agg35.out) (.cons (dP J) (.cons (dP J) .nil))) J (cS [5,6] 7) ⟨_,_,_,_,_,_,J,J⟩
 refine Y ?_;refine gR (ax (us:=(kY a0 A1 n1 c1 A2 n2 c2)) 4 J J agg35.out J) ?_;refine Y ?_;obtain ⟨h8,h⟩:=ae h;refine gE (iz J J h8.1 h8.2) ?_;obtain ⟨d3,k,h⟩:=aa h;refine gD (dq (xM k) J (bH [5,6] [] [0,1,2,3,4,5,6] 7 J)) ?_;rintro _ _ ⟨_,⟨d4,d6,e0,e1,e2,e3,rfl,rfl⟩,rfl⟩;refine gW (aj (us:=(kY d3 d4 d6 e0 e1 e2 e3)) (cs':=(kY d3 d4 d6 e0 e1 e2 e3)) 6 J J J J size35.out J J J) ?_;refine Y ?_;refine aA ?_;refine Y ?_;refine gH J h ?_ ?_<;>intro h
 ·refine Y ?_;refine gR (ax (us:=bP a6.1.Value) 2 J J agg28.out J) ?_;obtain ⟨i5,a7,h⟩:=aa h;obtain ⟨c7,c8,a7⟩:=jZ a7;refine gR (cM 0 J ao J J t9 size28.out c7 c8) ?_;refine gW (cg (us:=bP a6.1.Value) (z:=(⟨a6.1.Value.Za,a6.1.Value.N,a6.1.Value.S⟩:WV)) 0 J J J J size28.out J (toNat_lt c7 c8) J (fun S w vs xk hk hr ho=>by obtain rfl:=YM (hk.symm.trans a7);rw [show _=_ from hr];rfl)) ?_;refine im ?_;refine Y ?_;refine gR (ax (us:=(kY d3 d4 d6 e0 e1 e2 e3)) 6 J J agg35.out J) ?_;refine gR (ax (us:=lH a1) 5 J J agg39.out J) ?_;obtain ⟨e4,k,h⟩:=aa h;refine mO (bv 0 J) ?_;refine gD (dq (tM k) J (bH [0,1] [] [0,1,2,3,4,5,6,7,8] 9 J)) ?_;rintro _ _ ⟨_,⟨g4,g5,g6,g7,g9,h0,rfl,rfl⟩,rfl⟩;refine gW (aj (us:=(kY e4 g4 g5 g6 g7 g9 h0)) (cs':=(kY e4 g4 g5 g6 g7 g9 h0)) 5 J J J J size35.out J J J) ?_;refine im ?_;refine Y ?_;obtain rfl:=bD h;exact kI (rs:=[.cell 6 35,.tmp 7,.tmp 8]) (vs:=[.agg #[.bool e4.Ext,.bool e4.Zs,W g4 g5 g6,W g7 g9 h0],.bool true,.bool false]) J (.cons (dy 5 J J agg35.out) (.cons (dP J) (.cons (dP J) .nil))) J (cS [0,1] 11) ⟨_,_,_,_,_,_,J,J⟩
 refine Y ?_;refine aA ?_;refine bh O _ (ad _) ?_;refine zE 0 J (kH J Ik) ?_;refine zR 1 J (ck 6 J J sC J) ?_;refine zE 2 J (kH J Ee) ?_;refine zR 3 J (ck 5 J J va J) ?_;obtain ⟨b5,k,h⟩:=aa h;refine zD 4 J (aH (pE k) J (au) rA) ?_;rintro _ _ ⟨_,⟨rfl,rfl⟩,rfl⟩;refine ⟨_,ad _,ad _,?_⟩;obtain ⟨i6,a8,h⟩:=aa h;obtain ⟨c9,d0,a8⟩:=jZ a8;refine zR 5 J (cM 0 J ao J J t9 size28.out c9 d0) ?_;refine gI 6 J O O (cg (us:=[iV b5.Za,iV b5.N,.string b5.S]) (z:=(⟨b5.Za,b5.N,b5.S⟩:WV)) 0 J J J J size28.out J (toNat_lt c9 d0) J (fun S w vs xk hk hr ho=>by obtain rfl:=YM (hk.symm.trans a8);rw [show _=_ from hr];rfl)) ?_;rintro _ _ rfl;refine bq O ?_;refine Y ?_;refine gR (ax (us:=(kY d3 d4 d6 e0 e1 e2 e3)) 6 J J agg35.out J) ?_;refine gR (ax (us:=bW a6.1) 2 J J agg50.out J) ?_;obtain ⟨e5,k,h⟩:=aa h;refine mO (bv 0 J) ?_;refine gD (dq (Dp k) J (bH [0,1] [] [0,1,2,3,4,5,6,7,8] 9 J)) ?_;rintro _ _ ⟨_,⟨h1,h2,h3,h4,h5,h6,rfl,rfl⟩,rfl⟩;refine gW (aj (us:=(kY e5 h1 h2 h3 h4 h5 h6)) (cs':=(kY e5 h1 h2 h3 h4 h5 h6)) 5 J J J J size35.out J J J) ?_;refine im ?_;refine Y ?_;obtain rfl:=bD h
 exact kI (rs:=[.cell 6 35,.tmp 7,.tmp 8]) (vs:=[.agg #[.bool e5.Ext,.bool e5.Zs,W h1 h2 h3,W h4 h5 h6],.bool true,.bool false]) J (.cons (dy 5 J J agg35.out) (.cons (dP J) (.cons (dP J) .nil))) J (cS [0,1] 11) ⟨_,_,_,_,_,_,J,J⟩
def qb (a1:WL)(a6 a7:Bool)(p13:WW)(a8:W7):Option (WO×Bool):=
 (ei N (⟨a6,a7,p13,a8⟩:WO) a1).bind fun b0=>some (b0,true)
def sL (a0:WO)(a1:WL):Option (WO×Bool):=
 (nJ N a0 a1).bind fun y6=>bif !y6.2 then (some (a0,true)) else (bif decide (ai .i64 y6.1.Zd 4=0) then (some (a0,false)) else ((bif decide (a1.Za=0) then (some (decide (a1.N<(a0.Zk.length:Int)))) else (some false)).bind fun a8=>bif a8 then ((nm N a0 0).bind fun a6=>(ir N).bind fun a7=>(aq a6.Zk a1.N).bind fun b0=>qb N a1 a6.Ext a6.Zs (List.set a6.Zk a1.N.toNat (⟨a7.Za,a7.N,a7.S⟩:WV)) a6.Zm) else (qb N a1 a0.Ext a0.Zs a0.Zk a0.Zm)))
theorem Gf {N:Nat}{a0:WO}{a1:WL}{r:WO×Bool}(h:sL N a0 a1=some r):Okc Xa 31 [.agg #[.bool a0.Ext,.bool a0.Zs,W A1 n1 c1,W A2 n2 c2],(eT a1)] ([aY A1 n1 c1 a0.Zk,sU A2 n2 c2 a0.Zm]) (fun u post=> ∃A0 n0 c0 A1 n1 c1,u=.tuple #[.agg #[.bool r.1.Ext,.bool r.1.Zs,W A0 n0 c0,W A1 n1 c1],.bool r.2]/\post=[aY A0 n0 c0 r.1.Zk,sU A1 n1 c1 r.1.Zm]):=by
 refine CJ Tryz.func31 J J ?_;simp only [qQ];refine Y ?_
 refine gB (rf J J) fun B3=> ?_
 refine gB (rf J J) fun B4=> ?_
 refine gB (bw zero35.out J) fun B5=> ?_
 refine Y ?_;refine gR (ax (us:=(kY a0 A1 n1 c1 A2 n2 c2)) 2 J J agg35.out J) ?_;refine gR (ax (us:=lH a1) 1 J J agg39.out J) ?_;obtain ⟨y6,k,h⟩:=aa h;refine gV (aH (wn k) J (t5 (dc (i:=3) J J) (t5 (dc (i:=4) J J) au)) Bk) ?_;refine Y ?_
 refine gB (bw zero50.out J) fun B7=> ?_
 refine gW (aj (us:=bW y6.1) (cs':=bW y6.1) 0 J J J J size50.out J J J) ?_;refine Y ?_;refine aA ?_;refine Y ?_;refine gH J h ?_ ?_<;>intro h
 ·refine Y ?_;refine gR (ax (us:=(kY a0 A1 n1 c1 A2 n2 c2)) 3 J J agg35.out J) ?_;refine gW (aj (us:=(kY a0 A1 n1 c1 A2 n2 c2)) (cs':=(kY a0 A1 n1 c1 A2 n2 c2)) 1 J J J J size35.out J J J) ?_;refine Y ?_;obtain rfl:=bD h;exact kI (rs:=[.cell 4 35,.tmp 5]) (vs:=[.agg #[.bool a0.Ext,.bool a0.Zs,W A1 n1 c1,W A2 n2 c2],.bool true]) J (.cons (dy 1 J J agg35.out) (.cons (dP J) .nil)) J (cS [4,5] 6) ⟨_,_,_,_,_,_,J,J⟩
 refine Y ?_;refine aA ?_;refine Y ?_;refine gE (aI J J) ?_;refine Y ?_;refine gH J h ?_ ?_<;>intro h
 ·refine Y ?_;refine gR (ax (us:=(kY a0 A1 n1 c1 A2 n2 c2)) 3 J J agg35.out J) ?_;refine gW (aj (us:=(kY a0 A1 n1 c1 A2 n2 c2)) (cs':=(kY a0 A1 n1 c1 A2 n2 c2)) 1 J J J J size35.out J J J) ?_;refine im ?_;refine Y ?_;obtain rfl:=bD h;exact kI (rs:=[.cell 4 35,.tmp 5]) (vs:=[.agg #[.bool a0.Ext,.bool a0.Zs,W A1 n1 c1,W A2 n2 c2],.bool false]) J (.cons (dy 1 J J agg35.out) (.cons (dP J) .nil)) J (cS [4,5] 6) ⟨_,_,_,_,_,_,J,J⟩
 refine Y ?_;refine am (fun s L=> ∃b7 b9 p13 d6 c7 c8 c9 d0 d1 d2,qb N a1 b7 b9 p13 d6=some r/\s=[(2,pV B3 0),(3,pV B4 0),(4,pV B5 0),(5,.bool false)]/\L=[aY c7 c8 c9 p13,sU d0 d1 d2 d6,ah B3 35 [.bool b7,.bool b9,W c7 c8 c9,W d0 d1 d2],ah B4 39 (lH a1),ah B5 35 [.bool false,.bool false,W none 0 0,W none 0 0]]) ?_ ?_
 ·refine Y ?_;obtain ⟨f2,b0,h⟩:=aa h;refine fd 7 32 f2 ?_ ?_
  ·clear h;refine eC 25 J (fun d3=> ?_) (fun d3=> ?_)
   ·have h:=cG d3 b0;refine Y ?_;refine sc (lj 4 J bj J t9) J (ca d3 J) J ?_;refine Y ?_;obtain rfl:=bD h;exact aU sA (cS [0,1,2,3,4,5] 6)
   have h:=cH d3 b0;refine Y ?_;obtain rfl:=bD h;exact aU sA (cS [0,1,2,3,4,5] 6)
  refine Y ?_;refine gH J h ?_ ?_<;>intro h
  ·refine Y ?_;refine gR (ax (us:=(kY a0 A1 n1 c1 A2 n2 c2)) 3 J J agg35.out J) ?_;obtain ⟨a8,k,h⟩:=aa h;refine gD (dq (xM k) J (bH [4,5] [] [0,1,2,3,4,5] 6 J)) ?_;rintro _ _ ⟨_,⟨e0,e1,e2,e3,e4,e5,rfl,rfl⟩,rfl⟩;refine gW (aj (us:=(kY a8 e0 e1 e2 e3 e4 e5)) (cs':=(kY a8 e0 e1 e2 e3 e4 e5)) 5 J J J J size35.out J J J) ?_;refine Y ?_;refine bh O _ (ad _) ?_;refine zE 0 J (kH J Ik) ?_;refine zR 1 J (ck 5 J J sC J) ?_;refine zE 2 J (kH J Ee) ?_;refine zR 3 J (ck 4 J J va J) ?_;obtain ⟨a6,k,h⟩:=aa h;refine zD 4 J (aH (pE k) J (au) rA) ?_;rintro _ _ ⟨_,⟨rfl,rfl⟩,rfl⟩;refine ⟨_,ad _,ad _,?_⟩;obtain ⟨f3,a7,h⟩:=aa h;obtain ⟨b5,b6,a7⟩:=jZ a7;refine zR 5 J (cM 0 J ao J J t9 size28.out b5 b6) ?_;refine gI 6 J O O (cg (us:=[iV a6.Za,iV a6.N,.string a6.S]) (z:=(⟨a6.Za,a6.N,a6.S⟩:WV)) 0 J J J J size28.out J (toNat_lt b5 b6) J (fun S w vs xk hk hr ho=>by obtain rfl:=YM (hk.symm.trans a7);rw [show _=_ from hr];rfl)) ?_;rintro _ _ rfl;refine bq O ?_;refine qk ?_;exact ⟨_,_,⟨a8.Ext,a8.Zs,List.set a8.Zk a1.N.toNat (⟨a6.Za,a6.N,a6.S⟩:WV),a8.Zm,e0,e1,e2,e3,e4,e5,h,J,J⟩,sA,(bv 0 J).trans (cS [0,1,5,4,3] 8)⟩
  refine Y ?_;exact ⟨_,_,⟨a0.Ext,a0.Zs,a0.Zk,a0.Zm,A1,n1,c1,A2,n2,c2,h,J,J⟩,sA,cS [4,5,3,2,1] 6⟩
 rintro _ _ ⟨b7,b9,p13,d6,c7,c8,c9,d0,d1,d2,h,rfl,rfl⟩;refine Y ?_;refine gR (ax (us:=[.bool b7,.bool b9,W c7 c8 c9,W d0 d1 d2]) 2 J J agg35.out J) ?_;refine gR (ax (us:=lH a1) 3 J J agg39.out J) ?_;obtain ⟨d4,k,h⟩:=aa h;refine gD (dq (tM k) J (bH [0,1] [] [0,1,2,3,4] 5 J)) ?_;rintro _ _ ⟨_,⟨e6,e7,e8,e9,f0,f1,rfl,rfl⟩,rfl⟩;refine im ?_;refine gW (aj (us:=(kY d4 e6 e7 e8 e9 f0 f1)) (cs':=(kY d4 e6 e7 e8 e9 f0 f1)) 6 J J J J size35.out J J J) ?_;refine Y ?_;obtain rfl:=bD h;exact kI (rs:=[.cell 4 35,.tmp 5]) (vs:=[.agg #[.bool d4.Ext,.bool d4.Zs,W e6 e7 e8,W e9 f0 f1],.bool true]) J (.cons (dy 6 J J agg35.out) (.cons (dP J) .nil)) J (cS [0,1] 7) ⟨_,_,_,_,_,_,J,J⟩
def qD (a0:WM)(a1:WV)(a2:WL):Option (Bool×WM):=
 (cB N a0 a1).bind fun y6=>bif !y6.2 then (some (false,a0)) else ((jh N a0 a1 a2).bind fun a6=>bif !a6.2 then (some (true,a0)) else (bif decide (ai .i64 a6.1.Zd 4=0) then (some (false,a0)) else ((bif decide (a2.Za=0) then ((er N y6.1 a2.N).bind fun a8=>some a8) else (some false)).bind fun b0=>bif b0 then ((aq y6.1.Zb a2.N).bind fun b6=>(az N a0 a1 (⟨y6.1.Za,y6.1.Zi,y6.1.Ze,y6.1.Zg,y6.1.Zc,List.set y6.1.Zb a2.N.toNat (⟨8,0,(⟨#[]⟩:ByteArray)⟩:WV)⟩:WI)).bind fun b5=>some (true,b5)) else ((fQ N a0 a1 a2).bind fun a7=>some (a7.1,a7.2)))))
theorem DW {N:Nat}{a1:WV}{r:Bool×WM}(h:qD N a0 a1 a2=some r){B1 B2 B3:Nat}:Okc Xa 32 [pV B1 0,(aE a1),(eT a2)] ([rE,oDWorld B1 B2 B3 a0]) (fun u post=>u=.bool r.1/\post=[oDWorld B1 B2 B3 r.2]):=by
 refine ce Tryz.func32 ?_;intro B4
 refine cl fun B5=> ?_
 refine Ix h (fun _ k=>fi k) fun y6 A7 n7 c7 A8 n8 c8 h=> ?_
 intro B9;refine sY ?_;refine gH J h ?_ ?_<;>intro h
 ·exact eY
 refine cR h (fun _ k=>tf k) fun b0 h=> ?_
 intro b5;refine sY ?_;refine gH J h ?_ ?_<;>intro h
 ·exact eY
 refine ab ?_;refine fY (aI J J) ?_;refine gH J h ?_ ?_<;>intro h
 ·exact eY
 refine ab ?_
 refine ou 5 43 38 h (fun _ b6 h=> ?_) fun b7 h=> ?_
 ·refine cR h (fun _ k=>yz k) fun b9 h=> ?_
  exact gY
 refine dv h ?_ ?_<;>intro h
 ·refine ab ?_;obtain ⟨c9,a6,a7,a8,h⟩:=bz h;refine ab ?_;refine G8 (cg (us:=Uu) (z:=(⟨8,0,(⟨#[]⟩:ByteArray)⟩:WV)) 3 J J J J size28.out J (toNat_lt a6 a7) J (fun S w vs xk hk hr ho=>by obtain rfl:=YM (hk.symm.trans a8);rw [show _=_ from hr];rfl)) ?_;refine mO (bv 2 J) ?_;refine mO (bv 3 J) ?_
  refine cC h (fun _ k=>dB k) fun d0 h=> ?_
  exact eN
 refine cC h (fun _ k=>rg k) fun d1 h=> ?_
 exact eN
def xP (N:Nat)(a0:WO)(a6:WW):Option (WO×Bool):=
 some ((⟨a0.Ext,a0.Zs,a6,a0.Zm⟩:WO),true)
def wl (a0:WO)(a1:WV):Option (WO×Bool):=
 (bif !a0.Ext then (some true) else (some a0.Zs)).bind fun b6=>(bif b6 then (some true) else (some (decide (4096<=(a0.Zk.length:Int))))).bind fun b7=>bif b7 then (some (a0,false)) else (aL (cF (([]:List WV).length+a0.Zk.length)) (aL (cF ((([]:List WV)++a0.Zk).length+([a1]:List WV).length)) (xP N a0 ((([]:List WV)++a0.Zk)++([a1]:List WV)))))
theorem I8 {N:Nat}{a0:WO}{a1:WV}{r:WO×Bool}(h:wl N a0 a1=some r):Okc Xa 34 [.agg #[.bool a0.Ext,.bool a0.Zs,W A1 n1 c1,W A2 n2 c2],(aE a1)] ([aY A1 n1 c1 a0.Zk,sU A2 n2 c2 a0.Zm]) (fun u post=> ∃A0 n0 c0 A1 n1 c1,u=.tuple #[.agg #[.bool r.1.Ext,.bool r.1.Zs,W A0 n0 c0,W A1 n1 c1],.bool r.2]/\post=[aY A0 n0 c0 r.1.Zk,sU A1 n1 c1 r.1.Zm]):=by
 refine ce Tryz.func34 ?_;intro B3
 refine cl fun B4=> ?_
 intro B5;refine sY ?_;refine gS 3 12 9 h ?_;intro b6 h;refine ab ?_;refine gS 5 18 13 h ?_;intro b7 h;refine dv h ?_ ?_<;>intro h
 ·exact eY
 refine ab ?_;refine am (fun s L=> ∃c8 b5 b9 c7,xP N a0 c8=some r/\s=[(2,pV B3 0),(4,pV B5 0),(5,.bool false)]/\L=[bf b5 b9 c7 c8,sU A2 n2 c2 a0.Zm,ah B3 35 (kY a0 b5 b9 c7 A2 n2 c2),ah B5 35 [.bool false,.bool false,W none 0 0,W none 0 0]]) ?_ ?_
 ·refine bh O _ (ad _) ?_;refine zY [1,2,4] ?_;refine oA 0 5 O ?_ ?_
  ·refine bL J (aB (R:=ay) (vss:=[]) (xs:=[]) J (yx) J J (fun _ _ hr=>All2.nil)) J J J ?_;rintro _ _ ⟨d3,d4,d6,rfl,rfl⟩;refine bY ?_;refine oA 3 5 O ?_ ?_
   ·obtain ⟨e0,h⟩:=ae h;refine bL J (aX 0 4 J J bj J J t9 sd J J e0) J J J ?_;rintro _ _ ⟨e4,e5,e6,rfl,rfl⟩;refine bY ?_
    refine Dc 5 J (aB (R:=ay) (vss:=[(bP a1)]) (xs:=[a1]) J (jA _ _ _) J J (fun _ _ hr=> .cons J All2.nil)) fun d0 d1 d2=> ?_
    obtain ⟨b0,h⟩:=ae h
    refine Dc 6 J (aX 1 0 J J ao J J t9 sd J J b0) fun a6 a7 a8=> ?_
    refine zY [7] ?_;refine gI 8 J O O (aj (us:=[W a6 a7 a8]) (cs':=(kY a0 a6 a7 a8 A2 n2 c2)) 4 J J J J size22.out J J J) ?_;rintro _ _ rfl;refine bq O ?_;exact jY
   refine bL J (aB (R:=ay) (vss:=[(bP a1)]) (xs:=[a1]) J (jA _ _ _) J J (fun _ _ hr=> .cons J All2.nil)) J J J ?_;rintro _ _ ⟨e1,e2,e3,rfl,rfl⟩;refine bY ?_;obtain ⟨c9,h⟩:=ae h
   refine Dc 3 J (aX 1 5 J J bj J J t9 sd J J c9) fun d0 d1 d2=> ?_
   obtain ⟨b0,h⟩:=ae h
   refine Dc 6 J (aX 1 0 J J ao J J t9 sd J J b0) fun a6 a7 a8=> ?_
   refine zY [7] ?_;refine gI 8 J O O (aj (us:=[W a6 a7 a8]) (cs':=(kY a0 a6 a7 a8 A2 n2 c2)) 4 J J J J size22.out J J J) ?_;rintro _ _ rfl;refine bq O ?_;exact jY
  refine bL J (aB (R:=ay) (vss:=[(bP a1)]) (xs:=[a1]) J (jA _ _ _) J J (fun _ _ hr=> .cons J All2.nil)) J J J ?_;rintro _ _ ⟨d3,d4,d6,rfl,rfl⟩;refine bY ?_
  refine Dc 0 J (aB (R:=ay) (vss:=[]) (xs:=[]) J (yx) J J (fun _ _ hr=>All2.nil)) fun e1 e2 e3=> ?_
  obtain ⟨c9,h⟩:=ae h
  refine Dc 3 J (aX 0 5 J J bj J J t9 sd J J c9) fun d0 d1 d2=> ?_
  obtain ⟨b0,h⟩:=ae h
  refine Dc 6 J (aX 0 1 J J ao J J t9 sd J J b0) fun a6 a7 a8=> ?_
  refine zY [7] ?_;refine gI 8 J O O (aj (us:=[W a6 a7 a8]) (cs':=(kY a0 a6 a7 a8 A2 n2 c2)) 4 J J J J size22.out J J J) ?_;rintro _ _ rfl;refine bq O ?_;exact jY
 rintro _ _ ⟨c8,b5,b9,c7,h,rfl,rfl⟩;refine ab ?_;obtain rfl:=bD h;exact kI (rs:=[.cell 4 35,.tmp 5]) (vs:=[.agg #[.bool a0.Ext,.bool a0.Zs,W b5 b9 c7,W A2 n2 c2],.bool true]) J (.cons (dy 3 J J agg35.out) (.cons (dP J) .nil)) J ((bv 0 J).trans (cS [0,1] 4)) ⟨_,_,_,_,_,_,J,J⟩
def te (a0:WM)(a1 a2:WV):Option (Bool×WM):=
 (cB N a0 a1).bind fun y6=>(bif !y6.2 then (some true) else (some (decide (ai .i64 y6.1.Ze 1=0)))).bind fun a6=>(bif a6 then (some true) else (some (!decide (ai .i64 y6.1.Ze 32=0)))).bind fun a7=>(bif a7 then (some true) else (some (decide (4096<=(y6.1.Zb.length:Int))))).bind fun b12=>bif b12 then (some (false,a0)) else (aL (cF (y6.1.Zb.length+([a2]:List WV).length)) ((az N a0 a1 (⟨y6.1.Za,y6.1.Zi,y6.1.Ze,y6.1.Zg,y6.1.Zc,y6.1.Zb++([a2]:List WV)⟩:WI)).bind fun a8=>some (true,a8)))
theorem Gw {N:Nat}{a1 a2:WV}{r:Bool×WM}(h:te N a0 a1 a2=some r){B1 B2 B3:Nat}:Okc Xa 35 [pV B1 0,(aE a1),(aE a2)] ([oDWorld B1 B2 B3 a0]) (fun u post=>u=.bool r.1/\post=[oDWorld B1 B2 B3 r.2]):=by
 refine ce Tryz.func35 ?_;intro B4
 refine cl fun B5=> ?_
 refine Ix h (fun _ k=>fi k) fun y6 A7 n7 c7 A8 n8 c8 h=> ?_
 intro B9;refine sY ?_
 refine wT 5 22 17 h (fun _ a6 h=> ?_) fun b0 h=> ?_
 ·refine ab ?_;refine eW (aI J J) J (dw a6 J) J ?_;exact gY
 refine ab ?_
 refine wT 5 28 23 h (fun _ a7 h=> ?_) fun b5 h=> ?_
 ·refine ab ?_;refine eW (aI J J) J (dw a7 J) J ?_;exact gY
 refine ab ?_;refine gS 5 34 29 h ?_;intro b12 h;refine dv h ?_ ?_<;>intro h
 ·exact eY
 refine ab ?_;refine gD (aB (R:=ay) (vss:=[(bP a2)]) (xs:=[a2]) J (jA _ _ _) J J (fun _ _ hr=> .cons J All2.nil)) ?_;rintro _ _ ⟨b6,b7,b9,rfl,rfl⟩;obtain ⟨a8,h⟩:=ae h
 refine vc (aX 3 0 J J ao J J t9 sd J J a8) fun c9 d0 d1=> ?_
 refine mO (bv 2 J) ?_;refine mO (bv 3 J) ?_
 refine cC h (fun _ k=>dB k) fun d2 h=> ?_
 exact eN
def qj (a0:WM)(a1:WV):Option WM:=
 (gF N a0 a1).bind fun y5=>DY y5 (fun y5_0=>some a0) (fun y5_1=>(bJ N (⟨(⟨y5_1.Zn.Za,y5_1.Zn.Zi,be .i64 y5_1.Zn.Ze 1,y5_1.Zn.Zg,y5_1.Zn.Zc,y5_1.Zn.Zb⟩:WI),a0,y5_1.at_⟩:WN) false).bind fun a6=>some a6.w_)
theorem DP {N:Nat}{a1:WV}{r:WM}(h:qj N a0 a1=some r){B1 B2 B3:Nat}:Okc Xa 36 [pV B1 0,(aE a1)] ([oDWorld B1 B2 B3 a0]) (fun u post=>u=.tuple #[]/\post=[oDWorld B1 B2 B3 r]):=by
 refine ce Tryz.func36 ?_;intro B4;refine ab ?_;obtain ⟨y5,a6,h⟩:=aa h;rcases y5 with y5_0|y5_1
 ·replace h:=GD h;refine gD (oR (db a6)) ?_;rintro _ _ ⟨_,⟨rfl,rfl⟩,rfl⟩;refine ab ?_;refine fG J ?_;exact eY
 replace h:=GC h;refine gD (oR (db a6)) ?_;rintro _ _ ⟨_,⟨B6,A7,n7,c7,A8,n8,c8,rfl,rfl⟩,rfl⟩;refine ab ?_;refine iN J ?_;refine ab ?_;refine fY (rH J J) ?_
 refine TT h (fun _ k=>jI k) fun a7 a8 b0 b5 b6 b7 b9 h=> ?_
 exact eN
def lS (N:Nat)(a0:WM):Option Unit:=
 some ()
theorem zz {N:Nat}{r:Unit}(h:lS N a0=some r):Okc Xa 37 [pV B1 0] ([aW B1 81 (zZ a0 B2 B3 A4 n4 c4 A5 n5 c5 A6 n6 c6),pDHeap B2 a0.Zo,pDTable B3 a0.Zp,gK sJ (W A4 n4 c4) a0.Zy,gK nI (W A5 n5 c5) a0.Zz,gK sJ (W A6 n6 c6) a0.ZA]) (fun u post=>u=pV B2 0/\post=[]):=by
 refine ce Tryz.func37 ?_;refine sZ ?_;refine fY (dL J Ws) ?_;refine fG J ?_;exact eY
theorem xj {N:Nat}{r:Unit}(h:lS N a0=some r){B1 B2 B3:Nat}:Okc Xa 37 [pV B1 0] ([pDWorld B1 B2 B3 a0]) (fun u post=>u=pV B2 0/\post=[]):=Nr 0 rfl (fun _=>zz h)
def jl (a0:Int)(a1:WK):Option Bool:=
 (pC N a1 a0).bind fun y4=>some (!y4)
theorem BD {N:Nat}{a0:Int}{a1:WK}{r:Bool}(h:jl N a0 a1=some r):Okc Xa 159 [iV a0,pV B1 0] ([aW B1 121 [W A2 n2 c2,W A3 n3 c3],iI A2 n2 c2 a1.Zh,iI A3 n3 c3 a1.Zj]) (fun u post=>u=.bool r/\post=[]):=by
 refine ce Tryz.func159 ?_
 refine cR h (fun _ k=>sI k) fun y4 h=> ?_
 exact eN
def si (a0:WK)(a6:W5):Option Int:=
 (cI N a6 (fun x=>jl N x a0)).bind fun a7=>bif a7 then (some 50) else (some 0)
def o5 (N:Nat)(a6:W5->Int->Option Int)(a1:WW)(a7:Int)(a0:WK)(a8:W5):Option Int:=
 aL (in64 (a7+1)) (a6 a8 (a7+1))
def fR (N:Nat)(a1:WW)(a0:WK):Nat->W5->Int->Option Int
 |0,_,_=>none
 |b0+1,a6,a7=>bif decide (a7<(a1.length:Int)) then ((aq a1 a7).bind fun a8=>(bif decide (a8.Za=7) then (some true) else (some (decide (a8.Za=9)))).bind fun b5=>bif b5 then (aL (cF (a6.length+([a8.N]:List Int).length)) (o5 N (fR N a1 a0 b0) a1 a7 a0 (a6++([a8.N]:List Int)))) else (o5 N (fR N a1 a0 b0) a1 a7 a0 a6)) else (si N a0 a6)
def qo (a1:WW)(a0:WK)(p6:W5):Option Int:=
 fR N a1 a0 N p6 0
def sj (N:Nat)(a7:W5->Int->Option Int)(a0:WK)(a6:Int)(a1:WW)(a8:W5):Option Int:=
 aL (in64 (a6+1)) (a7 a8 (a6+1))
def ms (N:Nat)(b6:W5->Int->Option Int)(a0:WK)(b7:Int)(a8:W6)(a1:WW):Nat->W5->Int->Option Int
 |0,_,_=>none
 |c7+1,a6,a7=>bif decide (a7<(a8.length:Int)) then ((aq a8 a7).bind fun b0=>(gG N b0).bind fun c8=>bif !c8 then (some 51) else ((nQ N b0).bind fun b5=>aL (cF (a6.length+b5.length)) ((oQ N b0).bind fun b9=>aL (cF ((a6++b5).length+b9.length)) (aL (in64 (a7+1)) ((ms N b6 a0 b7 a8 a1 c7) ((a6++b5)++b9) (a7+1)))))) else (sj N b6 a0 b7 a1 a6)
def ns (N:Nat)(a0:WK)(a1:WW):Nat->W5->Int->Option Int
 |0,_,_=>none
 |m8+1,p9,a6=>bif decide (a6<(([a0.Zh,a0.Zj]:List W6).length:Int)) then ((aq ([a0.Zh,a0.Zj]:List W6) a6).bind fun a7=>ms N (ns N a0 a1 m8) a0 a6 a7 a1 N p9 0) else (qo N a1 a0 p9)
def mH (a0:WK)(a1:WW):Option Int:=
 ns N a0 a1 N [] 0
theorem Fh {N:Nat}{a0:WK}{a1:WW}{r:Int}(h:mH N a0 a1=some r):Okc Xa 122 [.agg #[W A1 n1 c1,W A2 n2 c2],W A3 n3 c3] ([iI A1 n1 c1 a0.Zh,iI A2 n2 c2 a0.Zj,aY A3 n3 c3 a1]) (fun u post=>u=iV r/\post=[]):=by
 refine ce Tryz.func122 ?_;intro B4;refine ab ?_;refine am (fun s L=> ∃p6 A6 n6 c6,qo N a1 a0 p6=some r/\s=[(1,W A3 n3 c3),(2,pV B4 0),(4,iV 0),(5,W A6 n6 c6)]/\L=[aY A3 n3 c3 a1,ur A6 n6 c6 p6,iI A1 n1 c1 a0.Zh,iI A2 n2 c2 a0.Zj,ah B4 121 [W A1 n1 c1,W A2 n2 c2]]) ?_ ?_
 ·refine ab ?_
  refine vc (aB (R:=(Rep.sl jO)) (vss:=[[W A1 n1 c1],[W A2 n2 c2]]) (xs:=[a0.Zh,a0.Zj]) J (N5 _ _ _ _ _ _) J J (fun _ _ hr=> .cons (⟨_,J,hr 1 _ J J⟩) (.cons (⟨_,J,hr 2 _ J J⟩) All2.nil))) fun A7 n7 c7=> ?_
  refine iX (fun m s L=> ∃p9 a6 A9 n9 c9,ns N a0 a1 m p9 a6=some r/\s=[(1,W A3 n3 c3),(2,pV B4 0),(4,iV 0),(5,W A9 n9 c9),(16,W A7 n7 c7),(17,iV (([a0.Zh,a0.Zj]:List W6).length:Int)),(18,iV a6)]/\L=[aY A3 n3 c3 a1,ur A9 n9 c9 p9,bd (Rep.sl jO) 119 (W A7 n7 c7) ([a0.Zh,a0.Zj]:List W6),iI A1 n1 c1 a0.Zh,iI A2 n2 c2 a0.Zj,ah B4 121 [W A1 n1 c1,W A2 n2 c2]]) N _ _ ⟨[],0,none,0,0,h,J,J⟩ sA ((ci (nH .i64) 3 _).trans (cS [5,0,1,3,4,2] 6)) ?_;rintro (_|m8) _ _ ⟨p9,a6,A9,n9,c9,h,rfl,rfl⟩
  ·exact aJ h
  rw [ns.eq_2] at h;refine ab ?_;refine aA ?_;refine gH J h ?_ ?_<;>intro h
  ·refine ab ?_;refine am (fun s L=> ∃d6 e0 e1 e2,sj N (ns N a0 a1 m8) a0 a6 a1 d6=some r/\s=[(1,W A3 n3 c3),(2,pV B4 0),(4,iV 0),(5,W e0 e1 e2),(16,W A7 n7 c7),(17,iV (([a0.Zh,a0.Zj]:List W6).length:Int)),(18,iV a6)]/\L=[aY A3 n3 c3 a1,ur e0 e1 e2 d6,bd (Rep.sl jO) 119 (W A7 n7 c7) ([a0.Zh,a0.Zj]:List W6),iI A1 n1 c1 a0.Zh,iI A2 n2 c2 a0.Zj,ah B4 121 [W A1 n1 c1,W A2 n2 c2]]) ?_ ?_
   ·refine ab ?_;obtain ⟨a8,g5,g6,e3,h⟩:=bz h;refine ab ?_
    refine vc (OV (R':=jO) (ys:=a8) 2 J ao J e3 KL (fun _ _ _ h=>by obtain ⟨u,e,k⟩:=h;exact ⟨u,by rw [e];rfl,k⟩)) fun b5 b6 b7=> ?_
    refine iX (fun m s L=> ∃e4 b9 e5 e6 e7,ms N (ns N a0 a1 m8) a0 a6 a8 a1 m e4 b9=some r/\s=[(1,W A3 n3 c3),(2,pV B4 0),(4,iV 0),(5,W e5 e6 e7),(16,W A7 n7 c7),(17,iV (([a0.Zh,a0.Zj]:List W6).length:Int)),(18,iV a6),(22,W b5 b6 b7),(23,iV (a8.length:Int)),(24,iV b9)]/\L=[aY A3 n3 c3 a1,ur e5 e6 e7 e4,bd (Rep.sl jO) 119 (W A7 n7 c7) ([a0.Zh,a0.Zj]:List W6),iI b5 b6 b7 a8,iI A1 n1 c1 a0.Zh,iI A2 n2 c2 a0.Zj,ah B4 121 [W A1 n1 c1,W A2 n2 c2]]) N _ _ ⟨p9,0,A9,n9,c9,h,J,J⟩ sA (cS [1,2,3,0,4,5,6] 7) ?_;rintro (_|h7) _ _ ⟨e4,b9,e5,e6,e7,h,rfl,rfl⟩
    ·exact aJ h
    rw [ms.eq_2] at h;refine ab ?_;refine aA ?_;refine gH J h ?_ ?_<;>intro h
    ·refine sY ?_;obtain ⟨a7,g7,g8,e8,h⟩:=bz h;refine ab ?_;refine J6 3 J e8 (tV a7) ?_;rintro _ _ ⟨c8,d0,d1,d2,d3,d4,rfl,rfl⟩;refine K7 (Bf (us:=(iS a7 c8 d0 d1 d2 d3 d4)) 0 J J agg94.out J) ?_;intro g9;refine sY ?_;obtain ⟨h8,k,h⟩:=aa h;refine F6 (oR (mI k)) ?_;refine gH J h ?_ ?_<;>intro h
     ·exact eY
     refine ab ?_;refine bh O ([ah g9 94 (iS a7 c8 d0 d1 d2 d3 d4),OD (dF (W b5 b6 b7) b9.toNat 6 0) (iS a7 c8 d0 d1 d2 d3 d4),aY c8 d0 d1 a7.Zc,aY d2 d3 d4 a7.Zb,aY A3 n3 c3 a1,bd (Rep.sl jO) 119 (W A7 n7 c7) ([a0.Zh,a0.Zj]:List W6),iI b5 b6 b7 a8,iI A1 n1 c1 a0.Zh,iI A2 n2 c2 a0.Zj,ah B4 121 [W A1 n1 c1,W A2 n2 c2]]) (cS [0,1,2,3,4,6,7,8,9,10] 11) ?_;refine yY [0,1,4] ?_;obtain ⟨h9,k,h⟩:=aa h;refine zD 2 J (oR (vi k)) ?_;rintro _ _ ⟨_,⟨i0,i1,i2,rfl,rfl⟩,rfl⟩;refine mj (cS [1,2,3,4,5,7,8,9,10,11] 12) ?_;obtain ⟨h0,h⟩:=ae h;refine zD 3 J (aX 6 0 J J ao J J Wl Sg J J h0) ?_;rintro _ _ ⟨i3,i4,i5,rfl,rfl⟩;refine mj (cS [1,2,3,4,5,7,8,9,10,11] 12) ?_;obtain ⟨i6,k,h⟩:=aa h;refine zD 5 J (oR (yv k)) ?_;rintro _ _ ⟨_,⟨i7,i8,i9,rfl,rfl⟩,rfl⟩;refine mj (cS [2,3,4,5,6,8,9,10,11,12] 13) ?_;obtain ⟨h1,h⟩:=ae h;refine zD 6 J (aX 7 0 J J ao J J Wl Sg J J h1) ?_;rintro _ _ ⟨j0,j1,j2,rfl,rfl⟩;refine mj (cS [2,3,4,5,6,8,9,10,11,12] 13) ?_;refine zE 7 J (cm J) ?_;refine bq O ?_;refine ab ?_;obtain ⟨j3,h⟩:=ae h;exact lY
    exact jY
   rintro _ _ ⟨d6,e0,e1,e2,h,rfl,rfl⟩;refine ab ?_;obtain ⟨j4,h⟩:=ae h;exact lY
  exact jY
 rintro _ _ ⟨p6,A6,n6,c6,h,rfl,rfl⟩;refine am (fun s L=> ∃e9 f0 f1 f2,si N a0 e9=some r/\s=[(2,pV B4 0),(4,iV 0),(5,W f0 f1 f2)]/\L=[ur f0 f1 f2 e9,iI A1 n1 c1 a0.Zh,iI A2 n2 c2 a0.Zj,ah B4 121 [W A1 n1 c1,W A2 n2 c2]]) ?_ ?_
 ·refine ab ?_;refine iX (fun m s L=> ∃f3 b0 f4 f6 f9,fR N a1 a0 m f3 b0=some r/\s=[(2,pV B4 0),(4,iV 0),(5,W f4 f6 f9),(40,W A3 n3 c3),(41,iV (a1.length:Int)),(42,iV b0)]/\L=[ur f4 f6 f9 f3,aY A3 n3 c3 a1,iI A1 n1 c1 a0.Zh,iI A2 n2 c2 a0.Zj,ah B4 121 [W A1 n1 c1,W A2 n2 c2]]) N _ _ ⟨p6,0,A6,n6,c6,h,J,J⟩ sA (cS [1,0,2,3,4] 5) ?_;rintro (_|h2) _ _ ⟨f3,b0,f4,f6,f9,h,rfl,rfl⟩
  ·exact aJ h
  rw [fR.eq_2] at h;refine ab ?_;refine aA ?_;refine gH J h ?_ ?_<;>intro h
  ·refine ab ?_;refine am (fun s L=> ∃g0 g1 g2 g3,o5 N (fR N a1 a0 h2) a1 b0 a0 g0=some r/\s=[(2,pV B4 0),(4,iV 0),(5,W g1 g2 g3),(40,W A3 n3 c3),(41,iV (a1.length:Int)),(42,iV b0)]/\L=[ur g1 g2 g3 g0,aY A3 n3 c3 a1,iI A1 n1 c1 a0.Zh,iI A2 n2 c2 a0.Zj,ah B4 121 [W A1 n1 c1,W A2 n2 c2]]) ?_ ?_
   ·refine ab ?_;obtain ⟨g4,h3,h4,h5,h⟩:=bz h
    refine cl fun j5=> ?_
    refine gS 4 53 49 h ?_;intro j6 h;refine dv h ?_ ?_<;>intro h
    ·refine ab ?_;refine gD (aB (R:=(nH .i64)) (vss:=[[iV g4.N]]) (xs:=[g4.N]) J (ru _) J J (fun _ _ hr=> .cons J All2.nil)) ?_;rintro _ _ ⟨j7,j8,j9,rfl,rfl⟩;obtain ⟨h6,h⟩:=ae h
     refine vc (aX 2 0 J J ao J J Wl Sg J J h6) fun k0 k1 k2=> ?_
     exact jN
    exact jY
   rintro _ _ ⟨g0,g1,g2,g3,h,rfl,rfl⟩;refine ab ?_;obtain ⟨k3,h⟩:=ae h;exact lY
  exact jY
 rintro _ _ ⟨e9,f0,f1,f2,h,rfl,rfl⟩;refine sZ ?_;refine gE (jd J) ?_;obtain ⟨k4,k,h⟩:=aa h;refine F6 (oR (lJ k ⟨t5 J (t5 J (t5 J au)),159, #[], #[pV B4 0],J,call159.out,fun _ _ hh=>BD hh⟩)) ?_;refine gH J h ?_ ?_<;>intro h
 ·exact eY
 exact eY
def oU (N:Nat)(a0:WV):Option (Int×Bool):=
 (bif decide (a0.Za=7) then (some true) else (some (decide (a0.Za=9)))).bind fun b2=>some (a0.N,b2)
theorem CA {N:Nat}{a0:WV}{r:Int×Bool}(h:oU N a0=some r):Okc Xa 207 [(aE a0)] ([]) (fun u post=>u=.tuple #[iV r.1,.bool r.2]/\post=[]):=by
 refine ce Tryz.func207 ?_;intro B1;refine ab ?_;refine dY [0,1,2,3,4,5,10] ?_
 refine yJ [6,7,8,9] 1 9 13 h (fun _ g2 h rest=> ?_) (fun _ g2 h rest=> ?_) fun b2 h=> ?_
 ·refine yY [6,7,8,9] ?_;exact yS rest h
 ·refine yY [6,7,8,9] ?_;exact yS rest h
 refine zX [11] ?_;exact eY
def kk (N:Nat)(a6:Int->W5->(List (Int×Unit))->Option WF)(a1:W5)(p8:Int)(a0:WF)(p13:W5)(a7:(List (Int×Unit))):Option WF:=
 aL (in64 (p8+1)) (a6 (p8+1) p13 a7)
def df (N:Nat)(a1:W5)(a0:WF):Nat->Int->W5->(List (Int×Unit))->Option WF
 |0,_,_,_=>none
 |m7+1,p8,p9,a7=>bif decide (p8<(a1.length:Int)) then ((aq a1 p8).bind fun a6=>(bif !((lk a7 a6).isSome) then ((pC N a0.m_ a6).bind fun a8=>some a8) else (some false)).bind fun b0=>bif b0 then (aL (cF (p9.length+([a6]:List Int).length)) (kk N (df N a1 a0 m7) a1 p8 a0 (p9++([a6]:List Int)) (yI a7 a6 ()))) else (kk N (df N a1 a0 m7) a1 p8 a0 p9 a7)) else (some (⟨a0.m_,p9,a7,a0.ZI⟩:WF))
def eG (a0:WF)(a1:W5):Option WF:=
 df N a1 a0 N 0 a0.Zx a0.ZJ
theorem vu {N:Nat}{a0:WF}{a1:W5}{r:WF}(h:eG N a0 a1=some r):Okc Xa 208 [pV B1 0,W A6 n6 c6] ([iI A2 n2 c2 a0.m_.Zh,iI A3 n3 c3 a0.m_.Zj,xp A6 n6 c6 a1,ah B1 249 [W A2 n2 c2,W A3 n3 c3,W A4 n4 c4,.map (some M5),iV a0.ZI],ur A4 n4 c4 a0.Zx,bB jK Dx M5 a0.ZJ]) (fun u post=> ∃A0 n0 c0 A1 n1 c1 A2 n2 c2 M3,u=.tuple #[]/\post=[ah B1 249 [W A0 n0 c0,W A1 n1 c1,W A2 n2 c2,.map (some M3),iV r.ZI],iI A0 n0 c0 r.m_.Zh,iI A1 n1 c1 r.m_.Zj,ur A2 n2 c2 r.Zx,bB jK Dx M3 r.ZJ]):=by
 refine ce Tryz.func208 ?_;refine lK (fun m s L=> ∃(p8:Int) (p9:W5) (a7:(List (Int×Unit))) (A9:Option Addr) (n9 c9:Nat),df N a1 a0 m p8 p9 a7=some r/\s=[(0,pV B1 0),(8,W A6 n6 c6),(9,iV (a1.length:Int)),(10,iV p8)]/\L=[xp A6 n6 c6 a1,iI A2 n2 c2 a0.m_.Zh,iI A3 n3 c3 a0.m_.Zj,ur A9 n9 c9 p9,bB jK Dx M5 a7,ah B1 249 [W A2 n2 c2,W A3 n3 c3,W A9 n9 c9,.map (some M5),iV a0.ZI]]) N ?_;rintro m7 _ _ ⟨p8,p9,a7,A9,n9,c9,h,rfl,rfl⟩;rw [df.eq_2] at h;refine ab ?_;refine aA ?_;refine gH J h ?_ ?_<;>intro h
 ·refine ab ?_;refine am (fun s L=> ∃p13 a8 b0 b5 b6,kk N (df N a1 a0 m7) a1 p8 a0 p13 a8=some r/\s=[(0,pV B1 0),(8,W A6 n6 c6),(9,iV (a1.length:Int)),(10,iV p8)]/\L=[xp A6 n6 c6 a1,iI A2 n2 c2 a0.m_.Zh,iI A3 n3 c3 a0.m_.Zj,ur b0 b5 b6 p13,bB jK Dx M5 a8,ah B1 249 [W A2 n2 c2,W A3 n3 c3,W b0 b5 b6,.map (some M5),iV a0.ZI]]) ?_ ?_
  ·refine ab ?_;obtain ⟨a6,b7,b9,c7,h⟩:=bz h;refine ab ?_;refine K7 (Bh (a:=a6) (z:=()) 4 J CP J J Ww (lq Wp) zero278.out) ?_;intro d0;refine ab ?_
   refine ou 7 32 25 h (fun _ d1 h=> ?_) fun d2 h=> ?_
   ·refine cR h (fun _ k=>sI k) fun d3 h=> ?_
    exact gY
   refine dv h ?_ ?_<;>intro h
   ·refine ab ?_;refine G8 (md (a:=a6) (b:=()) 5 J J J J Ww (lq Wp)) ?_;refine gD (aB (R:=(nH .i64)) (vss:=[[iV a6]]) (xs:=[a6]) J (ru _) J J (fun _ _ hr=> .cons J All2.nil)) ?_;rintro _ _ ⟨d4,d6,e0,rfl,rfl⟩;obtain ⟨c8,h⟩:=ae h
    refine vc (aX 5 0 J J ao J J Wl Sg J J c8) fun e1 e2 e3=> ?_
    exact jN
   exact jY
  rintro _ _ ⟨p13,a8,b0,b5,b6,h,rfl,rfl⟩;refine ab ?_;obtain ⟨e4,h⟩:=ae h;exact lY
 exact eY
theorem Al {N:Nat}{V:Value}{K:Nat}{a0:WF}{a1:W5}{r:WF}(h:eG N a0 a1=some r):Okc Xa 208 [pV B1 0,W A6 n6 c6] ([iI A2 n2 c2 a0.m_.Zh,iI A3 n3 c3 a0.m_.Zj,xp A6 n6 c6 a1,ah B1 249 [W A2 n2 c2,W A3 n3 c3,W A4 n4 c4,.map (some M5),iV a0.ZI],nz (nH .i64) 3 (W A4 n4 c4) a0.Zx V K,bB jK Dx M5 a0.ZJ]) (fun u post=> ∃A0 n0 c0 A1 n1 c1 A2 n2 c2 M3,u=.tuple #[]/\post=[ah B1 249 [W A0 n0 c0,W A1 n1 c1,W A2 n2 c2,.map (some M3),iV r.ZI],iI A0 n0 c0 r.m_.Zh,iI A1 n1 c1 r.m_.Zj,nz (nH .i64) 3 (W A2 n2 c2) r.Zx V K,bB jK Dx M3 r.ZJ]):=by
 refine ce Tryz.func208 ?_;refine lK (fun m s L=> ∃(p8:Int) (p9:W5) (a7:(List (Int×Unit))) (A9:Option Addr) (n9 c9:Nat),df N a1 a0 m p8 p9 a7=some r/\s=[(0,pV B1 0),(8,W A6 n6 c6),(9,iV (a1.length:Int)),(10,iV p8)]/\L=[xp A6 n6 c6 a1,iI A2 n2 c2 a0.m_.Zh,iI A3 n3 c3 a0.m_.Zj,nz (nH .i64) 3 (W A9 n9 c9) p9 V K,bB jK Dx M5 a7,ah B1 249 [W A2 n2 c2,W A3 n3 c3,W A9 n9 c9,.map (some M5),iV a0.ZI]]) N ?_;rintro m7 _ _ ⟨p8,p9,a7,A9,n9,c9,h,rfl,rfl⟩;rw [df.eq_2] at h;refine ab ?_;refine aA ?_;refine gH J h ?_ ?_<;>intro h
 ·refine ab ?_;refine am (fun s L=> ∃p13 a8 b0 b5 b6,kk N (df N a1 a0 m7) a1 p8 a0 p13 a8=some r/\s=[(0,pV B1 0),(8,W A6 n6 c6),(9,iV (a1.length:Int)),(10,iV p8)]/\L=[xp A6 n6 c6 a1,iI A2 n2 c2 a0.m_.Zh,iI A3 n3 c3 a0.m_.Zj,nz (nH .i64) 3 (W b0 b5 b6) p13 V K,bB jK Dx M5 a8,ah B1 249 [W A2 n2 c2,W A3 n3 c3,W b0 b5 b6,.map (some M5),iV a0.ZI]]) ?_ ?_
  ·refine ab ?_;obtain ⟨a6,b7,b9,c7,h⟩:=bz h;refine ab ?_;refine K7 (Bh (a:=a6) (z:=()) 4 J CP J J Ww (lq Wp) zero278.out) ?_;intro d0;refine ab ?_
   refine ou 7 32 25 h (fun _ d1 h=> ?_) fun d2 h=> ?_
   ·refine cR h (fun _ k=>sI k) fun d3 h=> ?_
    exact gY
   refine dv h ?_ ?_<;>intro h
   ·refine ab ?_;refine G8 (md (a:=a6) (b:=()) 5 J J J J Ww (lq Wp)) ?_;refine gD (aB (R:=(nH .i64)) (vss:=[[iV a6]]) (xs:=[a6]) J (ru _) J J (fun _ _ hr=> .cons J All2.nil)) ?_;rintro _ _ ⟨d4,d6,e0,rfl,rfl⟩;obtain ⟨c8,h⟩:=ae h
    refine vc (KH 5 0 J J ao J J Wl Sg J J c8) fun e1 e2 e3=> ?_
    exact jN
   exact jY
  rintro _ _ ⟨p13,a8,b0,b5,b6,h,rfl,rfl⟩;refine ab ?_;obtain ⟨e4,h⟩:=ae h;exact lY
 exact eY
def qZ (a0:WV)(a1:WF):Option WF:=
 (oU N a0).bind fun y8=>bif y8.2 then ((eG N a1 ([y8.1]:List Int)).bind fun a6=>some a6) else (some a1)
theorem Be {N:Nat}{a0:WV}{a1 r:WF}(h:qZ N a0 a1=some r):Okc Xa 206 [(aE a0),pV B1 0] ([iI A3 n3 c3 a1.m_.Zh,iI A4 n4 c4 a1.m_.Zj,ah B1 245 [pV B2 0],ah B2 249 [W A3 n3 c3,W A4 n4 c4,W A5 n5 c5,.map (some M6),iV a1.ZI],ur A5 n5 c5 a1.Zx,bB jK Dx M6 a1.ZJ]) (fun u post=> ∃A0 n0 c0 A1 n1 c1 A2 n2 c2 M3,u=.tuple #[]/\post=[ah B2 249 [W A0 n0 c0,W A1 n1 c1,W A2 n2 c2,.map (some M3),iV r.ZI],iI A0 n0 c0 r.m_.Zh,iI A1 n1 c1 r.m_.Zj,ur A2 n2 c2 r.Zx,bB jK Dx M3 r.ZJ,ah B1 245 [pV B2 0]]):=by
 refine ce Tryz.func206 ?_;intro B7
 refine cR h (fun _ k=>CA k) fun y8 h=> ?_
 refine gH J h ?_ ?_<;>intro h
 ·refine ab ?_;refine gD (aB (R:=(nH .i64)) (vss:=[[iV y8.1]]) (xs:=[y8.1]) J (ru _) J J (fun _ _ hr=> .cons J All2.nil)) ?_;rintro _ _ ⟨a6,a7,a8,rfl,rfl⟩;refine mO (bv 0 J) ?_;obtain ⟨b0,k,h⟩:=aa h;refine gD (oC (vu k)) ?_;rintro _ _ ⟨_,⟨b5,b6,b7,b9,c7,c8,c9,d0,d1,d2,rfl,rfl⟩,rfl⟩;exact eY
 exact eY
def lU (a0:WK)(a1:Int):Option WI:=
 (oG N a0 a1).bind fun y5=>bif !y5.2.2 then (some (⟨0,0,0,0,[],[]⟩:WI)) else ((aq y5.1 y5.2.1).bind fun a6=>(fS N a6).bind fun a7=>some a7)
theorem xK {N:Nat}{a0:WK}{r:WI}(h:lU N a0 a1=some r):Okc Xa 125 [.agg #[W A1 n1 c1,W A2 n2 c2],iV a1] ([iI A1 n1 c1 a0.Zh,iI A2 n2 c2 a0.Zj]) (fun u post=> ∃A0 n0 c0 A1 n1 c1,u=.agg #[iV r.Za,iV r.Zi,iV r.Ze,iV r.Zg,W A0 n0 c0,W A1 n1 c1]/\post=[bf A0 n0 c0 r.Zc,bf A1 n1 c1 r.Zb]):=by
 refine ce Tryz.func125 ?_;intro B3
 refine cl fun B4=> ?_
 refine VL h (fun _ k=>xJ k) fun y5 A6 n6 c6 h=> ?_
 refine sZ ?_;refine gH J h ?_ ?_<;>intro h
 ·refine ab ?_;obtain rfl:=bD h;exact kI (rs:=[.cell 4 94]) (vs:=[.agg #[iV 0,iV 0,iV 0,iV 0,W none 0 0,W none 0 0]]) J (.cons (dy 1 J J agg94.out) .nil) J ((ci ay 28 _).trans ((ci ay 28 _).trans (cS [1,0] 7))) ⟨_,_,_,_,_,_,J,J⟩
 refine ab ?_;obtain ⟨a7,a8,b0,a6,h⟩:=bz h;refine ab ?_;refine J6 0 J a6 (tV a7) ?_;rintro _ _ ⟨b5,b6,b7,b9,c7,c8,rfl,rfl⟩;refine gR (Bf (us:=(iS a7 b5 b6 b7 b9 c7 c8)) 0 J J agg94.out J) ?_
 refine Ix h (fun _ k=>iU k) fun c9 d0 d1 d2 d3 d4 d6 h=> ?_
 exact eN
def gQ (N:Nat):Nat->W6->W6->W5->(List (Int×Unit))->Int->Option WF
 |0,_,_,_,_,_=>none
 |m6+1,p7,p8,p9,a8,a7=>bif decide (a7<(p9.length:Int)) then ((aq p9 a7).bind fun b0=>(lU N (⟨p7,p8⟩:WK) b0).bind fun b5=>(nQ N b5).bind fun b6=>(eG N (⟨(⟨p7,p8⟩:WK),p9,a8,a7⟩:WF) b6).bind fun a6=>aL (in64 (a6.ZI+1)) ((gQ N m6) a6.m_.Zh a6.m_.Zj a6.Zx a6.ZJ (a6.ZI+1))) else (some (⟨(⟨p7,p8⟩:WK),p9,a8,a7⟩:WF))
def iF (a0:WF):Option WF:=
 gQ N N a0.m_.Zh a0.m_.Zj a0.Zx a0.ZJ a0.ZI
theorem rT {N:Nat}{a0 r:WF}(h:iF N a0=some r):Okc Xa 192 [pV B1 0] ([iI A2 n2 c2 a0.m_.Zh,iI A3 n3 c3 a0.m_.Zj,ah B1 249 [W A2 n2 c2,W A3 n3 c3,W A4 n4 c4,.map (some M5),iV a0.ZI],ur A4 n4 c4 a0.Zx,bB jK Dx M5 a0.ZJ]) (fun u post=> ∃A0 n0 c0 A1 n1 c1 A2 n2 c2 M3,u=.tuple #[]/\post=[ah B1 249 [W A0 n0 c0,W A1 n1 c1,W A2 n2 c2,.map (some M3),iV r.ZI],iI A0 n0 c0 r.m_.Zh,iI A1 n1 c1 r.m_.Zj,ur A2 n2 c2 r.Zx,bB jK Dx M3 r.ZJ]):=by
 refine ce Tryz.func192 ?_;refine lK (fun m s L=> ∃(p7:W6) (p8:W6) (p9:W5) (a8:(List (Int×Unit))) (a6:Int) (A7:Option Addr) (n7 c7:Nat) (A8:Option Addr) (n8 c8:Nat) (A9:Option Addr) (n9 c9:Nat) (a7:Nat),gQ N m p7 p8 p9 a8 a6=some r/\s=[(0,pV B1 0)]/\L=[iI A7 n7 c7 p7,iI A8 n8 c8 p8,ur A9 n9 c9 p9,bB jK Dx a7 a8,ah B1 249 [W A7 n7 c7,W A8 n8 c8,W A9 n9 c9,.map (some a7),iV a6]]) N ?_;intro m6
 refine fun s L=>aQ fun p7=>aQ fun p8=>aQ fun p9=>aQ fun a8=>aQ fun a6=>aQ fun A7=>aQ fun n7=>aQ fun c7=>aQ fun A8=>aQ fun n8=>aQ fun c8=>aQ fun A9=>aQ fun n9=>aQ fun c9=>aQ fun a7=>K9 fun h=> ?_
 rw [gQ.eq_2] at h;refine aA ?_;refine dY [] ?_;refine dv h ?_ ?_<;>intro h
 ·refine sY ?_;obtain ⟨b0,b5,b6,b7,h⟩:=bz h;refine gw (t:=[(0,pV B1 0)]) ?_ mh (ad _)
  refine iW O 15 [0] [0,4,14] [19,20,21,22,23,24,25,26,27,28,29,30,31,32,33] [[],[],[1],[2],[3],[],[5],[6],[7],[],[9],[10],[11],[8,12],[13]] [aV (pV B1 0),
 aV (pV B1 0),
 aV (pV B1 0),
 aV (pV B1 0),
 aV (.agg #[W A7 n7 c7,W A8 n8 c8]),
 aV (pV B1 0),
 aV (pV B1 0),
 aV (pV B1 2),
 aV (W A9 n9 c9),
 aV (pV B1 0),
 aV (pV B1 0),
 aV (pV B1 4),
 aV (iV a6),
 aV (dF (W A9 n9 c9) a6.toNat 1 0),
 aV (iV b0)] [] (ad _) (fA rfl mc) O rfl rfl ?_ ?_ ?_
  ·refine fz J ?_ ?_
   ·exact nD (ap J) J (iL J (ad _))
   exact mb
  ·refine aF J ?_ ?_
   ·exact yE (mq (u:=iV b0) 2 J ao J b7 va (fun _ _ _ h=>by rw [show _=_ from h];rfl)) J (iL J (ad _))
   refine qR (cM 2 J ao J J Wl size3.out b5 b6) ?_;refine qR (ck 4 J J va J) ?_;refine qE (kH J JG) ?_;refine qE (dE J) ?_;refine qE (ap J) ?_;refine qR (ck 4 J J KK J) ?_;refine qE (kH J FG) ?_;refine qE (dE J) ?_;refine qE (ap J) ?_;refine qR (ax (us:=[W A7 n7 c7,W A8 n8 c8]) 4 J J agg121.out J) ?_;refine qE (qx J JH) ?_;refine qE (dE J) ?_;refine qE (ap J) ?_;refine qE (ap J) ?_;exact dH
  refine oe (t:=[(19,pV B1 0),(23,.agg #[W A7 n7 c7,W A8 n8 c8]),(33,iV b0),(0,pV B1 0)]) (L':=[iI A7 n7 c7 p7,iI A8 n8 c8 p8,ur A9 n9 c9 p9,bB jK Dx a7 a8,ah B1 249 [W A7 n7 c7,W A8 n8 c8,W A9 n9 c9,.map (some a7),iV a6]]) ?_ mh (ad _);obtain ⟨b9,k,h⟩:=aa h;refine uk 15 J O (oR (xK k)) J J J ?_;rintro _ _ ⟨_,⟨d0,d1,d2,d3,d4,d6,rfl,rfl⟩,rfl⟩;obtain ⟨e0,k,h⟩:=aa h;refine uk 16 J O (oR (vi k)) J J J ?_;rintro _ _ ⟨_,⟨e1,e2,e3,rfl,rfl⟩,rfl⟩;refine oe ?_ bQ (bv 0 J);obtain ⟨e4,k,h⟩:=aa h;refine uk 17 J O (oC (vu k)) J J J ?_;rintro _ _ ⟨_,⟨e5,e6,e7,e8,e9,f0,f1,f2,f3,f4,rfl,rfl⟩,rfl⟩;refine mg O ?_;refine ab ?_;obtain ⟨f6,h⟩:=ae h;exact lY
 exact eY
end
end Go.Proofs.YtmcifcmlojonnaaGreatDoor