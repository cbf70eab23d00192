/- Merged texts: part 6. No conditions of their own. -/
import Derived.Test.YtmcifcmlojonnaaGreatDoorG5
set_option maxHeartbeats 4000000
namespace Go.Proofs.YtmcifcmlojonnaaGreatDoor
variable (N:Nat){a1 a3:Int}{a0:WH}{a2:WP}{a4:WU}
section
theorem Wv:type_of% Tryz.underlying247:=Tryz.underlying247
variable {A1 A2 A3 A4 A5 A6:Option Addr}{B1 B2 B3 B6 M3 M7 c1 c2 c3 c4 c5 c6 n1 n2 n3 n4 n5 n6:Nat}
open Go.RowKit Asn
set_option maxRecDepth 20000
def gX (a0:WG)(a1:Int)(a2:WP)(a3:Int):Option (Int×Int×WG):=
 (fK N a0 a1 a2 a3).bind fun y5=>bif !decide (y5=0) then (some (0,y5,a0)) else ((dw N a0 a1 a2).bind fun y7=>bif !y7.2.2 then (some (0,3,a0)) else ((fq N a0 a1).bind fun y9=>aG ((0:Int)<=y7.1/\y7.1.toNat<y9.length) ((au (List.drop y7.1.toNat y9) 0).bind fun a6=>(gT N a0 a1 y7.1).bind fun a8=>(jU N a0 a8 (List.set (List.drop y7.1.toNat y9) ((0:Int).toNat) (⟨a6.Up,(⟨a6.Zg.Za,a6.Zg.N,a6.Zg.S⟩:WP),a3,a6.ZC⟩:WQ))).bind fun a7=>some (a7.1,a7.2.1,a7.2.2))))
theorem xn {N:Nat}{a0:WG}{r:Int×Int×WG}(h:gX N a0 a1 a2 a3=some r):Okc W8 151 [pV B1 0,iV a1,(eW a2),iV a3] ([ah B1 170 [W A2 n2 c2,.map (some M3)],bc bC 166 (W A2 n2 c2) a0.Zp,bE eC we M3 a0.ZD]) (fun u post=> ∃A0 n0 c0 M1,u=.tuple #[iV r.1,iV r.2.1]/\post=[ah B1 170 [W A0 n0 c0,.map (some M1)],bc bC 166 (W A0 n0 c0) r.2.2.Zp,bE eC we M1 r.2.2.ZD]):=by
 refine ce Tryz.func151 ?_;intro B4;refine sY ?_
 refine cR h (fun _ k=>nb k) fun y5 h=> ?_
 refine gH J h ?_ ?_<;>intro h
 ·exact eY
 refine cR h (fun _ k=>kH k) fun y7 h=> ?_
 refine sZ ?_;refine gH J h ?_ ?_<;>intro h
 ·exact eY
 refine MG h (fun _ k=>lF k) fun y9 b6 b7 b9 h=> ?_
 obtain ⟨b5,h⟩:=ae h
 refine vo (SS (l:=y7.1.toNat) 0 J J Wl size166.out J (by rw [Xn b5.1];rfl) b5.2) fun c7 c8 c9=> ?_
 obtain ⟨a8,a6,a7,b0,h⟩:=bz h;refine gR (cT 0 J Mx J J Wl size166.out a6 a7)<|gR (uJ 0 J Mx J (toNat_lt a6 a7) Co)<|Hr (Nx (us:=[iV a3]) (z:=(⟨a8.Up,(⟨a8.Zg.Za,a8.Zg.N,a8.Zg.S⟩:WP),a3,a8.ZC⟩:WQ)) 0 J J J J size3.out J (toNat_lt a6 a7) J (fun S w vs xk hk hr=>by obtain rfl:=YL (hk.symm.trans b0);rw [show _=_ from hr];rfl)) ?_
 refine cR h (fun _ k=>qH k) fun d0 h=> ?_
 refine mX (RZ 0 J)<|ab ?_;obtain ⟨d1,k,h⟩:=aa h;refine gD (oC (pf k)) ?_;rintro _ _ ⟨_,⟨d2,d3,d4,d6,rfl,rfl⟩,rfl⟩;exact eY
theorem vE {N:Nat}{a0:WG}{r:Int×Int×WG}(h:gX N a0 a1 a2 a3=some r):Okc W8 151 [pV B1 0,iV a1,(eW a2),iV a3] ([oDTable B1 a0]) (fun u post=>u=.tuple #[iV r.1,iV r.2.1]/\post=[oDTable B1 r.2.2]):=LW 0 rfl (fun _=>xn h)
def nk (y9:WJ×Int×Bool)(a0:WD)(a6:Int×Int×WG)(a1:WJ)(a7:WW)(a8:WH):Option (Bool×WD):=
 (bK N (⟨(⟨a0.Zn.Za,a6.1,a0.Zn.Ze,a0.Zn.Zf,a7,a0.Zn.Zb⟩:WI),a8,a0.at_⟩:WD) true).bind fun b0=>some (true,b0)
def ib (y9:WJ×Int×Bool)(a1:WJ)(a0:WD)(a7:Int)(a8:WH):Option (Bool×WD):=
 aG (in64 (y9.2.1+1)) (aG (in64 (y9.2.1+1)) ((au a0.Zn.Zc (y9.2.1+1)).bind fun b0=>(iC N (⟨(⟨a0.Zn.Za,a7,a0.Zn.Ze,a0.Zn.Zf,a0.Zn.Zc,a0.Zn.Zb⟩:WI),a8,a0.at_⟩:WD) a1 b0).bind fun a6=>(au a0.Zn.Zc (y9.2.1+1)).bind fun b6=>(bK N (⟨(⟨a0.Zn.Za,a7,a0.Zn.Ze,a0.Zn.Zf,List.set a0.Zn.Zc ((y9.2.1+1).toNat) (⟨a6.1.Za,a6.1.N,a6.1.S⟩:WK),a0.Zn.Zb⟩:WI),a6.2,a0.at_⟩:WD) (!decide (y9.1.Zd=a1.Zd))).bind fun b5=>some (true,b5)))
def gu (a0:WD)(a1:WJ):Option (Bool×WD):=
 (cV N a0.w_).bind fun y8=>(cc N a0 a1.Zg).bind fun y9=>bif !y9.2.2 then ((fu N a0.w_.Zp a0.Zn.Zi).bind fun b0=>bif decide (1024<=b0) then (some (false,a0)) else ((jl N a0.w_.Zp a0.Zn.Zi a1.Zg a1.Zd).bind fun a6=>bif !decide (a6.2.1=0) then (some (false,(⟨a0.Zn,(⟨a0.w_.ZB,a0.w_.Zu,(),a0.w_.Zo,a6.2.2,a0.w_.Zy,a0.w_.ZE,a0.w_.ZF,a0.w_.ZG,a0.w_.Zz,a0.w_.ZA⟩:WH),a0.at_⟩:WD))) else ((iC N (⟨(⟨a0.Zn.Za,a6.1,a0.Zn.Ze,a0.Zn.Zf,a0.Zn.Zc,a0.Zn.Zb⟩:WI),(⟨a0.w_.ZB,a0.w_.Zu,(),a0.w_.Zo,a6.2.2,a0.w_.Zy,a0.w_.ZE,a0.w_.ZF,a0.w_.ZG,a0.w_.Zz,a0.w_.ZA⟩:WH),a0.at_⟩:WD) a1 (⟨0,0,⟨#[]⟩⟩:WK)).bind fun a8=>aG (bu (a0.Zn.Zc.length+([a8.1]:List WK).length)) (nk N y9 a0 a6 a1 (a0.Zn.Zc++([a8.1]:List WK)) a8.2)))) else (bif !decide (y9.1.Zd=a1.Zd) then ((gX N a0.w_.Zp a0.Zn.Zi a1.Zg a1.Zd).bind fun a7=>bif !decide (a7.2.1=0) then (some (false,(⟨a0.Zn,(⟨a0.w_.ZB,a0.w_.Zu,(),a0.w_.Zo,a7.2.2,a0.w_.Zy,a0.w_.ZE,a0.w_.ZF,a0.w_.ZG,a0.w_.Zz,a0.w_.ZA⟩:WH),a0.at_⟩:WD))) else (ib N y9 a1 a0 a7.1 (⟨a0.w_.ZB,a0.w_.Zu,(),a0.w_.Zo,a7.2.2,a0.w_.Zy,a0.w_.ZE,a0.w_.ZF,a0.w_.ZG,a0.w_.Zz,a0.w_.ZA⟩:WH))) else (ib N y9 a1 a0 a0.Zn.Zi a0.w_))
theorem sD {N:Nat}{a0:WD}{a1:WJ}{r:Bool×WD}(h:gu N a0 a1=some r){B4 B5 B6:Nat}:Okc W8 105 [pV B1 0,(cG a1)] ([ah B1 135 [iV a0.Zn.Za,iV a0.Zn.Zi,iV a0.Zn.Ze,iV a0.Zn.Zf,W A2 n2 c2,W A3 n3 c3,pV B4 0,iV a0.at_.Za,iV a0.at_.N,.string a0.at_.S],bf A2 n2 c2 a0.Zn.Zc,bf A3 n3 c3 a0.Zn.Zb,oDWorld B4 B5 B6 a0.w_]) (fun u post=> ∃A0 n0 c0 A1 n1 c1,u=.bool r.1/\post=[ah B1 135 [iV r.2.Zn.Za,iV r.2.Zn.Zi,iV r.2.Zn.Ze,iV r.2.Zn.Zf,W A0 n0 c0,W A1 n1 c1,pV B4 0,iV r.2.at_.Za,iV r.2.at_.N,.string r.2.at_.S],bf A0 n0 c0 r.2.Zn.Zc,bf A1 n1 c1 r.2.Zn.Zb,oDWorld B4 B5 B6 r.2.w_]):=by
 refine ce Tryz.func105 ?_;intro B7
 refine cR h (fun _ k=>eS k) fun y8 h=> ?_
 refine cR h (fun _ k=>kJ k) fun y9 h=> ?_
 intro b7;refine sY ?_;refine gH J h ?_ ?_<;>intro h
 ·refine sZ ?_
  refine cR h (fun _ k=>xG k) fun e8 h=> ?_
  refine gH J h ?_ ?_<;>intro h
  ·exact eY
  refine ab ?_;refine aA<|ba O ([ah b7 50 (cm y9.1),ah B7 50 (cm a1),ah B1 135 [iV a0.Zn.Za,iV a0.Zn.Zi,iV a0.Zn.Ze,iV a0.Zn.Zf,W A2 n2 c2,W A3 n3 c3,pV B4 0,iV a0.at_.Za,iV a0.at_.N,.string a0.at_.S],bf A2 n2 c2 a0.Zn.Zc,bf A3 n3 c3 a0.Zn.Zb]) (cS [0,1,2,3,4] 6) ?_;refine ab ?_;refine kC ((cS [5,0,1,2,3,4] 6).trans AC) (cS [2,3,4,5,6] 7) ?_;refine bv ?_;obtain ⟨b9,k,h⟩:=aa h;refine zD 10 J (oC (xj k)) ?_;rintro _ _ ⟨_,⟨rfl,rfl⟩,rfl⟩;refine ca ?_;refine bv ?_;refine kC (AP) (cS [1,2,3,4,5] 6) ?_;refine bv ?_;refine sY ?_;refine gH J h ?_ ?_<;>intro h
  ·exact eY
  refine ab ?_;refine ao (fun s L=> ∃c9 d0 d1 d2 d3,nk N y9 a0 b9 a1 c9 d0=some r/\s=[(0,pV B1 0),(3,pV B7 0),(4,.bool false),(5,pV B6 0),(6,pV b7 0),(7,iV y9.2.1)]/\L=[bf d1 d2 d3 c9,bf A3 n3 c3 a0.Zn.Zb,ah B1 135 [iV a0.Zn.Za,iV b9.1,iV a0.Zn.Ze,iV a0.Zn.Zf,W d1 d2 d3,W A3 n3 c3,pV B4 0,iV a0.at_.Za,iV a0.at_.N,.string a0.at_.S],ah B7 50 (cm a1),ah b7 50 (cm y9.1),oDWorld B4 B5 B6 d0]) ?_ ?_
  ·refine ba O ([ah b7 50 (cm y9.1),ah B7 50 (cm a1),bf A3 n3 c3 a0.Zn.Zb]) (cS [1,2,5] 6) ?_;refine zY [0,1,2,3,4,6,7] ?_;refine zE 8 J (nv J bld_28_.out) ?_;refine pm 5 9 O ?_ ?_
   ·refine bX J (uR (bM 3 J J sC J)) J J J ?_;rintro _ _ ⟨rfl,rfl⟩;refine ca ?_;obtain ⟨a6,b5,h⟩:=aa h;refine zD 9 J (oC (nj b5)) ?_;rintro _ _ ⟨_,⟨rfl,rfl⟩,rfl⟩;refine ca ?_;refine bv ?_
    refine Du 10 J (aB (R:=ax) (vss:=[[iV a6.1.Za,iV a6.1.N,.string a6.1.S]]) (xs:=[a6.1]) J (jr _ _ _) J J (fun _ _ hr=> .cons J All2.nil)) fun e2 e3 e4=> ?_
    obtain ⟨c7,h⟩:=ae h
    refine Du 11 J (aR 3 0 J J ap J J t9 r9 J J c7) fun a7 a8 b0=> ?_
    refine zY [12,13,14] ?_;refine zO 15 J (am (us:=[W a7 a8 b0]) (cs':=[iV a0.Zn.Za,iV b9.1,iV a0.Zn.Ze,iV a0.Zn.Zf,W a7 a8 b0,W A3 n3 c3,pV B4 0,iV a0.at_.Za,iV a0.at_.N,.string a0.at_.S]) 2 J J J J size22.out J J J) ?_;rintro _ _ rfl;refine ca ?_;refine bv ?_;exact bn O<|jY
   obtain ⟨a6,b5,h⟩:=aa h;refine bX J (oC (nj b5)) J J J ?_;rintro _ _ ⟨_,⟨rfl,rfl⟩,rfl⟩;refine ca ?_;refine bv ?_;refine pm 5 10 O ?_ ?_
   ·refine bX J (uR (bM 1 J J sC J)) J J J ?_;rintro _ _ ⟨rfl,rfl⟩;refine ca ?_
    refine Du 10 J (aB (R:=ax) (vss:=[[iV a6.1.Za,iV a6.1.N,.string a6.1.S]]) (xs:=[a6.1]) J (jr _ _ _) J J (fun _ _ hr=> .cons J All2.nil)) fun e2 e3 e4=> ?_
    obtain ⟨c7,h⟩:=ae h
    refine Du 11 J (aR 3 0 J J ap J J t9 r9 J J c7) fun a7 a8 b0=> ?_
    refine zY [12,13,14] ?_;refine zO 15 J (am (us:=[W a7 a8 b0]) (cs':=[iV a0.Zn.Za,iV b9.1,iV a0.Zn.Ze,iV a0.Zn.Zf,W a7 a8 b0,W A3 n3 c3,pV B4 0,iV a0.at_.Za,iV a0.at_.N,.string a0.at_.S]) 2 J J J J size22.out J J J) ?_;rintro _ _ rfl;refine ca ?_;refine bv ?_;exact bn O<|jY
   refine bX J (aB (R:=ax) (vss:=[[iV a6.1.Za,iV a6.1.N,.string a6.1.S]]) (xs:=[a6.1]) J (jr _ _ _) J J (fun _ _ hr=> .cons J All2.nil)) J J J ?_;rintro _ _ ⟨e2,e3,e4,rfl,rfl⟩;refine ca ?_;refine zD 5 J (uR (bM 2 J J sC J)) ?_;rintro _ _ ⟨rfl,rfl⟩;refine ca ?_;obtain ⟨c7,h⟩:=ae h
   refine Du 11 J (aR 3 0 J J ap J J t9 r9 J J c7) fun a7 a8 b0=> ?_
   refine zY [12,13,14] ?_;refine zO 15 J (am (us:=[W a7 a8 b0]) (cs':=[iV a0.Zn.Za,iV b9.1,iV a0.Zn.Ze,iV a0.Zn.Zf,W a7 a8 b0,W A3 n3 c3,pV B4 0,iV a0.at_.Za,iV a0.at_.N,.string a0.at_.S]) 2 J J J J size22.out J J J) ?_;rintro _ _ rfl;refine ca ?_;refine bv ?_;exact bn O<|jY
  rintro _ _ ⟨c9,d0,d1,d2,d3,h,rfl,rfl⟩
  refine TU h (fun _ k=>jA k) fun e9 f0 f1 f2 f3 f4 f6 h=> ?_
  exact eN
 refine ab ?_;refine ao (fun s L=> ∃c8 d4,ib N y9 a1 a0 c8 d4=some r/\s=[(0,pV B1 0),(3,pV B7 0),(4,.bool false),(7,iV y9.2.1),(11,.bool (!decide (y9.1.Zd=a1.Zd)))]/\L=[bf A2 n2 c2 a0.Zn.Zc,bf A3 n3 c3 a0.Zn.Zb,ah B1 135 [iV a0.Zn.Za,iV c8,iV a0.Zn.Ze,iV a0.Zn.Zf,W A2 n2 c2,W A3 n3 c3,pV B4 0,iV a0.at_.Za,iV a0.at_.N,.string a0.at_.S],ah B7 50 (cm a1),oDWorld B4 B5 B6 d4]) ?_ ?_
 ·refine dr h ?_ ?_<;>intro h
  ·refine aA<|ba O ([ah b7 50 (cm y9.1),ah B7 50 (cm a1),ah B1 135 [iV a0.Zn.Za,iV a0.Zn.Zi,iV a0.Zn.Ze,iV a0.Zn.Zf,W A2 n2 c2,W A3 n3 c3,pV B4 0,iV a0.at_.Za,iV a0.at_.N,.string a0.at_.S],bf A2 n2 c2 a0.Zn.Zc,bf A3 n3 c3 a0.Zn.Zb]) (cS [0,1,2,3,4] 6) ?_;refine ab ?_;refine kC ((cS [5,0,1,2,3,4] 6).trans AC) (cS [2,3,4,5,6] 7) ?_;refine bv ?_;obtain ⟨f9,k,h⟩:=aa h;refine zD 10 J (oC (vE k)) ?_;rintro _ _ ⟨_,⟨rfl,rfl⟩,rfl⟩;refine ca ?_;refine bv ?_;refine kC (AP) (cS [1,2,3,4,5] 6) ?_;refine bv ?_;refine sY ?_;refine gH J h ?_ ?_<;>intro h
   ·exact eY
   exact jY
  exact jY
 rintro _ _ ⟨c8,d4,h,rfl,rfl⟩;refine aA<|ba O ([bf A2 n2 c2 a0.Zn.Zc,bf A3 n3 c3 a0.Zn.Zb,ah B1 135 [iV a0.Zn.Za,iV c8,iV a0.Zn.Ze,iV a0.Zn.Zf,W A2 n2 c2,W A3 n3 c3,pV B4 0,iV a0.at_.Za,iV a0.at_.N,.string a0.at_.S],ah B7 50 (cm a1)]) (cS [0,1,2,3] 5) ?_;refine ab ?_;obtain ⟨g0,h⟩:=ae h;refine ab ?_;obtain ⟨g1,h⟩:=ae h;refine ab ?_;obtain ⟨g2,e5,e6,e7,h⟩:=bz h;refine ab ?_;obtain ⟨b6,k,h⟩:=aa h;refine zD 18 J (oC (nj k)) ?_;rintro _ _ ⟨_,⟨rfl,rfl⟩,rfl⟩;refine ca ?_;refine bv ?_;obtain ⟨g3,d6,e0,e1,h⟩:=bz h;refine ab ?_;refine gN 20 J O O (cg (us:=[iV b6.1.Za,iV b6.1.N,.string b6.1.S]) (z:=(⟨b6.1.Za,b6.1.N,b6.1.S⟩:WK)) 2 J J J J size28.out J (toNat_lt d6 e0) J (fun S w vs xk hk hr ho=>by obtain rfl:=YL (hk.symm.trans e1);rw [show _=_ from hr];rfl)) ?_;rintro _ _ rfl;refine bv ?_
 refine TU h (fun _ k=>jA k) fun g4 g5 g6 g7 g8 g9 h0 h=> ?_
 exact eN
def sT (a0:WH)(a1:WK)(a2:WP)(a3:WK)(a4:Int):Option (Bool×WH):=
 (gL N a0 a1).bind fun y7=>Ef y7 (fun y7_0=>some (false,a0)) (fun y7_1=>(aZ N a2).bind fun a7=>(bif !a7 then (some true) else (some (decide (a4<0)))).bind fun a8=>(bif a8 then (some true) else (some (decide (7<a4)))).bind fun b16=>bif b16 then (some (false,a0)) else ((gu N (⟨y7_1.Zn,a0,y7_1.at_⟩:WD) (⟨a2,a4,a3,(⟨0,0,⟨#[]⟩⟩:WK),(⟨0,0,⟨#[]⟩⟩:WK)⟩:WJ)).bind fun a6=>some (a6.1,a6.2.w_)))
theorem GE {N:Nat}{a1 a3:WK}{a4:Int}{r:Bool×WH}(h:sT N a0 a1 a2 a3 a4=some r){B1 B2 B3:Nat}:Okc W8 146 [pV B1 0,(aE a1),(eW a2),(aE a3),iV a4] ([oDWorld B1 B2 B3 a0]) (fun u post=>u=.bool r.1/\post=[oDWorld B1 B2 B3 r.2]):=by
 refine ce Tryz.func146 ?_;intro B4
 refine cn fun B5=> ?_
 intro B6;refine ab ?_;obtain ⟨y7,a6,h⟩:=aa h;rcases y7 with y7_0|y7_1
 ·replace h:=GS h;refine gD (oR (db a6)) ?_;rintro _ _ ⟨_,⟨rfl,rfl⟩,rfl⟩;refine sY ?_;exact jx J<|eY
 replace h:=GR h;refine gD (oR (db a6)) ?_;rintro _ _ ⟨_,⟨B8,A9,n9,c9,a7,a8,b0,rfl,rfl⟩,rfl⟩;refine sY ?_
 refine cR h (fun _ k=>nM k) fun b5 h=> ?_
 refine gS 3 29 26 h ?_;intro b6 h;refine ab ?_;refine gS 3 33 30 h ?_;intro b16 h;refine dr h ?_ ?_<;>intro h
 ·exact eY
 refine TU h (fun _ k=>sD k) fun b7 b9 c7 c8 d0 d1 d2 h=> ?_
 exact eN
def yC (N:Nat)(a0:WK)(a1:Int):Option WU:=
 some (⟨51,ai .i64 a1 7,a0,(⟨0,0,⟨#[]⟩⟩:WK),(⟨0,0,⟨#[]⟩⟩:WK)⟩:WU)
theorem IF {N:Nat}{a0:WK}{r:WU}(h:yC N a0 a1=some r):Okc W8 185 [(aE a0),iV a1] ([]) (fun u post=>u=(fW r)/\post=[]):=by
 refine ce Tryz.func185 ?_;intro B1
 refine cn fun B2=> ?_
 refine ga (aI J J) ?_;exact eN
def zp (a0:WJ):Option WU:=
 bif !decide (ai .i64 a0.Zd 8=0) then (some (⟨60,ai .i64 a0.Zd 6,(⟨0,0,⟨#[]⟩⟩:WK),a0.Zq,a0.Zr⟩:WU)) else ((yC N a0.Value a0.Zd).bind fun y4=>some y4)
theorem Lh {N:Nat}{a0:WJ}{r:WU}(h:zp N a0=some r):Okc W8 147 [(cG a0)] ([]) (fun u post=>u=(fW r)/\post=[]):=by
 refine ce Tryz.func147 ?_;intro B1
 refine cn fun B2=> ?_
 refine sZ ?_;refine ga (aI J J) ?_;refine gH J h ?_ ?_<;>intro h
 ·refine ab ?_;refine ga (aI J J) ?_;exact eN
 refine cR h (fun _ k=>IF k) fun y4 h=> ?_
 exact eN
def jP (a0:WH)(a1:WK)(a2:WP)(a3:WU):Option (Bool×WH):=
 (gL N a0 a1).bind fun y7=>Ef y7 (fun y7_0=>some (false,a0)) (fun y7_1=>(aZ N a2).bind fun b0=>bif !b0 then (some (false,a0)) else ((cc N (⟨y7_1.Zn,a0,y7_1.at_⟩:WD) a2).bind fun a6=>(dq N a6.1 a6.2.2 (!decide (ai .i64 y7_1.Zn.Ze 1=0)) a2 a3).bind fun a7=>bif a7.2 then ((gu N (⟨y7_1.Zn,a0,y7_1.at_⟩:WD) a7.1).bind fun a8=>some (a8.1,a8.2.w_)) else (some (false,a0))))
theorem vO {N:Nat}{a1:WK}{a3:WU}{r:Bool×WH}(h:jP N a0 a1 a2 a3=some r){B1 B2 B3:Nat}:Okc W8 60 [pV B1 0,(aE a1),(eW a2),(fW a3)] ([oDWorld B1 B2 B3 a0]) (fun u post=>u=.bool r.1/\post=[oDWorld B1 B2 B3 r.2]):=by
 refine ce Tryz.func60 ?_;intro B4
 refine cn fun B5=> ?_
 intro B6;refine ab ?_;obtain ⟨y7,b7,h⟩:=aa h;rcases y7 with y7_0|y7_1
 ·replace h:=GS h;refine gD (oR (db b7)) ?_;rintro _ _ ⟨_,⟨rfl,rfl⟩,rfl⟩;refine sY ?_;exact jx J<|eY
 replace h:=GR h;refine gD (oR (db b7)) ?_;rintro _ _ ⟨_,⟨B8,A9,n9,c9,b9,c7,c8,rfl,rfl⟩,rfl⟩;refine sY ?_
 refine cR h (fun _ k=>nM k) fun d1 h=> ?_
 refine gH J h ?_ ?_<;>intro h
 ·exact eY
 refine cR h (fun _ k=>kJ k) fun a7 h=> ?_
 intro b5;refine ab ?_;refine aA ?_;obtain ⟨a6,b6,h⟩:=aa h;refine gI (t:=[(6,pV B5 0),(7,pV B6 0),(8,.bool false),(9,pV B8 0),(10,.bool true),(11,pV b5 0),(13,.bool a7.2.2)]) ?_ mc (ad _)
 refine iQ O 16 [14] [13,14,15] [36,37,38,39,40,41,42,43,44,45,46,47,35,48,49,14] [[],[],[],[2],[3],[4],[5],[6],[7],[],[],[0,1,8,9,10],[11],[12],[12],[]] [aV ((cG a7.1)),
aV (.bool a7.2.2),
aV (pV B8 0),
aV (pV B8 0),
aV (pV B8 0),
aV (pV B8 2),
aV (iV y7_1.Zn.Ze),
aV (iV (ai .i64 y7_1.Zn.Ze 1)),
aV (.bool (!decide (ai .i64 y7_1.Zn.Ze 1=0))),
aV ((eW a2)),
aV ((fW a3)),
aV (.tuple #[(cG a6.1),.bool a6.2]),
aV (.tuple #[(cG a6.1),.bool a6.2]),
aV ((cG a6.1)),
aV (.bool a6.2),
aX1 (fun (a8:Nat)=>pV a8 0) (fun a8=> [ah a8 50 [iV 0,iV 0,.string (⟨#[]⟩),iV 0,iV 0,iV 0,.string (⟨#[]⟩),iV 0,iV 0,.string (⟨#[]⟩),iV 0,iV 0,.string (⟨#[]⟩)]])] [] (ad _) (fB rfl lV) O rfl rfl ?_ ?_ ?_
 ·exact fA J (nz (dW J J) J (iH J (ad _)))<|lU
 ·refine aF J ?_ ?_
  ·refine tl (bJ zero50.out J) J ?_;rintro _ _ ⟨d0,rfl,rfl⟩;exact N4 d0 (ad _)
  refine qE (dW J J) ?_;refine qE (dW J J) ?_;refine qE (aq J) ?_;refine aF J ?_ ?_
  ·refine tl (oR (vq b6)) J ?_;rintro _ _ ⟨_,⟨rfl,rfl⟩,rfl⟩;exact iH J (ad _)
  refine qR (aC (us:=iy a3) 4 J J agg41.out J) ?_;refine qR (aC (us:=ls a2) 5 J J agg39.out J) ?_;refine qE (Sv J J) ?_;refine qE (aI J J) ?_;refine qR (bM 1 J J rR J) ?_;refine qE (jD J Ml) ?_;refine qE (nu J JQ) ?_;refine qE (dC J) ?_;refine qE (aq J) ?_;refine qE (aq J) ?_;refine qR (aC (us:=cm a7.1) 0 J J agg50.out J) ?_;exact dI
 intro a8;refine oa (t:=[(48,(cG a6.1)),(49,.bool a6.2),(14,pV a8 0),(6,pV B5 0),(7,pV B6 0),(8,.bool false),(9,pV B8 0),(10,.bool true),(11,pV b5 0),(13,.bool a7.2.2)]) (L':=[ah a8 50 [iV 0,iV 0,.string (⟨#[]⟩),iV 0,iV 0,iV 0,.string (⟨#[]⟩),iV 0,iV 0,.string (⟨#[]⟩),iV 0,iV 0,.string (⟨#[]⟩)],ah b5 50 (cm a7.1),ah B8 135 [iV y7_1.Zn.Za,iV y7_1.Zn.Zi,iV y7_1.Zn.Ze,iV y7_1.Zn.Zf,W A9 n9 c9,W b9 c7 c8,pV B1 0,iV y7_1.at_.Za,iV y7_1.at_.N,.string y7_1.at_.S],bf A9 n9 c9 y7_1.Zn.Zc,bf b9 c7 c8 y7_1.Zn.Zb,ah B6 41 (iy a3),ah B5 39 (ls a2),ah B4 28 (bS a1),oDWorld B1 B2 B3 a0]) ?_ mc (ad _);refine pL 16 J O (am (us:=cm a6.1) (cs':=cm a6.1) 0 J J J J size50.out J J J) J J ?_;rintro _ _ rfl;refine CF 17 J O (ci J) J J J<|mb O<|ab ?_;refine fX 51 J (fun b0=> ?_) (fun b0=> ?_)
 ·replace h:=cN b0 h;refine ab ?_;obtain ⟨d2,k,h⟩:=aa h;refine CH (oC (sD k)) J (bW b0 J) J ?_;rintro _ _ ⟨_,⟨d3,d4,d6,e0,e1,e2,rfl,rfl⟩,rfl⟩;exact eY
 replace h:=cO b0 h;exact eY
def vc (a0:WH)(a1:WK)(a2:WJ):Option WH:=
 (sT N a0 a1 a2.Zg (⟨0,0,⟨#[]⟩⟩:WK) 7).bind fun y6=>(zp N a2).bind fun y7=>(jP N y6.2 a1 a2.Zg y7).bind fun y9=>some y9.2
theorem IN {N:Nat}{a1:WK}{a2:WJ}{r:WH}(h:vc N a0 a1 a2=some r){B1 B2 B3:Nat}:Okc W8 104 [pV B1 0,(aE a1),(cG a2)] ([oDWorld B1 B2 B3 a0]) (fun u post=>u=.tuple #[]/\post=[oDWorld B1 B2 B3 r]):=by
 refine ce Tryz.func104 ?_;intro B4
 refine cn fun B5=> ?_
 refine cC h (fun _ k=>GE k) fun y6 h=> ?_
 refine cR h (fun _ k=>Lh k) fun y7 h=> ?_
 intro B8
 refine cC h (fun _ k=>vO k) fun y9 h=> ?_
 exact eN
def ju (a8:WJ×Bool)(a0:WH)(a1:WK)(a2:WI)(a3:WP)(a6:WJ×Bool)(b0:WW):Option (Bool×Bool×WH):=
 (ay N a0 a1 (⟨a2.Za,a2.Zi,a2.Ze,a2.Zf,a2.Zc,b0⟩:WI)).bind fun a7=>bif decide (a6.1.Zd=7) then ((th N a7 a1 a3 a8.2).bind fun b5=>some (true,false,b5)) else ((vc N a7 a1 a6.1).bind fun b6=>some (true,false,b6))
def jv (a8:WJ×Bool)(a0:WH)(a1:WK)(a2:WI)(a3:WP)(a6:WJ×Bool)(a7:WW):Option (Bool×Bool×WH):=
 (au a7 a3.N).bind fun b0=>bif decide (a6.1.Zd=7) then ((au (List.set a7 a3.N.toNat (⟨8,0,(⟨#[]⟩:ByteArray)⟩:WK)) a3.N).bind fun b5=>ju N a8 a0 a1 a2 a3 a6 (List.set (List.set a7 a3.N.toNat (⟨8,0,(⟨#[]⟩:ByteArray)⟩:WK)) a3.N.toNat (⟨a6.1.Value.Za,a6.1.Value.N,a6.1.Value.S⟩:WK))) else (ju N a8 a0 a1 a2 a3 a6 (List.set a7 a3.N.toNat (⟨8,0,(⟨#[]⟩:ByteArray)⟩:WK)))
def jt (N:Nat)(a7:WJ×Bool)(a0:WH)(a1:WK)(a2:WI)(a3:WP)(a8:WJ×Bool):Nat->WW->Option (Bool×Bool×WH)
 |0,_=>none
 |b0+1,a6=>bif decide ((a6.length:Int)<=a3.N) then (aG (bu (a6.length+([(⟨8,0,(⟨#[]⟩:ByteArray)⟩:WK)]:List WK).length)) ((jt N a7 a0 a1 a2 a3 a8 b0) (a6++([(⟨8,0,(⟨#[]⟩:ByteArray)⟩:WK)]:List WK)))) else (jv N a7 a0 a1 a2 a3 a8 a6)
def nR (a0:WH)(a1:WK)(a2:WI)(a3:WP)(a4:WU):Option (Bool×Bool×WH):=
 (pK N a0 a1 a3).bind fun a7=>(dq N a7.1 a7.2 (!decide (ai .i64 a2.Ze 1=0)) a3 a4).bind fun a6=>bif !a6.2 then (some (false,false,a0)) else (bif decide (4096<=a3.N) then (some (false,true,a0)) else ((bif decide ((a2.Zb.length:Int)<=a3.N) then (some (!decide (ai .i64 a2.Ze 32=0))) else (some false)).bind fun b16=>bif b16 then (some (false,false,a0)) else ((qg N a0 a1 a3).bind fun a8=>(bif !decide (a6.1.Zd=7) then (some (!a8.2)) else (some false)).bind fun b0=>(bif b0 then ((jn N a0 a1).bind fun b5=>some (decide (1024<=(b5.length:Int)))) else (some false)).bind fun b6=>bif b6 then (some (false,false,a0)) else (jt N a8 a0 a1 a2 a3 a6 N a2.Zb))))
theorem CB {N:Nat}{a1:WK}{a2:WI}{a3:WP}{r:Bool×Bool×WH}(h:nR N a0 a1 a2 a3 a4=some r){B1 B2 B3:Nat}:Okc W8 59 [pV B1 0,(aE a1),.agg #[iV a2.Za,iV a2.Zi,iV a2.Ze,iV a2.Zf,W A4 n4 c4,W A5 n5 c5],(eW a3),(fW a4)] ([ug,oDWorld B1 B2 B3 a0,bf A4 n4 c4 a2.Zc,bf A5 n5 c5 a2.Zb]) (fun u post=>u=.tuple #[.bool r.1,.bool r.2.1]/\post=[oDWorld B1 B2 B3 r.2.2]):=by
 refine ce Tryz.func59 ?_;intro B6
 refine cn fun B7=> ?_
 intro B8
 refine cn fun B9=> ?_
 refine cR h (fun _ k=>CC k) fun f1 h=> ?_
 intro f2;refine ab ?_;refine ga (aI J J) ?_
 refine cR h (fun _ k=>vq k) fun a6 h=> ?_
 intro a7;refine sY ?_;refine gH J h ?_ ?_<;>intro h
 ·exact eY
 refine dr h ?_ ?_<;>intro h
 ·exact eY
 refine ab ?_
 refine oo 5 56 51 h (fun _ e4 h=> ?_) fun b16 h=> ?_
 ·refine ab ?_;exact fb (aI J J) J (bW e4 J) J<|gY
 refine dr h ?_ ?_<;>intro h
 ·exact eY
 refine cR h (fun _ k=>Aa k) fun a8 h=> ?_
 intro f3;refine sY ?_;refine gS 3 70 67 h ?_;intro f4 h;refine ab ?_
 refine oo 6 77 71 h (fun _ e5 h=> ?_) fun f6 h=> ?_
 ·refine ab ?_;obtain ⟨f9,k,h⟩:=aa h;refine CH (oR (oW k)) J (bW e5 J) J ?_;rintro _ _ ⟨_,⟨g0,g1,g2,rfl,rfl⟩,rfl⟩;exact gY
 refine dr h ?_ ?_<;>intro h
 ·exact eY
 refine ab ?_;refine ao (fun s L=> ∃b0 b5 b6 b7,jv N a8 a0 a1 a2 a3 a6 b0=some r/\s=[(0,pV B1 0),(6,pV B6 0),(7,pV B7 0),(8,pV B8 0),(10,.bool false),(11,.bool false),(14,pV a7 0),(17,.bool a8.2)]/\L=[oDWorld B1 B2 B3 a0,ah B6 28 (bS a1),bf A4 n4 c4 a2.Zc,bf b5 b6 b7 b0,ah B7 94 (iL a2 A4 n4 c4 b5 b6 b7),ah B8 39 (ls a3),ah a7 50 (cm a6.1),ug]) ?_ ?_
 ·refine ab ?_;refine lK (fun m s L=> ∃(b9:WW) (c7:Option Addr) (c8 c9:Nat),jt N a8 a0 a1 a2 a3 a6 m b9=some r/\s=[(0,pV B1 0),(6,pV B6 0),(7,pV B7 0),(8,pV B8 0),(10,.bool false),(11,.bool false),(14,pV a7 0),(17,.bool a8.2)]/\L=[oDWorld B1 B2 B3 a0,ah B6 28 (bS a1),bf A4 n4 c4 a2.Zc,bf c7 c8 c9 b9,ah B7 94 (iL a2 A4 n4 c4 c7 c8 c9),ah B8 39 (ls a3),ah a7 50 (cm a6.1),ug]) N ?_;rintro e6 _ _ ⟨b9,c7,c8,c9,h,rfl,rfl⟩;rw [jt.eq_2] at h;refine sZ ?_;refine gH J h ?_ ?_<;>intro h
  ·refine ab ?_;refine gD (aB (R:=ax) (vss:=[Uw]) (xs:=[(⟨8,0,(⟨#[]⟩:ByteArray)⟩:WK)]) J (jr _ _ _) J J (fun _ _ hr=> .cons J All2.nil)) ?_;rintro _ _ ⟨g3,g4,g5,rfl,rfl⟩;obtain ⟨e7,h⟩:=ae h
   refine vo (aR 4 0 J J ap J J t9 r9 J J e7) fun e8 e9 f0=> ?_
   exact ⟨e6,_,_,WZ _,⟨b9++([(⟨8,0,(⟨#[]⟩:ByteArray)⟩:WK)]:List WK),e8,e9,f0,h,J,J⟩,sA,cS [1,2,3,4,5,6,7,8] 9⟩
  exact jY
 rintro _ _ ⟨b0,b5,b6,b7,h,rfl,rfl⟩;refine ab ?_;obtain ⟨g6,d0,d1,d2,h⟩:=bz h;refine ab ?_;refine Hr (cg (us:=Uw) (z:=(⟨8,0,(⟨#[]⟩:ByteArray)⟩:WK)) 3 J J J J size28.out J (toNat_lt d0 d1) J (fun S w vs xk hk hr ho=>by obtain rfl:=YL (hk.symm.trans d2);rw [show _=_ from hr];rfl)) ?_;refine ao (fun s L=> ∃d3 d4 d6 e0,ju N a8 a0 a1 a2 a3 a6 d3=some r/\s=[(0,pV B1 0),(6,pV B6 0),(7,pV B7 0),(8,pV B8 0),(10,.bool false),(11,.bool false),(14,pV a7 0),(17,.bool a8.2)]/\L=[oDWorld B1 B2 B3 a0,ah B6 28 (bS a1),bf A4 n4 c4 a2.Zc,bf d4 d6 e0 d3,ah B7 94 (iL a2 A4 n4 c4 d4 d6 e0),ah B8 39 (ls a3),ah a7 50 (cm a6.1),ug]) ?_ ?_
 ·refine dr h ?_ ?_<;>intro h
  ·refine ab ?_;obtain ⟨g7,e1,e2,e3,h⟩:=bz h;refine ab ?_;refine Hr (cg (us:=bS a6.1.Value) (z:=(⟨a6.1.Value.Za,a6.1.Value.N,a6.1.Value.S⟩:WK)) 3 J J J J size28.out J (toNat_lt e1 e2) J (fun S w vs xk hk hr ho=>by obtain rfl:=YL (hk.symm.trans e3);rw [show _=_ from hr];rfl)) ?_;exact ⟨_,_,⟨List.set (List.set b0 a3.N.toNat (⟨8,0,(⟨#[]⟩:ByteArray)⟩:WK)) a3.N.toNat (⟨a6.1.Value.Za,a6.1.Value.N,a6.1.Value.S⟩:WK),b5,b6,b7,h,J,J⟩,sA,cS [0,1,2,3,4,5,6,7] 8⟩
  refine ab ?_;exact ⟨_,_,⟨List.set b0 a3.N.toNat (⟨8,0,(⟨#[]⟩:ByteArray)⟩:WK),b5,b6,b7,h,J,J⟩,sA,cS [0,1,2,3,4,5,6,7] 8⟩
 rintro _ _ ⟨d3,d4,d6,e0,h,rfl,rfl⟩;refine ab ?_
 refine mX (bq 2 J)<|mX (bq 3 J)<|cC h (fun _ k=>dy k) fun g8 h=> ?_
 refine sZ ?_;refine gH J h ?_ ?_<;>intro h
 ·refine cC h (fun _ k=>GK k) fun g9 h=> ?_
  exact eN
 refine cC h (fun _ k=>IN k) fun h0 h=> ?_
 exact eN
def eG (a0:WH)(a1:WK)(a2:WP)(a3:WU):Option (Bool×Bool×WH):=
 (cD N a0 a1).bind fun y7=>(bif !y7.2 then (some true) else ((aZ N a2).bind fun b0=>some (!b0))).bind fun b5=>(bif b5 then (some true) else ((fG N a3).bind fun b6=>some (!b6))).bind fun b7=>bif b7 then (some (false,false,a0)) else ((bZ N).bind fun b9=>bif decide (a2=b9) then ((mV N a0 a1 y7.1 a3).bind fun a6=>some (a6.1,a6.2.1,a6.2.2)) else (bif decide (a2.Za=0) then ((nR N a0 a1 y7.1 a2 a3).bind fun a7=>some (a7.1,a7.2.1,a7.2.2)) else ((jP N a0 a1 a2 a3).bind fun a8=>some (a8.1,false,a8.2))))
theorem sr {N:Nat}{a1:WK}{a3:WU}{r:Bool×Bool×WH}(h:eG N a0 a1 a2 a3=some r){B1 B2 B3:Nat}:Okc W8 24 [pV B1 0,(aE a1),(eW a2),(fW a3)] ([ug,oDWorld B1 B2 B3 a0]) (fun u post=>u=.tuple #[.bool r.1,.bool r.2.1]/\post=[oDWorld B1 B2 B3 r.2.2]):=by
 refine ce Tryz.func24 ?_;intro B4
 refine cn fun B5=> ?_
 intro B6
 refine IK h (fun _ k=>fg k) fun y7 A8 n8 c8 A9 n9 c9 h=> ?_
 intro a7;refine sY ?_
 refine xc 4 25 21 h (fun _ a8 h=> ?_) fun b0 h=> ?_
 ·refine cR h (fun _ k=>nM k) fun b5 h=> ?_
  exact gY
 refine ab ?_
 refine xc 4 30 26 h (fun _ b6 h=> ?_) fun b7 h=> ?_
 ·refine cR h (fun _ k=>GI k) fun b9 h=> ?_
  exact gY
 refine dr h ?_ ?_<;>intro h
 ·exact eY
 refine dY [] ?_;refine ab ?_;obtain ⟨a6,k,h⟩:=aa h;refine zD 1 J (oR (js k)) ?_;rintro _ _ ⟨_,⟨rfl,rfl⟩,rfl⟩;refine ⟨_,ad _,ad _,?_⟩;refine zE 2 J (ul (x:=a2) (y:=a6) J J) ?_;refine dr h ?_ ?_<;>intro h
 ·refine ab ?_
  refine mX (bq 1 J)<|mX (bq 2 J)<|cC h (fun _ k=>AT k) fun c7 h=> ?_
  exact eN
 refine dr h ?_ ?_<;>intro h
 ·refine cC h (fun _ k=>CB k) fun d0 h=> ?_
  exact eN
 refine cC h (fun _ k=>vO k) fun d1 h=> ?_
 exact eN
def km (a0:WH)(a1:WK):Option Int:=
 (cD N a0 a1).bind fun y5=>bif !y5.2 then (some 0) else (some (y5.1.Zb.length:Int))
theorem wU {N:Nat}{a1:WK}{r:Int}(h:km N a0 a1=some r){B1 B2 B3:Nat}:Okc W8 18 [pV B1 0,(aE a1)] ([pDWorld B1 B2 B3 a0]) (fun u post=>u=iV r/\post=[]):=by
 refine ce Tryz.func18 ?_;intro B4
 refine IK h (fun _ k=>fg k) fun y5 A6 n6 c6 A7 n7 c7 h=> ?_
 intro B8;refine sY ?_;refine gH J h ?_ ?_<;>intro h
 ·exact eY
 exact eY
theorem ut {r:Int}: ∀v post,((fun (u:Value) (post:W6)=>u=iV r/\post=[])) v post-> ∀c∈post,im c:=by
 rintro _ _ ⟨rfl,rfl⟩;exact aw
def Dx (N:Nat)(p4 p5:Int)(p6:ByteArray):Option Bool:=
 some false
def Dw (p9:WH)(p13 a6:Int)(p15:ByteArray)(b6:Bool):Option Bool:=
 (bif !b6 then (some true) else ((ko N p9 (⟨p13,a6,p15⟩:WK)).bind fun b7=>(pn N 0).bind fun b9=>(pn N 2).bind fun c7=>(bN N).bind fun c8=>(Az N b7 ([b9,c7,c8]:List WP)).bind fun c9=>some (!c9))).bind fun d0=>bif d0 then (some false) else ((pn N 5).bind fun d1=>(Aj N 7 7).bind fun d2=>(eG N p9 (⟨p13,a6,p15⟩:WK) d1 d2).bind fun a7=>(km N a7.2.2 (⟨p13,a6,p15⟩:WK)).bind fun d3=>(jw N a7.2.2 (⟨p13,a6,p15⟩:WK) 1).bind fun a8=>(bif !a7.1 then (some true) else (some a7.2.1)).bind fun d4=>(bif d4 then (some true) else (some (!decide (d3=6)))).bind fun d6=>(bif d6 then (some true) else (some (!a8.1))).bind fun e0=>(bif e0 then (some true) else ((ko N a8.2 (⟨p13,a6,p15⟩:WK)).bind fun e1=>(pn N 0).bind fun e2=>(bN N).bind fun e3=>(Az N e1 ([e2,e3]:List WP)).bind fun e4=>some (!e4))).bind fun e5=>bif e5 then (some false) else ((pn N 2).bind fun e6=>(Aj N 7 0).bind fun e7=>(eG N a8.2 (⟨p13,a6,p15⟩:WK) e6 e7).bind fun b0=>bif b0.1 then ((jw N b0.2.2 (⟨p13,a6,p15⟩:WK) 0).bind fun b5=>(bif !b5.1 then ((km N b5.2 (⟨p13,a6,p15⟩:WK)).bind fun e8=>some (decide (e8=3))) else (some false)).bind fun e9=>some e9) else (some false)))
def pe:Option Bool:=
 (iu N).bind fun a6=>(tz N ([(⟨3,1,⟨#[]⟩⟩:WK),a6,(⟨3,1,⟨#[]⟩⟩:WK)]:List WK)).bind fun a7=>Ef a7 (fun y19_0=>Dx N y19_0.Za y19_0.N y19_0.S) (fun y19_1=>Dw N y19_1.1 y19_1.2.1.Za y19_1.2.1.N y19_1.2.1.S y19_1.2.2)
theorem xC {N:Nat}{r:Bool}(h:pe N=some r):Okc W8 7 [] ([ug]) (fun u post=>u=.bool r/\post=[]):=by
 refine CZ Tryz.func7 J J ?_;simp only [qM];refine Y ?_
 refine gE (nv J (bld_28_0_1 _ _).out)<|gB (bJ zero28.out J) fun B1=>gW (am (us:=[iV 3,iV 1,.string (⟨#[]⟩)]) (cs':=[iV 3,iV 1,.string (⟨#[]⟩)]) 0 J J J J size28.out J J J)<|mq ?_
 refine Y ?_;refine ao (fun s L=>(∃p4 p5 p6 B3,Dx N p4 p5 p6=some r/\s=[(0,.bool false),(2,.pointer none),(3,pV B3 0),(4,.bool false)]/\L=[ah B3 28 [iV p4,iV p5,.string p6],ug])\/(∃(p9:WH) (p13:Int) (a7:Int) (p15:ByteArray) (e0:Bool) (B8:Nat) (e3:Nat) (e4:Nat) (e1:Nat),Dw N p9 p13 a7 p15 e0=some r/\s=[(0,.bool false),(2,pV B8 0),(3,pV e1 0),(4,.bool e0)]/\L=[oDWorld B8 e3 e4 p9,ah e1 28 [iV p13,iV a7,.string p15],ug])) ?_ ?_
 ·refine ba O _ (ad _)<|yY [0,2] ?_;refine pm 1 9 O ?_ ?_
  ·obtain ⟨a8,k,h⟩:=aa h;refine bX J (aJ (pA k) J (aw) rt) J J J ?_;rintro _ _ ⟨_,⟨rfl,rfl⟩,rfl⟩;refine ⟨_,ad _,ad _,?_⟩;refine pm 3 9 O ?_ ?_
   ·refine bX J (aB (R:=ax) (vss:=[[iV 3,iV 1,.string (⟨#[]⟩)],[iV a8.Za,iV a8.N,.string a8.S],[iV 3,iV 1,.string (⟨#[]⟩)]]) (xs:=[(⟨3,1,⟨#[]⟩⟩:WK),a8,(⟨3,1,⟨#[]⟩⟩:WK)]) J (Cy _ _ _ _ _ _ _ _ _) J J (fun _ _ hr=> .cons J (.cons J (.cons J All2.nil)))) J J J ?_;rintro _ _ ⟨g0,g1,g2,rfl,rfl⟩;refine nC (cS [1,2] 3) ?_;refine pm 4 9 O ?_ ?_
    ·obtain ⟨e8,c7,h⟩:=aa h;rcases e8 with y19_0|y19_1
     ·replace h:=GS h;refine wi (bq 0 J) (cS [1,2] 3) ?_;refine Ov ?_;refine bX J (dM (iR c7) J (bP [0] [] [0,1,2] 3 J)) J J J ?_;rintro _ _ ⟨_,⟨rfl,rfl⟩,rfl⟩;refine nC (cS [1,2] 3) ?_;refine bv ?_;refine yY [5,6,7,8] ?_;refine zD 9 J (bJ zero28.out J) ?_;rintro _ _ ⟨e9,rfl,rfl⟩;refine nC (cS [2,3] 4) ?_;refine zE 10 J (ci J) ?_;refine zO 11 J (am (us:=[iV y19_0.Za,iV y19_0.N,.string y19_0.S]) (cs':=[iV y19_0.Za,iV y19_0.N,.string y19_0.S]) 0 J J J J size28.out J J J) ?_;rintro _ _ rfl;refine nC (cS [2,3] 4) ?_;refine bv ?_;refine zE 12 J (ci J) ?_;exact bn O<|qF<|⟨_,_,.inl (⟨y19_0.Za,y19_0.N,y19_0.S,e9,h,J,J⟩),sA,cS [0,3] 4⟩
     replace h:=GR h;refine wi (bq 0 J) (cS [1,2] 3) ?_;refine Ov ?_;refine bX J (dM (iR c7) J (bP [0] [] [0,1,2] 3 J)) J J J ?_;rintro _ _ ⟨_,⟨b5,b6,b7,rfl,rfl⟩,rfl⟩;refine nC (cS [2,3] 4) ?_;refine bv ?_;refine yY [5,6,7,8] ?_;refine zD 9 J (bJ zero28.out J) ?_;rintro _ _ ⟨f0,rfl,rfl⟩;refine nC (cS [3,4] 5) ?_;refine zE 10 J (ci J) ?_;refine zO 11 J (am (us:=[iV y19_1.2.1.Za,iV y19_1.2.1.N,.string y19_1.2.1.S]) (cs':=[iV y19_1.2.1.Za,iV y19_1.2.1.N,.string y19_1.2.1.S]) 0 J J J J size28.out J J J) ?_;rintro _ _ rfl;refine nC (cS [3,4] 5) ?_;refine bv ?_;refine zE 12 J (ci J) ?_;exact bn O<|qF<|⟨_,_,.inr (⟨y19_1.1,y19_1.2.1.Za,y19_1.2.1.N,y19_1.2.1.S,y19_1.2.2,b5,b6,b7,f0,h,J,J⟩),sA,cS [1,0,4] 5⟩
    refine bX J (bJ zero28.out J) J J J ?_;rintro _ _ ⟨e5,rfl,rfl⟩;refine nC (cS [2,3] 4) ?_;obtain ⟨c8,a6,h⟩:=aa h;rcases c8 with y20_0|y20_1
    ·replace h:=GS h;refine kC (bq 1 J) (cS [2,3] 4) ?_;refine bv ?_;refine zD 4 J (dM (iR a6) J (bP [1] [] [0,1,2,3] 4 J)) ?_;rintro _ _ ⟨_,⟨rfl,rfl⟩,rfl⟩;refine nC (cS [2,3] 4) ?_;refine bv ?_;refine yY [5,6,7,8,10] ?_;refine zO 11 J (am (us:=[iV y20_0.Za,iV y20_0.N,.string y20_0.S]) (cs':=[iV y20_0.Za,iV y20_0.N,.string y20_0.S]) 0 J J J J size28.out J J J) ?_;rintro _ _ rfl;refine nC (cS [2,3] 4) ?_;refine bv ?_;refine zE 12 J (ci J) ?_;exact bn O<|qF<|⟨_,_,.inl (⟨y20_0.Za,y20_0.N,y20_0.S,e5,h,J,J⟩),sA,cS [0,3] 4⟩
    replace h:=GR h;refine kC (bq 1 J) (cS [2,3] 4) ?_;refine bv ?_;refine zD 4 J (dM (iR a6) J (bP [1] [] [0,1,2,3] 4 J)) ?_;rintro _ _ ⟨_,⟨b5,b6,b7,rfl,rfl⟩,rfl⟩;refine nC (cS [3,4] 5) ?_;refine bv ?_;refine yY [5,6,7,8,10] ?_;refine zO 11 J (am (us:=[iV y20_1.2.1.Za,iV y20_1.2.1.N,.string y20_1.2.1.S]) (cs':=[iV y20_1.2.1.Za,iV y20_1.2.1.N,.string y20_1.2.1.S]) 1 J J J J size28.out J J J) ?_;rintro _ _ rfl;refine nC (cS [3,4] 5) ?_;refine bv ?_;refine zE 12 J (ci J) ?_;exact bn O<|qF<|⟨_,_,.inr (⟨y20_1.1,y20_1.2.1.Za,y20_1.2.1.N,y20_1.2.1.S,y20_1.2.2,b5,b6,b7,e5,h,J,J⟩),sA,cS [0,1,4] 5⟩
   refine bX J (bJ zero28.out J) J J J ?_;rintro _ _ ⟨e6,rfl,rfl⟩;refine nC (cS [1,2] 3) ?_;refine zD 3 J (aB (R:=ax) (vss:=[[iV 3,iV 1,.string (⟨#[]⟩)],[iV a8.Za,iV a8.N,.string a8.S],[iV 3,iV 1,.string (⟨#[]⟩)]]) (xs:=[(⟨3,1,⟨#[]⟩⟩:WK),a8,(⟨3,1,⟨#[]⟩⟩:WK)]) J (Cy _ _ _ _ _ _ _ _ _) J J (fun _ _ hr=> .cons J (.cons J (.cons J All2.nil)))) ?_;rintro _ _ ⟨f1,f2,f3,rfl,rfl⟩;refine nC (cS [2,3] 4) ?_;obtain ⟨c8,a6,h⟩:=aa h;rcases c8 with y20_0|y20_1
   ·replace h:=GS h;refine kC (bq 0 J) (cS [2,3] 4) ?_;refine bv ?_;refine zD 4 J (dM (iR a6) J (bP [0] [] [0,1,2,3] 4 J)) ?_;rintro _ _ ⟨_,⟨rfl,rfl⟩,rfl⟩;refine nC (cS [2,3] 4) ?_;refine bv ?_;refine yY [5,6,7,8,10] ?_;refine zO 11 J (am (us:=[iV y20_0.Za,iV y20_0.N,.string y20_0.S]) (cs':=[iV y20_0.Za,iV y20_0.N,.string y20_0.S]) 1 J J J J size28.out J J J) ?_;rintro _ _ rfl;refine nC (cS [2,3] 4) ?_;refine bv ?_;refine zE 12 J (ci J) ?_;exact bn O<|qF<|⟨_,_,.inl (⟨y20_0.Za,y20_0.N,y20_0.S,e6,h,J,J⟩),sA,cS [1,3] 4⟩
   replace h:=GR h;refine kC (bq 0 J) (cS [2,3] 4) ?_;refine bv ?_;refine zD 4 J (dM (iR a6) J (bP [0] [] [0,1,2,3] 4 J)) ?_;rintro _ _ ⟨_,⟨b5,b6,b7,rfl,rfl⟩,rfl⟩;refine nC (cS [3,4] 5) ?_;refine bv ?_;refine yY [5,6,7,8,10] ?_;refine zO 11 J (am (us:=[iV y20_1.2.1.Za,iV y20_1.2.1.N,.string y20_1.2.1.S]) (cs':=[iV y20_1.2.1.Za,iV y20_1.2.1.N,.string y20_1.2.1.S]) 2 J J J J size28.out J J J) ?_;rintro _ _ rfl;refine nC (cS [3,4] 5) ?_;refine bv ?_;refine zE 12 J (ci J) ?_;exact bn O<|qF<|⟨_,_,.inr (⟨y20_1.1,y20_1.2.1.Za,y20_1.2.1.N,y20_1.2.1.S,y20_1.2.2,b5,b6,b7,e6,h,J,J⟩),sA,cS [0,2,4] 5⟩
  refine bX J (bJ zero28.out J) J J J ?_;rintro _ _ ⟨e7,rfl,rfl⟩;refine nC (cS [1,2] 3) ?_;obtain ⟨d0,k,h⟩:=aa h;refine zD 1 J (aJ (pA k) J (aw) rt) ?_;rintro _ _ ⟨_,⟨rfl,rfl⟩,rfl⟩;refine nC (cS [1,2] 3) ?_;refine zD 3 J (aB (R:=ax) (vss:=[[iV 3,iV 1,.string (⟨#[]⟩)],[iV d0.Za,iV d0.N,.string d0.S],[iV 3,iV 1,.string (⟨#[]⟩)]]) (xs:=[(⟨3,1,⟨#[]⟩⟩:WK),d0,(⟨3,1,⟨#[]⟩⟩:WK)]) J (Cy _ _ _ _ _ _ _ _ _) J J (fun _ _ hr=> .cons J (.cons J (.cons J All2.nil)))) ?_;rintro _ _ ⟨f1,f2,f3,rfl,rfl⟩;refine nC (cS [2,3] 4) ?_;obtain ⟨c8,a6,h⟩:=aa h;rcases c8 with y20_0|y20_1
  ·replace h:=GS h;refine kC (bq 0 J) (cS [2,3] 4) ?_;refine bv ?_;refine zD 4 J (dM (iR a6) J (bP [0] [] [0,1,2,3] 4 J)) ?_;rintro _ _ ⟨_,⟨rfl,rfl⟩,rfl⟩;refine nC (cS [2,3] 4) ?_;refine bv ?_;refine yY [5,6,7,8,10] ?_;refine zO 11 J (am (us:=[iV y20_0.Za,iV y20_0.N,.string y20_0.S]) (cs':=[iV y20_0.Za,iV y20_0.N,.string y20_0.S]) 1 J J J J size28.out J J J) ?_;rintro _ _ rfl;refine nC (cS [2,3] 4) ?_;refine bv ?_;refine zE 12 J (ci J) ?_;exact bn O<|qF<|⟨_,_,.inl (⟨y20_0.Za,y20_0.N,y20_0.S,e7,h,J,J⟩),sA,cS [1,3] 4⟩
  replace h:=GR h;refine kC (bq 0 J) (cS [2,3] 4) ?_;refine bv ?_;refine zD 4 J (dM (iR a6) J (bP [0] [] [0,1,2,3] 4 J)) ?_;rintro _ _ ⟨_,⟨b5,b6,b7,rfl,rfl⟩,rfl⟩;refine nC (cS [3,4] 5) ?_;refine bv ?_;refine yY [5,6,7,8,10] ?_;refine zO 11 J (am (us:=[iV y20_1.2.1.Za,iV y20_1.2.1.N,.string y20_1.2.1.S]) (cs':=[iV y20_1.2.1.Za,iV y20_1.2.1.N,.string y20_1.2.1.S]) 2 J J J J size28.out J J J) ?_;rintro _ _ rfl;refine nC (cS [3,4] 5) ?_;refine bv ?_;refine zE 12 J (ci J) ?_;exact bn O<|qF<|⟨_,_,.inr (⟨y20_1.1,y20_1.2.1.Za,y20_1.2.1.N,y20_1.2.1.S,y20_1.2.2,b5,b6,b7,e7,h,J,J⟩),sA,cS [0,2,4] 5⟩
 rintro _ _ (⟨p4,p5,p6,B3,h,rfl,rfl⟩|⟨p9,p13,a7,p15,e0,B8,e3,e4,e1,h,rfl,rfl⟩)
 ·refine aA<|Y ?_;refine jx J<|Y ?_;obtain rfl:=bF h;exact pI J J (cS [] 2) ⟨J,J⟩
 refine aA<|Y ?_
 refine JJ 10 33 23 h (fun _ b0 h=> ?_) (fun _ b0 h=> ?_) fun g3 h=> ?_
 ·refine Y ?_;obtain rfl:=bF h;exact bA sA (cS [0,1,2] 3)
 ·refine Y ?_;refine r8 (aC (us:=[iV p13,iV a7,.string p15]) 1 J J agg28.out J) J (cL b0 J) J ?_;obtain ⟨g4,k,h⟩:=aa h;refine CH (aJ (vy k) J (t5 (uU (i:=0) J) (t5 (dN (i:=2) J J) aw)) sq) J (cL b0 J) J ?_;rintro _ _ ⟨_,⟨g5,g6,g7,rfl,rfl⟩,rfl⟩;obtain ⟨d1,k,h⟩:=aa h;refine gU (aJ (pP k) J (aw) na) (cL b0 J) ?_;obtain ⟨d2,k,h⟩:=aa h;refine gU (aJ (pP k) J (aw) na) (cL b0 J) ?_;obtain ⟨d3,k,h⟩:=aa h;refine gU (aJ (iT k) J (aw) mh) (cL b0 J)<|CH (aB (R:=sy) (vss:=[[iV d1.Za,iV d1.N,.string d1.S],[iV d2.Za,iV d2.N,.string d2.S],[iV d3.Za,iV d3.N,.string d3.S]]) (xs:=[d1,d2,d3]) J (PX _ _ _ _ _ _ _ _ _) J J (fun _ _ hr=> .cons J (.cons J (.cons J All2.nil)))) J (cL b0 J) J ?_;rintro _ _ ⟨g8,g9,h0,rfl,rfl⟩;obtain ⟨h1,k,h⟩:=aa h;refine gU (aJ (DJ k) J (t5 (jp (i:=1) J) (t5 (jp (i:=0) J) aw)) zW) (cL b0 J)<|Y ?_;obtain rfl:=bF h;exact bA sA (cS [2,3,4] 5)
 refine Y ?_;refine gH J h ?_ ?_<;>intro h
 ·refine Y ?_;obtain rfl:=bF h;exact pI J J (cS [] 3) ⟨J,J⟩
 refine Y ?_;refine aA<|ba O _ (ad _)<|yY [0,1] ?_;obtain ⟨h2,k,h⟩:=aa h;refine zD 2 J (aJ (pP k) J (aw) na) ?_;rintro _ _ ⟨_,⟨rfl,rfl⟩,rfl⟩;refine ⟨_,ad _,ad _,?_⟩;obtain ⟨h3,k,h⟩:=aa h;refine zD 3 J (aJ (Dz k) J (aw) zL) ?_;rintro _ _ ⟨_,⟨rfl,rfl⟩,rfl⟩;refine ⟨_,ad _,ad _,?_⟩;obtain ⟨h4,k,h⟩:=aa h;refine IV 4 J O O (dM (sr k) J (bP [2] [0] [1,2] 3 J)) ?_;rintro _ _ ⟨_,⟨rfl,rfl⟩,rfl⟩;refine bv ?_;refine yY [5,6,7,8,9] ?_;refine bn O<|Y ?_;refine gR (aC (us:=[iV p13,iV a7,.string p15]) 1 J J agg28.out J) ?_;obtain ⟨h5,k,h⟩:=aa h;refine gV (aJ (wU k) J (t5 (uU (i:=0) J) aw) ut)<|Y ?_;refine gR (aC (us:=[iV p13,iV a7,.string p15]) 1 J J agg28.out J) ?_;obtain ⟨h6,k,h⟩:=aa h;refine gV (dM (pc k) J (bP [2] [0] [1,2] 3 J))<|mq ?_;refine Y ?_;refine aA<|Y ?_
 refine JJ 2 52 50 h (fun _ f4 h=> ?_) (fun _ f4 h=> ?_) fun h7 h=> ?_
 ·refine Y ?_;obtain rfl:=bF h;exact bA sA (cS [0,1,2] 3)
 ·refine Y ?_;obtain rfl:=bF h;exact bA sA (cS [0,1,2] 3)
 refine Y ?_
 refine JJ 3 56 53 h (fun _ f6 h=> ?_) (fun _ f6 h=> ?_) fun h8 h=> ?_
 ·refine Y ?_;obtain rfl:=bF h;exact bA sA (cS [0,1,2] 3)
 ·refine Y ?_;obtain rfl:=bF h;exact bA sA (cS [0,1,2] 3)
 refine Y ?_
 refine JJ 3 60 57 h (fun _ f9 h=> ?_) (fun _ f9 h=> ?_) fun h9 h=> ?_
 ·refine Y ?_;obtain rfl:=bF h;exact bA sA (cS [0,1,2] 3)
 ·refine Y ?_;obtain rfl:=bF h;exact bA sA (cS [0,1,2] 3)
 refine Y ?_
 refine JJ 9 70 61 h (fun _ b9 h=> ?_) (fun _ b9 h=> ?_) fun i0 h=> ?_
 ·refine Y ?_;obtain rfl:=bF h;exact bA sA (cS [0,1,2] 3)
 ·refine Y ?_;refine r8 (aC (us:=[iV p13,iV a7,.string p15]) 1 J J agg28.out J) J (cL b9 J) J ?_;obtain ⟨i1,k,h⟩:=aa h;refine CH (aJ (vy k) J (t5 (uU (i:=0) J) (t5 (dN (i:=2) J J) aw)) sq) J (cL b9 J) J ?_;rintro _ _ ⟨_,⟨i2,i3,i4,rfl,rfl⟩,rfl⟩;obtain ⟨d4,k,h⟩:=aa h;refine gU (aJ (pP k) J (aw) na) (cL b9 J) ?_;obtain ⟨d6,k,h⟩:=aa h;refine gU (aJ (iT k) J (aw) mh) (cL b9 J)<|CH (aB (R:=sy) (vss:=[[iV d4.Za,iV d4.N,.string d4.S],[iV d6.Za,iV d6.N,.string d6.S]]) (xs:=[d4,d6]) J (PY _ _ _ _ _ _) J J (fun _ _ hr=> .cons J (.cons J All2.nil))) J (cL b9 J) J ?_;rintro _ _ ⟨i5,i6,i7,rfl,rfl⟩;obtain ⟨i8,k,h⟩:=aa h;refine gU (aJ (DJ k) J (t5 (jp (i:=1) J) (t5 (jp (i:=0) J) aw)) zW) (cL b9 J)<|Y ?_;obtain rfl:=bF h;exact bA sA (cS [2,3,4] 5)
 refine Y ?_;refine gH J h ?_ ?_<;>intro h
 ·refine Y ?_;obtain rfl:=bF h;exact pI J J (cS [] 3) ⟨J,J⟩
 refine Y ?_;refine aA<|ba O _ (ad _)<|yY [0,1] ?_;obtain ⟨i9,k,h⟩:=aa h;refine zD 2 J (aJ (pP k) J (aw) na) ?_;rintro _ _ ⟨_,⟨rfl,rfl⟩,rfl⟩;refine ⟨_,ad _,ad _,?_⟩;obtain ⟨j0,k,h⟩:=aa h;refine zD 3 J (aJ (Dz k) J (aw) zL) ?_;rintro _ _ ⟨_,⟨rfl,rfl⟩,rfl⟩;refine ⟨_,ad _,ad _,?_⟩;obtain ⟨j1,k,h⟩:=aa h;refine IV 4 J O O (dM (sr k) J (bP [2] [0] [1,2] 3 J)) ?_;rintro _ _ ⟨_,⟨rfl,rfl⟩,rfl⟩;refine bv ?_;refine yY [5,6,7,8,9] ?_;refine bn O<|Y ?_;refine fX 80 J (fun c9=> ?_) (fun c9=> ?_)
 ·replace h:=cN c9 h;refine Y ?_;refine r8 (aC (us:=[iV p13,iV a7,.string p15]) 1 J J agg28.out J) J (bW c9 J) J ?_;obtain ⟨j2,k,h⟩:=aa h;refine gU (dM (pc k) J (bP [2] [0] [1,2] 3 J)) (bW c9 J)<|mq ?_;refine Y ?_
  refine JJ 5 91 86 h (fun _ e2 h=> ?_) (fun _ e2 h=> ?_) fun j3 h=> ?_
  ·refine Y ?_;refine r8 (aC (us:=[iV p13,iV a7,.string p15]) 1 J J agg28.out J) J (bW e2 J) J ?_;obtain ⟨j4,k,h⟩:=aa h;refine gU (aJ (wU k) J (t5 (uU (i:=0) J) aw) ut) (bW e2 J)<|Y ?_;obtain rfl:=bF h;exact bA sA (cS [0,1,2] 3)
  ·refine Y ?_;obtain rfl:=bF h;exact bA sA (cS [0,1,2] 3)
  refine Y ?_;obtain rfl:=bF h;exact pI J J (cS [] 3) ⟨J,J⟩
 replace h:=cO c9 h;refine Y ?_;obtain rfl:=bF h;exact pI J J (cS [] 3) ⟨J,J⟩
theorem vg {r:Bool}: ∀v post,((fun (u:Value) (post:W6)=>u=.bool r/\post=[])) v post-> ∀c∈post,im c:=by
 rintro _ _ ⟨rfl,rfl⟩;exact aw
def gq (a0:WH)(a1:WK):Option (Int×WH):=
 (gF N a0.Zo a1).bind fun y8=>some (y8.1,(⟨a0.ZB,a0.Zu,(),y8.2,a0.Zp,a0.Zy,a0.ZE,a0.ZF,a0.ZG,a0.Zz,a0.ZA⟩:WH))
theorem zB {N:Nat}{a1:WK}{r:Int×WH}(h:gq N a0 a1=some r):Okc W8 10 [pV B1 0,(aE a1)] ([ah B1 81 (Ac a0 B2 B3 A4 n4 c4 A5 n5 c5 A6 n6 c6),oDHeap B2 a0.Zo,oDTable B3 a0.Zp,pG A4 n4 c4 a0.Zy,AI A5 n5 c5 a0.Zz,pG A6 n6 c6 a0.ZA]) (fun u post=> ∃A0 n0 c0 A1 n1 c1 A2 n2 c2,u=iV r.1/\post=[ah B1 81 (Ac r.2 B2 B3 A0 n0 c0 A1 n1 c1 A2 n2 c2),oDHeap B2 r.2.Zo,oDTable B3 r.2.Zp,pG A0 n0 c0 r.2.Zy,AI A1 n1 c1 r.2.Zz,pG A2 n2 c2 r.2.ZA]):=by
 refine ce Tryz.func10 ?_;intro B7;refine sY ?_;refine ga (dO J Wp) ?_;refine ge J<|ab ?_;refine aA<|ba O ([ah B7 28 (bS a1),ah B1 81 (Ac a0 B2 B3 A4 n4 c4 A5 n5 c5 A6 n6 c6),oDTable B3 a0.Zp,pG A4 n4 c4 a0.Zy,AI A5 n5 c5 a0.Zz,pG A6 n6 c6 a0.ZA]) (cS [0,1,3,4,5,6] 7) ?_;refine ab ?_;obtain ⟨y8,k,h⟩:=aa h;refine zD 5 J (oC (dV k)) ?_;rintro _ _ ⟨_,⟨rfl,rfl⟩,rfl⟩;refine ca ?_;exact eY
theorem xp {N:Nat}{a1:WK}{r:Int×WH}(h:gq N a0 a1=some r){B1 B2 B3:Nat}:Okc W8 10 [pV B1 0,(aE a1)] ([oDWorld B1 B2 B3 a0]) (fun u post=>u=iV r.1/\post=[oDWorld B1 B2 B3 r.2]):=LW 0 rfl (fun _=>zB h)
def zd (N:Nat)(a0:WW):Option WL:=
 aG (bu (([]:List WK).length+a0.length)) (some (⟨true,false,([]:List WK)++a0,[]⟩:WL))
theorem Kx {N:Nat}{a0:WW}{r:WL}(h:zd N a0=some r):Okc W8 11 [W A1 n1 c1] ([aX A1 n1 c1 a0]) (fun u post=> ∃A0 n0 c0 A1 n1 c1,u=.agg #[.bool r.Ext,.bool r.Zs,W A0 n0 c0,W A1 n1 c1]/\post=[bf A0 n0 c0 r.Zk,bc ir 50 (W A1 n1 c1) r.Zm]):=by
 refine ce Tryz.func11 ?_;intro B2;refine ab ?_
 refine vo (aB (R:=ax) (vss:=[]) (xs:=[]) J (yK) J J (fun _ _ hr=>All2.nil)) fun A3 n3 c3=> ?_
 obtain ⟨q4,h⟩:=ae h
 refine vo (aR 0 2 J J bi J J t9 r9 J J q4) fun A5 n5 c5=> ?_
 obtain rfl:=bF h;exact kB (rs:=[.cell 2 35]) (vs:=[.agg #[.bool true,.bool false,W A5 n5 c5,W none 0 0]]) J (.cons (du 1 J J agg35.out) .nil) J ((cj ir 50 _).trans (cS [1,0] 4)) ⟨_,_,_,_,_,_,J,J⟩
theorem Ic {r:WL}: ∀v post,((fun (u:Value) (post:W6)=> ∃A0 n0 c0 A1 n1 c1,u=.agg #[.bool r.Ext,.bool r.Zs,W A0 n0 c0,W A1 n1 c1]/\post=[bf A0 n0 c0 r.Zk,bc ir 50 (W A1 n1 c1) r.Zm])) v post-> ∀c∈post,im c:=by
 rintro _ _ ⟨_,_,_,_,_,_,rfl,rfl⟩;exact t5 qp (t5 qp (aw))
def kh (a0:WN):Option WW:=
 (aL N a0).bind fun y8=>bif y8 then (some []) else ((dv N a0.Zt).bind fun a6=>some a6)
theorem AK {N:Nat}{a0:WN}{r:WW}(h:kh N a0=some r):Okc W8 40 [pV B1 0] ([aQ B1 124 [W A2 n2 c2,W A3 n3 c3,W A4 n4 c4,W A5 n5 c5,pV B6 0],iE A2 n2 c2 a0.m_.Zh,iE A3 n3 c3 a0.m_.Zj,aX A4 n4 c4 a0.Zt,aX A5 n5 c5 a0.Zv,aQ B6 213 [.map (some M7)],qD jC qL M7 a0.Zw.at_]) (fun u post=> ∃A0 n0 c0,u=W A0 n0 c0/\post=[bf A0 n0 c0 r]):=by
 refine ce Tryz.func40 ?_;refine sZ ?_
 refine cR h (fun _ k=>di k) fun y8 h=> ?_
 refine gH J h ?_ ?_<;>intro h
 ·refine ab ?_;obtain rfl:=bF h;exact pI J J ((cj ax 28 _).trans (cS [0] 8)) ⟨_,_,_,J,J⟩
 refine MG h (fun _ k=>jL k) fun a6 a7 a8 b0 h=> ?_
 exact eN
theorem yr {N:Nat}{a0:WN}{r:WW}(h:kh N a0=some r):Okc W8 40 [pV B1 0] ([pDHeap B1 a0]) (fun u post=> ∃A0 n0 c0,u=W A0 n0 c0/\post=[bf A0 n0 c0 r]):=Nz 0 rfl (fun _=>AK h)
def dz (a0:WH):Option Int:=
 (kh N a0.Zo).bind fun y7=>some (y7.length:Int)
theorem zC {N:Nat}{r:Int}(h:dz N a0=some r):Okc W8 14 [pV B1 0] ([aQ B1 81 (Ac a0 B2 B3 A4 n4 c4 A5 n5 c5 A6 n6 c6),pDHeap B2 a0.Zo,pDTable B3 a0.Zp,iI sJ (W A4 n4 c4) a0.Zy,iI nF (W A5 n5 c5) a0.Zz,iI sJ (W A6 n6 c6) a0.ZA]) (fun u post=>u=iV r/\post=[]):=by
 refine ce Tryz.func14 ?_;refine sZ ?_;refine ga (dO J Wp) ?_
 refine ge J<|MG h (fun _ k=>yr k) fun y7 A8 n8 c8 h=> ?_
 exact eN
theorem xq {r:Int}: ∀v post,((fun (u:Value) (post:W6)=>u=iV r/\post=[])) v post-> ∀c∈post,im c:=by
 rintro _ _ ⟨rfl,rfl⟩;exact aw
theorem qK {N:Nat}{r:Int}(h:dz N a0=some r){B1 B2 B3:Nat}:Okc W8 14 [pV B1 0] ([pDWorld B1 B2 B3 a0]) (fun u post=>u=iV r/\post=[]):=Nz 0 rfl (fun _=>zC h)
theorem vH {r:Int}: ∀v post,((fun (u:Value) (post:W6)=>u=iV r/\post=[])) v post-> ∀c∈post,im c:=xq
def gt (a0:WH)(a1:Int):Option WK:=
 (dh N a0.Zo a1).bind fun y8=>some y8
theorem Bl {N:Nat}{r:WK}(h:gt N a0 a1=some r):Okc W8 13 [pV B1 0,iV a1] ([aQ B1 81 (Ac a0 B2 B3 A4 n4 c4 A5 n5 c5 A6 n6 c6),pDHeap B2 a0.Zo,pDTable B3 a0.Zp,iI sJ (W A4 n4 c4) a0.Zy,iI nF (W A5 n5 c5) a0.Zz,iI sJ (W A6 n6 c6) a0.ZA]) (fun u post=>u=(aE r)/\post=[]):=by
 refine ce Tryz.func13 ?_;intro B7;refine sY ?_;refine ga (dO J Wp) ?_
 refine ge J<|cR h (fun _ k=>iG k) fun y8 h=> ?_
 exact eN
theorem zI {r:WK}: ∀v post,((fun (u:Value) (post:W6)=>u=(aE r)/\post=[])) v post-> ∀c∈post,im c:=by
 rintro _ _ ⟨rfl,rfl⟩;exact aw
theorem sx {N:Nat}{r:WK}(h:gt N a0 a1=some r){B1 B2 B3:Nat}:Okc W8 13 [pV B1 0,iV a1] ([pDWorld B1 B2 B3 a0]) (fun u post=>u=(aE r)/\post=[]):=Nz 0 rfl (fun _=>Bl h)
theorem xw {r:WK}: ∀v post,((fun (u:Value) (post:W6)=>u=(aE r)/\post=[])) v post-> ∀c∈post,im c:=zI
def oI (N:Nat)(a1 p13:Int):Option Int:=
 bif decide (a1<=p13) then (some (-1)) else (some p13)
def qd (a0 a1 p7:Int):Option Int:=
 (bif decide (65<=a0) then (some (decide (a0<=70))) else (some false)).bind fun a6=>bif a6 then (aG (in64 ((IntKind.i64.wrap a0) - 65)) (aG (in64 (((IntKind.i64.wrap a0) - 65)+10)) (oI N a1 (((IntKind.i64.wrap a0) - 65)+10)))) else (oI N a1 p7)
def qe (a0 a1 p2:Int):Option Int:=
 (bif decide (97<=a0) then (some (decide (a0<=102))) else (some false)).bind fun b8=>bif b8 then (aG (in64 ((IntKind.i64.wrap a0) - 97)) (aG (in64 (((IntKind.i64.wrap a0) - 97)+10)) (qd N a0 a1 (((IntKind.i64.wrap a0) - 97)+10)))) else (qd N a0 a1 p2)
def uQ (a0 a1:Int):Option Int:=
 (bif decide (48<=a0) then (some (decide (a0<=57))) else (some false)).bind fun b3=>bif b3 then (aG (in64 ((IntKind.i64.wrap a0) - 48)) (qe N a0 a1 ((IntKind.i64.wrap a0) - 48))) else (qe N a0 a1 (-1))
theorem Ig {N:Nat}{a0 r:Int}(h:uQ N a0 a1=some r):Okc W8 187 [.int .u8 a0,iV a1] ([]) (fun u post=>u=iV r/\post=[]):=by
 refine ce Tryz.func187 ?_;refine ao (fun s L=> ∃p2,qe N a0 a1 p2=some r/\s=[(0,.int .u8 a0),(1,iV a1),(4,iV 0),(5,iV p2)]/\L=[]) ?_ ?_
 ·refine ab ?_;refine gS 3 11 8 h ?_;intro b3 h;refine dr h ?_ ?_<;>intro h
  ·refine ab ?_;refine gE (xe J J Wo) ?_;obtain ⟨q5,h⟩:=ae h;exact jY
  exact jY
 rintro _ _ ⟨p2,h,rfl,rfl⟩;refine ao (fun s L=> ∃p7,qd N a0 a1 p7=some r/\s=[(0,.int .u8 a0),(1,iV a1),(4,iV 0),(5,iV p7)]/\L=[]) ?_ ?_
 ·refine ab ?_;refine gS 3 20 17 h ?_;intro b8 h;refine dr h ?_ ?_<;>intro h
  ·refine ab ?_;refine gE (xe J J Wo) ?_;obtain ⟨a6,h⟩:=ae h;refine ab ?_;obtain ⟨a7,h⟩:=ae h;exact jY
  exact jY
 rintro _ _ ⟨p7,h,rfl,rfl⟩;refine ao (fun s L=> ∃p13,oI N a1 p13=some r/\s=[(1,iV a1),(4,iV 0),(5,iV p13)]/\L=[]) ?_ ?_
 ·refine ab ?_;refine gS 3 30 27 h ?_;intro a8 h;refine dr h ?_ ?_<;>intro h
  ·refine ab ?_;refine gE (xe J J Wo) ?_;obtain ⟨b0,h⟩:=ae h;refine ab ?_;obtain ⟨b5,h⟩:=ae h;exact jY
  exact jY
 rintro _ _ ⟨p13,h,rfl,rfl⟩;refine sZ ?_;refine gH J h ?_ ?_<;>intro h
 ·exact eY
 exact eY
def wF (N:Nat)(a0:ByteArray)(p2:Int):Option (Int×Bool):=
 some (p2,!(a0.toList==(⟨#[]⟩:ByteArray).toList))
def sS (N:Nat)(a6:Int->Int->Option (Int×Bool))(a0:ByteArray)(a1 p5 p8:Int):Option (Int×Bool):=
 aG (in64 (p5+1)) (a6 p8 (p5+1))
def rz (a6:Int->Int->Option (Int×Bool))(a0:ByteArray)(a1 p5 p13:Int):Option (Int×Bool):=
 bif decide (9007199254740992<p13) then (sS N a6 a0 a1 p5 (-1)) else (sS N a6 a0 a1 p5 p13)
def lT (N:Nat)(a0:ByteArray)(a1:Int):Nat->Int->Int->Option (Int×Bool)
 |0,_,_=>none
 |m3+1,p4,p5=>bif decide (p5<(a0.size:Int)) then ((FQ a0 p5).bind fun x9=>(uQ N x9 a1).bind fun a6=>bif decide (a6<0) then (some (0,false)) else (bif decide (0<=p4) then (aG (in64 (p4*a1)) (aG (in64 ((p4*a1)+a6)) (rz N (lT N a0 a1 m3) a0 a1 p5 ((p4*a1)+a6)))) else (rz N (lT N a0 a1 m3) a0 a1 p5 p4))) else (wF N a0 p4)
def yj (a0:ByteArray)(a1:Int):Option (Int×Bool):=
 lT N a0 a1 N 0 0
theorem Ih {N:Nat}{a0:ByteArray}{r:Int×Bool}(h:yj N a0 a1=some r):Okc W8 152 [.string a0,iV a1] ([]) (fun u post=>u=.tuple #[iV r.1,.bool r.2]/\post=[]):=by
 refine ce Tryz.func152 ?_;refine ao (fun s L=> ∃p2,wF N a0 p2=some r/\s=[(0,.string a0),(4,iV 0),(5,.bool false),(6,iV p2)]/\L=[]) ?_ ?_
 ·refine ab ?_;refine lK (fun m s L=> ∃(p4:Int) (p5:Int),lT N a0 a1 m p4 p5=some r/\s=[(0,.string a0),(1,iV a1),(4,iV 0),(5,.bool false),(6,iV p4),(7,iV p5)]/\L=[]) N ?_;rintro m3 _ _ ⟨p4,p5,h,rfl,rfl⟩;rw [lT.eq_2] at h;refine sZ ?_;refine ga (qq J Wm) ?_;refine gH J h ?_ ?_<;>intro h
  ·refine ab ?_;refine ao (fun s L=> ∃p8,sS N (lT N a0 a1 m3) a0 a1 p5 p8=some r/\s=[(0,.string a0),(1,iV a1),(4,iV 0),(5,.bool false),(6,iV p8),(7,iV p5)]/\L=[]) ?_ ?_
   ·refine ab ?_;obtain ⟨x9,a7,h⟩:=aa h;refine ga (tv J J Wm a7) ?_
    refine cR h (fun _ k=>Ig k) fun a8 h=> ?_
    refine sZ ?_;refine gH J h ?_ ?_<;>intro h
    ·exact eY
    refine ab ?_;refine ao (fun s L=> ∃p13,rz N (lT N a0 a1 m3) a0 a1 p5 p13=some r/\s=[(0,.string a0),(1,iV a1),(4,iV 0),(5,.bool false),(6,iV p13),(7,iV p5)]/\L=[]) ?_ ?_
    ·refine dr h ?_ ?_<;>intro h
     ·refine ab ?_;obtain ⟨a6,h⟩:=ae h;refine ga (rg J J a6.1 a6.2) ?_;obtain ⟨b0,h⟩:=ae h;exact jY
     exact jY
    rintro _ _ ⟨p13,h,rfl,rfl⟩;refine dr h ?_ ?_<;>intro h
    ·exact jY
    exact jY
   rintro _ _ ⟨p8,h,rfl,rfl⟩;refine ab ?_;obtain ⟨b5,h⟩:=ae h;exact lY
  exact jY
 rintro _ _ ⟨p2,h,rfl,rfl⟩;refine ab ?_;refine ga (F3 J J) ?_;exact eN
end
section
variable {A1 A2 A5 A6:Option Addr}{B1 B2 B3 c1 c2 c5 c6 n1 n2 n5 n6:Nat}
open Go.RowKit Asn
set_option maxRecDepth 20000
def uN (a0:ByteArray):Option (Int×Bool):=
 (bif a0.toList==(⟨#[]⟩:ByteArray).toList then (some true) else (some (decide (10<(a0.size:Int))))).bind fun b1=>(bif b1 then (some true) else ((FQ a0 0).bind fun x3=>(bif decide (x3=48) then (some (decide (1<(a0.size:Int)))) else (some false)).bind fun b4=>some b4)).bind fun b2=>bif b2 then (some (0,false)) else ((yj N a0 10).bind fun y6=>(bif !y6.2 then (some true) else (some (decide (4294967294<y6.1)))).bind fun b7=>bif b7 then (some (0,false)) else (some (y6.1,true)))
theorem If {N:Nat}{a0:ByteArray}{r:Int×Bool}(h:uN N a0=some r):Okc W8 109 [.string a0] ([]) (fun u post=>u=.tuple #[iV r.1,.bool r.2]/\post=[]):=by
 refine ce Tryz.func109 ?_;refine sZ ?_;refine ga (rV J J) ?_
 refine xc 4 12 8 h (fun _ g1 h=> ?_) fun b1 h=> ?_
 ·refine ab ?_;exact fb (qq J Wm) J (cL g1 J) J<|gY
 refine ab ?_
 refine xc 9 22 13 h (fun _ g2 h=> ?_) fun b2 h=> ?_
 ·refine ab ?_;obtain ⟨x3,a6,h⟩:=aa h;refine fb (tv J J Wm a6) J (cL g2 J) J<|ab ?_
  refine oo 4 21 17 h (fun _ g4 h=> ?_) fun b4 h=> ?_
  ·refine ab ?_;exact fb (qq J Wm) J (bW g4 J) J<|gY
  exact gY
 refine dr h ?_ ?_<;>intro h
 ·exact eY
 refine cR h (fun _ k=>Ih k) fun y6 h=> ?_
 refine sZ ?_;refine gS 3 33 30 h ?_;intro b7 h;refine dr h ?_ ?_<;>intro h
 ·exact eY
 exact eY
def pC (a0:WP):Option Bool:=
 bif decide (a0.Za=0) then ((bif decide (0<=a0.N) then (some (decide (a0.N<=4294967294))) else (some false)).bind fun b3=>(bif b3 then (some (a0.S.toList==(⟨#[]⟩:ByteArray).toList)) else (some false)).bind fun b4=>some b4) else (bif decide (a0.Za=1) then ((uN N a0.S).bind fun y6=>(bif decide (a0.N=0) then (some (!y6.2)) else (some false)).bind fun b7=>(bif b7 then (some (decide ((a0.S.size:Int)<=65536))) else (some false)).bind fun b8=>some b8) else (bif decide (a0.Za=2) then ((bif decide (1<=a0.N) then (some (a0.S.toList==(⟨#[]⟩:ByteArray).toList)) else (some false)).bind fun a6=>some a6) else (some false)))
theorem Ie {N:Nat}{a0:WP}{r:Bool}(h:pC N a0=some r):Okc W8 69 [(eW a0)] ([]) (fun u post=>u=.bool r/\post=[]):=by
 refine ce Tryz.func69 ?_;intro B1;refine sY ?_;refine gH J h ?_ ?_<;>intro h
 ·refine ab ?_;refine gS 4 16 12 h ?_;intro b3 h;refine ab ?_
  refine oo 4 21 17 h (fun _ g4 h=> ?_) fun b4 h=> ?_
  ·refine ab ?_;exact fb (rV J J) J (bW g4 J) J<|gY
  exact eY
 refine dr h ?_ ?_<;>intro h
 ·refine cR h (fun _ k=>If k) fun y6 h=> ?_
  refine gS 3 36 33 h ?_;intro b7 h;refine ab ?_
  refine oo 5 42 37 h (fun _ g8 h=> ?_) fun b8 h=> ?_
  ·refine ab ?_;exact fb (qq J Wm) J (bW g8 J) J<|gY
  exact eY
 refine dr h ?_ ?_<;>intro h
 ·refine ab ?_
  refine oo 4 52 48 h (fun _ a6 h=> ?_) fun a7 h=> ?_
  ·refine ab ?_;exact fb (rV J J) J (bW a6 J) J<|gY
  exact eY
 exact eY
theorem E6 {r:Bool}: ∀v post,((fun (u:Value) (post:W6)=>u=.bool r/\post=[])) v post-> ∀c∈post,im c:=by
 rintro _ _ ⟨rfl,rfl⟩;exact aw
def bO (N:Nat)(a0 a1:Int):Option Bool:=
 aG ((a1:Int)≠0/\in64 (a0.tdiv a1)) (some (decide ((a0.tdiv a1).tmod 2=1)))
theorem cY {N:Nat}{a0:Int}{r:Bool}(h:bO N a0 a1=some r):Okc W8 112 [iV a0,iV a1] ([]) (fun u post=>u=.bool r/\post=[]):=by
 refine ce Tryz.func112 ?_;obtain ⟨q1,h⟩:=ae h;refine gE (F4 J J q1.1 q1.2.1 q1.2.2)<|ga (sm J J (by decide)) ?_;exact eN
def aY (a0:WU)(a1:Int):Option Bool:=
 (bO N a0.Has a1).bind fun y2=>some y2
theorem bI {N:Nat}{a0:WU}{r:Bool}(h:aY N a0 a1=some r):Okc W8 113 [(fW a0),iV a1] ([]) (fun u post=>u=.bool r/\post=[]):=by
 refine ce Tryz.func113 ?_;intro B1
 refine cR h (fun _ k=>cY k) fun y2 h=> ?_
 exact eN
def ku (a0:WU):Option Bool:=
 (aY N a0 1).bind fun y2=>(bif y2 then (some true) else ((aY N a0 2).bind fun y4=>some y4)).bind fun b3=>some b3
theorem yd {N:Nat}{a0:WU}{r:Bool}(h:ku N a0=some r):Okc W8 110 [(fW a0)] ([]) (fun u post=>u=.bool r/\post=[]):=by
 refine ce Tryz.func110 ?_;intro B1
 refine cR h (fun _ k=>bI k) fun y2 h=> ?_
 refine xc 3 8 5 h (fun _ g3 h=> ?_) fun b3 h=> ?_
 ·refine cR h (fun _ k=>bI k) fun y4 h=> ?_
  exact gY
 exact eY
def dB (a0:WU):Option Bool:=
 (aY N a0 4).bind fun y2=>(bif y2 then (some true) else ((aY N a0 8).bind fun y4=>some y4)).bind fun b3=>some b3
theorem oU {N:Nat}{a0:WU}{r:Bool}(h:dB N a0=some r):Okc W8 111 [(fW a0)] ([]) (fun u post=>u=.bool r/\post=[]):=by
 refine ce Tryz.func111 ?_;intro B1
 refine cR h (fun _ k=>bI k) fun y2 h=> ?_
 refine xc 3 8 5 h (fun _ g3 h=> ?_) fun b3 h=> ?_
 ·refine cR h (fun _ k=>bI k) fun y4 h=> ?_
  exact gY
 exact eY
def qU (N:Nat)(a0:WK)(a1:Bool):Option Bool:=
 bif !a1 then (some (decide (a0=(⟨0,0,⟨#[]⟩⟩:WK)))) else ((bif decide (a0.Za=0) then (some true) else (some (decide (a0.Za=7)))).bind fun b3=>some b3)
theorem DI {N:Nat}{a0:WK}{a1 r:Bool}(h:qU N a0 a1=some r):Okc W8 114 [(aE a0),.bool a1] ([]) (fun u post=>u=.bool r/\post=[]):=by
 refine ce Tryz.func114 ?_;intro B1;refine sY ?_;refine gH J h ?_ ?_<;>intro h
 ·refine ab ?_;refine ga (vX (x:=a0) (y:=(⟨0,0,⟨#[]⟩⟩:WK)) J J) ?_;exact eN
 refine ab ?_;refine gS 4 17 13 h ?_;intro b3 h;exact eY
def d7 (a0:WU):Option Bool:=
 (bif decide (a0.Has<0) then (some true) else (some (decide (63<a0.Has)))).bind fun b2=>(bif b2 then (some true) else (some (decide (a0.Zd<0)))).bind fun b3=>(bif b3 then (some true) else (some (decide (7<a0.Zd)))).bind fun b4=>(bif b4 then (some true) else ((ku N a0).bind fun y6=>(bif y6 then ((dB N a0).bind fun y8=>some y8) else (some false)).bind fun b7=>some b7)).bind fun b5=>bif b5 then (some false) else ((bO N a0.Zd 1).bind fun a6=>(bif a6 then ((aY N a0 2).bind fun a7=>some (!a7)) else (some false)).bind fun a8=>(bif a8 then (some true) else ((bO N a0.Zd 2).bind fun b0=>(bif b0 then ((aY N a0 16).bind fun b6=>some (!b6)) else (some false)).bind fun b9=>some b9)).bind fun c7=>(bif c7 then (some true) else ((bO N a0.Zd 4).bind fun c8=>(bif c8 then ((aY N a0 32).bind fun c9=>some (!c9)) else (some false)).bind fun d0=>some d0)).bind fun d1=>bif d1 then (some false) else ((aY N a0 1).bind fun d2=>(bif !d2 then (some (!decide (a0.Value=(⟨0,0,⟨#[]⟩⟩:WK)))) else (some false)).bind fun d3=>(bif d3 then (some true) else (some (decide (a0.Value.Za<0)))).bind fun d4=>(bif d4 then (some true) else (some (decide (7<a0.Value.Za)))).bind fun d6=>bif d6 then (some false) else ((aY N a0 4).bind fun e0=>(qU N a0.Zq e0).bind fun e1=>(bif e1 then ((aY N a0 8).bind fun e2=>(qU N a0.Zr e2).bind fun e3=>some e3) else (some false)).bind fun e4=>some e4)))
theorem Id {N:Nat}{a0:WU}{r:Bool}(h:d7 N a0=some r):Okc W8 70 [(fW a0)] ([]) (fun u post=>u=.bool r/\post=[]):=by
 refine ce Tryz.func70 ?_;intro B1;refine sY ?_;refine gS 4 10 6 h ?_;intro b2 h;refine ab ?_;refine gS 4 15 11 h ?_;intro b3 h;refine ab ?_;refine gS 4 20 16 h ?_;intro b4 h;refine ab ?_;obtain ⟨b5,d6,h⟩:=aa h;refine il 7 28 b5 ?_ ?_
 ·clear h;refine fX 21 J (fun g5=> ?_) (fun g5=> ?_)
  ·have h:=cN g5 d6;exact gY
  have h:=cO g5 d6;refine ab ?_;obtain ⟨y6,k,h⟩:=aa h;refine gU (oR (yd k)) (cL g5 J) ?_;refine ab ?_;obtain ⟨b7,e0,h⟩:=aa h;refine il 3 27 b7 ?_ ?_
  ·clear h;refine fX 24 J (fun g7=> ?_) (fun g7=> ?_)
   ·have h:=cN g7 e0;refine ab ?_;obtain ⟨y8,k,h⟩:=aa h;refine gU (oR (oU k)) (bW g7 J) ?_;exact gY
   have h:=cO g7 e0;exact gY
  exact gY
 refine dr h ?_ ?_<;>intro h
 ·exact eY
 refine sY ?_;obtain ⟨e8,k,h⟩:=aa h;refine Gl (oR (cY k)) ?_;obtain ⟨e1,a7,h⟩:=aa h;refine il 4 36 e1 ?_ ?_
 ·clear h;refine fX 32 J (fun c9=> ?_) (fun c9=> ?_)
  ·have h:=cN c9 a7;refine ab ?_;obtain ⟨e9,k,h⟩:=aa h;refine gU (oR (bI k)) (bW c9 J) ?_;exact gY
  have h:=cO c9 a7;exact gY
 refine ab ?_;obtain ⟨e2,a8,h⟩:=aa h;refine il 9 46 e2 ?_ ?_
 ·clear h;refine fX 37 J (fun d0=> ?_) (fun d0=> ?_)
  ·have h:=cN d0 a8;exact gY
  have h:=cO d0 a8;refine ab ?_;obtain ⟨f0,k,h⟩:=aa h;refine gU (oR (cY k)) (cL d0 J) ?_;refine ab ?_;obtain ⟨e3,b0,h⟩:=aa h;refine il 4 45 e3 ?_ ?_
  ·clear h;refine fX 41 J (fun d1=> ?_) (fun d1=> ?_)
   ·have h:=cN d1 b0;refine ab ?_;obtain ⟨f1,k,h⟩:=aa h;refine gU (oR (bI k)) (bW d1 J) ?_;exact gY
   have h:=cO d1 b0;exact gY
  exact gY
 refine ab ?_;obtain ⟨e4,b6,h⟩:=aa h;refine il 9 56 e4 ?_ ?_
 ·clear h;refine fX 47 J (fun d2=> ?_) (fun d2=> ?_)
  ·have h:=cN d2 b6;exact gY
  have h:=cO d2 b6;refine ab ?_;obtain ⟨f2,k,h⟩:=aa h;refine gU (oR (cY k)) (cL d2 J) ?_;refine ab ?_;obtain ⟨e5,b9,h⟩:=aa h;refine il 4 55 e5 ?_ ?_
  ·clear h;refine fX 51 J (fun d3=> ?_) (fun d3=> ?_)
   ·have h:=cN d3 b9;refine ab ?_;obtain ⟨f3,k,h⟩:=aa h;refine gU (oR (bI k)) (bW d3 J) ?_;exact gY
   have h:=cO d3 b9;exact gY
  exact gY
 refine dr h ?_ ?_<;>intro h
 ·exact eY
 refine sY ?_;obtain ⟨f4,k,h⟩:=aa h;refine Gl (oR (bI k)) ?_;obtain ⟨e6,c7,h⟩:=aa h;refine il 5 65 e6 ?_ ?_
 ·clear h;refine fX 60 J (fun d4=> ?_) (fun d4=> ?_)
  ·have h:=cN d4 c7;refine ab ?_;exact fb (Di (x:=a0.Value) (y:=(⟨0,0,⟨#[]⟩⟩:WK)) J J) J (bW d4 J) J<|gY
  have h:=cO d4 c7;exact gY
 refine ab ?_;refine gS 5 71 66 h ?_;intro f6 h;refine ab ?_;refine gS 5 77 72 h ?_;intro f9 h;refine dr h ?_ ?_<;>intro h
 ·exact eY
 refine ab ?_;refine dY [0,1,2] ?_;obtain ⟨g0,k,h⟩:=aa h;refine zD 3 J (oR (bI k)) ?_;rintro _ _ ⟨_,⟨rfl,rfl⟩,rfl⟩;refine ⟨_,ad _,ad _,?_⟩;obtain ⟨g1,k,h⟩:=aa h;refine zD 4 J (oR (DI k)) ?_;rintro _ _ ⟨_,⟨rfl,rfl⟩,rfl⟩;refine ⟨_,ad _,ad _,?_⟩;refine zY [5] ?_;obtain ⟨e7,c8,h⟩:=aa h;refine qz (fun l=>((((((l.setIfInBounds 6 true).setIfInBounds 7 true).setIfInBounds 8 true).setIfInBounds 9 true).setIfInBounds 10 true).setIfInBounds 11 true)) 1 89 e7 (fun rest=> ?_) ?_
 ·clear h;refine tq 83 J (fun a6=> ?_) (fun a6=> ?_)
  ·have h:=cN a6 c8;refine dH 6 J O (jD J Mn) (bW a6 J) J<|r7 7 J O (aC (us:=bS a0.Zr) 0 J J agg28.out J) (bW a6 J) J<|r7 8 J O (aC (us:=iy a0) 0 J J agg41.out J) (bW a6 J) J ?_;obtain ⟨g2,k,h⟩:=aa h;refine ny 9 J O (oR (bI k)) J (bW a6 J) J ?_;rintro _ _ ⟨_,⟨rfl,rfl⟩,rfl⟩;refine ⟨_,ad _,ad _,?_⟩;obtain ⟨g3,k,h⟩:=aa h;refine ny 10 J O (oR (DI k)) J (bW a6 J) J ?_;rintro _ _ ⟨_,⟨rfl,rfl⟩,rfl⟩;refine ⟨_,ad _,ad _,?_⟩;refine zE 11 J (eP a6 J J) ?_;obtain rfl:=bF h;exact ll rest (fj J (aj (aj (aj (aj (aj (aj bw J) J) J) J) J) J)) (ad _) (ad _)
  have h:=cO a6 c8;refine dG 6 J O (sk a6 J) J<|dG 7 J O (sk a6 J) J<|dG 8 J O (sk a6 J) J<|dG 9 J O (sk a6 J) J<|dG 10 J O (sk a6 J) J<|zE 11 J (fE a6 J J) ?_;obtain rfl:=bF h;exact ll rest (fj J (aj (aj (aj (aj (aj (aj bw J) J) J) J) J) J)) (ad _) (ad _)
 refine zX [12] ?_;exact eY
theorem E3 {r:Bool}: ∀v post,((fun (u:Value) (post:W6)=>u=.bool r/\post=[])) v post-> ∀c∈post,im c:=by
 rintro _ _ ⟨rfl,rfl⟩;exact aw
def Bv (N:Nat):Option Int:=
 some (-1)
def pZ (N:Nat)(a0:WL)(a1:WP):Nat->Int->Option Int
 |0,_=>none
 |m6+1,p7=>bif decide (p7<(a0.Zm.length:Int)) then ((au a0.Zm p7).bind fun x9=>bif decide (x9.Zg=a1) then (some p7) else (aG (in64 (p7+1)) ((pZ N a0 a1 m6) (p7+1)))) else (Bv N)
def ln (a0:WL)(a1:WP):Option Int:=
 pZ N a0 a1 N 0
theorem wr {N:Nat}{a0:WL}{a1:WP}{r:Int}(h:ln N a0 a1=some r):Okc W8 73 [.agg #[.bool a0.Ext,.bool a0.Zs,W A1 n1 c1,W A2 n2 c2],(eW a1)] ([aX A1 n1 c1 a0.Zk,ux A2 n2 c2 a0.Zm]) (fun u post=>u=iV r/\post=[]):=by
 refine ce Tryz.func73 ?_;intro B3
 refine cn fun B4=> ?_
 refine ao (fun s L=>Bv N=some r/\s=[(4,iV 0)]/\L=[]) ?_ ?_
 ·refine ab ?_;refine lK (fun m s L=> ∃(p7:Int),pZ N a0 a1 m p7=some r/\s=[(2,pV B3 0),(3,pV B4 0),(4,iV 0),(5,iV p7)]/\L=[aX A1 n1 c1 a0.Zk,ux A2 n2 c2 a0.Zm,ah B3 35 (lm a0 A1 n1 c1 A2 n2 c2),ah B4 39 (ls a1)]) N ?_;rintro m6 _ _ ⟨p7,h,rfl,rfl⟩;rw [pZ.eq_2] at h;refine sZ ?_;refine gH J h ?_ ?_<;>intro h
  ·refine sY ?_;refine dY [] ?_;refine ab ?_;obtain ⟨x9,a6,a7,a8,h⟩:=bz h;refine ab ?_;refine zR 4 J (se 1 J bi J (toNat_lt a6 a7) Iz) ?_;refine ab ?_;refine zE 7 J (ul (x:=x9.Zg) (y:=a1) J J) ?_;refine dr h ?_ ?_<;>intro h
   ·exact eY
   refine ab ?_;obtain ⟨b0,h⟩:=ae h;exact lY
  exact jY
 rintro _ _ ⟨h,rfl,rfl⟩;exact eY
theorem E1 {r:Int}: ∀v post,((fun (u:Value) (post:W6)=>u=iV r/\post=[])) v post-> ∀c∈post,im c:=by
 rintro _ _ ⟨rfl,rfl⟩;exact aw
def ww (N:Nat)(a0:WL)(a1:WP)(a6:Int):Option (WJ×Bool):=
 some ((⟨a1,a6,(⟨3,(a0.Zk.length:Int),⟨#[]⟩⟩:WK),(⟨0,0,⟨#[]⟩⟩:WK),(⟨0,0,⟨#[]⟩⟩:WK)⟩:WJ),true)
def nG (a0:WL)(a1:WP):Option (WJ×Bool):=
 (bN N).bind fun y6=>bif decide (a1=y6) then (bif !a0.Zs then (ww N a0 a1 1) else (ww N a0 a1 0)) else ((bif decide (a1.Za=0) then (some (a1.S.toList==(⟨#[]⟩:ByteArray).toList)) else (some false)).bind fun b12=>(bif b12 then (some (decide (0<=a1.N))) else (some false)).bind fun a7=>(bif a7 then (some (decide (a1.N<(a0.Zk.length:Int)))) else (some false)).bind fun a8=>(bif a8 then ((au a0.Zk a1.N).bind fun b0=>some (!decide (b0.Za=8))) else (some false)).bind fun b5=>bif b5 then ((au a0.Zk a1.N).bind fun b6=>some ((⟨a1,7,b6,(⟨0,0,⟨#[]⟩⟩:WK),(⟨0,0,⟨#[]⟩⟩:WK)⟩:WJ),true)) else ((ln N a0 a1).bind fun a6=>bif decide (a6<0) then (some ((⟨(⟨0,0,⟨#[]⟩⟩:WP),0,(⟨0,0,⟨#[]⟩⟩:WK),(⟨0,0,⟨#[]⟩⟩:WK),(⟨0,0,⟨#[]⟩⟩:WK)⟩:WJ),false)) else ((au a0.Zm a6).bind fun b7=>some (b7,true))))
theorem wv {N:Nat}{a0:WL}{a1:WP}{r:WJ×Bool}(h:nG N a0 a1=some r):Okc W8 56 [.agg #[.bool a0.Ext,.bool a0.Zs,W A1 n1 c1,W A2 n2 c2],(eW a1)] ([aX A1 n1 c1 a0.Zk,ux A2 n2 c2 a0.Zm]) (fun u post=>u=.tuple #[(cG r.1),.bool r.2]/\post=[]):=by
 refine ce Tryz.func56 ?_;intro B3
 refine cn fun B4=> ?_
 intro B5;refine ab ?_;refine aA<|dY [] ?_;refine ab ?_;obtain ⟨y6,k,h⟩:=aa h;refine zD 1 J (oR (iT k)) ?_;rintro _ _ ⟨_,⟨rfl,rfl⟩,rfl⟩;refine ⟨_,ad _,ad _,?_⟩;refine zE 2 J (ul (x:=a1) (y:=y6) J J) ?_;refine dr h ?_ ?_<;>intro h
 ·refine cn fun B8=> ?_
  refine ao (fun s L=> ∃a7,ww N a0 a1 a7=some r/\s=[(2,pV B3 0),(3,pV B4 0),(4,pV B5 0),(5,.bool false),(6,pV B8 0)]/\L=[aX A1 n1 c1 a0.Zk,ux A2 n2 c2 a0.Zm,ah B3 35 (lm a0 A1 n1 c1 A2 n2 c2),ah B4 39 (ls a1),ah B5 50 [iV 0,iV 0,.string (⟨#[]⟩),iV 0,iV 0,iV 0,.string (⟨#[]⟩),iV 0,iV 0,.string (⟨#[]⟩),iV 0,iV 0,.string (⟨#[]⟩)],ah B8 50 [iV a1.Za,iV a1.N,.string a1.S,iV a7,iV 3,iV (a0.Zk.length:Int),.string (⟨#[]⟩),iV 0,iV 0,.string (⟨#[]⟩),iV 0,iV 0,.string (⟨#[]⟩)]]) ?_ ?_
  ·refine dr h ?_ ?_<;>intro h
   ·exact jY
   exact jY
  rintro _ _ ⟨a7,h,rfl,rfl⟩;exact eY
 refine sY ?_
 refine oo 4 29 25 h (fun _ b5 h=> ?_) fun b12 h=> ?_
 ·refine ab ?_;exact fb (rV J J) J (bW b5 J) J<|gY
 refine ab ?_;refine gS 4 34 30 h ?_;intro d2 h;refine ab ?_;refine gS 7 42 35 h ?_;intro d3 h;refine ab ?_
 refine oo 9 52 43 h (fun _ b6 h=> ?_) fun d4 h=> ?_
 ·refine ab ?_;obtain ⟨d6,a8,b0,b7,h⟩:=bz h;refine ab ?_;exact r8 (se 3 J bi J (toNat_lt a8 b0) ta) J (bW b6 J) J<|gY
 refine dr h ?_ ?_<;>intro h
 ·refine dY [] ?_;refine ab ?_;obtain ⟨a6,b9,c7,c8,h⟩:=bz h;refine ab ?_;refine gN 8 J O O (am (us:=[iV a1.Za,iV a1.N,.string a1.S,iV 7,iV a6.Za,iV a6.N,.string a6.S,iV 0,iV 0,.string (⟨#[]⟩),iV 0,iV 0,.string (⟨#[]⟩)]) (cs':=[iV a1.Za,iV a1.N,.string a1.S,iV 7,iV a6.Za,iV a6.N,.string a6.S,iV 0,iV 0,.string (⟨#[]⟩),iV 0,iV 0,.string (⟨#[]⟩)]) 0 J J J J size50.out J J J) ?_;rintro _ _ rfl;exact eY
 refine cR h (fun _ k=>wr k) fun e0 h=> ?_
 refine sZ ?_;refine gH J h ?_ ?_<;>intro h
 ·exact eY
 refine ab ?_;obtain ⟨e1,c9,d0,d1,h⟩:=bz h;exact eY
theorem Bw {r:WJ×Bool}: ∀v post,((fun (u:Value) (post:W6)=>u=.tuple #[(cG r.1),.bool r.2]/\post=[])) v post-> ∀c∈post,im c:=by
 rintro _ _ ⟨rfl,rfl⟩;exact aw
def sO (N:Nat)(a0:WU)(a1:WP)(a6:Int):Option WJ:=
 some (⟨a1,a6,a0.Value,(⟨0,0,⟨#[]⟩⟩:WK),(⟨0,0,⟨#[]⟩⟩:WK)⟩:WJ)
def sP (a0:WU)(a1:WP)(p13:Int):Option WJ:=
 (dB N a0).bind fun a6=>bif a6 then (aG (in64 (p13+8)) (some (⟨a1,p13+8,(⟨0,0,⟨#[]⟩⟩:WK),a0.Zq,a0.Zr⟩:WJ))) else ((aY N a0 2).bind fun a7=>(bif a7 then ((bO N a0.Zd 1).bind fun a8=>some a8) else (some false)).bind fun b0=>bif b0 then (aG (in64 (p13+1)) (sO N a0 a1 (p13+1))) else (sO N a0 a1 p13))
def uM (a0:WU)(a1:WP)(p6:Int):Option WJ:=
 (aY N a0 32).bind fun a6=>(bif a6 then ((bO N a0.Zd 4).bind fun a7=>some a7) else (some false)).bind fun a8=>bif a8 then (aG (in64 (p6+4)) (sP N a0 a1 (p6+4))) else (sP N a0 a1 p6)
def wA (a0:WU)(a1:WP):Option WJ:=
 (aY N a0 16).bind fun y7=>(bif y7 then ((bO N a0.Zd 2).bind fun y9=>some y9) else (some false)).bind fun b8=>bif b8 then (aG (in64 (0+2)) (uM N a0 a1 (0+2))) else (uM N a0 a1 0)
theorem Jl {N:Nat}{a0:WU}{a1:WP}{r:WJ}(h:wA N a0 a1=some r):Okc W8 115 [(fW a0),(eW a1)] ([]) (fun u post=>u=(cG r)/\post=[]):=by
 refine ce Tryz.func115 ?_;intro B1
 refine cn fun B2=> ?_
 intro B3
 refine cn fun B4=> ?_
 refine ao (fun s L=> ∃p6,uM N a0 a1 p6=some r/\s=[(2,pV B1 0),(4,pV B3 0),(5,pV B4 0)]/\L=[ah B1 41 (iy a0),ah B3 50 [iV 0,iV 0,.string (⟨#[]⟩),iV 0,iV 0,iV 0,.string (⟨#[]⟩),iV 0,iV 0,.string (⟨#[]⟩),iV 0,iV 0,.string (⟨#[]⟩)],ah B4 50 [iV a1.Za,iV a1.N,.string a1.S,iV p6,iV 0,iV 0,.string (⟨#[]⟩),iV 0,iV 0,.string (⟨#[]⟩),iV 0,iV 0,.string (⟨#[]⟩)]]) ?_ ?_
 ·refine cR h (fun _ k=>bI k) fun y7 h=> ?_
  refine oo 4 14 10 h (fun _ g8 h=> ?_) fun b8 h=> ?_
  ·refine cR h (fun _ k=>cY k) fun y9 h=> ?_
   exact gY
  refine dr h ?_ ?_<;>intro h
  ·refine ab ?_;obtain ⟨a7,h⟩:=ae h;exact jY
  exact jY
 rintro _ _ ⟨p6,h,rfl,rfl⟩;refine ao (fun s L=> ∃p13,sP N a0 a1 p13=some r/\s=[(2,pV B1 0),(4,pV B3 0),(5,pV B4 0)]/\L=[ah B1 41 (iy a0),ah B3 50 [iV 0,iV 0,.string (⟨#[]⟩),iV 0,iV 0,iV 0,.string (⟨#[]⟩),iV 0,iV 0,.string (⟨#[]⟩),iV 0,iV 0,.string (⟨#[]⟩)],ah B4 50 [iV a1.Za,iV a1.N,.string a1.S,iV p13,iV 0,iV 0,.string (⟨#[]⟩),iV 0,iV 0,.string (⟨#[]⟩),iV 0,iV 0,.string (⟨#[]⟩)]]) ?_ ?_
 ·refine cR h (fun _ k=>bI k) fun a8 h=> ?_
  refine oo 4 25 21 h (fun _ b0 h=> ?_) fun b5 h=> ?_
  ·refine cR h (fun _ k=>cY k) fun b6 h=> ?_
   exact gY
  refine dr h ?_ ?_<;>intro h
  ·refine ab ?_;obtain ⟨b7,h⟩:=ae h;exact jY
  exact jY
 rintro _ _ ⟨p13,h,rfl,rfl⟩;refine sZ ?_
 refine cR h (fun _ k=>oU k) fun b9 h=> ?_
 refine gH J h ?_ ?_<;>intro h
 ·refine ab ?_;obtain ⟨c7,h⟩:=ae h;exact eY
 refine ab ?_;refine ao (fun s L=> ∃a6,sO N a0 a1 a6=some r/\s=[(2,pV B1 0),(4,pV B3 0),(5,pV B4 0)]/\L=[ah B1 41 (iy a0),ah B3 50 [iV 0,iV 0,.string (⟨#[]⟩),iV 0,iV 0,iV 0,.string (⟨#[]⟩),iV 0,iV 0,.string (⟨#[]⟩),iV 0,iV 0,.string (⟨#[]⟩)],ah B4 50 [iV a1.Za,iV a1.N,.string a1.S,iV a6,iV 0,iV 0,.string (⟨#[]⟩),iV 0,iV 0,.string (⟨#[]⟩),iV 0,iV 0,.string (⟨#[]⟩)]]) ?_ ?_
 ·refine cR h (fun _ k=>bI k) fun c8 h=> ?_
  refine oo 4 49 45 h (fun _ c9 h=> ?_) fun d0 h=> ?_
  ·refine cR h (fun _ k=>cY k) fun d1 h=> ?_
   exact gY
  refine dr h ?_ ?_<;>intro h
  ·refine ab ?_;obtain ⟨d2,h⟩:=ae h;exact jY
  exact jY
 rintro _ _ ⟨a6,h,rfl,rfl⟩;exact eY
def pB (N:Nat)(a0 a1:WK):Option Bool:=
 (bif decide (a0.Za=a1.Za) then (some (decide (a0.N=a1.N))) else (some false)).bind fun b3=>(bif b3 then (some (a0.S.toList==a1.S.toList)) else (some false)).bind fun b4=>some b4
theorem wB {N:Nat}{a0 a1:WK}{r:Bool}(h:pB N a0 a1=some r):Okc W8 153 [(aE a0),(aE a1)] ([]) (fun u post=>u=.bool r/\post=[]):=by
 refine ce Tryz.func153 ?_;intro B1
 refine cn fun B2=> ?_
 refine gS 6 16 10 h ?_;intro b3 h;refine ab ?_
 refine oo 6 23 17 h (fun _ g4 h=> ?_) fun b4 h=> ?_
 ·refine ab ?_;exact fb (rV J J) J (bW g4 J) J<|gY
 exact eY
def pj (a0:WJ)(a1:WU):Option Bool:=
 (aY N a1 32).bind fun y3=>(bif y3 then ((bO N a1.Zd 4).bind fun y5=>some y5) else (some false)).bind fun b4=>bif b4 then (some true) else ((aY N a1 16).bind fun y7=>(bif y7 then ((bO N a1.Zd 2).bind fun y9=>(bO N a0.Zd 2).bind fun a6=>some (!(y9==a6))) else (some false)).bind fun b8=>bif b8 then (some true) else ((bO N a0.Zd 8).bind fun a7=>bif a7 then ((ku N a1).bind fun a8=>(bif a8 then (some true) else ((aY N a1 4).bind fun b0=>(bif b0 then ((pB N a1.Zq a0.Zq).bind fun b5=>some (!b5)) else (some false)).bind fun b6=>some b6)).bind fun b7=>(bif b7 then (some true) else ((aY N a1 8).bind fun b9=>(bif b9 then ((pB N a1.Zr a0.Zr).bind fun c7=>some (!c7)) else (some false)).bind fun c8=>some c8)).bind fun c9=>some c9) else ((dB N a1).bind fun d0=>bif d0 then (some true) else ((bO N a0.Zd 1).bind fun d1=>bif d1 then (some false) else ((aY N a1 2).bind fun d2=>(bif d2 then ((bO N a1.Zd 1).bind fun d3=>some d3) else (some false)).bind fun d4=>(bif d4 then (some true) else ((aY N a1 1).bind fun d6=>(bif d6 then ((pB N a1.Value a0.Value).bind fun e0=>some (!e0)) else (some false)).bind fun b32=>some b32)).bind fun e1=>some e1)))))
theorem Jk {N:Nat}{a0:WJ}{a1:WU}{r:Bool}(h:pj N a0 a1=some r):Okc W8 116 [(cG a0),(fW a1)] ([]) (fun u post=>u=.bool r/\post=[]):=by
 refine ce Tryz.func116 ?_;intro B1
 refine cn fun B2=> ?_
 refine sZ ?_;obtain ⟨y3,k,h⟩:=aa h;refine Gl (oR (bI k)) ?_;obtain ⟨b4,d3,h⟩:=aa h;refine il 4 11 b4 ?_ ?_
 ·clear h;refine fX 7 J (fun g4=> ?_) (fun g4=> ?_)
  ·have h:=cN g4 d3;refine ab ?_;obtain ⟨y5,k,h⟩:=aa h;refine gU (oR (cY k)) (bW g4 J) ?_;exact gY
  have h:=cO g4 d3;exact gY
 refine dr h ?_ ?_<;>intro h
 ·exact eY
 refine ab ?_;refine aA<|dY [0] ?_;obtain ⟨y7,k,h⟩:=aa h;refine zD 1 J (oR (bI k)) ?_;rintro _ _ ⟨_,⟨rfl,rfl⟩,rfl⟩;refine ⟨_,ad _,ad _,?_⟩;refine zY [2] ?_;obtain ⟨b8,d4,h⟩:=aa h;refine qz (fun l=>((((((((l.setIfInBounds 3 true).setIfInBounds 4 true).setIfInBounds 6 true).setIfInBounds 7 true).setIfInBounds 5 true).setIfInBounds 8 true).setIfInBounds 9 true).setIfInBounds 10 true)) 0 22 b8 (fun rest=> ?_) ?_
 ·clear h;refine tq 14 J (fun g8=> ?_) (fun g8=> ?_)
  ·have h:=cN g8 d4;refine dH 3 J O (jD J Mo) (bW g8 J) J<|r7 4 J O (bM 0 J J rR J) (bW g8 J) J<|dH 6 J O (jD J Mm) (bW g8 J) J<|r7 7 J O (bM 1 J J rR J) (bW g8 J) J ?_;obtain ⟨y9,k,h⟩:=aa h;refine ny 5 J O (oR (cY k)) J (bW g8 J) J ?_;rintro _ _ ⟨_,⟨rfl,rfl⟩,rfl⟩;refine ⟨_,ad _,ad _,?_⟩;obtain ⟨e5,k,h⟩:=aa h;refine ny 8 J O (oR (cY k)) J (bW g8 J) J ?_;rintro _ _ ⟨_,⟨rfl,rfl⟩,rfl⟩;refine ⟨_,ad _,ad _,?_⟩;refine dH 9 J O (Tx J J Wt) (bW g8 J) J<|zE 10 J (eP g8 J J) ?_;obtain rfl:=bF h;exact ll rest (fj J (aj (aj (aj (aj (aj (aj (aj (aj bw J) J) J) J) J) J) J) J)) (ad _) (ad _)
  have h:=cO g8 d4;refine dG 3 J O (sk g8 J) J<|dG 4 J O (sk g8 J) J<|dG 6 J O (sk g8 J) J<|dG 7 J O (sk g8 J) J<|dG 5 J O (sk g8 J) J<|dG 8 J O (sk g8 J) J<|dG 9 J O (sk g8 J) J<|zE 10 J (fE g8 J J) ?_;obtain rfl:=bF h;exact ll rest (fj J (aj (aj (aj (aj (aj (aj (aj (aj bw J) J) J) J) J) J) J) J)) (ad _) (ad _)
 refine bn O<|dr h (fun h=> ?_) (fun h=> ?_)
 ·exact eY
 refine sY ?_;obtain ⟨e6,k,h⟩:=aa h;refine Gl (oR (cY k)) ?_;refine gH J h ?_ ?_<;>intro h
 ·refine ab ?_;obtain ⟨e7,k,h⟩:=aa h;refine Gl (oR (yd k)) ?_;obtain ⟨d6,a6,h⟩:=aa h;refine il 11 39 d6 ?_ ?_
  ·clear h;refine fX 28 J (fun b9=> ?_) (fun b9=> ?_)
   ·have h:=cN b9 a6;exact gY
   have h:=cO b9 a6;refine ab ?_;obtain ⟨e8,k,h⟩:=aa h;refine gU (oR (bI k)) (cL b9 J) ?_;refine ab ?_;obtain ⟨e0,a7,h⟩:=aa h;refine il 7 38 e0 ?_ ?_
   ·clear h;refine fX 31 J (fun c7=> ?_) (fun c7=> ?_)
    ·have h:=cN c7 a7;refine ab ?_;obtain ⟨e9,k,h⟩:=aa h;refine gU (oR (wB k)) (bW c7 J) ?_;exact gY
    have h:=cO c7 a7;exact gY
   exact gY
  refine ab ?_;obtain ⟨e1,a8,h⟩:=aa h;refine il 11 51 e1 ?_ ?_
  ·clear h;refine fX 40 J (fun c8=> ?_) (fun c8=> ?_)
   ·have h:=cN c8 a8;exact gY
   have h:=cO c8 a8;refine ab ?_;obtain ⟨f0,k,h⟩:=aa h;refine gU (oR (bI k)) (cL c8 J) ?_;refine ab ?_;obtain ⟨e2,b0,h⟩:=aa h;refine il 7 50 e2 ?_ ?_
   ·clear h;refine fX 43 J (fun c9=> ?_) (fun c9=> ?_)
    ·have h:=cN c9 b0;refine ab ?_;obtain ⟨f1,k,h⟩:=aa h;refine gU (oR (wB k)) (bW c9 J) ?_;exact gY
    have h:=cO c9 b0;exact gY
   exact gY
  exact eY
 refine sY ?_;obtain ⟨f2,k,h⟩:=aa h;refine Gl (oR (oU k)) ?_;refine gH J h ?_ ?_<;>intro h
 ·exact eY
 refine sY ?_;obtain ⟨f3,k,h⟩:=aa h;refine Gl (oR (cY k)) ?_;refine gH J h ?_ ?_<;>intro h
 ·exact eY
 refine ab ?_;obtain ⟨f4,k,h⟩:=aa h;refine Gl (oR (bI k)) ?_;obtain ⟨e3,b5,h⟩:=aa h;refine il 4 63 e3 ?_ ?_
 ·clear h;refine fX 59 J (fun d0=> ?_) (fun d0=> ?_)
  ·have h:=cN d0 b5;refine ab ?_;obtain ⟨f6,k,h⟩:=aa h;refine gU (oR (cY k)) (bW d0 J) ?_;exact gY
  have h:=cO d0 b5;exact gY
 refine ab ?_;obtain ⟨e4,b6,h⟩:=aa h;refine il 11 75 e4 ?_ ?_
 ·clear h;refine fX 64 J (fun d1=> ?_) (fun d1=> ?_)
  ·have h:=cN d1 b6;exact gY
  have h:=cO d1 b6;refine ab ?_;obtain ⟨f9,k,h⟩:=aa h;refine gU (oR (bI k)) (cL d1 J) ?_;refine ab ?_;obtain ⟨b32,b7,h⟩:=aa h;refine il 7 74 b32 ?_ ?_
  ·clear h;refine fX 67 J (fun d2=> ?_) (fun d2=> ?_)
   ·have h:=cN d2 b7;refine ab ?_;obtain ⟨g0,k,h⟩:=aa h;refine gU (oR (wB k)) (bW d2 J) ?_;exact gY
   have h:=cO d2 b7;exact gY
  exact gY
 exact eY
def uL (N:Nat)(a2:Int)(p3:Bool):Option Int:=
 bif p3 then (some a2) else (some 0)
def lQ (a0:WU)(a1 a2:Int)(a3:Bool):Option Int:=
 (aY N a0 a1).bind fun y4=>bif y4 then ((bO N a0.Zd a2).bind fun y6=>uL N a2 y6) else (uL N a2 a3)
theorem ye {N:Nat}{a0:WU}{a2:Int}{a3:Bool}{r:Int}(h:lQ N a0 a1 a2 a3=some r):Okc W8 117 [(fW a0),iV a1,iV a2,.bool a3] ([]) (fun u post=>u=iV r/\post=[]):=by
 refine ce Tryz.func117 ?_;intro B1;refine ab ?_;refine ao (fun s L=> ∃p3,uL N a2 p3=some r/\s=[(2,iV a2),(8,iV 0),(9,.bool p3)]/\L=[]) ?_ ?_
 ·refine cR h (fun _ k=>bI k) fun y4 h=> ?_
  refine gH J h ?_ ?_<;>intro h
  ·refine cR h (fun _ k=>cY k) fun y6 h=> ?_
   exact jN
  exact jY
 rintro _ _ ⟨p3,h,rfl,rfl⟩;refine sZ ?_;refine gH J h ?_ ?_<;>intro h
 ·exact eY
 exact eY
def ni (N:Nat)(a0:Bool)(a1:WK)(a2:Bool)(a3:WK):Option WK:=
 bif a0 then (some a1) else (bif a2 then (some a3) else (some (⟨0,0,⟨#[]⟩⟩:WK)))
theorem yc {N:Nat}{a0:Bool}{a1:WK}{a2:Bool}{a3 r:WK}(h:ni N a0 a1 a2 a3=some r):Okc W8 118 [.bool a0,(aE a1),.bool a2,(aE a3)] ([]) (fun u post=>u=(aE r)/\post=[]):=by
 refine ce Tryz.func118 ?_;intro B1
 refine cn fun B2=> ?_
 intro B3;refine sY ?_;refine gH J h ?_ ?_<;>intro h
 ·exact eY
 refine sY ?_;refine gH J h ?_ ?_<;>intro h
 ·exact eY
 exact eY
def lp (a0:WJ)(a1 a2:Bool)(a3:WP)(a4:WU):Option (WJ×Bool):=
 bif !a1 then (bif !a2 then (some ((⟨(⟨0,0,⟨#[]⟩⟩:WP),0,(⟨0,0,⟨#[]⟩⟩:WK),(⟨0,0,⟨#[]⟩⟩:WK),(⟨0,0,⟨#[]⟩⟩:WK)⟩:WJ),false)) else ((wA N a4 a3).bind fun y7=>some (y7,true))) else ((bO N a0.Zd 4).bind fun y8=>(bif !y8 then ((pj N a0 a4).bind fun b5=>some b5) else (some false)).bind fun b9=>bif b9 then (some ((⟨(⟨0,0,⟨#[]⟩⟩:WP),0,(⟨0,0,⟨#[]⟩⟩:WK),(⟨0,0,⟨#[]⟩⟩:WK),(⟨0,0,⟨#[]⟩⟩:WK)⟩:WJ),false)) else ((bO N a0.Zd 2).bind fun b6=>(lQ N a4 16 2 b6).bind fun a6=>(bO N a0.Zd 4).bind fun b7=>(lQ N a4 32 4 b7).bind fun a7=>aG (in64 (a6+a7)) ((bO N a0.Zd 8).bind fun a8=>(dB N a4).bind fun c7=>(bif c7 then (some true) else ((bif a8 then ((ku N a4).bind fun c8=>some (!c8)) else (some false)).bind fun c9=>some c9)).bind fun d0=>bif d0 then (aG (in64 ((a6+a7)+8)) ((aY N a4 4).bind fun d1=>(ni N d1 a4.Zq a8 a0.Zq).bind fun d2=>(aY N a4 8).bind fun d3=>(ni N d3 a4.Zr a8 a0.Zr).bind fun d4=>some ((⟨a3,(a6+a7)+8,(⟨0,0,⟨#[]⟩⟩:WK),d2,d4⟩:WJ),true))) else ((bif !a8 then ((bO N a0.Zd 1).bind fun d6=>some d6) else (some false)).bind fun e0=>(lQ N a4 2 1 e0).bind fun b0=>aG (in64 ((a6+a7)+b0)) ((aY N a4 1).bind fun e1=>(ni N e1 a4.Value (!a8) a0.Value).bind fun e2=>some ((⟨a3,(a6+a7)+b0,e2,(⟨0,0,⟨#[]⟩⟩:WK),(⟨0,0,⟨#[]⟩⟩:WK)⟩:WJ),true))))))
theorem Bz {N:Nat}{a0:WJ}{a1 a2:Bool}{a3:WP}{r:WJ×Bool}(h:lp N a0 a1 a2 a3 a4=some r):Okc W8 72 [(cG a0),.bool a1,.bool a2,(eW a3),(fW a4)] ([]) (fun u post=>u=.tuple #[(cG r.1),.bool r.2]/\post=[]):=by
 refine ce Tryz.func72 ?_;intro B1
 refine cn fun B2=> ?_
 intro B3
 refine cn fun B4=> ?_
 refine sZ ?_;refine gH J h ?_ ?_<;>intro h
 ·refine sZ ?_;refine gH J h ?_ ?_<;>intro h
  ·exact eY
  refine cR h (fun _ k=>Jl k) fun y7 h=> ?_
  exact eN
 refine sY ?_
 refine cR h (fun _ k=>cY k) fun y8 h=> ?_
 refine oo 4 30 26 h (fun _ g9 h=> ?_) fun b9 h=> ?_
 ·refine cR h (fun _ k=>Jk k) fun c9 h=> ?_
  exact gY
 refine dr h ?_ ?_<;>intro h
 ·exact eY
 refine cn fun d0=> ?_
 refine dY [0,1,2,5,6,7] ?_;obtain ⟨d1,k,h⟩:=aa h;refine zD 3 J (oR (cY k)) ?_;rintro _ _ ⟨_,⟨rfl,rfl⟩,rfl⟩;refine ⟨_,ad _,ad _,?_⟩;obtain ⟨a7,k,h⟩:=aa h;refine zD 4 J (oR (ye k)) ?_;rintro _ _ ⟨_,⟨rfl,rfl⟩,rfl⟩;refine ⟨_,ad _,ad _,?_⟩;obtain ⟨d2,k,h⟩:=aa h;refine zD 8 J (oR (cY k)) ?_;rintro _ _ ⟨_,⟨rfl,rfl⟩,rfl⟩;refine ⟨_,ad _,ad _,?_⟩;obtain ⟨a8,k,h⟩:=aa h;refine zD 9 J (oR (ye k)) ?_;rintro _ _ ⟨_,⟨rfl,rfl⟩,rfl⟩;refine ⟨_,ad _,ad _,?_⟩;obtain ⟨c7,h⟩:=ae h;refine zE 10 J (iN J J c7.1 c7.2) ?_;refine zY [11] ?_;refine gN 12 J O O (am (us:=[iV (a7+a8)]) (cs':=[iV a3.Za,iV a3.N,.string a3.S,iV (a7+a8),iV 0,iV 0,.string (⟨#[]⟩),iV 0,iV 0,.string (⟨#[]⟩),iV 0,iV 0,.string (⟨#[]⟩)]) 0 J J J J size3.out J J J) ?_;rintro _ _ rfl
 refine bn O<|cR h (fun _ k=>cY k) fun d3 h=> ?_
 refine sZ ?_
 refine cR h (fun _ k=>oU k) fun d4 h=> ?_
 refine xc 7 58 51 h (fun _ d6 h=> ?_) fun e0 h=> ?_
 ·refine ab ?_
  refine oo 4 57 53 h (fun _ e1 h=> ?_) fun e2 h=> ?_
  ·refine cR h (fun _ k=>yd k) fun e3 h=> ?_
   exact gY
  exact gY
 refine dr h ?_ ?_<;>intro h
 ·refine ab ?_;obtain ⟨e4,h⟩:=ae h;refine ab ?_;refine dY [0,2,3,4,5,6] ?_;obtain ⟨e5,k,h⟩:=aa h;refine zD 1 J (oR (bI k)) ?_;rintro _ _ ⟨_,⟨rfl,rfl⟩,rfl⟩;refine ⟨_,ad _,ad _,?_⟩;obtain ⟨a6,k,h⟩:=aa h;refine zD 7 J (oR (yc k)) ?_;rintro _ _ ⟨_,⟨rfl,rfl⟩,rfl⟩;refine ⟨_,ad _,ad _,?_⟩;refine zY [8] ?_;refine gN 9 J O O (am (us:=[iV a6.Za,iV a6.N,.string a6.S]) (cs':=[iV a3.Za,iV a3.N,.string a3.S,iV ((a7+a8)+8),iV 0,iV 0,.string (⟨#[]⟩),iV a6.Za,iV a6.N,.string a6.S,iV 0,iV 0,.string (⟨#[]⟩)]) 0 J J J J size28.out J J J) ?_;rintro _ _ rfl;refine bn O<|ab ?_;refine dY [0,2,3,4,5,6] ?_;obtain ⟨e6,k,h⟩:=aa h;refine zD 1 J (oR (bI k)) ?_;rintro _ _ ⟨_,⟨rfl,rfl⟩,rfl⟩;refine ⟨_,ad _,ad _,?_⟩;obtain ⟨b0,k,h⟩:=aa h;refine zD 7 J (oR (yc k)) ?_;rintro _ _ ⟨_,⟨rfl,rfl⟩,rfl⟩;refine ⟨_,ad _,ad _,?_⟩;refine zY [8] ?_;refine gN 9 J O O (am (us:=[iV b0.Za,iV b0.N,.string b0.S]) (cs':=[iV a3.Za,iV a3.N,.string a3.S,iV ((a7+a8)+8),iV 0,iV 0,.string (⟨#[]⟩),iV a6.Za,iV a6.N,.string a6.S,iV b0.Za,iV b0.N,.string b0.S]) 0 J J J J size28.out J J J) ?_;rintro _ _ rfl;exact bn O<|eY
 refine ab ?_;refine dY [0,1,2,3,4,5] ?_
 refine yJ [6,7,8,9] 4 87 91 h (fun _ b6 h rest=> ?_) (fun _ b6 h rest=> ?_) fun e7 h=> ?_
 ·refine yY [6,7] ?_;obtain ⟨e8,k,h⟩:=aa h;refine ny 8 J O (oR (cY k)) J (bW b6 J) J ?_;rintro _ _ ⟨_,⟨rfl,rfl⟩,rfl⟩;refine ⟨_,ad _,ad _,?_⟩;refine zE 9 J (eP b6 J J) ?_;exact yS rest h
 ·refine yY [6,7,8,9] ?_;exact yS rest h
 obtain ⟨b7,k,h⟩:=aa h;refine zD 10 J (oR (ye k)) ?_;rintro _ _ ⟨_,⟨rfl,rfl⟩,rfl⟩;refine ⟨_,ad _,ad _,?_⟩;obtain ⟨c8,h⟩:=ae h;refine zE 11 J (iN J J c8.1 c8.2) ?_;refine zY [12] ?_;refine gN 13 J O O (am (us:=[iV ((a7+a8)+b7)]) (cs':=[iV a3.Za,iV a3.N,.string a3.S,iV ((a7+a8)+b7),iV 0,iV 0,.string (⟨#[]⟩),iV 0,iV 0,.string (⟨#[]⟩),iV 0,iV 0,.string (⟨#[]⟩)]) 0 J J J J size3.out J J J) ?_;rintro _ _ rfl;refine bn O<|ab ?_;refine dY [0,2,3,4,5,6,7] ?_;obtain ⟨e9,k,h⟩:=aa h;refine zD 1 J (oR (bI k)) ?_;rintro _ _ ⟨_,⟨rfl,rfl⟩,rfl⟩;refine ⟨_,ad _,ad _,?_⟩;obtain ⟨b5,k,h⟩:=aa h;refine zD 8 J (oR (yc k)) ?_;rintro _ _ ⟨_,⟨rfl,rfl⟩,rfl⟩;refine ⟨_,ad _,ad _,?_⟩;refine zY [9] ?_;refine gN 10 J O O (am (us:=[iV b5.Za,iV b5.N,.string b5.S]) (cs':=[iV a3.Za,iV a3.N,.string a3.S,iV ((a7+a8)+b7),iV b5.Za,iV b5.N,.string b5.S,iV 0,iV 0,.string (⟨#[]⟩),iV 0,iV 0,.string (⟨#[]⟩)]) 0 J J J J size28.out J J J) ?_;rintro _ _ rfl;exact bn O<|eY
theorem E4 {r:WJ×Bool}: ∀v post,((fun (u:Value) (post:W6)=>u=.tuple #[(cG r.1),.bool r.2]/\post=[])) v post-> ∀c∈post,im c:=by
 rintro _ _ ⟨rfl,rfl⟩;exact aw
def xZ (N:Nat)(a0:WL)(p9:WW):Option WL:=
 some (⟨a0.Ext,a0.Zs,p9,a0.Zm⟩:WL)
def sK (N:Nat)(a1:Int)(a0:WL):Nat->WW->Option WL
 |0,_=>none
 |a8+1,a6=>bif decide ((a6.length:Int)<a1) then ((iu N).bind fun a7=>aG (bu (a6.length+([a7]:List WK).length)) ((sK N a1 a0 a8) (a6++([a7]:List WK)))) else (xZ N a0 a6)
def nh (a0:WL)(a1:Int):Option WL:=
 aG (bu (([]:List WK).length+a0.Zk.length)) (sK N a1 a0 N (([]:List WK)++a0.Zk))
theorem xY {N:Nat}{a0 r:WL}(h:nh N a0 a1=some r):Okc W8 75 [.agg #[.bool a0.Ext,.bool a0.Zs,W A1 n1 c1,W A2 n2 c2],iV a1] ([aX A1 n1 c1 a0.Zk,ux A2 n2 c2 a0.Zm]) (fun u post=> ∃A0 n0 c0 A1 n1 c1,u=.agg #[.bool r.Ext,.bool r.Zs,W A0 n0 c0,W A1 n1 c1]/\post=[bf A0 n0 c0 r.Zk,ux A1 n1 c1 r.Zm]):=by
 refine ce Tryz.func75 ?_;intro B3
 refine cn fun B4=> ?_
 refine vo (aB (R:=ax) (vss:=[]) (xs:=[]) J (yK) J J (fun _ _ hr=>All2.nil)) fun A5 n5 c5=> ?_
 obtain ⟨q6,h⟩:=ae h
 refine vo (aR 0 3 J J bi J J t9 r9 J J q6) fun A7 n7 c7=> ?_
 refine ao (fun s L=> ∃p9 A9 n9 c9,xZ N a0 p9=some r/\s=[(2,pV B3 0),(4,pV B4 0),(5,W A9 n9 c9)]/\L=[bf A9 n9 c9 p9,aX A1 n1 c1 a0.Zk,ux A2 n2 c2 a0.Zm,ah B3 35 (lm a0 A1 n1 c1 A2 n2 c2),ah B4 35 [.bool false,.bool false,W none 0 0,W none 0 0]]) ?_ ?_
 ·refine ab ?_;refine lK (fun m s L=> ∃(a7:WW) (a8:Option Addr) (b0 b5:Nat),sK N a1 a0 m a7=some r/\s=[(1,iV a1),(2,pV B3 0),(4,pV B4 0),(5,W a8 b0 b5)]/\L=[bf a8 b0 b5 a7,aX A1 n1 c1 a0.Zk,ux A2 n2 c2 a0.Zm,ah B3 35 (lm a0 A1 n1 c1 A2 n2 c2),ah B4 35 [.bool false,.bool false,W none 0 0,W none 0 0]]) N ?_;rintro b7 _ _ ⟨a7,a8,b0,b5,h,rfl,rfl⟩;rw [sK.eq_2] at h;refine sZ ?_;refine gH J h ?_ ?_<;>intro h
  ·refine ab ?_;obtain ⟨a6,k,h⟩:=aa h;refine gV (oR (pA k)) ?_;refine gD (aB (R:=ax) (vss:=[[iV a6.Za,iV a6.N,.string a6.S]]) (xs:=[a6]) J (jr _ _ _) J J (fun _ _ hr=> .cons J All2.nil)) ?_;rintro _ _ ⟨b9,c8,d0,rfl,rfl⟩;obtain ⟨b6,h⟩:=ae h
   refine vo (aR 1 0 J J ap J J t9 r9 J J b6) fun d1 d2 d3=> ?_
   exact lN
  exact jY
 rintro _ _ ⟨p9,A9,n9,c9,h,rfl,rfl⟩;exact eY
def t6 (N:Nat)(a0:WL)(p8:List WJ):Option WL:=
 some (⟨a0.Ext,a0.Zs,a0.Zk,p8⟩:WL)
def oS (N:Nat)(a7:(List WJ)->Int->Option WL)(a6:Int)(a0:WL)(a1:WP)(a8:List WJ):Option WL:=
 aG (in64 (a6+1)) (a7 a8 (a6+1))
def kT (N:Nat)(a0:WL)(a1:WP):Nat->(List WJ)->Int->Option WL
 |0,_,_=>none
 |m9+1,a7,a6=>bif decide (a6<(a0.Zm.length:Int)) then ((au a0.Zm a6).bind fun b0=>bif !decide (b0.Zg=a1) then ((au a0.Zm a6).bind fun a8=>aG ((a7.length+([a8]:List WJ).length)<=549755813888) (oS N (kT N a0 a1 m9) a6 a0 a1 (a7++([a8]:List WJ)))) else (oS N (kT N a0 a1 m9) a6 a0 a1 a7)) else (t6 N a0 a7)
def er (a0:WL)(a1:WP):Option WL:=
 kT N a0 a1 N ([]:List WJ) 0
theorem tY {N:Nat}{a0:WL}{a1:WP}{r:WL}(h:er N a0 a1=some r):Okc W8 76 [.agg #[.bool a0.Ext,.bool a0.Zs,W A1 n1 c1,W A2 n2 c2],(eW a1)] ([aX A1 n1 c1 a0.Zk,ux A2 n2 c2 a0.Zm]) (fun u post=> ∃A0 n0 c0 A1 n1 c1,u=.agg #[.bool r.Ext,.bool r.Zs,W A0 n0 c0,W A1 n1 c1]/\post=[aX A0 n0 c0 r.Zk,ux A1 n1 c1 r.Zm]):=by
 refine CZ Tryz.func76 J J ?_;simp only [qM];refine Y ?_
 refine gB (qY J J) fun B3=>gB (qY J J) fun B4=>gB (bJ zero35.out J) fun B5=>Y ?_
 refine gD (aB (R:=ir) (vss:=[]) (xs:=[]) J (J2) J J (fun _ _ hr=>All2.nil)) ?_;rintro _ _ ⟨A6,n6,c6,rfl,rfl⟩;refine Y ?_;refine ao (fun s L=> ∃p8 A8 n8 c8,t6 N a0 p8=some r/\s=[(2,pV B3 0),(4,pV B5 0),(5,W A8 n8 c8)]/\L=[bc ir 50 (W A8 n8 c8) p8,aX A1 n1 c1 a0.Zk,ux A2 n2 c2 a0.Zm,ah B3 35 (lm a0 A1 n1 c1 A2 n2 c2),ah B5 35 [.bool false,.bool false,W none 0 0,W none 0 0]]) ?_ ?_
 ·refine Y ?_;refine kq (fun m s L=> ∃a7 a8 b0 b5 b6,kT N a0 a1 m a7 a8=some r/\s=[(2,pV B3 0),(3,pV B4 0),(4,pV B5 0),(5,W b0 b5 b6),(6,iV a8)]/\L=[bc ir 50 (W b0 b5 b6) a7,aX A1 n1 c1 a0.Zk,ux A2 n2 c2 a0.Zm,ah B3 35 (lm a0 A1 n1 c1 A2 n2 c2),ah B4 39 (ls a1),ah B5 35 [.bool false,.bool false,W none 0 0,W none 0 0]]) N _ _ ⟨([]:List WJ),0,A6,n6,c6,h,J,J⟩ sA (cS [0,4,5,3,2,1] 6) ?_;rintro (_|m9) _ _ ⟨a7,a8,b0,b5,b6,h,rfl,rfl⟩
  ·exact aU h
  rw [kT.eq_2] at h;refine aA<|Y ?_;refine gR (lO 2 J bi J Ex)<|Y ?_;refine gH J h ?_ ?_<;>intro h
  ·refine Y ?_;refine ao (fun s L=> ∃c9 d0 d1 d2,oS N (kT N a0 a1 m9) a8 a0 a1 c9=some r/\s=[(2,pV B3 0),(3,pV B4 0),(4,pV B5 0),(5,W d0 d1 d2),(6,iV a8)]/\L=[bc ir 50 (W d0 d1 d2) c9,aX A1 n1 c1 a0.Zk,ux A2 n2 c2 a0.Zm,ah B3 35 (lm a0 A1 n1 c1 A2 n2 c2),ah B4 39 (ls a1),ah B5 35 [.bool false,.bool false,W none 0 0,W none 0 0]]) ?_ ?_
   ·refine wW<|aA<|ba O _ (ad _)<|yY [0,1,2] ?_;obtain ⟨e1,b7,h⟩:=aa h;obtain ⟨b9,c7,b7⟩:=kY b7;refine zR 3 J (cT 2 J bi J J Ex size50.out b9 c7) ?_;refine zR 4 J (se 2 J bi J (toNat_lt b9 c7) Iz) ?_;refine yY [5,6] ?_;refine zE 7 J (Dh (x:=e1.Zg) (y:=a1) J J) ?_;refine bn O<|qF<|gH J h (fun h=> ?_) (fun h=> ?_)
    ·refine Y ?_;obtain ⟨d3,a6,h⟩:=aa h;obtain ⟨d4,d6,a6⟩:=kY a6;refine gR (cT 2 J bi J J Ex size50.out d4 d6)<|gR (eU (us:=cm d3) 2 J bi J a6 agg50.out (fun _ _ _ h=>by rw [show _=_ from h];rfl))<|gD (aB (R:=ir) (vss:=[(cm d3)]) (xs:=[d3]) J (Ge _ _ _ _ _ _ _ _ _ _ _ _ _) J J (fun _ _ hr=> .cons J All2.nil)) ?_;rintro _ _ ⟨e6,e7,e8,rfl,rfl⟩;obtain ⟨e2,h⟩:=ae h;refine gD (ud 1 0 J J ap J J Ex Qo J J J e2) ?_;rintro _ _ ⟨e3,e4,e5,rfl,rfl⟩;refine Y ?_;exact ⟨_,_,⟨a7++([d3]:List WJ),e3,e4,e5,h,J,J⟩,sA,cS [1,2,3,4,5,6] 7⟩
    refine Y ?_;exact ⟨_,_,⟨a7,b0,b5,b6,h,J,J⟩,sA,cS [0,1,2,3,4,5] 6⟩
   rintro _ _ ⟨c9,d0,d1,d2,h,rfl,rfl⟩;refine Y ?_;obtain ⟨e0,h⟩:=ae h;refine gE (iN J J e0.1 e0.2)<|Y ?_;exact ⟨m9,_,_,WZ _,⟨c9,a8+1,d0,d1,d2,h,J,J⟩,sA,cS [0,1,2,3,4,5] 6⟩
  refine Y ?_;exact ⟨_,_,⟨a7,b0,b5,b6,h,J,J⟩,sA,cS [0,1,2,3,5] 6⟩
 rintro _ _ ⟨p8,A8,n8,c8,h,rfl,rfl⟩;refine Y ?_;refine gW (am (us:=[W A8 n8 c8]) (cs':=(lm a0 A1 n1 c1 A8 n8 c8)) 3 J J J J size33.out J J J)<|Y ?_;refine gR (aC (us:=(lm a0 A1 n1 c1 A8 n8 c8)) 3 J J agg35.out J)<|gW (am (us:=(lm a0 A1 n1 c1 A8 n8 c8)) (cs':=(lm a0 A1 n1 c1 A8 n8 c8)) 4 J J J J size35.out J J J)<|mq ?_;refine Y ?_;obtain rfl:=bF h;exact kB (rs:=[.cell 4 35]) (vs:=[.agg #[.bool a0.Ext,.bool a0.Zs,W A1 n1 c1,W A8 n8 c8]]) J (.cons (du 4 J J agg35.out) .nil) J ((bq 0 J).trans (cS [1,0] 5)) ⟨_,_,_,_,_,_,J,J⟩
def Ax (N:Nat)(p6 p7:Bool)(p8:WW)(p9:List WJ):Option (WL×Bool):=
 some ((⟨p6,p7,p8,p9⟩:WL),true)
def pz (N:Nat)(a1:Int):Nat->Bool->Bool->WW->(List WJ)->Option (WL×Bool)
 |0,_,_,_,_=>none
 |b6+1,a7,a8,p13,b0=>bif decide (a1<(p13.length:Int)) then (aG (in64 ((p13.length:Int) - 1)) ((nG N (⟨a7,a8,p13,b0⟩:WL) (⟨0,(p13.length:Int) - 1,⟨#[]⟩⟩:WP)).bind fun b5=>(bif b5.2 then (some (decide (ai .i64 b5.1.Zd 4=0))) else (some false)).bind fun b7=>bif b7 then (some ((⟨a7,a8,p13,b0⟩:WL),false)) else ((er N (⟨a7,a8,p13,b0⟩:WL) (⟨0,(p13.length:Int) - 1,⟨#[]⟩⟩:WP)).bind fun a6=>aG ((0:Int)<=(p13.length:Int) - 1/\0<=((p13.length:Int) - 1).toNat/\((p13.length:Int) - 1).toNat<=a6.Zk.length) ((pz N a1 b6) a6.Ext a6.Zs ((a6.Zk.drop 0).take (((p13.length:Int) - 1).toNat - 0)) a6.Zm)))) else (Ax N a7 a8 p13 b0)
def CU (a0:WL)(a1:Int):Option (WL×Bool):=
 pz N a1 N a0.Ext a0.Zs a0.Zk a0.Zm
theorem Kw {N:Nat}{a0:WL}{r:WL×Bool}(h:CU N a0 a1=some r):Okc W8 77 [.agg #[.bool a0.Ext,.bool a0.Zs,W A1 n1 c1,W A2 n2 c2],iV a1] ([aX A1 n1 c1 a0.Zk,ux A2 n2 c2 a0.Zm]) (fun u post=> ∃A0 n0 c0 A1 n1 c1,u=.tuple #[.agg #[.bool r.1.Ext,.bool r.1.Zs,W A0 n0 c0,W A1 n1 c1],.bool r.2]/\post=[aX A0 n0 c0 r.1.Zk,ux A1 n1 c1 r.1.Zm]):=by
 refine ce Tryz.func77 ?_;intro B3
 refine cn fun B4=> ?_
 refine ao (fun s L=> ∃p6 p7 p8 p9 A8 n8 c8 A9 n9 c9,Ax N p6 p7 p8 p9=some r/\s=[(2,pV B3 0),(4,pV B4 0),(5,.bool false)]/\L=[aX A8 n8 c8 p8,ux A9 n9 c9 p9,ah B3 35 [.bool p6,.bool p7,W A8 n8 c8,W A9 n9 c9],ah B4 35 [.bool false,.bool false,W none 0 0,W none 0 0]]) ?_ ?_
 ·refine ab ?_;refine kq (fun m s L=> ∃a7 a8 p13 b0 b5 b6 b7 b9 c7 d0,pz N a1 m a7 a8 p13 b0=some r/\s=[(1,iV a1),(2,pV B3 0),(4,pV B4 0),(5,.bool false)]/\L=[aX b5 b6 b7 p13,ux b9 c7 d0 b0,ah B3 35 [.bool a7,.bool a8,W b5 b6 b7,W b9 c7 d0],ah B4 35 [.bool false,.bool false,W none 0 0,W none 0 0]]) N _ _ ⟨a0.Ext,a0.Zs,a0.Zk,a0.Zm,A1,n1,c1,A2,n2,c2,h,J,J⟩ sA (cS [2,3,1,0] 4) ?_;rintro (_|d3) _ _ ⟨a7,a8,p13,b0,b5,b6,b7,b9,c7,d0,h,rfl,rfl⟩
  ·exact aU h
  rw [pz.eq_2] at h;refine sZ ?_;refine gH J h ?_ ?_<;>intro h
  ·refine ab ?_;obtain ⟨d4,h⟩:=ae h
   refine cn fun d6=> ?_
   obtain ⟨e0,k,h⟩:=aa h;refine Gl (oR (wv k)) ?_;intro e1;refine sY ?_
   refine JJ 5 31 26 h (fun _ d1 h=> ?_) (fun _ d1 h=> ?_) fun e2 h=> ?_
   ·refine ab ?_;exact fb (aI J J) J (bW d1 J) J<|gY
   ·exact gY
   refine dr h ?_ ?_<;>intro h
   ·exact eY
   refine ab ?_;obtain ⟨e3,k,h⟩:=aa h
   refine St (oC (tY k)) fun e4 e5 e6 e7 e8 e9=> ?_
   obtain ⟨a6,h⟩:=ae h;refine Qm 0 J (l:=0) (h:=((p13.length:Int) - 1).toNat) a6.2.1 a6.2.2 ?_;rintro f0 f1 f2 d2;refine K9 (OK 1 J d2 J t9 size28.out J J (by rw [Xn a6.1];rfl) a6.2.1 a6.2.2) ?_;exact lN
  exact jY
 rintro _ _ ⟨p6,p7,p8,p9,A8,n8,c8,A9,n9,c9,h,rfl,rfl⟩;exact eY
def lP (a0:WL)(a1:Int):Option (WL×Bool):=
 (bif decide (a1<0) then (some true) else (some (decide (4096<a1)))).bind fun b5=>(bif b5 then (some true) else ((bif a0.Zs then (some (!decide (a1=(a0.Zk.length:Int)))) else (some false)).bind fun b7=>some b7)).bind fun b6=>bif b6 then (some (a0,false)) else ((nh N a0 a1).bind fun y9=>(CU N y9 a1).bind fun a6=>some (a6.1,a6.2))
theorem zT {N:Nat}{a0:WL}{r:WL×Bool}(h:lP N a0 a1=some r):Okc W8 33 [.agg #[.bool a0.Ext,.bool a0.Zs,W A1 n1 c1,W A2 n2 c2],iV a1] ([aX A1 n1 c1 a0.Zk,ux A2 n2 c2 a0.Zm]) (fun u post=> ∃A0 n0 c0 A1 n1 c1,u=.tuple #[.agg #[.bool r.1.Ext,.bool r.1.Zs,W A0 n0 c0,W A1 n1 c1],.bool r.2]/\post=[aX A0 n0 c0 r.1.Zk,ux A1 n1 c1 r.1.Zm]):=by
 refine ce Tryz.func33 ?_;intro B3
 refine cn fun B4=> ?_
 refine sZ ?_;refine gS 3 11 8 h ?_;intro b5 h;refine ab ?_
 refine xc 10 22 12 h (fun _ g6 h=> ?_) fun b6 h=> ?_
 ·refine ab ?_;refine gS 6 21 15 h ?_;intro b7 h;exact gY
 refine dr h ?_ ?_<;>intro h
 ·exact eY
 refine TU h (fun _ k=>xY k) fun y9 a7 a8 b0 b9 c7 c8 h=> ?_
 obtain ⟨c9,a6,h⟩:=aa h;refine mX (bq 0 J)<|ab ?_
 refine St (oC (Kw a6)) fun d0 d1 d2 d3 d4 d6=> ?_
 exact eN
end
section
variable {A1 A2 A3 A4 A5 A6:Option Addr}{B1 B2 B3 B6 M3 M5 M6 c1 c2 c3 c4 c5 c6 n1 n2 n3 n4 n5 n6:Nat}
open Go.RowKit Asn
set_option maxRecDepth 20000
def jZ (N:Nat)(a6:Bool)(a7:WW)(a8:List WJ)(p21 b0:Bool):Option (WL×Bool×Bool):=
 some ((⟨p21,b0,a7,a8⟩:WL),a6,false)
def kc (a1:WU)(a6 p21 b0:Bool)(a7:WW)(a8:List WJ):Option (WL×Bool×Bool):=
 (bif !decide (ai .i64 a1.Has 2=0) then (some (decide (ai .i64 a1.Zd 1=0))) else (some false)).bind fun b5=>bif b5 then (jZ N a6 a7 a8 p21 true) else (jZ N a6 a7 a8 p21 b0)
def oT (a0:WL)(a1:WU):Option (WL×Bool×Bool):=
 (bif !decide (ai .i64 a1.Has 1=0) then ((bif !decide (a1.Value.Za=3) then (some true) else (some (decide (a1.Value.N<0)))).bind fun b7=>(bif b7 then (some true) else (some (decide (4096<a1.Value.N)))).bind fun b8=>some b8) else (some false)).bind fun b6=>bif b6 then (some (a0,false,true)) else ((bN N).bind fun a7=>(nG N a0 a7).bind fun a8=>(bN N).bind fun b0=>(lp N a8.1 true a0.Ext b0 a1).bind fun b5=>bif !b5.2 then (some (a0,false,false)) else (bif !decide (ai .i64 a1.Has 1=0) then ((lP N a0 a1.Value.N).bind fun a6=>kc N a1 a6.2 a6.1.Ext a6.1.Zs a6.1.Zk a6.1.Zm) else (kc N a1 true a0.Ext a0.Zs a0.Zk a0.Zm)))
theorem CT {N:Nat}{a0:WL}{a1:WU}{r:WL×Bool×Bool}(h:oT N a0 a1=some r):Okc W8 71 [.agg #[.bool a0.Ext,.bool a0.Zs,W A1 n1 c1,W A2 n2 c2],(fW a1)] ([aX A1 n1 c1 a0.Zk,ux A2 n2 c2 a0.Zm]) (fun u post=> ∃A0 n0 c0 A1 n1 c1,u=.tuple #[.agg #[.bool r.1.Ext,.bool r.1.Zs,W A0 n0 c0,W A1 n1 c1],.bool r.2.1,.bool r.2.2]/\post=[aX A0 n0 c0 r.1.Zk,ux A1 n1 c1 r.1.Zm]):=by
 refine ce Tryz.func71 ?_;intro B3
 refine cn fun B4=> ?_
 intro B5;refine ab ?_;refine ga (aI J J) ?_;refine sZ ?_
 refine JJ 17 35 18 h (fun _ g6 h=> ?_) (fun _ g6 h=> ?_) fun b6 h=> ?_
 ·refine ab ?_;refine gS 5 28 23 h ?_;intro b7 h;refine ab ?_;refine gS 5 34 29 h ?_;intro b8 h;exact gY
 ·exact gY
 refine dr h ?_ ?_<;>intro h
 ·exact eY
 refine ab ?_;refine aA ?_;obtain ⟨d4,d6,h⟩:=aa h;obtain ⟨a6,e0,h⟩:=aa h;refine gI (t:=[(2,pV B3 0),(3,pV B4 0),(4,pV B5 0),(5,.bool false),(6,.bool false),(7,.bool (!decide (ai .i64 a1.Has 1=0)))]) ?_ mc (ad _)
 refine iQ O 7 [5] [4,5,6] [38,39,40,37,41,42,8] [[],[],[0,1],[2],[3],[3],[]] [aV (.agg #[.bool a0.Ext,.bool a0.Zs,W A1 n1 c1,W A2 n2 c2]),
aV (.agg #[iV d4.Za,iV d4.N,.string d4.S]),
aV (.tuple #[(cG a6.1),.bool a6.2]),
aV (.tuple #[(cG a6.1),.bool a6.2]),
aV ((cG a6.1)),
aV (.bool a6.2),
aX1 (fun (a8:Nat)=>pV a8 0) (fun a8=> [ah a8 50 [iV 0,iV 0,.string (⟨#[]⟩),iV 0,iV 0,iV 0,.string (⟨#[]⟩),iV 0,iV 0,.string (⟨#[]⟩),iV 0,iV 0,.string (⟨#[]⟩)]])] [] (ad _) (fB rfl lV) O rfl rfl ?_ ?_ ?_
 ·exact fA J (nz (dW J J) J (iH J (ad _)))<|lU
 ·refine aF J ?_ ?_
  ·refine tl (bJ zero50.out J) J ?_;rintro _ _ ⟨e7,rfl,rfl⟩;exact N4 e7 (ad _)
  refine qE (dW J J) ?_;refine qE (dW J J) ?_;refine qE (aq J) ?_;refine aF J ?_ ?_
  ·refine tl (oR (wv e0)) J ?_;rintro _ _ ⟨_,⟨rfl,rfl⟩,rfl⟩;exact iH J (ad _)
  refine aF J ?_ ?_
  ·refine tl (oR (iT d6)) J ?_;rintro _ _ ⟨_,⟨rfl,rfl⟩,rfl⟩;exact iH J (ad _)
  refine qR (aC (us:=(lm a0 A1 n1 c1 A2 n2 c2)) 2 J J agg35.out J) ?_;exact dI
 intro a8;refine oa (t:=[(41,(cG a6.1)),(42,.bool a6.2),(8,pV a8 0),(2,pV B3 0),(3,pV B4 0),(4,pV B5 0),(5,.bool false),(6,.bool false),(7,.bool (!decide (ai .i64 a1.Has 1=0)))]) (L':=[ah a8 50 [iV 0,iV 0,.string (⟨#[]⟩),iV 0,iV 0,iV 0,.string (⟨#[]⟩),iV 0,iV 0,.string (⟨#[]⟩),iV 0,iV 0,.string (⟨#[]⟩)],ah B5 35 [.bool false,.bool false,W none 0 0,W none 0 0],ah B4 41 (iy a1),ah B3 35 (lm a0 A1 n1 c1 A2 n2 c2),aX A1 n1 c1 a0.Zk,ux A2 n2 c2 a0.Zm]) ?_ mc (ad _);refine pL 7 J O (am (us:=cm a6.1) (cs':=cm a6.1) 0 J J J J size50.out J J J) J J ?_;rintro _ _ rfl;refine CF 8 J O (ci J) J J J<|mb O<|ab ?_;refine aA<|aA ?_;obtain ⟨e1,e2,h⟩:=aa h;obtain ⟨a7,e3,h⟩:=aa h;refine gI (t:=[(2,pV B3 0),(3,pV B4 0),(4,pV B5 0),(5,.bool false),(6,.bool false),(7,.bool (!decide (ai .i64 a1.Has 1=0))),(8,pV a8 0)]) ?_ mc (ad _)
 refine iQ O 10 [8] [7,8,9] [44,45,46,47,48,49,43,50,51,10] [[],[],[1],[],[],[0,2,3,4],[5],[6],[6],[]] [aV ((cG a6.1)),
aV (pV B3 0),
aV (.bool a0.Ext),
aV (.agg #[iV e1.Za,iV e1.N,.string e1.S]),
aV ((fW a1)),
aV (.tuple #[(cG a7.1),.bool a7.2]),
aV (.tuple #[(cG a7.1),.bool a7.2]),
aV ((cG a7.1)),
aV (.bool a7.2),
aX1 (fun (b0:Nat)=>pV b0 0) (fun b0=> [ah b0 50 [iV 0,iV 0,.string (⟨#[]⟩),iV 0,iV 0,iV 0,.string (⟨#[]⟩),iV 0,iV 0,.string (⟨#[]⟩),iV 0,iV 0,.string (⟨#[]⟩)]])] [] (ad _) (fB rfl lV) O rfl rfl ?_ ?_ ?_
 ·exact fA J (nz (dW J J) J (iH J (ad _)))<|lU
 ·refine aF J ?_ ?_
  ·refine tl (bJ zero50.out J) J ?_;rintro _ _ ⟨e8,rfl,rfl⟩;exact N4 e8 (ad _)
  refine qE (dW J J) ?_;refine qE (dW J J) ?_;refine qE (aq J) ?_;refine aF J ?_ ?_
  ·refine tl (oR (Bz e3)) J ?_;rintro _ _ ⟨_,⟨rfl,rfl⟩,rfl⟩;exact iH J (ad _)
  refine qR (aC (us:=iy a1) 2 J J agg41.out J) ?_;refine aF J ?_ ?_
  ·refine tl (oR (iT e2)) J ?_;rintro _ _ ⟨_,⟨rfl,rfl⟩,rfl⟩;exact iH J (ad _)
  refine qR (bM 3 J J Uq J) ?_;refine qE (nu J Mq) ?_;refine qR (aC (us:=cm a6.1) 0 J J agg50.out J) ?_;exact dI
 intro b0;refine oa (t:=[(50,(cG a7.1)),(51,.bool a7.2),(10,pV b0 0),(2,pV B3 0),(3,pV B4 0),(4,pV B5 0),(5,.bool false),(6,.bool false),(7,.bool (!decide (ai .i64 a1.Has 1=0))),(8,pV a8 0)]) (L':=[ah b0 50 [iV 0,iV 0,.string (⟨#[]⟩),iV 0,iV 0,iV 0,.string (⟨#[]⟩),iV 0,iV 0,.string (⟨#[]⟩),iV 0,iV 0,.string (⟨#[]⟩)],ah a8 50 (cm a6.1),ah B5 35 [.bool false,.bool false,W none 0 0,W none 0 0],ah B4 41 (iy a1),ah B3 35 (lm a0 A1 n1 c1 A2 n2 c2),aX A1 n1 c1 a0.Zk,ux A2 n2 c2 a0.Zm]) ?_ mc (ad _);refine pL 10 J O (am (us:=cm a7.1) (cs':=cm a7.1) 0 J J J J size50.out J J J) J J ?_;rintro _ _ rfl;refine Ab ?_;refine CF 11 J O (ci J) J J J<|mb O<|dr h (fun h=> ?_) (fun h=> ?_)
 ·exact eY
 refine ab ?_;refine ao (fun s L=> ∃b5 p21 e4 b9 c7 c8 c9 d0 d1 d2 d3,kc N a1 b5 p21 e4 b9 c7=some r/\s=[(2,pV B3 0),(3,pV B4 0),(4,pV B5 0),(5,.bool false),(6,.bool false),(12,.bool b5)]/\L=[aX c8 c9 d0 b9,ux d1 d2 d3 c7,ah B3 35 [.bool p21,.bool e4,W c8 c9 d0,W d1 d2 d3],ah B4 41 (iy a1),ah B5 35 [.bool false,.bool false,W none 0 0,W none 0 0]]) ?_ ?_
 ·refine dr h ?_ ?_<;>intro h
  ·refine ab ?_;obtain ⟨e9,k,h⟩:=aa h
   refine St (oC (zT k)) fun f0 f1 f2 f3 f4 f6=> ?_
   exact jN
  exact jY
 rintro _ _ ⟨b5,p21,e4,b9,c7,c8,c9,d0,d1,d2,d3,h,rfl,rfl⟩;refine ao (fun s L=> ∃e5,jZ N b5 b9 c7 p21 e5=some r/\s=[(2,pV B3 0),(4,pV B5 0),(5,.bool false),(6,.bool false),(12,.bool b5)]/\L=[aX c8 c9 d0 b9,ux d1 d2 d3 c7,ah B3 35 [.bool p21,.bool e5,W c8 c9 d0,W d1 d2 d3],ah B5 35 [.bool false,.bool false,W none 0 0,W none 0 0]]) ?_ ?_
 ·refine ab ?_;refine ga (aI J J) ?_
  refine JJ 5 73 68 h (fun _ e6 h=> ?_) (fun _ e6 h=> ?_) fun f9 h=> ?_
  ·refine ab ?_;exact fb (aI J J) J (bW e6 J) J<|gY
  ·exact gY
  refine dr h ?_ ?_<;>intro h
  ·exact jY
  exact jY
 rintro _ _ ⟨e5,h,rfl,rfl⟩;exact eY
def wq (N:Nat)(a0:WL)(a6:List WJ):Option WL:=
 some (⟨a0.Ext,a0.Zs,a0.Zk,a6⟩:WL)
def ng (a0:WL)(a1:WJ):Option WL:=
 (ln N a0 a1.Zg).bind fun y6=>aG ((([]:List WJ).length+a0.Zm.length)<=549755813888) (bif decide (y6<0) then (aG (((([]:List WJ)++a0.Zm).length+([a1]:List WJ).length)<=549755813888) (wq N a0 ((([]:List WJ)++a0.Zm)++([a1]:List WJ)))) else ((au (([]:List WJ)++a0.Zm) y6).bind fun a6=>wq N a0 (List.set (([]:List WJ)++a0.Zm) y6.toNat (⟨(⟨a1.Zg.Za,a1.Zg.N,a1.Zg.S⟩:WP),a1.Zd,(⟨a1.Value.Za,a1.Value.N,a1.Value.S⟩:WK),(⟨a1.Zq.Za,a1.Zq.N,a1.Zq.S⟩:WK),(⟨a1.Zr.Za,a1.Zr.N,a1.Zr.S⟩:WK)⟩:WJ))))
theorem DH {N:Nat}{a0:WL}{a1:WJ}{r:WL}(h:ng N a0 a1=some r):Okc W8 74 [.agg #[.bool a0.Ext,.bool a0.Zs,W A1 n1 c1,W A2 n2 c2],(cG a1)] ([aX A1 n1 c1 a0.Zk,ux A2 n2 c2 a0.Zm]) (fun u post=> ∃A0 n0 c0 A1 n1 c1,u=.agg #[.bool r.Ext,.bool r.Zs,W A0 n0 c0,W A1 n1 c1]/\post=[aX A0 n0 c0 r.Zk,ux A1 n1 c1 r.Zm]):=by
 refine ce Tryz.func74 ?_;intro B3
 refine cn fun B4=> ?_
 intro B5
 refine cR h (fun _ k=>wr k) fun y6 h=> ?_
 refine vo (aB (R:=ir) (vss:=[]) (xs:=[]) J (J2) J J (fun _ _ hr=>All2.nil)) fun A7 n7 c7=> ?_
 obtain ⟨q8,h⟩:=ae h
 refine vo (ud 0 5 J J bi J J Ex Qo J J J q8) fun A9 n9 c9=> ?_
 refine ao (fun s L=> ∃b0 a6 a7 a8,wq N a0 b0=some r/\s=[(2,pV B3 0),(4,pV B5 0),(6,W a6 a7 a8)]/\L=[bc ir 50 (W a6 a7 a8) b0,aX A1 n1 c1 a0.Zk,ux A2 n2 c2 a0.Zm,ah B3 35 (lm a0 A1 n1 c1 A2 n2 c2),ah B5 35 [.bool false,.bool false,W none 0 0,W none 0 0]]) ?_ ?_
 ·refine dr h ?_ ?_<;>intro h
  ·refine ab ?_;refine gD (aB (R:=ir) (vss:=[(cm a1)]) (xs:=[a1]) J (Ge _ _ _ _ _ _ _ _ _ _ _ _ _) J J (fun _ _ hr=> .cons J All2.nil)) ?_;rintro _ _ ⟨c8,d0,d1,rfl,rfl⟩;obtain ⟨b9,h⟩:=ae h
   refine vo (ud 1 0 J J ap J J Ex Qo J J J b9) fun d2 d3 d4=> ?_
   exact jN
  refine ab ?_;obtain ⟨d6,b5,b6,b7,h⟩:=bz h;refine ab ?_;refine Hr (cg (us:=cm a1) (z:=(⟨(⟨a1.Zg.Za,a1.Zg.N,a1.Zg.S⟩:WP),a1.Zd,(⟨a1.Value.Za,a1.Value.N,a1.Value.S⟩:WK),(⟨a1.Zq.Za,a1.Zq.N,a1.Zq.S⟩:WK),(⟨a1.Zr.Za,a1.Zr.N,a1.Zr.S⟩:WK)⟩:WJ)) 0 J J J J size50.out J (toNat_lt b5 b6) J (fun S w vs xk hk hr ho=>by obtain rfl:=YL (hk.symm.trans b7);rw [show _=_ from hr];rfl)) ?_;exact ⟨_,_,⟨List.set (([]:List WJ)++a0.Zm) y6.toNat (⟨(⟨a1.Zg.Za,a1.Zg.N,a1.Zg.S⟩:WP),a1.Zd,(⟨a1.Value.Za,a1.Value.N,a1.Value.S⟩:WK),(⟨a1.Zq.Za,a1.Zq.N,a1.Zq.S⟩:WK),(⟨a1.Zr.Za,a1.Zr.N,a1.Zr.S⟩:WK)⟩:WJ),A9,n9,c9,h,J,J⟩,sA,cS [0,4,5,3,1] 6⟩
 rintro _ _ ⟨b0,a6,a7,a8,h,rfl,rfl⟩;refine ab ?_;obtain rfl:=bF h;exact kB (rs:=[.cell 4 35]) (vs:=[.agg #[.bool a0.Ext,.bool a0.Zs,W A1 n1 c1,W a6 a7 a8]]) J (.cons (du 4 J J agg35.out) .nil) J ((bq 0 J).trans (cS [1,0] 5)) ⟨_,_,_,_,_,_,J,J⟩
def gK (a0:WL)(a1:WP)(a2:WU):Option (WL×Bool×Bool):=
 (pC N a1).bind fun y7=>(bif !y7 then (some true) else ((d7 N a2).bind fun y9=>some (!y9))).bind fun b8=>bif b8 then (some (a0,false,false)) else ((bN N).bind fun b7=>bif decide (a1=b7) then ((oT N a0 a2).bind fun a8=>some (a8.1,a8.2.1,a8.2.2)) else ((nG N a0 a1).bind fun b5=>(lp N b5.1 b5.2 a0.Ext a1 a2).bind fun a7=>bif !a7.2 then (some (a0,false,false)) else ((ln N a0 a1).bind fun b9=>(bif decide (b9<0) then (some (decide (1024<=(a0.Zm.length:Int)))) else (some false)).bind fun b6=>bif !decide (a1.Za=0) then (bif b6 then (some (a0,false,false)) else ((ng N a0 a7.1).bind fun c7=>some (c7,true,false))) else (bif decide (4096<=a1.N) then (some (a0,false,true)) else ((bif decide ((a0.Zk.length:Int)<=a1.N) then (some a0.Zs) else (some false)).bind fun c8=>bif c8 then (some (a0,false,false)) else ((bif b6 then (some (!decide (a7.1.Zd=7))) else (some false)).bind fun c9=>bif c9 then (some (a0,false,false)) else (aG (in64 (a1.N+1)) ((nh N a0 (a1.N+1)).bind fun a6=>bif decide (a7.1.Zd=7) then ((au a6.Zk a1.N).bind fun d2=>(er N (⟨a6.Ext,a6.Zs,List.set a6.Zk a1.N.toNat (⟨a7.1.Value.Za,a7.1.Value.N,a7.1.Value.S⟩:WK),a6.Zm⟩:WL) a1).bind fun d0=>some (d0,true,false)) else ((iu N).bind fun b0=>(au a6.Zk a1.N).bind fun d3=>(ng N (⟨a6.Ext,a6.Zs,List.set a6.Zk a1.N.toNat (⟨b0.Za,b0.N,b0.S⟩:WK),a6.Zm⟩:WL) a7.1).bind fun d1=>some (d1,true,false))))))))))
theorem Gx {N:Nat}{a0:WL}{a1:WP}{a2:WU}{r:WL×Bool×Bool}(h:gK N a0 a1 a2=some r):Okc W8 30 [.agg #[.bool a0.Ext,.bool a0.Zs,W A1 n1 c1,W A2 n2 c2],(eW a1),(fW a2)] ([aX A1 n1 c1 a0.Zk,ux A2 n2 c2 a0.Zm]) (fun u post=> ∃A0 n0 c0 A1 n1 c1,u=.tuple #[.agg #[.bool r.1.Ext,.bool r.1.Zs,W A0 n0 c0,W A1 n1 c1],.bool r.2.1,.bool r.2.2]/\post=[aX A0 n0 c0 r.1.Zk,ux A1 n1 c1 r.1.Zm]):=by
 refine CZ Tryz.func30 J J ?_;simp only [qM];refine Y ?_
 refine gB (qY J J) fun B3=>gB (qY J J) fun B4=>gB (qY J J) fun B5=>gB (bJ zero35.out J) fun B6=>Y ?_
 refine aA<|Y ?_;refine gR (aC (us:=ls a1) 2 J J agg39.out J) ?_;obtain ⟨y7,k,h⟩:=aa h;refine gV (aJ (Ie k) J (aw) E6)<|Y ?_;obtain ⟨b8,h7,h⟩:=aa h;refine il 4 20 b8 ?_ ?_
 ·clear h;refine fX 16 J (fun g8=> ?_) (fun g8=> ?_)
  ·have h:=cN g8 h7;refine Y ?_;obtain rfl:=bF h;exact bA sA (cS [0,1,2,3,4,5] 6)
  have h:=cO g8 h7;refine r8 (aC (us:=iy a2) 1 J J agg41.out J) J (cL g8 J) J ?_;obtain ⟨y9,k,h⟩:=aa h;refine gU (aJ (Id k) J (aw) E3) (cL g8 J)<|Y ?_;obtain rfl:=bF h;exact bA sA (cS [0,1,2,3,4,5] 6)
 refine Y ?_;refine gH J h ?_ ?_<;>intro h
 ·refine Y ?_;refine gR (aC (us:=(lm a0 A1 n1 c1 A2 n2 c2)) 3 J J agg35.out J)<|gW (am (us:=(lm a0 A1 n1 c1 A2 n2 c2)) (cs':=(lm a0 A1 n1 c1 A2 n2 c2)) 0 J J J J size35.out J J J)<|Y ?_;obtain rfl:=bF h;exact kB (rs:=[.cell 6 35,.tmp 7,.tmp 8]) (vs:=[.agg #[.bool a0.Ext,.bool a0.Zs,W A1 n1 c1,W A2 n2 c2],.bool false,.bool false]) J (.cons (du 0 J J agg35.out) (.cons (dS J) (.cons (dS J) .nil))) J (cS [4,5] 6) ⟨_,_,_,_,_,_,J,J⟩
 refine Y ?_;refine aA<|aA<|ba O _ (ad _)<|zR 0 J (aC (us:=ls a1) 2 J J agg39.out J) ?_;obtain ⟨h9,k,h⟩:=aa h;refine zD 1 J (aJ (iT k) J (aw) mh) ?_;rintro _ _ ⟨_,⟨rfl,rfl⟩,rfl⟩;refine ⟨_,ad _,ad _,?_⟩;refine zE 2 J (ul (x:=a1) (y:=h9) J J) ?_;refine bn O<|qF<|gH J h (fun h=> ?_) (fun h=> ?_)
 ·refine Y ?_;refine gR (aC (us:=(lm a0 A1 n1 c1 A2 n2 c2)) 3 J J agg35.out J)<|gR (aC (us:=iy a2) 1 J J agg41.out J) ?_;obtain ⟨b0,k,h⟩:=aa h;refine gD (dM (CT k) J (bP [4,5] [] [0,1,2,3,4,5] 6 J)) ?_;rintro _ _ ⟨_,⟨e6,e7,e8,e9,f0,f1,rfl,rfl⟩,rfl⟩;refine Y ?_;refine gW (am (us:=(lm b0.1 e6 e7 e8 e9 f0 f1)) (cs':=(lm b0.1 e6 e7 e8 e9 f0 f1)) 2 J J J J size35.out J J J)<|mq ?_;refine Y ?_;obtain rfl:=bF h;exact kB (rs:=[.cell 6 35,.tmp 7,.tmp 8]) (vs:=[.agg #[.bool b0.1.Ext,.bool b0.1.Zs,W e6 e7 e8,W e9 f0 f1],.bool b0.2.1,.bool b0.2.2]) J (.cons (du 2 J J agg35.out) (.cons (dS J) (.cons (dS J) .nil))) J (cS [0,1] 8) ⟨_,_,_,_,_,_,J,J⟩
 refine Y ?_;refine gR (aC (us:=(lm a0 A1 n1 c1 A2 n2 c2)) 3 J J agg35.out J)<|gR (aC (us:=ls a1) 2 J J agg39.out J) ?_;obtain ⟨f2,k,h⟩:=aa h;refine gV (aJ (wv k) J (t5 (dN (i:=4) J J) (t5 (dN (i:=5) J J) aw)) Bw)<|Y ?_
 refine gB (bJ zero50.out J) fun i3=>gW (am (us:=cm f2.1) (cs':=cm f2.1) 0 J J J J size50.out J J J)<|Y ?_
 refine gR (aC (us:=cm f2.1) 0 J J agg50.out J)<|Y ?_;refine gR (aC (us:=ls a1) 3 J J agg39.out J)<|gR (aC (us:=iy a2) 2 J J agg41.out J) ?_;obtain ⟨a6,k,h⟩:=aa h;refine gV (aJ (Bz k) J (aw) E4)<|Y ?_;refine gW (am (us:=cm a6.1) (cs':=cm a6.1) 0 J J J J size50.out J J J)<|Y ?_;refine aA<|Y ?_;refine gH J h ?_ ?_<;>intro h
 ·refine Y ?_;refine gR (aC (us:=(lm a0 A1 n1 c1 A2 n2 c2)) 4 J J agg35.out J)<|gW (am (us:=(lm a0 A1 n1 c1 A2 n2 c2)) (cs':=(lm a0 A1 n1 c1 A2 n2 c2)) 1 J J J J size35.out J J J)<|mq ?_;refine Y ?_;obtain rfl:=bF h;exact kB (rs:=[.cell 6 35,.tmp 7,.tmp 8]) (vs:=[.agg #[.bool a0.Ext,.bool a0.Zs,W A1 n1 c1,W A2 n2 c2],.bool false,.bool false]) J (.cons (du 1 J J agg35.out) (.cons (dS J) (.cons (dS J) .nil))) J (cS [5,6] 7) ⟨_,_,_,_,_,_,J,J⟩
 refine Y ?_;refine gR (aC (us:=(lm a0 A1 n1 c1 A2 n2 c2)) 4 J J agg35.out J)<|gR (aC (us:=ls a1) 3 J J agg39.out J) ?_;obtain ⟨i4,k,h⟩:=aa h;refine gV (aJ (wr k) J (t5 (dN (i:=5) J J) (t5 (dN (i:=6) J J) aw)) E1)<|Y ?_;obtain ⟨i0,b6,h⟩:=aa h;refine il 5 59 i0 ?_ ?_
 ·clear h;refine fX 54 J (fun d1=> ?_) (fun d1=> ?_)
  ·have h:=cN d1 b6;refine Y ?_;refine r8 (lO 6 J bi J Ex) J (bW d1 J) J<|Y ?_;obtain rfl:=bF h;exact bA sA (cS [0,1,2,3,4,5,6] 7)
  have h:=cO d1 b6;refine Y ?_;obtain rfl:=bF h;exact bA sA (cS [0,1,2,3,4,5,6] 7)
 refine Y ?_;refine aA<|Y ?_;refine gH J h ?_ ?_<;>intro h
 ·refine aA<|Y ?_;refine gH J h ?_ ?_<;>intro h
  ·refine Y ?_;refine gR (aC (us:=(lm a0 A1 n1 c1 A2 n2 c2)) 4 J J agg35.out J)<|gW (am (us:=(lm a0 A1 n1 c1 A2 n2 c2)) (cs':=(lm a0 A1 n1 c1 A2 n2 c2)) 1 J J J J size35.out J J J)<|Y ?_;obtain rfl:=bF h;exact kB (rs:=[.cell 6 35,.tmp 7,.tmp 8]) (vs:=[.agg #[.bool a0.Ext,.bool a0.Zs,W A1 n1 c1,W A2 n2 c2],.bool false,.bool false]) J (.cons (du 1 J J agg35.out) (.cons (dS J) (.cons (dS J) .nil))) J (cS [5,6] 7) ⟨_,_,_,_,_,_,J,J⟩
  refine Y ?_;refine gR (aC (us:=(lm a0 A1 n1 c1 A2 n2 c2)) 4 J J agg35.out J)<|gR (aC (us:=cm a6.1) 0 J J agg50.out J) ?_;obtain ⟨d2,k,h⟩:=aa h;refine gD (dM (DH k) J (bP [5,6] [] [0,1,2,3,4,5,6] 7 J)) ?_;rintro _ _ ⟨_,⟨f3,f4,f6,f9,g0,g1,rfl,rfl⟩,rfl⟩;refine gW (am (us:=(lm d2 f3 f4 f6 f9 g0 g1)) (cs':=(lm d2 f3 f4 f6 f9 g0 g1)) 3 J J J J size35.out J J J)<|mq ?_;refine Y ?_;obtain rfl:=bF h;exact kB (rs:=[.cell 6 35,.tmp 7,.tmp 8]) (vs:=[.agg #[.bool d2.Ext,.bool d2.Zs,W f3 f4 f6,W f9 g0 g1],.bool true,.bool false]) J (.cons (du 3 J J agg35.out) (.cons (dS J) (.cons (dS J) .nil))) J (cS [0,1] 9) ⟨_,_,_,_,_,_,J,J⟩
 refine Y ?_;refine aA<|Y ?_;refine gH J h ?_ ?_<;>intro h
 ·refine Y ?_;refine gR (aC (us:=(lm a0 A1 n1 c1 A2 n2 c2)) 4 J J agg35.out J)<|gW (am (us:=(lm a0 A1 n1 c1 A2 n2 c2)) (cs':=(lm a0 A1 n1 c1 A2 n2 c2)) 1 J J J J size35.out J J J)<|Y ?_;obtain rfl:=bF h;exact kB (rs:=[.cell 6 35,.tmp 7,.tmp 8]) (vs:=[.agg #[.bool a0.Ext,.bool a0.Zs,W A1 n1 c1,W A2 n2 c2],.bool false,.bool true]) J (.cons (du 1 J J agg35.out) (.cons (dS J) (.cons (dS J) .nil))) J (cS [5,6] 7) ⟨_,_,_,_,_,_,J,J⟩
 refine Y ?_;refine aA<|Y ?_;refine gR (lO 5 J bi J t9)<|Y ?_;obtain ⟨i1,b7,h⟩:=aa h;refine il 3 81 i1 ?_ ?_
 ·clear h;refine fX 78 J (fun g2=> ?_) (fun g2=> ?_)
  ·have h:=cN g2 b7;refine Y ?_;obtain rfl:=bF h;exact bA sA (cS [0,1,2,3,4,5,6] 7)
  have h:=cO g2 b7;refine Y ?_;obtain rfl:=bF h;exact bA sA (cS [0,1,2,3,4,5,6] 7)
 refine Y ?_;refine gH J h ?_ ?_<;>intro h
 ·refine Y ?_;refine gR (aC (us:=(lm a0 A1 n1 c1 A2 n2 c2)) 4 J J agg35.out J)<|gW (am (us:=(lm a0 A1 n1 c1 A2 n2 c2)) (cs':=(lm a0 A1 n1 c1 A2 n2 c2)) 1 J J J J size35.out J J J)<|Y ?_;obtain rfl:=bF h;exact kB (rs:=[.cell 6 35,.tmp 7,.tmp 8]) (vs:=[.agg #[.bool a0.Ext,.bool a0.Zs,W A1 n1 c1,W A2 n2 c2],.bool false,.bool false]) J (.cons (du 1 J J agg35.out) (.cons (dS J) (.cons (dS J) .nil))) J (cS [5,6] 7) ⟨_,_,_,_,_,_,J,J⟩
 refine Y ?_;refine aA<|Y ?_;obtain ⟨i2,b9,h⟩:=aa h;refine il 4 88 i2 ?_ ?_
 ·clear h;refine fX 84 J (fun g3=> ?_) (fun g3=> ?_)
  ·have h:=cN g3 b9;refine Y ?_;obtain rfl:=bF h;exact bA sA (cS [0,1,2,3,4,5,6] 7)
  have h:=cO g3 b9;refine Y ?_;obtain rfl:=bF h;exact bA sA (cS [0,1,2,3,4,5,6] 7)
 refine Y ?_;refine gH J h ?_ ?_<;>intro h
 ·refine Y ?_;refine gR (aC (us:=(lm a0 A1 n1 c1 A2 n2 c2)) 4 J J agg35.out J)<|gW (am (us:=(lm a0 A1 n1 c1 A2 n2 c2)) (cs':=(lm a0 A1 n1 c1 A2 n2 c2)) 1 J J J J size35.out J J J)<|mq ?_;refine Y ?_;obtain rfl:=bF h;exact kB (rs:=[.cell 6 35,.tmp 7,.tmp 8]) (vs:=[.agg #[.bool a0.Ext,.bool a0.Zs,W A1 n1 c1,W A2 n2 c2],.bool false,.bool false]) J (.cons (du 1 J J agg35.out) (.cons (dS J) (.cons (dS J) .nil))) J (cS [5,6] 7) ⟨_,_,_,_,_,_,J,J⟩
 refine Y ?_;refine gR (aC (us:=(lm a0 A1 n1 c1 A2 n2 c2)) 4 J J agg35.out J)<|Y ?_;obtain ⟨h8,h⟩:=ae h;refine gE (iN J J h8.1 h8.2) ?_;obtain ⟨d3,k,h⟩:=aa h;refine gD (dM (xY k) J (bP [5,6] [] [0,1,2,3,4,5,6] 7 J)) ?_;rintro _ _ ⟨_,⟨d4,d6,e0,e1,e2,e3,rfl,rfl⟩,rfl⟩;refine gW (am (us:=(lm d3 d4 d6 e0 e1 e2 e3)) (cs':=(lm d3 d4 d6 e0 e1 e2 e3)) 6 J J J J size35.out J J J)<|Y ?_;refine aA<|Y ?_;refine gH J h ?_ ?_<;>intro h
 ·refine Y ?_;refine gR (aC (us:=bS a6.1.Value) 2 J J agg28.out J) ?_;obtain ⟨i5,a7,h⟩:=aa h;obtain ⟨c7,c8,a7⟩:=kY a7;refine gR (cT 0 J ap J J t9 size28.out c7 c8)<|gW (cg (us:=bS a6.1.Value) (z:=(⟨a6.1.Value.Za,a6.1.Value.N,a6.1.Value.S⟩:WK)) 0 J J J J size28.out J (toNat_lt c7 c8) J (fun S w vs xk hk hr ho=>by obtain rfl:=YL (hk.symm.trans a7);rw [show _=_ from hr];rfl))<|mq ?_;refine Y ?_;refine gR (aC (us:=(lm d3 d4 d6 e0 e1 e2 e3)) 6 J J agg35.out J)<|gR (aC (us:=ls a1) 5 J J agg39.out J) ?_;obtain ⟨e4,k,h⟩:=aa h;refine mX (bq 0 J)<|gD (dM (tY k) J (bP [0,1] [] [0,1,2,3,4,5,6,7,8] 9 J)) ?_;rintro _ _ ⟨_,⟨g4,g5,g6,g7,g9,h0,rfl,rfl⟩,rfl⟩;refine gW (am (us:=(lm e4 g4 g5 g6 g7 g9 h0)) (cs':=(lm e4 g4 g5 g6 g7 g9 h0)) 5 J J J J size35.out J J J)<|mq ?_;refine Y ?_;obtain rfl:=bF h;exact kB (rs:=[.cell 6 35,.tmp 7,.tmp 8]) (vs:=[.agg #[.bool e4.Ext,.bool e4.Zs,W g4 g5 g6,W g7 g9 h0],.bool true,.bool false]) J (.cons (du 5 J J agg35.out) (.cons (dS J) (.cons (dS J) .nil))) J (cS [0,1] 11) ⟨_,_,_,_,_,_,J,J⟩
 refine Y ?_;refine aA<|ba O _ (ad _)<|zE 0 J (jD J IA) ?_;refine zR 1 J (bM 6 J J sC J) ?_;refine zE 2 J (jD J zo) ?_;refine zR 3 J (bM 5 J J rR J) ?_;obtain ⟨b5,k,h⟩:=aa h;refine zD 4 J (aJ (pA k) J (aw) rt) ?_;rintro _ _ ⟨_,⟨rfl,rfl⟩,rfl⟩;refine ⟨_,ad _,ad _,?_⟩;obtain ⟨i6,a8,h⟩:=aa h;obtain ⟨c9,d0,a8⟩:=kY a8;refine zR 5 J (cT 0 J ap J J t9 size28.out c9 d0) ?_;refine gN 6 J O O (cg (us:=[iV b5.Za,iV b5.N,.string b5.S]) (z:=(⟨b5.Za,b5.N,b5.S⟩:WK)) 0 J J J J size28.out J (toNat_lt c9 d0) J (fun S w vs xk hk hr ho=>by obtain rfl:=YL (hk.symm.trans a8);rw [show _=_ from hr];rfl)) ?_;rintro _ _ rfl;refine bn O<|Y ?_;refine gR (aC (us:=(lm d3 d4 d6 e0 e1 e2 e3)) 6 J J agg35.out J)<|gR (aC (us:=cm a6.1) 2 J J agg50.out J) ?_;obtain ⟨e5,k,h⟩:=aa h;refine mX (bq 0 J)<|gD (dM (DH k) J (bP [0,1] [] [0,1,2,3,4,5,6,7,8] 9 J)) ?_;rintro _ _ ⟨_,⟨h1,h2,h3,h4,h5,h6,rfl,rfl⟩,rfl⟩;refine gW (am (us:=(lm e5 h1 h2 h3 h4 h5 h6)) (cs':=(lm e5 h1 h2 h3 h4 h5 h6)) 5 J J J J size35.out J J J)<|mq ?_;refine Y ?_;obtain rfl:=bF h
 exact kB (rs:=[.cell 6 35,.tmp 7,.tmp 8]) (vs:=[.agg #[.bool e5.Ext,.bool e5.Zs,W h1 h2 h3,W h4 h5 h6],.bool true,.bool false]) J (.cons (du 5 J J agg35.out) (.cons (dS J) (.cons (dS J) .nil))) J (cS [0,1] 11) ⟨_,_,_,_,_,_,J,J⟩
def qa (a1:WP)(a6 a7:Bool)(p13:WW)(a8:List WJ):Option (WL×Bool):=
 (er N (⟨a6,a7,p13,a8⟩:WL) a1).bind fun b0=>some (b0,true)
def sN (a0:WL)(a1:WP):Option (WL×Bool):=
 (nG N a0 a1).bind fun y6=>bif !y6.2 then (some (a0,true)) else (bif decide (ai .i64 y6.1.Zd 4=0) then (some (a0,false)) else ((bif decide (a1.Za=0) then (some (decide (a1.N<(a0.Zk.length:Int)))) else (some false)).bind fun a8=>bif a8 then ((nh N a0 0).bind fun a6=>(iu N).bind fun a7=>(au a6.Zk a1.N).bind fun b0=>qa N a1 a6.Ext a6.Zs (List.set a6.Zk a1.N.toNat (⟨a7.Za,a7.N,a7.S⟩:WK)) a6.Zm) else (qa N a1 a0.Ext a0.Zs a0.Zk a0.Zm)))
theorem Gw {N:Nat}{a0:WL}{a1:WP}{r:WL×Bool}(h:sN N a0 a1=some r):Okc W8 31 [.agg #[.bool a0.Ext,.bool a0.Zs,W A1 n1 c1,W A2 n2 c2],(eW a1)] ([aX A1 n1 c1 a0.Zk,ux A2 n2 c2 a0.Zm]) (fun u post=> ∃A0 n0 c0 A1 n1 c1,u=.tuple #[.agg #[.bool r.1.Ext,.bool r.1.Zs,W A0 n0 c0,W A1 n1 c1],.bool r.2]/\post=[aX A0 n0 c0 r.1.Zk,ux A1 n1 c1 r.1.Zm]):=by
 refine CZ Tryz.func31 J J ?_;simp only [qM];refine Y ?_
 refine gB (qY J J) fun B3=>gB (qY J J) fun B4=>gB (bJ zero35.out J) fun B5=>Y ?_
 refine gR (aC (us:=(lm a0 A1 n1 c1 A2 n2 c2)) 2 J J agg35.out J)<|gR (aC (us:=ls a1) 1 J J agg39.out J) ?_;obtain ⟨y6,k,h⟩:=aa h;refine gV (aJ (wv k) J (t5 (dN (i:=3) J J) (t5 (dN (i:=4) J J) aw)) Bw)<|Y ?_
 refine gB (bJ zero50.out J) fun B7=>gW (am (us:=cm y6.1) (cs':=cm y6.1) 0 J J J J size50.out J J J)<|Y ?_
 refine aA<|Y ?_;refine gH J h ?_ ?_<;>intro h
 ·refine Y ?_;refine gR (aC (us:=(lm a0 A1 n1 c1 A2 n2 c2)) 3 J J agg35.out J)<|gW (am (us:=(lm a0 A1 n1 c1 A2 n2 c2)) (cs':=(lm a0 A1 n1 c1 A2 n2 c2)) 1 J J J J size35.out J J J)<|Y ?_;obtain rfl:=bF h;exact kB (rs:=[.cell 4 35,.tmp 5]) (vs:=[.agg #[.bool a0.Ext,.bool a0.Zs,W A1 n1 c1,W A2 n2 c2],.bool true]) J (.cons (du 1 J J agg35.out) (.cons (dS J) .nil)) J (cS [4,5] 6) ⟨_,_,_,_,_,_,J,J⟩
 refine Y ?_;refine aA<|Y ?_;refine gE (aI J J)<|Y ?_;refine gH J h ?_ ?_<;>intro h
 ·refine Y ?_;refine gR (aC (us:=(lm a0 A1 n1 c1 A2 n2 c2)) 3 J J agg35.out J)<|gW (am (us:=(lm a0 A1 n1 c1 A2 n2 c2)) (cs':=(lm a0 A1 n1 c1 A2 n2 c2)) 1 J J J J size35.out J J J)<|mq ?_;refine Y ?_;obtain rfl:=bF h;exact kB (rs:=[.cell 4 35,.tmp 5]) (vs:=[.agg #[.bool a0.Ext,.bool a0.Zs,W A1 n1 c1,W A2 n2 c2],.bool false]) J (.cons (du 1 J J agg35.out) (.cons (dS J) .nil)) J (cS [4,5] 6) ⟨_,_,_,_,_,_,J,J⟩
 refine Y ?_;refine ao (fun s L=> ∃b7 b9 p13 d6 c7 c8 c9 d0 d1 d2,qa N a1 b7 b9 p13 d6=some r/\s=[(2,pV B3 0),(3,pV B4 0),(4,pV B5 0),(5,.bool false)]/\L=[aX c7 c8 c9 p13,ux d0 d1 d2 d6,ah B3 35 [.bool b7,.bool b9,W c7 c8 c9,W d0 d1 d2],ah B4 39 (ls a1),ah B5 35 [.bool false,.bool false,W none 0 0,W none 0 0]]) ?_ ?_
 ·refine Y ?_;obtain ⟨f2,b0,h⟩:=aa h;refine il 7 32 f2 ?_ ?_
  ·clear h;refine fX 25 J (fun d3=> ?_) (fun d3=> ?_)
   ·have h:=cN d3 b0;refine Y ?_;refine r8 (lO 4 J bi J t9) J (bW d3 J) J<|Y ?_;obtain rfl:=bF h;exact bA sA (cS [0,1,2,3,4,5] 6)
   have h:=cO d3 b0;refine Y ?_;obtain rfl:=bF h;exact bA sA (cS [0,1,2,3,4,5] 6)
  refine Y ?_;refine gH J h ?_ ?_<;>intro h
  ·refine Y ?_;refine gR (aC (us:=(lm a0 A1 n1 c1 A2 n2 c2)) 3 J J agg35.out J) ?_;obtain ⟨a8,k,h⟩:=aa h;refine gD (dM (xY k) J (bP [4,5] [] [0,1,2,3,4,5] 6 J)) ?_;rintro _ _ ⟨_,⟨e0,e1,e2,e3,e4,e5,rfl,rfl⟩,rfl⟩;refine gW (am (us:=(lm a8 e0 e1 e2 e3 e4 e5)) (cs':=(lm a8 e0 e1 e2 e3 e4 e5)) 5 J J J J size35.out J J J)<|Y ?_;refine ba O _ (ad _)<|zE 0 J (jD J IA) ?_;refine zR 1 J (bM 5 J J sC J) ?_;refine zE 2 J (jD J zo) ?_;refine zR 3 J (bM 4 J J rR J) ?_;obtain ⟨a6,k,h⟩:=aa h;refine zD 4 J (aJ (pA k) J (aw) rt) ?_;rintro _ _ ⟨_,⟨rfl,rfl⟩,rfl⟩;refine ⟨_,ad _,ad _,?_⟩;obtain ⟨f3,a7,h⟩:=aa h;obtain ⟨b5,b6,a7⟩:=kY a7;refine zR 5 J (cT 0 J ap J J t9 size28.out b5 b6) ?_;refine gN 6 J O O (cg (us:=[iV a6.Za,iV a6.N,.string a6.S]) (z:=(⟨a6.Za,a6.N,a6.S⟩:WK)) 0 J J J J size28.out J (toNat_lt b5 b6) J (fun S w vs xk hk hr ho=>by obtain rfl:=YL (hk.symm.trans a7);rw [show _=_ from hr];rfl)) ?_;rintro _ _ rfl;exact bn O<|qF<|⟨_,_,⟨a8.Ext,a8.Zs,List.set a8.Zk a1.N.toNat (⟨a6.Za,a6.N,a6.S⟩:WK),a8.Zm,e0,e1,e2,e3,e4,e5,h,J,J⟩,sA,(bq 0 J).trans (cS [0,1,5,4,3] 8)⟩
  refine Y ?_;exact ⟨_,_,⟨a0.Ext,a0.Zs,a0.Zk,a0.Zm,A1,n1,c1,A2,n2,c2,h,J,J⟩,sA,cS [4,5,3,2,1] 6⟩
 rintro _ _ ⟨b7,b9,p13,d6,c7,c8,c9,d0,d1,d2,h,rfl,rfl⟩;refine Y ?_;refine gR (aC (us:=[.bool b7,.bool b9,W c7 c8 c9,W d0 d1 d2]) 2 J J agg35.out J)<|gR (aC (us:=ls a1) 3 J J agg39.out J) ?_;obtain ⟨d4,k,h⟩:=aa h;refine gD (dM (tY k) J (bP [0,1] [] [0,1,2,3,4] 5 J)) ?_;rintro _ _ ⟨_,⟨e6,e7,e8,e9,f0,f1,rfl,rfl⟩,rfl⟩;refine mq ?_;refine gW (am (us:=(lm d4 e6 e7 e8 e9 f0 f1)) (cs':=(lm d4 e6 e7 e8 e9 f0 f1)) 6 J J J J size35.out J J J)<|Y ?_;obtain rfl:=bF h;exact kB (rs:=[.cell 4 35,.tmp 5]) (vs:=[.agg #[.bool d4.Ext,.bool d4.Zs,W e6 e7 e8,W e9 f0 f1],.bool true]) J (.cons (du 6 J J agg35.out) (.cons (dS J) .nil)) J (cS [0,1] 7) ⟨_,_,_,_,_,_,J,J⟩
def qy (a0:WH)(a1:WK)(a2:WP):Option (Bool×WH):=
 (cD N a0 a1).bind fun y6=>bif !y6.2 then (some (false,a0)) else ((pK N a0 a1 a2).bind fun a6=>bif !a6.2 then (some (true,a0)) else (bif decide (ai .i64 a6.1.Zd 4=0) then (some (false,a0)) else ((bif decide (a2.Za=0) then ((eD N y6.1 a2.N).bind fun a8=>some a8) else (some false)).bind fun b0=>bif b0 then ((au y6.1.Zb a2.N).bind fun b6=>(ay N a0 a1 (⟨y6.1.Za,y6.1.Zi,y6.1.Ze,y6.1.Zf,y6.1.Zc,List.set y6.1.Zb a2.N.toNat (⟨8,0,(⟨#[]⟩:ByteArray)⟩:WK)⟩:WI)).bind fun b5=>some (true,b5)) else ((fR N a0 a1 a2).bind fun a7=>some (a7.1,a7.2)))))
theorem Ed {N:Nat}{a1:WK}{r:Bool×WH}(h:qy N a0 a1 a2=some r){B1 B2 B3:Nat}:Okc W8 32 [pV B1 0,(aE a1),(eW a2)] ([ug,oDWorld B1 B2 B3 a0]) (fun u post=>u=.bool r.1/\post=[oDWorld B1 B2 B3 r.2]):=by
 refine ce Tryz.func32 ?_;intro B4
 refine cn fun B5=> ?_
 refine IK h (fun _ k=>fg k) fun y6 A7 n7 c7 A8 n8 c8 h=> ?_
 intro B9;refine sY ?_;refine gH J h ?_ ?_<;>intro h
 ·exact eY
 refine cR h (fun _ k=>CC k) fun b0 h=> ?_
 intro b5;refine sY ?_;refine gH J h ?_ ?_<;>intro h
 ·exact eY
 refine ab ?_;refine ga (aI J J) ?_;refine gH J h ?_ ?_<;>intro h
 ·exact eY
 refine ab ?_
 refine oo 5 43 38 h (fun _ b6 h=> ?_) fun b7 h=> ?_
 ·refine cR h (fun _ k=>yM k) fun b9 h=> ?_
  exact gY
 refine dr h ?_ ?_<;>intro h
 ·refine ab ?_;obtain ⟨c9,a6,a7,a8,h⟩:=bz h;refine ab ?_;refine Hr (cg (us:=Uw) (z:=(⟨8,0,(⟨#[]⟩:ByteArray)⟩:WK)) 3 J J J J size28.out J (toNat_lt a6 a7) J (fun S w vs xk hk hr ho=>by obtain rfl:=YL (hk.symm.trans a8);rw [show _=_ from hr];rfl)) ?_
  refine mX (bq 2 J)<|mX (bq 3 J)<|cC h (fun _ k=>dy k) fun d0 h=> ?_
  exact eN
 refine cC h (fun _ k=>qZ k) fun d1 h=> ?_
 exact eN
def ya (N:Nat)(a0:WL)(a6:WW):Option (WL×Bool):=
 some ((⟨a0.Ext,a0.Zs,a6,a0.Zm⟩:WL),true)
def wu (a0:WL)(a1:WK):Option (WL×Bool):=
 (bif !a0.Ext then (some true) else (some a0.Zs)).bind fun b6=>(bif b6 then (some true) else (some (decide (4096<=(a0.Zk.length:Int))))).bind fun b7=>bif b7 then (some (a0,false)) else (aG (bu (([]:List WK).length+a0.Zk.length)) (aG (bu ((([]:List WK)++a0.Zk).length+([a1]:List WK).length)) (ya N a0 ((([]:List WK)++a0.Zk)++([a1]:List WK)))))
theorem Jj {N:Nat}{a0:WL}{a1:WK}{r:WL×Bool}(h:wu N a0 a1=some r):Okc W8 34 [.agg #[.bool a0.Ext,.bool a0.Zs,W A1 n1 c1,W A2 n2 c2],(aE a1)] ([aX A1 n1 c1 a0.Zk,ux A2 n2 c2 a0.Zm]) (fun u post=> ∃A0 n0 c0 A1 n1 c1,u=.tuple #[.agg #[.bool r.1.Ext,.bool r.1.Zs,W A0 n0 c0,W A1 n1 c1],.bool r.2]/\post=[aX A0 n0 c0 r.1.Zk,ux A1 n1 c1 r.1.Zm]):=by
 refine ce Tryz.func34 ?_;intro B3
 refine cn fun B4=> ?_
 intro B5;refine sY ?_;refine gS 3 12 9 h ?_;intro b6 h;refine ab ?_;refine gS 5 18 13 h ?_;intro b7 h;refine dr h ?_ ?_<;>intro h
 ·exact eY
 refine ab ?_;refine ao (fun s L=> ∃c8 b5 b9 c7,ya N a0 c8=some r/\s=[(2,pV B3 0),(4,pV B5 0),(5,.bool false)]/\L=[bf b5 b9 c7 c8,ux A2 n2 c2 a0.Zm,ah B3 35 (lm a0 b5 b9 c7 A2 n2 c2),ah B5 35 [.bool false,.bool false,W none 0 0,W none 0 0]]) ?_ ?_
 ·refine ba O _ (ad _)<|zY [1,2,4] ?_;refine pm 0 5 O ?_ ?_
  ·refine bX J (aB (R:=ax) (vss:=[]) (xs:=[]) J (yK) J J (fun _ _ hr=>All2.nil)) J J J ?_;rintro _ _ ⟨d3,d4,d6,rfl,rfl⟩;refine ca ?_;refine pm 3 5 O ?_ ?_
   ·obtain ⟨e0,h⟩:=ae h;refine bX J (aR 0 4 J J bi J J t9 r9 J J e0) J J J ?_;rintro _ _ ⟨e4,e5,e6,rfl,rfl⟩;refine ca ?_
    refine Du 5 J (aB (R:=ax) (vss:=[(bS a1)]) (xs:=[a1]) J (jr _ _ _) J J (fun _ _ hr=> .cons J All2.nil)) fun d0 d1 d2=> ?_
    obtain ⟨b0,h⟩:=ae h
    refine Du 6 J (aR 1 0 J J ap J J t9 r9 J J b0) fun a6 a7 a8=> ?_
    refine zY [7] ?_;refine gN 8 J O O (am (us:=[W a6 a7 a8]) (cs':=(lm a0 a6 a7 a8 A2 n2 c2)) 4 J J J J size22.out J J J) ?_;rintro _ _ rfl;exact bn O<|jY
   refine bX J (aB (R:=ax) (vss:=[(bS a1)]) (xs:=[a1]) J (jr _ _ _) J J (fun _ _ hr=> .cons J All2.nil)) J J J ?_;rintro _ _ ⟨e1,e2,e3,rfl,rfl⟩;refine ca ?_;obtain ⟨c9,h⟩:=ae h
   refine Du 3 J (aR 1 5 J J bi J J t9 r9 J J c9) fun d0 d1 d2=> ?_
   obtain ⟨b0,h⟩:=ae h
   refine Du 6 J (aR 1 0 J J ap J J t9 r9 J J b0) fun a6 a7 a8=> ?_
   refine zY [7] ?_;refine gN 8 J O O (am (us:=[W a6 a7 a8]) (cs':=(lm a0 a6 a7 a8 A2 n2 c2)) 4 J J J J size22.out J J J) ?_;rintro _ _ rfl;exact bn O<|jY
  refine bX J (aB (R:=ax) (vss:=[(bS a1)]) (xs:=[a1]) J (jr _ _ _) J J (fun _ _ hr=> .cons J All2.nil)) J J J ?_;rintro _ _ ⟨d3,d4,d6,rfl,rfl⟩;refine ca ?_
  refine Du 0 J (aB (R:=ax) (vss:=[]) (xs:=[]) J (yK) J J (fun _ _ hr=>All2.nil)) fun e1 e2 e3=> ?_
  obtain ⟨c9,h⟩:=ae h
  refine Du 3 J (aR 0 5 J J bi J J t9 r9 J J c9) fun d0 d1 d2=> ?_
  obtain ⟨b0,h⟩:=ae h
  refine Du 6 J (aR 0 1 J J ap J J t9 r9 J J b0) fun a6 a7 a8=> ?_
  refine zY [7] ?_;refine gN 8 J O O (am (us:=[W a6 a7 a8]) (cs':=(lm a0 a6 a7 a8 A2 n2 c2)) 4 J J J J size22.out J J J) ?_;rintro _ _ rfl;exact bn O<|jY
 rintro _ _ ⟨c8,b5,b9,c7,h,rfl,rfl⟩;refine ab ?_;obtain rfl:=bF h;exact kB (rs:=[.cell 4 35,.tmp 5]) (vs:=[.agg #[.bool a0.Ext,.bool a0.Zs,W b5 b9 c7,W A2 n2 c2],.bool true]) J (.cons (du 3 J J agg35.out) (.cons (dS J) .nil)) J ((bq 0 J).trans (cS [0,1] 4)) ⟨_,_,_,_,_,_,J,J⟩
def tj (a0:WH)(a1 a2:WK):Option (Bool×WH):=
 (cD N a0 a1).bind fun y6=>(bif !y6.2 then (some true) else (some (decide (ai .i64 y6.1.Ze 1=0)))).bind fun a6=>(bif a6 then (some true) else (some (!decide (ai .i64 y6.1.Ze 32=0)))).bind fun a7=>(bif a7 then (some true) else (some (decide (4096<=(y6.1.Zb.length:Int))))).bind fun b12=>bif b12 then (some (false,a0)) else (aG (bu (y6.1.Zb.length+([a2]:List WK).length)) ((ay N a0 a1 (⟨y6.1.Za,y6.1.Zi,y6.1.Ze,y6.1.Zf,y6.1.Zc,y6.1.Zb++([a2]:List WK)⟩:WI)).bind fun a8=>some (true,a8)))
theorem GL {N:Nat}{a1 a2:WK}{r:Bool×WH}(h:tj N a0 a1 a2=some r){B1 B2 B3:Nat}:Okc W8 35 [pV B1 0,(aE a1),(aE a2)] ([oDWorld B1 B2 B3 a0]) (fun u post=>u=.bool r.1/\post=[oDWorld B1 B2 B3 r.2]):=by
 refine ce Tryz.func35 ?_;intro B4
 refine cn fun B5=> ?_
 refine IK h (fun _ k=>fg k) fun y6 A7 n7 c7 A8 n8 c8 h=> ?_
 intro B9;refine sY ?_
 refine xc 5 22 17 h (fun _ a6 h=> ?_) fun b0 h=> ?_
 ·refine ab ?_;exact fb (aI J J) J (cL a6 J) J<|gY
 refine ab ?_
 refine xc 5 28 23 h (fun _ a7 h=> ?_) fun b5 h=> ?_
 ·refine ab ?_;exact fb (aI J J) J (cL a7 J) J<|gY
 refine ab ?_;refine gS 5 34 29 h ?_;intro b12 h;refine dr h ?_ ?_<;>intro h
 ·exact eY
 refine ab ?_;refine gD (aB (R:=ax) (vss:=[(bS a2)]) (xs:=[a2]) J (jr _ _ _) J J (fun _ _ hr=> .cons J All2.nil)) ?_;rintro _ _ ⟨b6,b7,b9,rfl,rfl⟩;obtain ⟨a8,h⟩:=ae h
 refine vo (aR 3 0 J J ap J J t9 r9 J J a8) fun c9 d0 d1=> ?_
 refine mX (bq 2 J)<|mX (bq 3 J)<|cC h (fun _ k=>dy k) fun d2 h=> ?_
 exact eN
def qh (a0:WH)(a1:WK):Option WH:=
 (gL N a0 a1).bind fun y5=>Ef y5 (fun y5_0=>some a0) (fun y5_1=>(bK N (⟨(⟨y5_1.Zn.Za,y5_1.Zn.Zi,be .i64 y5_1.Zn.Ze 1,y5_1.Zn.Zf,y5_1.Zn.Zc,y5_1.Zn.Zb⟩:WI),a0,y5_1.at_⟩:WD) false).bind fun a6=>some a6.w_)
theorem D7 {N:Nat}{a1:WK}{r:WH}(h:qh N a0 a1=some r){B1 B2 B3:Nat}:Okc W8 36 [pV B1 0,(aE a1)] ([oDWorld B1 B2 B3 a0]) (fun u post=>u=.tuple #[]/\post=[oDWorld B1 B2 B3 r]):=by
 refine ce Tryz.func36 ?_;intro B4;refine ab ?_;obtain ⟨y5,a6,h⟩:=aa h;rcases y5 with y5_0|y5_1
 ·replace h:=GS h;refine gD (oR (db a6)) ?_;rintro _ _ ⟨_,⟨rfl,rfl⟩,rfl⟩;refine ab ?_;exact ge J<|eY
 replace h:=GR h;refine gD (oR (db a6)) ?_;rintro _ _ ⟨_,⟨B6,A7,n7,c7,A8,n8,c8,rfl,rfl⟩,rfl⟩;refine ab ?_;refine jx J<|ab ?_;refine ga (rC J J) ?_
 refine TU h (fun _ k=>jA k) fun a7 a8 b0 b5 b6 b7 b9 h=> ?_
 exact eN
def lI (N:Nat)(a0:WH):Option Unit:=
 some ()
theorem zG {N:Nat}{r:Unit}(h:lI N a0=some r):Okc W8 37 [pV B1 0] ([aQ B1 81 (Ac a0 B2 B3 A4 n4 c4 A5 n5 c5 A6 n6 c6),pDHeap B2 a0.Zo,pDTable B3 a0.Zp,iI sJ (W A4 n4 c4) a0.Zy,iI nF (W A5 n5 c5) a0.Zz,iI sJ (W A6 n6 c6) a0.ZA]) (fun u post=>u=pV B2 0/\post=[]):=by
 refine ce Tryz.func37 ?_;refine sZ ?_;refine ga (dO J Wp) ?_;exact ge J<|eY
theorem xu {N:Nat}{r:Unit}(h:lI N a0=some r){B1 B2 B3:Nat}:Okc W8 37 [pV B1 0] ([pDWorld B1 B2 B3 a0]) (fun u post=>u=pV B2 0/\post=[]):=Nz 0 rfl (fun _=>zG h)
def jc (a0:Int)(a1:WO):Option Bool:=
 (py N a1 a0).bind fun y4=>some (!y4)
theorem BR {N:Nat}{a0:Int}{a1:WO}{r:Bool}(h:jc N a0 a1=some r):Okc W8 159 [iV a0,pV B1 0] ([aQ B1 121 [W A2 n2 c2,W A3 n3 c3],iE A2 n2 c2 a1.Zh,iE A3 n3 c3 a1.Zj]) (fun u post=>u=.bool r/\post=[]):=by
 refine ce Tryz.func159 ?_
 refine cR h (fun _ k=>sI k) fun y4 h=> ?_
 exact eN
def sf (a0:WO)(a6:W4):Option Int:=
 (cH N a6 (fun x=>jc N x a0)).bind fun a7=>bif a7 then (some 50) else (some 0)
def oY (N:Nat)(a6:W4->Int->Option Int)(a1:WW)(a7:Int)(a0:WO)(a8:W4):Option Int:=
 aG (in64 (a7+1)) (a6 a8 (a7+1))
def fS (N:Nat)(a1:WW)(a0:WO):Nat->W4->Int->Option Int
 |0,_,_=>none
 |b0+1,a6,a7=>bif decide (a7<(a1.length:Int)) then ((au a1 a7).bind fun a8=>(bif decide (a8.Za=7) then (some true) else (some (decide (a8.Za=9)))).bind fun b5=>bif b5 then (aG (bu (a6.length+([a8.N]:List Int).length)) (oY N (fS N a1 a0 b0) a1 a7 a0 (a6++([a8.N]:List Int)))) else (oY N (fS N a1 a0 b0) a1 a7 a0 a6)) else (sf N a0 a6)
def ql (a1:WW)(a0:WO)(p6:W4):Option Int:=
 fS N a1 a0 N p6 0
def sg (N:Nat)(a7:W4->Int->Option Int)(a0:WO)(a6:Int)(a1:WW)(a8:W4):Option Int:=
 aG (in64 (a6+1)) (a7 a8 (a6+1))
def mi (N:Nat)(b6:W4->Int->Option Int)(a0:WO)(b7:Int)(a8:W5)(a1:WW):Nat->W4->Int->Option Int
 |0,_,_=>none
 |c7+1,a6,a7=>bif decide (a7<(a8.length:Int)) then ((au a8 a7).bind fun b0=>(gM N b0).bind fun c8=>bif !c8 then (some 51) else ((nQ N b0).bind fun b5=>aG (bu (a6.length+b5.length)) ((oO N b0).bind fun b9=>aG (bu ((a6++b5).length+b9.length)) (aG (in64 (a7+1)) ((mi N b6 a0 b7 a8 a1 c7) ((a6++b5)++b9) (a7+1)))))) else (sg N b6 a0 b7 a1 a6)
def nl (N:Nat)(a0:WO)(a1:WW):Nat->W4->Int->Option Int
 |0,_,_=>none
 |m8+1,p9,a6=>bif decide (a6<(([a0.Zh,a0.Zj]:List W5).length:Int)) then ((au ([a0.Zh,a0.Zj]:List W5) a6).bind fun a7=>mi N (nl N a0 a1 m8) a0 a6 a7 a1 N p9 0) else (ql N a1 a0 p9)
def mC (a0:WO)(a1:WW):Option Int:=
 nl N a0 a1 N [] 0
theorem FA {N:Nat}{a0:WO}{a1:WW}{r:Int}(h:mC N a0 a1=some r):Okc W8 122 [.agg #[W A1 n1 c1,W A2 n2 c2],W A3 n3 c3] ([iE A1 n1 c1 a0.Zh,iE A2 n2 c2 a0.Zj,aX A3 n3 c3 a1]) (fun u post=>u=iV r/\post=[]):=by
 refine ce Tryz.func122 ?_;intro B4;refine ab ?_;refine ao (fun s L=> ∃p6 A6 n6 c6,ql N a1 a0 p6=some r/\s=[(1,W A3 n3 c3),(2,pV B4 0),(4,iV 0),(5,W A6 n6 c6)]/\L=[aX A3 n3 c3 a1,uA A6 n6 c6 p6,iE A1 n1 c1 a0.Zh,iE A2 n2 c2 a0.Zj,ah B4 121 [W A1 n1 c1,W A2 n2 c2]]) ?_ ?_
 ·refine ab ?_
  refine vo (aB (R:=(Rep.sl jG)) (vss:=[[W A1 n1 c1],[W A2 n2 c2]]) (xs:=[a0.Zh,a0.Zj]) J (N9 _ _ _ _ _ _) J J (fun _ _ hr=> .cons (⟨_,J,hr 1 _ J J⟩) (.cons (⟨_,J,hr 2 _ J J⟩) All2.nil))) fun A7 n7 c7=> ?_
  refine kq (fun m s L=> ∃p9 a6 A9 n9 c9,nl N a0 a1 m p9 a6=some r/\s=[(1,W A3 n3 c3),(2,pV B4 0),(4,iV 0),(5,W A9 n9 c9),(16,W A7 n7 c7),(17,iV (([a0.Zh,a0.Zj]:List W5).length:Int)),(18,iV a6)]/\L=[aX A3 n3 c3 a1,uA A9 n9 c9 p9,bc (Rep.sl jG) 119 (W A7 n7 c7) ([a0.Zh,a0.Zj]:List W5),iE A1 n1 c1 a0.Zh,iE A2 n2 c2 a0.Zj,ah B4 121 [W A1 n1 c1,W A2 n2 c2]]) N _ _ ⟨[],0,none,0,0,h,J,J⟩ sA ((cj (nE .i64) 3 _).trans (cS [5,0,1,3,4,2] 6)) ?_;rintro (_|m8) _ _ ⟨p9,a6,A9,n9,c9,h,rfl,rfl⟩
  ·exact aU h
  rw [nl.eq_2] at h;refine ab ?_;refine aA<|gH J h (fun h=> ?_) (fun h=> ?_)
  ·refine ab ?_;refine ao (fun s L=> ∃d6 e0 e1 e2,sg N (nl N a0 a1 m8) a0 a6 a1 d6=some r/\s=[(1,W A3 n3 c3),(2,pV B4 0),(4,iV 0),(5,W e0 e1 e2),(16,W A7 n7 c7),(17,iV (([a0.Zh,a0.Zj]:List W5).length:Int)),(18,iV a6)]/\L=[aX A3 n3 c3 a1,uA e0 e1 e2 d6,bc (Rep.sl jG) 119 (W A7 n7 c7) ([a0.Zh,a0.Zj]:List W5),iE A1 n1 c1 a0.Zh,iE A2 n2 c2 a0.Zj,ah B4 121 [W A1 n1 c1,W A2 n2 c2]]) ?_ ?_
   ·refine ab ?_;obtain ⟨a8,g5,g6,e3,h⟩:=bz h;refine ab ?_
    refine vo (OX (R':=jG) (ys:=a8) 2 J ap J e3 KP (fun _ _ _ h=>by obtain ⟨u,e,k⟩:=h;exact ⟨u,by rw [e];rfl,k⟩)) fun b5 b6 b7=> ?_
    refine kq (fun m s L=> ∃e4 b9 e5 e6 e7,mi N (nl N a0 a1 m8) a0 a6 a8 a1 m e4 b9=some r/\s=[(1,W A3 n3 c3),(2,pV B4 0),(4,iV 0),(5,W e5 e6 e7),(16,W A7 n7 c7),(17,iV (([a0.Zh,a0.Zj]:List W5).length:Int)),(18,iV a6),(22,W b5 b6 b7),(23,iV (a8.length:Int)),(24,iV b9)]/\L=[aX A3 n3 c3 a1,uA e5 e6 e7 e4,bc (Rep.sl jG) 119 (W A7 n7 c7) ([a0.Zh,a0.Zj]:List W5),iE b5 b6 b7 a8,iE A1 n1 c1 a0.Zh,iE A2 n2 c2 a0.Zj,ah B4 121 [W A1 n1 c1,W A2 n2 c2]]) N _ _ ⟨p9,0,A9,n9,c9,h,J,J⟩ sA (cS [1,2,3,0,4,5,6] 7) ?_;rintro (_|h7) _ _ ⟨e4,b9,e5,e6,e7,h,rfl,rfl⟩
    ·exact aU h
    rw [mi.eq_2] at h;refine ab ?_;refine aA<|gH J h (fun h=> ?_) (fun h=> ?_)
    ·refine sY ?_;obtain ⟨a7,g7,g8,e8,h⟩:=bz h;refine ab ?_;refine Kb 3 J e8 (uc a7) ?_;rintro _ _ ⟨c8,d0,d1,d2,d3,d4,rfl,rfl⟩;refine K9 (Bq (us:=(iL a7 c8 d0 d1 d2 d3 d4)) 0 J J agg94.out J) ?_;intro g9;refine sY ?_;obtain ⟨h8,k,h⟩:=aa h;refine Gl (oR (mD k)) ?_;refine gH J h ?_ ?_<;>intro h
     ·exact eY
     refine ab ?_;refine ba O ([ah g9 94 (iL a7 c8 d0 d1 d2 d3 d4),OG (dD (W b5 b6 b7) b9.toNat 6 0) (iL a7 c8 d0 d1 d2 d3 d4),aX c8 d0 d1 a7.Zc,aX d2 d3 d4 a7.Zb,aX A3 n3 c3 a1,bc (Rep.sl jG) 119 (W A7 n7 c7) ([a0.Zh,a0.Zj]:List W5),iE b5 b6 b7 a8,iE A1 n1 c1 a0.Zh,iE A2 n2 c2 a0.Zj,ah B4 121 [W A1 n1 c1,W A2 n2 c2]]) (cS [0,1,2,3,4,6,7,8,9,10] 11) ?_;refine yY [0,1,4] ?_;obtain ⟨h9,k,h⟩:=aa h;refine zD 2 J (oR (vv k)) ?_;rintro _ _ ⟨_,⟨i0,i1,i2,rfl,rfl⟩,rfl⟩;refine nC (cS [1,2,3,4,5,7,8,9,10,11] 12) ?_;obtain ⟨h0,h⟩:=ae h;refine zD 3 J (aR 6 0 J J ap J J Wk Se J J h0) ?_;rintro _ _ ⟨i3,i4,i5,rfl,rfl⟩;refine nC (cS [1,2,3,4,5,7,8,9,10,11] 12) ?_;obtain ⟨i6,k,h⟩:=aa h;refine zD 5 J (oR (yH k)) ?_;rintro _ _ ⟨_,⟨i7,i8,i9,rfl,rfl⟩,rfl⟩;refine nC (cS [2,3,4,5,6,8,9,10,11,12] 13) ?_;obtain ⟨h1,h⟩:=ae h;refine zD 6 J (aR 7 0 J J ap J J Wk Se J J h1) ?_;rintro _ _ ⟨j0,j1,j2,rfl,rfl⟩;refine nC (cS [2,3,4,5,6,8,9,10,11,12] 13) ?_;refine zE 7 J (ci J) ?_;refine bn O<|ab ?_;obtain ⟨j3,h⟩:=ae h;exact lY
    exact jY
   rintro _ _ ⟨d6,e0,e1,e2,h,rfl,rfl⟩;refine ab ?_;obtain ⟨j4,h⟩:=ae h;exact lY
  exact jY
 rintro _ _ ⟨p6,A6,n6,c6,h,rfl,rfl⟩;refine ao (fun s L=> ∃e9 f0 f1 f2,sf N a0 e9=some r/\s=[(2,pV B4 0),(4,iV 0),(5,W f0 f1 f2)]/\L=[uA f0 f1 f2 e9,iE A1 n1 c1 a0.Zh,iE A2 n2 c2 a0.Zj,ah B4 121 [W A1 n1 c1,W A2 n2 c2]]) ?_ ?_
 ·refine ab ?_;refine kq (fun m s L=> ∃f3 b0 f4 f6 f9,fS N a1 a0 m f3 b0=some r/\s=[(2,pV B4 0),(4,iV 0),(5,W f4 f6 f9),(40,W A3 n3 c3),(41,iV (a1.length:Int)),(42,iV b0)]/\L=[uA f4 f6 f9 f3,aX A3 n3 c3 a1,iE A1 n1 c1 a0.Zh,iE A2 n2 c2 a0.Zj,ah B4 121 [W A1 n1 c1,W A2 n2 c2]]) N _ _ ⟨p6,0,A6,n6,c6,h,J,J⟩ sA (cS [1,0,2,3,4] 5) ?_;rintro (_|h2) _ _ ⟨f3,b0,f4,f6,f9,h,rfl,rfl⟩
  ·exact aU h
  rw [fS.eq_2] at h;refine ab ?_;refine aA<|gH J h (fun h=> ?_) (fun h=> ?_)
  ·refine ab ?_;refine ao (fun s L=> ∃g0 g1 g2 g3,oY N (fS N a1 a0 h2) a1 b0 a0 g0=some r/\s=[(2,pV B4 0),(4,iV 0),(5,W g1 g2 g3),(40,W A3 n3 c3),(41,iV (a1.length:Int)),(42,iV b0)]/\L=[uA g1 g2 g3 g0,aX A3 n3 c3 a1,iE A1 n1 c1 a0.Zh,iE A2 n2 c2 a0.Zj,ah B4 121 [W A1 n1 c1,W A2 n2 c2]]) ?_ ?_
   ·refine ab ?_;obtain ⟨g4,h3,h4,h5,h⟩:=bz h
    refine cn fun j5=> ?_
    refine gS 4 53 49 h ?_;intro j6 h;refine dr h ?_ ?_<;>intro h
    ·refine ab ?_;refine gD (aB (R:=(nE .i64)) (vss:=[[iV g4.N]]) (xs:=[g4.N]) J (rj _) J J (fun _ _ hr=> .cons J All2.nil)) ?_;rintro _ _ ⟨j7,j8,j9,rfl,rfl⟩;obtain ⟨h6,h⟩:=ae h
     refine vo (aR 2 0 J J ap J J Wk Se J J h6) fun k0 k1 k2=> ?_
     exact jN
    exact jY
   rintro _ _ ⟨g0,g1,g2,g3,h,rfl,rfl⟩;refine ab ?_;obtain ⟨k3,h⟩:=ae h;exact lY
  exact jY
 rintro _ _ ⟨e9,f0,f1,f2,h,rfl,rfl⟩;refine sZ ?_;refine gE (iY J) ?_;obtain ⟨k4,k,h⟩:=aa h;refine Gl (oR (lC k ⟨t5 J (t5 J (t5 J aw)),159, #[], #[pV B4 0],J,call159.out,fun _ _ hh=>BR hh⟩)) ?_;refine gH J h ?_ ?_<;>intro h
 ·exact eY
 exact eY
def oQ (N:Nat)(a0:WK):Option (Int×Bool):=
 (bif decide (a0.Za=7) then (some true) else (some (decide (a0.Za=9)))).bind fun b2=>some (a0.N,b2)
theorem CR {N:Nat}{a0:WK}{r:Int×Bool}(h:oQ N a0=some r):Okc W8 207 [(aE a0)] ([]) (fun u post=>u=.tuple #[iV r.1,.bool r.2]/\post=[]):=by
 refine ce Tryz.func207 ?_;intro B1;refine ab ?_;refine dY [0,1,2,3,4,5,10] ?_
 refine yJ [6,7,8,9] 1 9 13 h (fun _ g2 h rest=> ?_) (fun _ g2 h rest=> ?_) fun b2 h=> ?_
 ·refine yY [6,7,8,9] ?_;exact yS rest h
 ·refine yY [6,7,8,9] ?_;exact yS rest h
 refine zX [11] ?_;exact eY
def jX (N:Nat)(a6:Int->W4->(List (Int×Unit))->Option WR)(a1:W4)(p8:Int)(a0:WR)(p13:W4)(a7:(List (Int×Unit))):Option WR:=
 aG (in64 (p8+1)) (a6 (p8+1) p13 a7)
def dc (N:Nat)(a1:W4)(a0:WR):Nat->Int->W4->(List (Int×Unit))->Option WR
 |0,_,_,_=>none
 |m7+1,p8,p9,a7=>bif decide (p8<(a1.length:Int)) then ((au a1 p8).bind fun a6=>(bif !((lk a7 a6).isSome) then ((py N a0.m_ a6).bind fun a8=>some a8) else (some false)).bind fun b0=>bif b0 then (aG (bu (p9.length+([a6]:List Int).length)) (jX N (dc N a1 a0 m7) a1 p8 a0 (p9++([a6]:List Int)) (AZ a7 a6 ()))) else (jX N (dc N a1 a0 m7) a1 p8 a0 p9 a7)) else (some (⟨a0.m_,p9,a7,a0.ZH⟩:WR))
def eJ (a0:WR)(a1:W4):Option WR:=
 dc N a1 a0 N 0 a0.Zx a0.ZJ
theorem vJ {N:Nat}{a0:WR}{a1:W4}{r:WR}(h:eJ N a0 a1=some r):Okc W8 208 [pV B1 0,W A6 n6 c6] ([iE A2 n2 c2 a0.m_.Zh,iE A3 n3 c3 a0.m_.Zj,xz A6 n6 c6 a1,ah B1 249 [W A2 n2 c2,W A3 n3 c3,W A4 n4 c4,.map (some M5),iV a0.ZH],uA A4 n4 c4 a0.Zx,bE jC DR M5 a0.ZJ]) (fun u post=> ∃A0 n0 c0 A1 n1 c1 A2 n2 c2 M3,u=.tuple #[]/\post=[ah B1 249 [W A0 n0 c0,W A1 n1 c1,W A2 n2 c2,.map (some M3),iV r.ZH],iE A0 n0 c0 r.m_.Zh,iE A1 n1 c1 r.m_.Zj,uA A2 n2 c2 r.Zx,bE jC DR M3 r.ZJ]):=by
 refine ce Tryz.func208 ?_;refine lK (fun m s L=> ∃(p8:Int) (p9:W4) (a7:(List (Int×Unit))) (A9:Option Addr) (n9 c9:Nat),dc N a1 a0 m p8 p9 a7=some r/\s=[(0,pV B1 0),(8,W A6 n6 c6),(9,iV (a1.length:Int)),(10,iV p8)]/\L=[xz A6 n6 c6 a1,iE A2 n2 c2 a0.m_.Zh,iE A3 n3 c3 a0.m_.Zj,uA A9 n9 c9 p9,bE jC DR M5 a7,ah B1 249 [W A2 n2 c2,W A3 n3 c3,W A9 n9 c9,.map (some M5),iV a0.ZH]]) N ?_;rintro m7 _ _ ⟨p8,p9,a7,A9,n9,c9,h,rfl,rfl⟩;rw [dc.eq_2] at h;refine ab ?_;refine aA<|gH J h (fun h=> ?_) (fun h=> ?_)
 ·refine ab ?_;refine ao (fun s L=> ∃p13 a8 b0 b5 b6,jX N (dc N a1 a0 m7) a1 p8 a0 p13 a8=some r/\s=[(0,pV B1 0),(8,W A6 n6 c6),(9,iV (a1.length:Int)),(10,iV p8)]/\L=[xz A6 n6 c6 a1,iE A2 n2 c2 a0.m_.Zh,iE A3 n3 c3 a0.m_.Zj,uA b0 b5 b6 p13,bE jC DR M5 a8,ah B1 249 [W A2 n2 c2,W A3 n3 c3,W b0 b5 b6,.map (some M5),iV a0.ZH]]) ?_ ?_
  ·refine ab ?_;obtain ⟨a6,b7,b9,c7,h⟩:=bz h;refine ab ?_;refine K9 (Bt (a:=a6) (z:=()) 4 J Fz J J Wv (kX Wo) zero278.out) ?_;intro d0;refine ab ?_
   refine oo 7 32 25 h (fun _ d1 h=> ?_) fun d2 h=> ?_
   ·refine cR h (fun _ k=>sI k) fun d3 h=> ?_
    exact gY
   refine dr h ?_ ?_<;>intro h
   ·refine ab ?_;refine Hr (nK (a:=a6) (b:=()) 5 J J J J Wv (kX Wo)) ?_;refine gD (aB (R:=(nE .i64)) (vss:=[[iV a6]]) (xs:=[a6]) J (rj _) J J (fun _ _ hr=> .cons J All2.nil)) ?_;rintro _ _ ⟨d4,d6,e0,rfl,rfl⟩;obtain ⟨c8,h⟩:=ae h
    refine vo (aR 5 0 J J ap J J Wk Se J J c8) fun e1 e2 e3=> ?_
    exact jN
   exact jY
  rintro _ _ ⟨p13,a8,b0,b5,b6,h,rfl,rfl⟩;refine ab ?_;obtain ⟨e4,h⟩:=ae h;exact lY
 exact eY
theorem Ar {N:Nat}{V:Value}{K:Nat}{a0:WR}{a1:W4}{r:WR}(h:eJ N a0 a1=some r):Okc W8 208 [pV B1 0,W A6 n6 c6] ([iE A2 n2 c2 a0.m_.Zh,iE A3 n3 c3 a0.m_.Zj,xz A6 n6 c6 a1,ah B1 249 [W A2 n2 c2,W A3 n3 c3,W A4 n4 c4,.map (some M5),iV a0.ZH],nr (nE .i64) 3 (W A4 n4 c4) a0.Zx V K,bE jC DR M5 a0.ZJ]) (fun u post=> ∃A0 n0 c0 A1 n1 c1 A2 n2 c2 M3,u=.tuple #[]/\post=[ah B1 249 [W A0 n0 c0,W A1 n1 c1,W A2 n2 c2,.map (some M3),iV r.ZH],iE A0 n0 c0 r.m_.Zh,iE A1 n1 c1 r.m_.Zj,nr (nE .i64) 3 (W A2 n2 c2) r.Zx V K,bE jC DR M3 r.ZJ]):=by
 refine ce Tryz.func208 ?_;refine lK (fun m s L=> ∃(p8:Int) (p9:W4) (a7:(List (Int×Unit))) (A9:Option Addr) (n9 c9:Nat),dc N a1 a0 m p8 p9 a7=some r/\s=[(0,pV B1 0),(8,W A6 n6 c6),(9,iV (a1.length:Int)),(10,iV p8)]/\L=[xz A6 n6 c6 a1,iE A2 n2 c2 a0.m_.Zh,iE A3 n3 c3 a0.m_.Zj,nr (nE .i64) 3 (W A9 n9 c9) p9 V K,bE jC DR M5 a7,ah B1 249 [W A2 n2 c2,W A3 n3 c3,W A9 n9 c9,.map (some M5),iV a0.ZH]]) N ?_;rintro m7 _ _ ⟨p8,p9,a7,A9,n9,c9,h,rfl,rfl⟩;rw [dc.eq_2] at h;refine ab ?_;refine aA<|gH J h (fun h=> ?_) (fun h=> ?_)
 ·refine ab ?_;refine ao (fun s L=> ∃p13 a8 b0 b5 b6,jX N (dc N a1 a0 m7) a1 p8 a0 p13 a8=some r/\s=[(0,pV B1 0),(8,W A6 n6 c6),(9,iV (a1.length:Int)),(10,iV p8)]/\L=[xz A6 n6 c6 a1,iE A2 n2 c2 a0.m_.Zh,iE A3 n3 c3 a0.m_.Zj,nr (nE .i64) 3 (W b0 b5 b6) p13 V K,bE jC DR M5 a8,ah B1 249 [W A2 n2 c2,W A3 n3 c3,W b0 b5 b6,.map (some M5),iV a0.ZH]]) ?_ ?_
  ·refine ab ?_;obtain ⟨a6,b7,b9,c7,h⟩:=bz h;refine ab ?_;refine K9 (Bt (a:=a6) (z:=()) 4 J Fz J J Wv (kX Wo) zero278.out) ?_;intro d0;refine ab ?_
   refine oo 7 32 25 h (fun _ d1 h=> ?_) fun d2 h=> ?_
   ·refine cR h (fun _ k=>sI k) fun d3 h=> ?_
    exact gY
   refine dr h ?_ ?_<;>intro h
   ·refine ab ?_;refine Hr (nK (a:=a6) (b:=()) 5 J J J J Wv (kX Wo)) ?_;refine gD (aB (R:=(nE .i64)) (vss:=[[iV a6]]) (xs:=[a6]) J (rj _) J J (fun _ _ hr=> .cons J All2.nil)) ?_;rintro _ _ ⟨d4,d6,e0,rfl,rfl⟩;obtain ⟨c8,h⟩:=ae h
    refine vo (KL 5 0 J J ap J J Wk Se J J c8) fun e1 e2 e3=> ?_
    exact jN
   exact jY
  rintro _ _ ⟨p13,a8,b0,b5,b6,h,rfl,rfl⟩;refine ab ?_;obtain ⟨e4,h⟩:=ae h;exact lY
 exact eY
def qT (a0:WK)(a1:WR):Option WR:=
 (oQ N a0).bind fun y8=>bif y8.2 then ((eJ N a1 ([y8.1]:List Int)).bind fun a6=>some a6) else (some a1)
theorem Bp {N:Nat}{a0:WK}{a1 r:WR}(h:qT N a0 a1=some r):Okc W8 206 [(aE a0),pV B1 0] ([iE A3 n3 c3 a1.m_.Zh,iE A4 n4 c4 a1.m_.Zj,ah B1 245 [pV B2 0],ah B2 249 [W A3 n3 c3,W A4 n4 c4,W A5 n5 c5,.map (some M6),iV a1.ZH],uA A5 n5 c5 a1.Zx,bE jC DR M6 a1.ZJ]) (fun u post=> ∃A0 n0 c0 A1 n1 c1 A2 n2 c2 M3,u=.tuple #[]/\post=[ah B2 249 [W A0 n0 c0,W A1 n1 c1,W A2 n2 c2,.map (some M3),iV r.ZH],iE A0 n0 c0 r.m_.Zh,iE A1 n1 c1 r.m_.Zj,uA A2 n2 c2 r.Zx,bE jC DR M3 r.ZJ,ah B1 245 [pV B2 0]]):=by
 refine ce Tryz.func206 ?_;intro B7
 refine cR h (fun _ k=>CR k) fun y8 h=> ?_
 refine gH J h ?_ ?_<;>intro h
 ·refine ab ?_;refine gD (aB (R:=(nE .i64)) (vss:=[[iV y8.1]]) (xs:=[y8.1]) J (rj _) J J (fun _ _ hr=> .cons J All2.nil)) ?_;rintro _ _ ⟨a6,a7,a8,rfl,rfl⟩;refine mX (bq 0 J) ?_;obtain ⟨b0,k,h⟩:=aa h;refine gD (oC (vJ k)) ?_;rintro _ _ ⟨_,⟨b5,b6,b7,b9,c7,c8,c9,d0,d1,d2,rfl,rfl⟩,rfl⟩;exact eY
 exact eY
def lL (a0:WO)(a1:Int):Option WI:=
 (oD N a0 a1).bind fun y5=>bif !y5.2.2 then (some (⟨0,0,0,0,[],[]⟩:WI)) else ((au y5.1 y5.2.1).bind fun a6=>(fT N a6).bind fun a7=>some a7)
theorem xV {N:Nat}{a0:WO}{r:WI}(h:lL N a0 a1=some r):Okc W8 125 [.agg #[W A1 n1 c1,W A2 n2 c2],iV a1] ([iE A1 n1 c1 a0.Zh,iE A2 n2 c2 a0.Zj]) (fun u post=> ∃A0 n0 c0 A1 n1 c1,u=.agg #[iV r.Za,iV r.Zi,iV r.Ze,iV r.Zf,W A0 n0 c0,W A1 n1 c1]/\post=[bf A0 n0 c0 r.Zc,bf A1 n1 c1 r.Zb]):=by
 refine ce Tryz.func125 ?_;intro B3
 refine cn fun B4=> ?_
 refine VM h (fun _ k=>xU k) fun y5 A6 n6 c6 h=> ?_
 refine sZ ?_;refine gH J h ?_ ?_<;>intro h
 ·refine ab ?_;obtain rfl:=bF h;exact kB (rs:=[.cell 4 94]) (vs:=[.agg #[iV 0,iV 0,iV 0,iV 0,W none 0 0,W none 0 0]]) J (.cons (du 1 J J agg94.out) .nil) J ((cj ax 28 _).trans ((cj ax 28 _).trans (cS [1,0] 7))) ⟨_,_,_,_,_,_,J,J⟩
 refine ab ?_;obtain ⟨a7,a8,b0,a6,h⟩:=bz h;refine ab ?_;refine Kb 0 J a6 (uc a7) ?_;rintro _ _ ⟨b5,b6,b7,b9,c7,c8,rfl,rfl⟩
 refine gR (Bq (us:=(iL a7 b5 b6 b7 b9 c7 c8)) 0 J J agg94.out J)<|IK h (fun _ k=>iO k) fun c9 d0 d1 d2 d3 d4 d6 h=> ?_
 exact eN
def gZ (N:Nat):Nat->W5->W5->W4->(List (Int×Unit))->Int->Option WR
 |0,_,_,_,_,_=>none
 |m6+1,p7,p8,p9,a8,a7=>bif decide (a7<(p9.length:Int)) then ((au p9 a7).bind fun b0=>(lL N (⟨p7,p8⟩:WO) b0).bind fun b5=>(nQ N b5).bind fun b6=>(eJ N (⟨(⟨p7,p8⟩:WO),p9,a8,a7⟩:WR) b6).bind fun a6=>aG (in64 (a6.ZH+1)) ((gZ N m6) a6.m_.Zh a6.m_.Zj a6.Zx a6.ZJ (a6.ZH+1))) else (some (⟨(⟨p7,p8⟩:WO),p9,a8,a7⟩:WR))
def iB (a0:WR):Option WR:=
 gZ N N a0.m_.Zh a0.m_.Zj a0.Zx a0.ZJ a0.ZH
theorem rO {N:Nat}{a0 r:WR}(h:iB N a0=some r):Okc W8 192 [pV B1 0] ([iE A2 n2 c2 a0.m_.Zh,iE A3 n3 c3 a0.m_.Zj,ah B1 249 [W A2 n2 c2,W A3 n3 c3,W A4 n4 c4,.map (some M5),iV a0.ZH],uA A4 n4 c4 a0.Zx,bE jC DR M5 a0.ZJ]) (fun u post=> ∃A0 n0 c0 A1 n1 c1 A2 n2 c2 M3,u=.tuple #[]/\post=[ah B1 249 [W A0 n0 c0,W A1 n1 c1,W A2 n2 c2,.map (some M3),iV r.ZH],iE A0 n0 c0 r.m_.Zh,iE A1 n1 c1 r.m_.Zj,uA A2 n2 c2 r.Zx,bE jC DR M3 r.ZJ]):=by
 refine ce Tryz.func192 ?_;refine lK (fun m s L=> ∃(p7:W5) (p8:W5) (p9:W4) (a8:(List (Int×Unit))) (a6:Int) (A7:Option Addr) (n7 c7:Nat) (A8:Option Addr) (n8 c8:Nat) (A9:Option Addr) (n9 c9:Nat) (a7:Nat),gZ N m p7 p8 p9 a8 a6=some r/\s=[(0,pV B1 0)]/\L=[iE A7 n7 c7 p7,iE A8 n8 c8 p8,uA A9 n9 c9 p9,bE jC DR a7 a8,ah B1 249 [W A7 n7 c7,W A8 n8 c8,W A9 n9 c9,.map (some a7),iV a6]]) N ?_;intro m6
 refine fun s L=>aM fun p7=>aM fun p8=>aM fun p9=>aM fun a8=>aM fun a6=>aM fun A7=>aM fun n7=>aM fun c7=>aM fun A8=>aM fun n8=>aM fun c8=>aM fun A9=>aM fun n9=>aM fun c9=>aM fun a7=>Lb fun h=> ?_
 rw [gZ.eq_2] at h;refine aA<|dY [] ?_;refine dr h ?_ ?_<;>intro h
 ·refine sY ?_;obtain ⟨b0,b5,b6,b7,h⟩:=bz h;refine gI (t:=[(0,pV B1 0)]) ?_ mc (ad _)
  refine iQ O 15 [0] [0,4,14] [19,20,21,22,23,24,25,26,27,28,29,30,31,32,33] [[],[],[1],[2],[3],[],[5],[6],[7],[],[9],[10],[11],[8,12],[13]] [aV (pV B1 0),
 aV (pV B1 0),
 aV (pV B1 0),
 aV (pV B1 0),
 aV (.agg #[W A7 n7 c7,W A8 n8 c8]),
 aV (pV B1 0),
 aV (pV B1 0),
 aV (pV B1 2),
 aV (W A9 n9 c9),
 aV (pV B1 0),
 aV (pV B1 0),
 aV (pV B1 4),
 aV (iV a6),
 aV (dD (W A9 n9 c9) a6.toNat 1 0),
 aV (iV b0)] [] (ad _) (fB rfl lV) O rfl rfl ?_ ?_ ?_
  ·exact fA J (nz (aq J) J (iH J (ad _)))<|lU
  ·refine aF J (yQ (mg (u:=iV b0) 2 J ap J b7 rR (fun _ _ _ h=>by rw [show _=_ from h];rfl)) J (iH J (ad _)))<|qR (cT 2 J ap J J Wk size3.out b5 b6) ?_;refine qR (bM 4 J J rR J) ?_;refine qE (jD J JN) ?_;refine qE (dC J) ?_;refine qE (aq J) ?_;refine qR (bM 4 J J KO J) ?_;refine qE (jD J FV) ?_;refine qE (dC J) ?_;refine qE (aq J) ?_;refine qR (aC (us:=[W A7 n7 c7,W A8 n8 c8]) 4 J J agg121.out J) ?_;refine qE (nu J JO) ?_;refine qE (dC J) ?_;refine qE (aq J) ?_;refine qE (aq J) ?_;exact dI
  refine oa (t:=[(19,pV B1 0),(23,.agg #[W A7 n7 c7,W A8 n8 c8]),(33,iV b0),(0,pV B1 0)]) (L':=[iE A7 n7 c7 p7,iE A8 n8 c8 p8,uA A9 n9 c9 p9,bE jC DR a7 a8,ah B1 249 [W A7 n7 c7,W A8 n8 c8,W A9 n9 c9,.map (some a7),iV a6]]) ?_ mc (ad _);obtain ⟨b9,k,h⟩:=aa h;refine uv 15 J O (oR (xV k)) J J J ?_;rintro _ _ ⟨_,⟨d0,d1,d2,d3,d4,d6,rfl,rfl⟩,rfl⟩;obtain ⟨e0,k,h⟩:=aa h;refine uv 16 J O (oR (vv k)) J J J ?_;rintro _ _ ⟨_,⟨e1,e2,e3,rfl,rfl⟩,rfl⟩;refine oa ?_ bw (bq 0 J);obtain ⟨e4,k,h⟩:=aa h;refine uv 17 J O (oC (vJ k)) J J J ?_;rintro _ _ ⟨_,⟨e5,e6,e7,e8,e9,f0,f1,f2,f3,f4,rfl,rfl⟩,rfl⟩;refine mb O<|ab ?_;obtain ⟨f6,h⟩:=ae h;exact lY
 exact eY
end
end Go.Proofs.YtmcifcmlojonnaaGreatDoor