/- Merged texts: part 7. No conditions of their own. -/
import Derived.Test.YtjmonlcchlkdhaaGreatG6
set_option maxHeartbeats 4000000
namespace Go.Proofs.YtjmonlcchlkdhaaGreat
variable {A1 A10 A12 A13 A14 A15 A16 A2 A3 A4 A5 A6 A8 A9:Option Addr} {B1 B2 B6 B7 B9 M11 M7 M8 c1 c10 c12 c13 c14 c15 c16 c2 c3 c4 c5 c6 c8 c9 n1 n10 n12 n13 n14 n15 n16 n2 n3 n4 n5 n6 n8 n9:Nat}
open Go.RowKit Asn
set_option maxRecDepth 20000
def jk (N:Nat)(a0:TC):Option (Int×TC):=
 be (in64 (a0.UP+1)) (some (a0.UP+1,(⟨a0.UA,a0.Us,(),a0.Uk,a0.Un,a0.UF,a0.UO,a0.UP+1,a0.UQ,a0.UH,a0.UG⟩:TC)))
theorem vM {N:Nat}{a0:TC}{r:Int×TC}(h:jk N a0=some r):Okc Ua 66 [pV B1 0] ([ab B1 79 (iD a0 B2 B9 A12 n12 c12 A13 n13 c13 A14 n14 c14),ab B2 99 [U A3 n3 c3,U A4 n4 c4,U A5 n5 c5,U A6 n6 c6,pV B7 0],aZ A3 n3 c3 a0.Uk.m_.Uj,aZ A4 n4 c4 a0.Uk.m_.Ul,aC A5 n5 c5 a0.Uk.Ur,aC A6 n6 c6 a0.Uk.Uz,ab B7 147 [.map (some M8)],am bj bH M8 a0.Uk.Uy.at_,ab B9 118 [U A10 n10 c10,.map (some M11)],gQ A10 n10 c10 a0.Un.Un,am av dq M11 a0.Un.UB,cj A12 n12 c12 a0.UF,ik A13 n13 c13 a0.UH,cj A14 n14 c14 a0.UG]) (fun u post=> ∃A0 n0 c0 A1 n1 c1 A2 n2 c2 A3 n3 c3 M4 A5 n5 c5 M6 A7 n7 c7 A8 n8 c8 A9 n9 c9,u=iV r.1/\post=[ab B1 79 (iD r.2 B2 B9 A7 n7 c7 A8 n8 c8 A9 n9 c9),ab B2 99 [U A0 n0 c0,U A1 n1 c1,U A2 n2 c2,U A3 n3 c3,pV B7 0],aZ A0 n0 c0 r.2.Uk.m_.Uj,aZ A1 n1 c1 r.2.Uk.m_.Ul,aC A2 n2 c2 r.2.Uk.Ur,aC A3 n3 c3 r.2.Uk.Uz,ab B7 147 [.map (some M4)],am bj bH M4 r.2.Uk.Uy.at_,ab B9 118 [U A5 n5 c5,.map (some M6)],gQ A5 n5 c5 r.2.Un.Un,am av dq M6 r.2.Un.UB,cj A7 n7 c7 r.2.UF,ik A8 n8 c8 r.2.UH,cj A9 n9 c9 r.2.UG]):=by
 refine cA Tryz.func66 ?_;refine sZ ?_;refine fC (bD J Tf) ?_;refine cy J ?_;refine ac ?_;obtain ⟨a1,h⟩:=ah h;exact eY
def kM (N:Nat)(a0:TC)(a1:Ty):Option (Int×TC):=
 (dC N a0.Uk a1).bind fun a2=>some (a2.1,(⟨a0.UA,a0.Us,(),a2.2,a0.Un,a0.UF,a0.UO,a0.UP,a0.UQ,a0.UH,a0.UG⟩:TC))
theorem xX {N:Nat}{a0:TC}{a1:Ty}{r:Int×TC}(h:kM N a0 a1=some r):Okc Ua 15 [pV B1 0,(gA a1)] ([ab B1 79 (iD a0 B2 B9 A12 n12 c12 A13 n13 c13 A14 n14 c14),ab B2 99 [U A3 n3 c3,U A4 n4 c4,U A5 n5 c5,U A6 n6 c6,pV B7 0],aZ A3 n3 c3 a0.Uk.m_.Uj,aZ A4 n4 c4 a0.Uk.m_.Ul,aC A5 n5 c5 a0.Uk.Ur,aC A6 n6 c6 a0.Uk.Uz,ab B7 147 [.map (some M8)],am bj bH M8 a0.Uk.Uy.at_,ab B9 118 [U A10 n10 c10,.map (some M11)],gQ A10 n10 c10 a0.Un.Un,am av dq M11 a0.Un.UB,cj A12 n12 c12 a0.UF,ik A13 n13 c13 a0.UH,cj A14 n14 c14 a0.UG]) (fun u post=> ∃A0 n0 c0 A1 n1 c1 A2 n2 c2 A3 n3 c3 M4 A5 n5 c5 M6 A7 n7 c7 A8 n8 c8 A9 n9 c9,u=iV r.1/\post=[ab B1 79 (iD r.2 B2 B9 A7 n7 c7 A8 n8 c8 A9 n9 c9),ab B2 99 [U A0 n0 c0,U A1 n1 c1,U A2 n2 c2,U A3 n3 c3,pV B7 0],aZ A0 n0 c0 r.2.Uk.m_.Uj,aZ A1 n1 c1 r.2.Uk.m_.Ul,aC A2 n2 c2 r.2.Uk.Ur,aC A3 n3 c3 r.2.Uk.Uz,ab B7 147 [.map (some M4)],am bj bH M4 r.2.Uk.Uy.at_,ab B9 118 [U A5 n5 c5,.map (some M6)],gQ A5 n5 c5 r.2.Un.Un,am av dq M6 r.2.Un.UB,cj A7 n7 c7 r.2.UF,ik A8 n8 c8 r.2.UH,cj A9 n9 c9 r.2.UG]):=by
 refine cA Tryz.func15 ?_;intro a2;refine sY ?_;refine fC (bD J Tf) ?_;refine cy J ?_;refine ac ?_;refine aG ?_;refine bV I ([ab a2 23 (uV a1),ab B1 79 (iD a0 B2 B9 A12 n12 c12 A13 n13 c13 A14 n14 c14),ab B9 118 [U A10 n10 c10,.map (some M11)],gQ A10 n10 c10 a0.Un.Un,am av dq M11 a0.Un.UB,cj A12 n12 c12 a0.UF,ik A13 n13 c13 a0.UH,cj A14 n14 c14 a0.UG]) (cS [0,1,9,10,11,12,13,14] 15) ?_;refine ac ?_;obtain ⟨a6,k,h⟩:=aa h;refine zD 5 J (oC (dm k)) ?_;rintro _ _ ⟨_,⟨a7,a8,b0,b1,b2,b3,b4,b5,b6,b7,b8,b9,d0,rfl,rfl⟩,rfl⟩;refine aA (cS [7,8,9,10,11,12,13,14] 15) ?_;refine aH ?_;exact eY
def lL (N:Nat)(a0:TC)(a1:Int):Option TC:=
 (ex N a0.Uk (max a1 20)).bind fun a2=>some (⟨a0.UA,a0.Us,(),a2,a0.Un,a0.UF,a0.UO,a0.UP,a0.UQ,a0.UH,a0.UG⟩:TC)
theorem yF {N:Nat}{a0:TC}{a1:Int}{r:TC}(h:lL N a0 a1=some r):Okc Ua 67 [pV B1 0,iV a1] ([ab B1 79 (iD a0 B2 B9 A12 n12 c12 A13 n13 c13 A14 n14 c14),ab B2 99 [U A3 n3 c3,U A4 n4 c4,U A5 n5 c5,U A6 n6 c6,pV B7 0],aZ A3 n3 c3 a0.Uk.m_.Uj,aZ A4 n4 c4 a0.Uk.m_.Ul,aC A5 n5 c5 a0.Uk.Ur,aC A6 n6 c6 a0.Uk.Uz,ab B7 147 [.map (some M8)],am bj bH M8 a0.Uk.Uy.at_,ab B9 118 [U A10 n10 c10,.map (some M11)],gQ A10 n10 c10 a0.Un.Un,am av dq M11 a0.Un.UB,cj A12 n12 c12 a0.UF,ik A13 n13 c13 a0.UH,cj A14 n14 c14 a0.UG]) (fun u post=> ∃A0 n0 c0 A1 n1 c1 A2 n2 c2 A3 n3 c3 M4 A5 n5 c5 M6 A7 n7 c7 A8 n8 c8 A9 n9 c9,u=.tuple #[]/\post=[ab B1 79 (iD r B2 B9 A7 n7 c7 A8 n8 c8 A9 n9 c9),ab B2 99 [U A0 n0 c0,U A1 n1 c1,U A2 n2 c2,U A3 n3 c3,pV B7 0],aZ A0 n0 c0 r.Uk.m_.Uj,aZ A1 n1 c1 r.Uk.m_.Ul,aC A2 n2 c2 r.Uk.Ur,aC A3 n3 c3 r.Uk.Uz,ab B7 147 [.map (some M4)],am bj bH M4 r.Uk.Uy.at_,ab B9 118 [U A5 n5 c5,.map (some M6)],gQ A5 n5 c5 r.Un.Un,am av dq M6 r.Un.UB,cj A7 n7 c7 r.UF,ik A8 n8 c8 r.UH,cj A9 n9 c9 r.UG]):=by
 refine cA Tryz.func67 ?_;refine fC (kr J Tf) ?_;refine cK J ?_;refine ac ?_;refine gE (LT J J hU hU) ?_;obtain ⟨a2,k,h⟩:=aa h;refine gD (oC (pp k)) ?_;rintro _ _ ⟨_,⟨A16,n16,c16,a6,a7,a8,b0,b1,b2,b3,b4,b5,b6,rfl,rfl⟩,rfl⟩;exact eY
def jT (N:Nat)(a0:TC)(a1:ByteArray):Option TC:=
 be (bJ (a0.UG.length+([a1]:List ByteArray).length)) ((dU N (⟨a0.UA,a0.Us,(),a0.Uk,a0.Un,a0.UF,a0.UO,a0.UP,a0.UQ,a0.UH,a0.UG++([a1]:List ByteArray)⟩:TC) (⟨1,(⟨0,0,⟨#[]⟩⟩:TE),a1⟩:TG)).bind fun a2=>some a2)
theorem wq {N:Nat}{a0:TC}{a1:ByteArray}{r:TC}(h:jT N a0 a1=some r):Okc Ua 105 [pV B1 0,.string a1] ([ab B1 79 (iD a0 B2 B9 A12 n12 c12 A13 n13 c13 A14 n14 c14),ab B2 99 [U A3 n3 c3,U A4 n4 c4,U A5 n5 c5,U A6 n6 c6,pV B7 0],aZ A3 n3 c3 a0.Uk.m_.Uj,aZ A4 n4 c4 a0.Uk.m_.Ul,aC A5 n5 c5 a0.Uk.Ur,aC A6 n6 c6 a0.Uk.Uz,ab B7 147 [.map (some M8)],am bj bH M8 a0.Uk.Uy.at_,ab B9 118 [U A10 n10 c10,.map (some M11)],gQ A10 n10 c10 a0.Un.Un,am av dq M11 a0.Un.UB,cj A12 n12 c12 a0.UF,ik A13 n13 c13 a0.UH,cj A14 n14 c14 a0.UG]) (fun u post=> ∃A0 n0 c0 A1 n1 c1 A2 n2 c2 A3 n3 c3 M4 A5 n5 c5 M6 A7 n7 c7 A8 n8 c8 A9 n9 c9,u=.tuple #[]/\post=[ab B1 79 (iD r B2 B9 A7 n7 c7 A8 n8 c8 A9 n9 c9),ab B2 99 [U A0 n0 c0,U A1 n1 c1,U A2 n2 c2,U A3 n3 c3,pV B7 0],aZ A0 n0 c0 r.Uk.m_.Uj,aZ A1 n1 c1 r.Uk.m_.Ul,aC A2 n2 c2 r.Uk.Ur,aC A3 n3 c3 r.Uk.Uz,ab B7 147 [.map (some M4)],am bj bH M4 r.Uk.Uy.at_,ab B9 118 [U A5 n5 c5,.map (some M6)],gQ A5 n5 c5 r.Un.Un,am av dq M6 r.Un.UB,cj A7 n7 c7 r.UF,ik A8 n8 c8 r.UH,cj A9 n9 c9 r.UG]):=by
 refine cA Tryz.func105 ?_;refine fC (kr J Tf) ?_;refine cK J ?_;refine ac ?_;refine gD (az (R:=qu) (vss:=[[.string a1]]) (xs:=[a1]) J (qg _) J J (fun _ _ hr=> .cons J All2.nil)) ?_;rintro _ _ ⟨A15,n15,c15,rfl,rfl⟩;obtain ⟨a2,h⟩:=ah h
 refine nk (ay 14 0 J J aB J J Ex Hk J J a2) fun a6 a7 a8=> ?_
 obtain ⟨b0,k,h⟩:=aa h;refine gD (oC (nR k)) ?_;rintro _ _ ⟨_,⟨b1,b2,b3,b4,b5,b6,b7,b8,b9,d0,d1,d2,d3,d4,d6,e2,e3,e4,e5,e6,e7,e8,e9,f1,f2,f3,rfl,rfl⟩,rfl⟩;exact eY
def lT (N:Nat)(a0:TI)(y17_0:Int)(a1:TB)(a2:TB)(a6:TW):Option (Int×TI):=
 some (0,(⟨(⟨List.set (List.set a0.m_.Uj y17_0.toNat (⟨a1.Ui,a1.Uw,a1.Uv,a1.Ux,a1.Uo,a1.Um⟩:TB)) y17_0.toNat (⟨(⟨a1.Ui,a1.Uw,a1.Uv,a1.Ux,a1.Uo,a1.Um⟩:TB).Ui,(⟨a1.Ui,a1.Uw,a1.Uv,a1.Ux,a1.Uo,a1.Um⟩:TB).Uw,(⟨a1.Ui,a1.Uw,a1.Uv,a1.Ux,a1.Uo,a1.Um⟩:TB).Uv,a2.Ux,(⟨a1.Ui,a1.Uw,a1.Uv,a1.Ux,a1.Uo,a1.Um⟩:TB).Uo,(⟨a1.Ui,a1.Uw,a1.Uv,a1.Ux,a1.Uo,a1.Um⟩:TB).Um⟩:TB),a0.m_.Ul⟩:TM),a0.Ur,a0.Uz,(⟨a6⟩:Tw)⟩:TI))
def lS (N:Nat)(a0:TI)(y17_1:Int)(a1:TB)(a2:TB)(a6:TW):Option (Int×TI):=
 some (0,(⟨(⟨a0.m_.Uj,List.set (List.set a0.m_.Ul y17_1.toNat (⟨a1.Ui,a1.Uw,a1.Uv,a1.Ux,a1.Uo,a1.Um⟩:TB)) y17_1.toNat (⟨(⟨a1.Ui,a1.Uw,a1.Uv,a1.Ux,a1.Uo,a1.Um⟩:TB).Ui,(⟨a1.Ui,a1.Uw,a1.Uv,a1.Ux,a1.Uo,a1.Um⟩:TB).Uw,(⟨a1.Ui,a1.Uw,a1.Uv,a1.Ux,a1.Uo,a1.Um⟩:TB).Uv,a2.Ux,(⟨a1.Ui,a1.Uw,a1.Uv,a1.Ux,a1.Uo,a1.Um⟩:TB).Uo,(⟨a1.Ui,a1.Uw,a1.Uv,a1.Ux,a1.Uo,a1.Um⟩:TB).Um⟩:TB)⟩:TM),a0.Ur,a0.Uz,(⟨a6⟩:Tw)⟩:TI))
def nK (N:Nat)(a0:TI)(a1:Int)(a2:TB):Option (Int×TI):=
 (aK N a0).bind fun b1=>bif b1 then (some (1,a0)) else ((gL N a0 a1).bind fun b2=>bif !b2 then (some (50,a0)) else ((fY N a2).bind fun b3=>bif !b3 then (some (51,a0)) else ((jx N a0 a1).bind fun b4=>CF b4 (fun y17_0=>(aw a0.m_.Uj y17_0).bind fun a6=>(eG N a2).bind fun a7=>bif decide (a1.tmod 2=0) then ((dP N a0.Uy a1 a2).bind fun b5=>lT N a0 y17_0 a7 a6 b5.2.at_) else (lT N a0 y17_0 a7 a6 a0.Uy.at_)) (fun y17_1=>(aw a0.m_.Ul y17_1).bind fun a8=>(eG N a2).bind fun b0=>bif decide (a1.tmod 2=0) then ((dP N a0.Uy a1 a2).bind fun b6=>lS N a0 y17_1 b0 a8 b6.2.at_) else (lS N a0 y17_1 b0 a8 a0.Uy.at_)))))
theorem Bf {N:Nat}{a0:TI}{a1:Int}{a2:TB}{r:Int×TI}(h:nK N a0 a1 a2=some r):Okc Ua 186 [pV B1 0,iV a1,.agg #[iV a2.Ui,iV a2.Uw,iV a2.Uv,iV a2.Ux,U A8 n8 c8,U A9 n9 c9]] ([bc A8 n8 c8 a2.Uo,bc A9 n9 c9 a2.Um,ab B1 99 [U A2 n2 c2,U A3 n3 c3,U A4 n4 c4,U A5 n5 c5,pV B6 0],aZ A2 n2 c2 a0.m_.Uj,aZ A3 n3 c3 a0.m_.Ul,aC A4 n4 c4 a0.Ur,aC A5 n5 c5 a0.Uz,ab B6 147 [.map (some M7)],am bj bH M7 a0.Uy.at_]) (fun u post=> ∃A0 n0 c0 A1 n1 c1 A2 n2 c2 A3 n3 c3 M4,u=iV r.1/\post=[ab B1 99 [U A0 n0 c0,U A1 n1 c1,U A2 n2 c2,U A3 n3 c3,pV B6 0],aZ A0 n0 c0 r.2.m_.Uj,aZ A1 n1 c1 r.2.m_.Ul,aC A2 n2 c2 r.2.Ur,aC A3 n3 c3 r.2.Uz,ab B6 147 [.map (some M4)],am bj bH M4 r.2.Uy.at_]):=by
 refine cA Tryz.func186 ?_;intro d3;refine sY ?_;obtain ⟨f4,k,h⟩:=aa h;refine kD (oR (ci k)) ?_;refine gH J h ?_ ?_<;>intro h
 ·exact eY
 refine ac ?_;obtain ⟨g0,k,h⟩:=aa h;refine kD (oR (mP k)) ?_;refine gH J h ?_ ?_<;>intro h
 ·exact eY
 refine ac ?_;obtain ⟨g1,k,h⟩:=aa h;refine kD (oR (lu k)) ?_;refine gH J h ?_ ?_<;>intro h
 ·exact eY
 refine ac ?_;obtain ⟨f3,b7,h⟩:=aa h;rcases f3 with y17_0|y17_1
 ·replace h:=Iu h;refine gD (oR (kV b7)) ?_;rintro _ _ ⟨_,⟨rfl,rfl⟩,rfl⟩;obtain ⟨b5,a8,b0,b3,h⟩:=bz h;refine ac ?_;refine gR (sV 4 J aB J (bR a8 b0)) ?_;refine gR (sW 4 J aB J (bR a8 b0) Ai) ?_;refine EL (gX (u:=iV b5.Ux) 4 J aB J b3 oH (fun _ _ _ h=>by obtain ⟨_,_,_,_,_,_,e,_⟩:=h;rw [e];rfl)) ?_;obtain ⟨a6,k,h⟩:=aa h;refine gD (oR (jA k)) ?_;rintro _ _ ⟨_,⟨d4,d6,e2,e3,e4,e5,rfl,rfl⟩,rfl⟩;refine gR (sV 6 J aB J (bR a8 b0)) ?_;refine nX (bv 0 J) ?_;refine nX (bv 1 J) ?_;refine HZ (rp (us:=[iV a6.Ui,iV a6.Uw,iV a6.Uv,iV a6.Ux,U d4 d6 e2,U e3 e4 e5]) (z:=(⟨a6.Ui,a6.Uw,a6.Uv,a6.Ux,a6.Uo,a6.Um⟩:TB)) 6 J J J J size42.out J (bR a8 b0) J (fun S w vs xk hk hr ho=>by obtain rfl:=Option.some.inj (hk.symm.trans b3);obtain ⟨_,_,_,_,_,_,rfl,s4,s5⟩:=hr;exact ⟨_,_,_,_,_,_,rfl,ho 0 _ rfl rfl,ho 1 _ rfl rfl⟩)) ?_;have b8:=IS (z:=(⟨a6.Ui,a6.Uw,a6.Uv,a6.Ux,a6.Uo,a6.Um⟩:TB)) b3;refine gR (sV 6 J aB J (Ba (bR a8 b0))) ?_;refine gR (sW 6 J aB J (Ba (bR a8 b0)) Ai) ?_
  refine HZ (rp (us:=[iV b5.Ux]) (z:=(⟨(⟨a6.Ui,a6.Uw,a6.Uv,a6.Ux,a6.Uo,a6.Um⟩:TB).Ui,(⟨a6.Ui,a6.Uw,a6.Uv,a6.Ux,a6.Uo,a6.Um⟩:TB).Uw,(⟨a6.Ui,a6.Uw,a6.Uv,a6.Ux,a6.Uo,a6.Um⟩:TB).Uv,b5.Ux,(⟨a6.Ui,a6.Uw,a6.Uv,a6.Ux,a6.Uo,a6.Um⟩:TB).Uo,(⟨a6.Ui,a6.Uw,a6.Uv,a6.Ux,a6.Uo,a6.Um⟩:TB).Um⟩:TB)) 6 J J J J size3.out J (Ba (bR a8 b0)) J (fun S w vs xk hk hr ho=>by obtain rfl:=Option.some.inj (hk.symm.trans b8);obtain ⟨_,_,_,_,_,_,rfl,s4,s5⟩:=hr;exact ⟨_,_,_,_,_,_,rfl,s4,s5⟩)) ?_;refine au (fun s L=> ∃b9 c7,lT N a0 y17_0 a6 b5 b9=some r/\s=[(6,iV 0)]/\L=[aZ A2 n2 c2 (List.set (List.set a0.m_.Uj y17_0.toNat (⟨a6.Ui,a6.Uw,a6.Uv,a6.Ux,a6.Uo,a6.Um⟩:TB)) y17_0.toNat (⟨(⟨a6.Ui,a6.Uw,a6.Uv,a6.Ux,a6.Uo,a6.Um⟩:TB).Ui,(⟨a6.Ui,a6.Uw,a6.Uv,a6.Ux,a6.Uo,a6.Um⟩:TB).Uw,(⟨a6.Ui,a6.Uw,a6.Uv,a6.Ux,a6.Uo,a6.Um⟩:TB).Uv,b5.Ux,(⟨a6.Ui,a6.Uw,a6.Uv,a6.Ux,a6.Uo,a6.Um⟩:TB).Uo,(⟨a6.Ui,a6.Uw,a6.Uv,a6.Ux,a6.Uo,a6.Um⟩:TB).Um⟩:TB)),aZ A3 n3 c3 a0.m_.Ul,aC A4 n4 c4 a0.Ur,aC A5 n5 c5 a0.Uz,ab B1 99 [U A2 n2 c2,U A3 n3 c3,U A4 n4 c4,U A5 n5 c5,pV B6 0],am bj bH c7 b9,ab B6 147 [.map (some c7)]]) ?_ ?_
  ·refine ac ?_;refine fC (si J J (by decide)) ?_;refine gH J h ?_ ?_<;>intro h
   ·refine bV I ([bc d4 d6 e2 a6.Uo,bc e3 e4 e5 a6.Um,ab d3 42 [iV a2.Ui,iV a2.Uw,iV a2.Uv,iV a2.Ux,U A8 n8 c8,U A9 n9 c9],bc A8 n8 c8 a2.Uo,bc A9 n9 c9 a2.Um,ab B1 99 [U A2 n2 c2,U A3 n3 c3,U A4 n4 c4,U A5 n5 c5,pV B6 0],aZ A2 n2 c2 (List.set (List.set a0.m_.Uj y17_0.toNat (⟨a6.Ui,a6.Uw,a6.Uv,a6.Ux,a6.Uo,a6.Um⟩:TB)) y17_0.toNat (⟨(⟨a6.Ui,a6.Uw,a6.Uv,a6.Ux,a6.Uo,a6.Um⟩:TB).Ui,(⟨a6.Ui,a6.Uw,a6.Uv,a6.Ux,a6.Uo,a6.Um⟩:TB).Uw,(⟨a6.Ui,a6.Uw,a6.Uv,a6.Ux,a6.Uo,a6.Um⟩:TB).Uv,b5.Ux,(⟨a6.Ui,a6.Uw,a6.Uv,a6.Ux,a6.Uo,a6.Um⟩:TB).Uo,(⟨a6.Ui,a6.Uw,a6.Uv,a6.Ux,a6.Uo,a6.Um⟩:TB).Um⟩:TB)),aZ A3 n3 c3 a0.m_.Ul,aC A4 n4 c4 a0.Ur,aC A5 n5 c5 a0.Uz]) (cS [0,1,2,3,4,5,6,7,8,9] 12) ?_;refine ac ?_;obtain ⟨g2,k,h⟩:=aa h;refine zD 6 J (oC (nP k)) ?_;rintro _ _ ⟨_,⟨g3,rfl,rfl⟩,rfl⟩;refine aA (cS [2,3,4,5,6,7,8,9,10,11] 12) ?_;exact jY
   exact jY
  rintro _ _ ⟨b9,c7,h,rfl,rfl⟩;exact eY
 replace h:=It h;refine gD (oR (kV b7)) ?_;rintro _ _ ⟨_,⟨rfl,rfl⟩,rfl⟩;obtain ⟨b6,b1,b2,b4,h⟩:=bz h;refine ac ?_;refine gR (sV 5 J aB J (bR b1 b2)) ?_;refine gR (sW 5 J aB J (bR b1 b2) Ai) ?_;refine EL (gX (u:=iV b6.Ux) 5 J aB J b4 oH (fun _ _ _ h=>by obtain ⟨_,_,_,_,_,_,e,_⟩:=h;rw [e];rfl)) ?_;obtain ⟨a7,k,h⟩:=aa h;refine gD (oR (jA k)) ?_;rintro _ _ ⟨_,⟨e6,e7,e8,e9,f1,f2,rfl,rfl⟩,rfl⟩;refine gR (sV 7 J aB J (bR b1 b2)) ?_;refine nX (bv 0 J) ?_;refine nX (bv 1 J) ?_;refine ac ?_;refine HZ (rp (us:=[iV a7.Ui,iV a7.Uw,iV a7.Uv,iV a7.Ux,U e6 e7 e8,U e9 f1 f2]) (z:=(⟨a7.Ui,a7.Uw,a7.Uv,a7.Ux,a7.Uo,a7.Um⟩:TB)) 7 J J J J size42.out J (bR b1 b2) J (fun S w vs xk hk hr ho=>by obtain rfl:=Option.some.inj (hk.symm.trans b4);obtain ⟨_,_,_,_,_,_,rfl,s4,s5⟩:=hr;exact ⟨_,_,_,_,_,_,rfl,ho 0 _ rfl rfl,ho 1 _ rfl rfl⟩)) ?_;have d0:=IS (z:=(⟨a7.Ui,a7.Uw,a7.Uv,a7.Ux,a7.Uo,a7.Um⟩:TB)) b4;refine gR (sV 7 J aB J (Ba (bR b1 b2))) ?_;refine gR (sW 7 J aB J (Ba (bR b1 b2)) Ai) ?_
 refine HZ (rp (us:=[iV b6.Ux]) (z:=(⟨(⟨a7.Ui,a7.Uw,a7.Uv,a7.Ux,a7.Uo,a7.Um⟩:TB).Ui,(⟨a7.Ui,a7.Uw,a7.Uv,a7.Ux,a7.Uo,a7.Um⟩:TB).Uw,(⟨a7.Ui,a7.Uw,a7.Uv,a7.Ux,a7.Uo,a7.Um⟩:TB).Uv,b6.Ux,(⟨a7.Ui,a7.Uw,a7.Uv,a7.Ux,a7.Uo,a7.Um⟩:TB).Uo,(⟨a7.Ui,a7.Uw,a7.Uv,a7.Ux,a7.Uo,a7.Um⟩:TB).Um⟩:TB)) 7 J J J J size3.out J (Ba (bR b1 b2)) J (fun S w vs xk hk hr ho=>by obtain rfl:=Option.some.inj (hk.symm.trans d0);obtain ⟨_,_,_,_,_,_,rfl,s4,s5⟩:=hr;exact ⟨_,_,_,_,_,_,rfl,s4,s5⟩)) ?_;refine au (fun s L=> ∃d1 d2,lS N a0 y17_1 a7 b6 d1=some r/\s=[(6,iV 0)]/\L=[aZ A2 n2 c2 a0.m_.Uj,aZ A3 n3 c3 (List.set (List.set a0.m_.Ul y17_1.toNat (⟨a7.Ui,a7.Uw,a7.Uv,a7.Ux,a7.Uo,a7.Um⟩:TB)) y17_1.toNat (⟨(⟨a7.Ui,a7.Uw,a7.Uv,a7.Ux,a7.Uo,a7.Um⟩:TB).Ui,(⟨a7.Ui,a7.Uw,a7.Uv,a7.Ux,a7.Uo,a7.Um⟩:TB).Uw,(⟨a7.Ui,a7.Uw,a7.Uv,a7.Ux,a7.Uo,a7.Um⟩:TB).Uv,b6.Ux,(⟨a7.Ui,a7.Uw,a7.Uv,a7.Ux,a7.Uo,a7.Um⟩:TB).Uo,(⟨a7.Ui,a7.Uw,a7.Uv,a7.Ux,a7.Uo,a7.Um⟩:TB).Um⟩:TB)),aC A4 n4 c4 a0.Ur,aC A5 n5 c5 a0.Uz,ab B1 99 [U A2 n2 c2,U A3 n3 c3,U A4 n4 c4,U A5 n5 c5,pV B6 0],am bj bH d2 d1,ab B6 147 [.map (some d2)]]) ?_ ?_
 ·refine ac ?_;refine fC (si J J (by decide)) ?_;refine gH J h ?_ ?_<;>intro h
  ·refine bV I ([bc e6 e7 e8 a7.Uo,bc e9 f1 f2 a7.Um,ab d3 42 [iV a2.Ui,iV a2.Uw,iV a2.Uv,iV a2.Ux,U A8 n8 c8,U A9 n9 c9],bc A8 n8 c8 a2.Uo,bc A9 n9 c9 a2.Um,ab B1 99 [U A2 n2 c2,U A3 n3 c3,U A4 n4 c4,U A5 n5 c5,pV B6 0],aZ A2 n2 c2 a0.m_.Uj,aZ A3 n3 c3 (List.set (List.set a0.m_.Ul y17_1.toNat (⟨a7.Ui,a7.Uw,a7.Uv,a7.Ux,a7.Uo,a7.Um⟩:TB)) y17_1.toNat (⟨(⟨a7.Ui,a7.Uw,a7.Uv,a7.Ux,a7.Uo,a7.Um⟩:TB).Ui,(⟨a7.Ui,a7.Uw,a7.Uv,a7.Ux,a7.Uo,a7.Um⟩:TB).Uw,(⟨a7.Ui,a7.Uw,a7.Uv,a7.Ux,a7.Uo,a7.Um⟩:TB).Uv,b6.Ux,(⟨a7.Ui,a7.Uw,a7.Uv,a7.Ux,a7.Uo,a7.Um⟩:TB).Uo,(⟨a7.Ui,a7.Uw,a7.Uv,a7.Ux,a7.Uo,a7.Um⟩:TB).Um⟩:TB)),aC A4 n4 c4 a0.Ur,aC A5 n5 c5 a0.Uz]) (cS [0,1,2,3,4,5,6,7,8,9] 12) ?_;refine ac ?_;obtain ⟨g4,k,h⟩:=aa h;refine zD 6 J (oC (nP k)) ?_;rintro _ _ ⟨_,⟨g5,rfl,rfl⟩,rfl⟩;refine aA (cS [2,3,4,5,6,7,8,9,10,11] 12) ?_;exact jY
  exact jY
 rintro _ _ ⟨d1,d2,h,rfl,rfl⟩;exact eY
def jm (N:Nat)(a0:TC)(a1:Ty)(a2:TB):Option TC:=
 (fS N a1).bind fun a6=>bif a6 then ((nK N a0.Uk a1.N a2).bind fun a7=>some (⟨a0.UA,a0.Us,(),a7.2,a0.Un,a0.UF,a0.UO,a0.UP,a0.UQ,a0.UH,a0.UG⟩:TC)) else (some a0)
theorem rO {N:Nat}{a0:TC}{a1:Ty}{a2:TB}{r:TC}(h:jm N a0 a1 a2=some r):Okc Ua 151 [pV B1 0,(gA a1),.agg #[iV a2.Ui,iV a2.Uw,iV a2.Uv,iV a2.Ux,U A15 n15 c15,U A16 n16 c16]] ([bc A15 n15 c15 a2.Uo,bc A16 n16 c16 a2.Um,ab B1 79 (iD a0 B2 B9 A12 n12 c12 A13 n13 c13 A14 n14 c14),ab B2 99 [U A3 n3 c3,U A4 n4 c4,U A5 n5 c5,U A6 n6 c6,pV B7 0],aZ A3 n3 c3 a0.Uk.m_.Uj,aZ A4 n4 c4 a0.Uk.m_.Ul,aC A5 n5 c5 a0.Uk.Ur,aC A6 n6 c6 a0.Uk.Uz,ab B7 147 [.map (some M8)],am bj bH M8 a0.Uk.Uy.at_,ab B9 118 [U A10 n10 c10,.map (some M11)],gQ A10 n10 c10 a0.Un.Un,am av dq M11 a0.Un.UB,cj A12 n12 c12 a0.UF,ik A13 n13 c13 a0.UH,cj A14 n14 c14 a0.UG]) (fun u post=> ∃A0 n0 c0 A1 n1 c1 A2 n2 c2 A3 n3 c3 M4 A5 n5 c5 M6 A7 n7 c7 A8 n8 c8 A9 n9 c9,u=.tuple #[]/\post=[ab B1 79 (iD r B2 B9 A7 n7 c7 A8 n8 c8 A9 n9 c9),ab B2 99 [U A0 n0 c0,U A1 n1 c1,U A2 n2 c2,U A3 n3 c3,pV B7 0],aZ A0 n0 c0 r.Uk.m_.Uj,aZ A1 n1 c1 r.Uk.m_.Ul,aC A2 n2 c2 r.Uk.Ur,aC A3 n3 c3 r.Uk.Uz,ab B7 147 [.map (some M4)],am bj bH M4 r.Uk.Uy.at_,ab B9 118 [U A5 n5 c5,.map (some M6)],gQ A5 n5 c5 r.Un.Un,am av dq M6 r.Un.UB,cj A7 n7 c7 r.UF,ik A8 n8 c8 r.UH,cj A9 n9 c9 r.UG]):=by
 refine cA Tryz.func151 ?_;intro a6
 refine jg fun a7=> ?_
 refine fC (kr J Tf) ?_;obtain ⟨a8,k,h⟩:=aa h;refine kD (oR (wl k)) ?_;refine gH J h ?_ ?_<;>intro h
 ·refine bV I ([ab a7 42 [iV a2.Ui,iV a2.Uw,iV a2.Uv,iV a2.Ux,U A15 n15 c15,U A16 n16 c16],ab a6 23 (uV a1),bc A15 n15 c15 a2.Uo,bc A16 n16 c16 a2.Um,ab B1 79 (iD a0 B2 B9 A12 n12 c12 A13 n13 c13 A14 n14 c14),ab B9 118 [U A10 n10 c10,.map (some M11)],gQ A10 n10 c10 a0.Un.Un,am av dq M11 a0.Un.UB,cj A12 n12 c12 a0.UF,ik A13 n13 c13 a0.UH,cj A14 n14 c14 a0.UG]) (cS [0,1,2,3,4,12,13,14,15,16,17] 18) ?_;refine ac ?_;obtain ⟨b0,k,h⟩:=aa h;refine zD 7 J (oC (Bf k)) ?_;rintro _ _ ⟨_,⟨b1,b2,b3,b4,b5,b6,b7,b8,b9,d0,d1,d2,d3,rfl,rfl⟩,rfl⟩;refine aA (cS [7,8,9,10,11,12,13,14,15,16,17] 18) ?_;refine aH ?_;exact eY
 exact eY
def gg (N:Nat)(a0:TC)(a1:Int)(a2:Ty):Option TC:=
 (bi N a0.Uk a1).bind fun a7=>(aI N a0 a7).bind fun a6=>be (bJ (a6.Um.length+([a2]:List Ty).length)) ((jm N a0 a7 (⟨a6.Ui,a6.Uw,a6.Uv,a6.Ux,a6.Uo,a6.Um++([a2]:List Ty)⟩:TB)).bind fun a8=>some a8)
theorem o7 {N:Nat}{a0:TC}{a1:Int}{a2:Ty}{r:TC}(h:gg N a0 a1 a2=some r):Okc Ua 150 [pV B1 0,iV a1,(gA a2)] ([ab B1 79 (iD a0 B2 B9 A12 n12 c12 A13 n13 c13 A14 n14 c14),ab B2 99 [U A3 n3 c3,U A4 n4 c4,U A5 n5 c5,U A6 n6 c6,pV B7 0],aZ A3 n3 c3 a0.Uk.m_.Uj,aZ A4 n4 c4 a0.Uk.m_.Ul,aC A5 n5 c5 a0.Uk.Ur,aC A6 n6 c6 a0.Uk.Uz,ab B7 147 [.map (some M8)],am bj bH M8 a0.Uk.Uy.at_,ab B9 118 [U A10 n10 c10,.map (some M11)],gQ A10 n10 c10 a0.Un.Un,am av dq M11 a0.Un.UB,cj A12 n12 c12 a0.UF,ik A13 n13 c13 a0.UH,cj A14 n14 c14 a0.UG]) (fun u post=> ∃A0 n0 c0 A1 n1 c1 A2 n2 c2 A3 n3 c3 M4 A5 n5 c5 M6 A7 n7 c7 A8 n8 c8 A9 n9 c9,u=.tuple #[]/\post=[ab B1 79 (iD r B2 B9 A7 n7 c7 A8 n8 c8 A9 n9 c9),ab B2 99 [U A0 n0 c0,U A1 n1 c1,U A2 n2 c2,U A3 n3 c3,pV B7 0],aZ A0 n0 c0 r.Uk.m_.Uj,aZ A1 n1 c1 r.Uk.m_.Ul,aC A2 n2 c2 r.Uk.Ur,aC A3 n3 c3 r.Uk.Uz,ab B7 147 [.map (some M4)],am bj bH M4 r.Uk.Uy.at_,ab B9 118 [U A5 n5 c5,.map (some M6)],gQ A5 n5 c5 r.Un.Un,am av dq M6 r.Un.UB,cj A7 n7 c7 r.UF,ik A8 n8 c8 r.UH,cj A9 n9 c9 r.UG]):=by
 refine cA Tryz.func150 ?_;intro a7;refine ac ?_;obtain ⟨a8,k,h⟩:=aa h;refine kD (oR (cx k)) ?_;intro b0;refine ac ?_;obtain ⟨b1,k,h⟩:=aa h
 refine FN (oR (ce k)) fun b2 b3 b4 b5 b6 b7=> ?_
 intro b8;refine ac ?_;refine gD (az (R:=ap) (vss:=[(uV a2)]) (xs:=[a2]) J (qh _ _ _) J J (fun _ _ hr=> .cons J All2.nil)) ?_;rintro _ _ ⟨b9,d0,d1,rfl,rfl⟩;obtain ⟨a6,h⟩:=ah h
 refine nk (ay 3 0 J J aB J J t0 zf J J a6) fun d2 d3 d4=> ?_
 refine nX (bv 2 J) ?_;refine nX (bv 3 J) ?_;refine ac ?_;obtain ⟨d6,k,h⟩:=aa h;refine gD (oC (rO k)) ?_;rintro _ _ ⟨_,⟨e2,e3,e4,e5,e6,e7,e8,e9,f1,f2,f3,f4,g0,g1,g2,g3,g4,g5,g6,g7,g8,g9,h0,h1,h2,h3,rfl,rfl⟩,rfl⟩;exact eY
def iS (N:Nat)(a0:TC)(a1:TN):Option TC:=
 (dv N a0 (⟨11,0,0,0,[],a1⟩:TB)).bind fun a2=>(gg N a2.2 18 a2.1).bind fun a6=>some a6
theorem uF {N:Nat}{a0:TC}{a1:TN}{r:TC}(h:iS N a0 a1=some r):Okc Ua 106 [pV B1 0,U A15 n15 c15] ([bc A15 n15 c15 a1,ab B1 79 (iD a0 B2 B9 A12 n12 c12 A13 n13 c13 A14 n14 c14),ab B2 99 [U A3 n3 c3,U A4 n4 c4,U A5 n5 c5,U A6 n6 c6,pV B7 0],aZ A3 n3 c3 a0.Uk.m_.Uj,aZ A4 n4 c4 a0.Uk.m_.Ul,aC A5 n5 c5 a0.Uk.Ur,aC A6 n6 c6 a0.Uk.Uz,ab B7 147 [.map (some M8)],am bj bH M8 a0.Uk.Uy.at_,ab B9 118 [U A10 n10 c10,.map (some M11)],gQ A10 n10 c10 a0.Un.Un,am av dq M11 a0.Un.UB,cj A12 n12 c12 a0.UF,ik A13 n13 c13 a0.UH,cj A14 n14 c14 a0.UG]) (fun u post=> ∃A0 n0 c0 A1 n1 c1 A2 n2 c2 A3 n3 c3 M4 A5 n5 c5 M6 A7 n7 c7 A8 n8 c8 A9 n9 c9,u=.tuple #[]/\post=[ab B1 79 (iD r B2 B9 A7 n7 c7 A8 n8 c8 A9 n9 c9),ab B2 99 [U A0 n0 c0,U A1 n1 c1,U A2 n2 c2,U A3 n3 c3,pV B7 0],aZ A0 n0 c0 r.Uk.m_.Uj,aZ A1 n1 c1 r.Uk.m_.Ul,aC A2 n2 c2 r.Uk.Ur,aC A3 n3 c3 r.Uk.Uz,ab B7 147 [.map (some M4)],am bj bH M4 r.Uk.Uy.at_,ab B9 118 [U A5 n5 c5,.map (some M6)],gQ A5 n5 c5 r.Un.Un,am av dq M6 r.Un.UB,cj A7 n7 c7 r.UF,ik A8 n8 c8 r.UH,cj A9 n9 c9 r.UG]):=by
 refine cA Tryz.func106 ?_;refine fC (kr J Tf) ?_;refine cK J ?_;refine ac ?_;obtain ⟨a2,k,h⟩:=aa h;refine nX (ip ap _) ?_;refine gD (oC (fj k)) ?_;rintro _ _ ⟨_,⟨a6,a7,a8,b0,b1,b2,b3,b4,b5,b6,b7,b8,b9,d0,d1,d2,d3,d4,d6,e2,e3,e4,e5,e6,e7,e8,rfl,rfl⟩,rfl⟩;obtain ⟨e9,k,h⟩:=aa h;refine gD (oC (o7 k)) ?_;rintro _ _ ⟨_,⟨f1,f2,f3,f4,g0,g1,g2,g3,g4,g5,g6,g7,g8,g9,h0,h1,h2,h3,h4,h5,h6,h7,h8,h9,i0,i1,rfl,rfl⟩,rfl⟩;exact eY
def iK (N:Nat)(a0:TC):Option Int:=
 (bi N a0.Uk 18).bind fun a1=>(aI N a0 a1).bind fun a2=>some (a2.Um.length:Int)
theorem qM {N:Nat}{a0:TC}{r:Int}(h:iK N a0=some r):Okc Ua 71 [pV B1 0] ([ar B1 79 (iD a0 B2 B9 A12 n12 c12 A13 n13 c13 A14 n14 c14),ar B2 99 [U A3 n3 c3,U A4 n4 c4,U A5 n5 c5,U A6 n6 c6,pV B7 0],bf A3 n3 c3 a0.Uk.m_.Uj,bf A4 n4 c4 a0.Uk.m_.Ul,bc A5 n5 c5 a0.Uk.Ur,bc A6 n6 c6 a0.Uk.Uz,ar B7 147 [.map (some M8)],dk bj bH M8 a0.Uk.Uy.at_,ar B9 118 [U A10 n10 c10,.map (some M11)],om A10 n10 c10 a0.Un.Un,dk av dq M11 a0.Un.UB,gz A12 n12 c12 a0.UF,fX A13 n13 c13 a0.UH,gz A14 n14 c14 a0.UG]) (fun u post=>u=iV r/\post=[]):=by
 refine cA Tryz.func71 ?_;refine sZ ?_;refine fC (bD J Tf) ?_;refine cy J ?_;refine ac ?_;obtain ⟨a1,k,h⟩:=aa h;refine gV (oR (cx k)) ?_;obtain ⟨a2,k,h⟩:=aa h;refine gD (oR (ce k)) ?_;rintro _ _ ⟨_,⟨a6,a7,a8,b0,b1,b2,rfl,rfl⟩,rfl⟩;refine fC (qc J (wV _ _ _ _ _ _ _ _ _ _)) ?_;exact eN
def fE (N:Nat)(a0:TC):Option (TN×Bool×TC):=
 (iK N a0).bind fun a6=>bif decide (a6=0) then (some ([],false,a0)) else ((bi N a0.Uk 18).bind fun a2=>(aI N a0 a2).bind fun a1=>(aw a1.Um 0).bind fun a7=>(aI N a0 a7).bind fun a8=>be ((0:Int)<=1/\(1:Int).toNat<=a1.Um.length/\a1.Um.length<=a1.Um.length) ((jm N a0 a2 (⟨a1.Ui,a1.Uw,a1.Uv,a1.Ux,a1.Uo,(a1.Um.drop ((1:Int).toNat)).take (a1.Um.length - (1:Int).toNat)⟩:TB)).bind fun b0=>some (a8.Um,true,b0)))
theorem uG {N:Nat}{a0:TC}{r:TN×Bool×TC}(h:fE N a0=some r):Okc Ua 107 [pV B1 0] ([ab B1 79 (iD a0 B2 B9 A12 n12 c12 A13 n13 c13 A14 n14 c14),ab B2 99 [U A3 n3 c3,U A4 n4 c4,U A5 n5 c5,U A6 n6 c6,pV B7 0],aZ A3 n3 c3 a0.Uk.m_.Uj,aZ A4 n4 c4 a0.Uk.m_.Ul,aC A5 n5 c5 a0.Uk.Ur,aC A6 n6 c6 a0.Uk.Uz,ab B7 147 [.map (some M8)],am bj bH M8 a0.Uk.Uy.at_,ab B9 118 [U A10 n10 c10,.map (some M11)],gQ A10 n10 c10 a0.Un.Un,am av dq M11 a0.Un.UB,cj A12 n12 c12 a0.UF,ik A13 n13 c13 a0.UH,cj A14 n14 c14 a0.UG]) (fun u post=> ∃A0 n0 c0 A1 n1 c1 A2 n2 c2 A3 n3 c3 A4 n4 c4 M5 A6 n6 c6 M7 A8 n8 c8 A9 n9 c9 A10 n10 c10,u=.tuple #[U A0 n0 c0,.bool r.2.1]/\post=[aC A0 n0 c0 r.1,ab B1 79 (iD r.2.2 B2 B9 A8 n8 c8 A9 n9 c9 A10 n10 c10),ab B2 99 [U A1 n1 c1,U A2 n2 c2,U A3 n3 c3,U A4 n4 c4,pV B7 0],aZ A1 n1 c1 r.2.2.Uk.m_.Uj,aZ A2 n2 c2 r.2.2.Uk.m_.Ul,aC A3 n3 c3 r.2.2.Uk.Ur,aC A4 n4 c4 r.2.2.Uk.Uz,ab B7 147 [.map (some M5)],am bj bH M5 r.2.2.Uk.Uy.at_,ab B9 118 [U A6 n6 c6,.map (some M7)],gQ A6 n6 c6 r.2.2.Un.Un,am av dq M7 r.2.2.Un.UB,cj A8 n8 c8 r.2.2.UF,ik A9 n9 c9 r.2.2.UH,cj A10 n10 c10 r.2.2.UG]):=by
 refine cA Tryz.func107 ?_;refine sZ ?_;obtain ⟨b1,k,h⟩:=aa h;refine kD (oR (qM k)) ?_;refine gH J h ?_ ?_<;>intro h
 ·refine ac ?_;obtain rfl:=bS h;exact OH J J J ((aU ap 23 _).trans (cS [0,1,2,3,4,5,6,7,8,9,10,11,12,13,14] 15)) ⟨_,_,_,_,_,_,_,_,_,_,_,_,_,_,_,_,_,_,_,_,_,_,_,_,_,_,_,_,_,J,J⟩
 refine ac ?_;obtain ⟨b2,k,h⟩:=aa h;refine kD (oR (cx k)) ?_;intro b3;refine ac ?_;obtain ⟨a2,k,h⟩:=aa h
 refine FN (oR (ce k)) fun b4 b5 b6 b7 b8 b9=> ?_
 intro c7;refine ac ?_;obtain ⟨d0,a6,a7,a8,h⟩:=bz h;refine ac ?_;obtain ⟨d1,k,h⟩:=aa h;refine gD (oR (ce k)) ?_;rintro _ _ ⟨_,⟨d2,d3,d4,d6,e2,e3,rfl,rfl⟩,rfl⟩;refine fC (qc J (wV _ _ _ _ _ _ _ _ _ _)) ?_;refine nX (bv 4 J) ?_;refine ac ?_;obtain ⟨a1,h⟩:=ah h;refine MI 4 J (l:=(1:Int).toNat) (h:=a2.Um.length) a1.2.1 a1.2.2 ?_;rintro e4 e5 e6 b0;refine EL (uH 5 J b0 J t0 size23.out J (by rw [Int.toNat_of_nonneg a1.1];rfl) a1.2.1) ?_;refine nX (bv 4 J) ?_;obtain ⟨e7,k,h⟩:=aa h;refine gD (oC (rO k)) ?_;rintro _ _ ⟨_,⟨e8,e9,f1,f2,f3,f4,g0,g1,g2,g3,g4,g5,g6,g7,g8,g9,h0,h1,h2,h3,h4,h5,h6,h7,h8,h9,rfl,rfl⟩,rfl⟩;exact eY
def AE (N:Nat):Option TB:=
 some (⟨11,0,0,0,[],[]⟩:TB)
theorem Ho {N:Nat}{r:TB}(h:AE N=some r):Okc Ua 108 [] ([]) (fun u post=> ∃A0 n0 c0 A1 n1 c1,u=.agg #[iV r.Ui,iV r.Uw,iV r.Uv,iV r.Ux,U A0 n0 c0,U A1 n1 c1]/\post=[aC A0 n0 c0 r.Uo,aC A1 n1 c1 r.Um]):=by
 refine cA Tryz.func108 ?_;intro B1;refine ac ?_;obtain rfl:=bS h;exact fR (rs:=[.cell 0 42]) (vs:=[.agg #[iV 11,iV 0,iV 0,iV 0,U none 0 0,U none 0 0]]) J (.cons (bo 0 J J agg42.out) .nil) J ((aU ap 23 _).trans ((aU ap 23 _).trans (cS [1,0] 3))) ⟨_,_,_,_,_,_,J,J⟩
def iJ (N:Nat)(a0:TC)(a1:Ty):Option TC:=
 (gg N a0 19 a1).bind fun a2=>some a2
theorem xY {N:Nat}{a0:TC}{a1:Ty}{r:TC}(h:iJ N a0 a1=some r):Okc Ua 109 [pV B1 0,(gA a1)] ([ab B1 79 (iD a0 B2 B9 A12 n12 c12 A13 n13 c13 A14 n14 c14),ab B2 99 [U A3 n3 c3,U A4 n4 c4,U A5 n5 c5,U A6 n6 c6,pV B7 0],aZ A3 n3 c3 a0.Uk.m_.Uj,aZ A4 n4 c4 a0.Uk.m_.Ul,aC A5 n5 c5 a0.Uk.Ur,aC A6 n6 c6 a0.Uk.Uz,ab B7 147 [.map (some M8)],am bj bH M8 a0.Uk.Uy.at_,ab B9 118 [U A10 n10 c10,.map (some M11)],gQ A10 n10 c10 a0.Un.Un,am av dq M11 a0.Un.UB,cj A12 n12 c12 a0.UF,ik A13 n13 c13 a0.UH,cj A14 n14 c14 a0.UG]) (fun u post=> ∃A0 n0 c0 A1 n1 c1 A2 n2 c2 A3 n3 c3 M4 A5 n5 c5 M6 A7 n7 c7 A8 n8 c8 A9 n9 c9,u=.tuple #[]/\post=[ab B1 79 (iD r B2 B9 A7 n7 c7 A8 n8 c8 A9 n9 c9),ab B2 99 [U A0 n0 c0,U A1 n1 c1,U A2 n2 c2,U A3 n3 c3,pV B7 0],aZ A0 n0 c0 r.Uk.m_.Uj,aZ A1 n1 c1 r.Uk.m_.Ul,aC A2 n2 c2 r.Uk.Ur,aC A3 n3 c3 r.Uk.Uz,ab B7 147 [.map (some M4)],am bj bH M4 r.Uk.Uy.at_,ab B9 118 [U A5 n5 c5,.map (some M6)],gQ A5 n5 c5 r.Un.Un,am av dq M6 r.Un.UB,cj A7 n7 c7 r.UF,ik A8 n8 c8 r.UH,cj A9 n9 c9 r.UG]):=by
 refine cA Tryz.func109 ?_;intro a2;refine ac ?_;refine fC (kr J Tf) ?_;refine cK J ?_;refine ac ?_;obtain ⟨a6,k,h⟩:=aa h;refine gD (oC (o7 k)) ?_;rintro _ _ ⟨_,⟨a7,a8,b0,b1,b2,b3,b4,b5,b6,b7,b8,b9,d0,d1,d2,d3,d4,d6,e2,e3,e4,e5,e6,e7,e8,e9,rfl,rfl⟩,rfl⟩;exact eY
def fT (N:Nat)(a0:TC)(a1:Ty):Option ByteArray:=
 bif !decide (a1.Ui=6) then (some (⟨#[]⟩:ByteArray)) else (bif decide (a1.N=1) then (some (⟨#[83,121,109,98,111,108,46,105,116,101,114,97,116,111,114]⟩:ByteArray)) else (bif decide (a1.N=2) then (some (⟨#[83,121,109,98,111,108,46,116,111,80,114,105,109,105,116,105,118,101]⟩:ByteArray)) else ((bif decide (a1.N<3) then (some true) else (be (in64 (a1.N - 3)) (some (decide ((a0.UF.length:Int)<=a1.N - 3))))).bind fun a2=>bif a2 then (some (⟨#[]⟩:ByteArray)) else (be (in64 (a1.N - 3)) ((aw a0.UF (a1.N - 3)).bind fun a6=>some a6)))))
theorem sI {N:Nat}{a0:TC}{a1:Ty}{r:ByteArray}(h:fT N a0 a1=some r):Okc Ua 110 [pV B1 0,(gA a1)] ([ar B1 79 (iD a0 B2 B9 A12 n12 c12 A13 n13 c13 A14 n14 c14),ar B2 99 [U A3 n3 c3,U A4 n4 c4,U A5 n5 c5,U A6 n6 c6,pV B7 0],bf A3 n3 c3 a0.Uk.m_.Uj,bf A4 n4 c4 a0.Uk.m_.Ul,bc A5 n5 c5 a0.Uk.Ur,bc A6 n6 c6 a0.Uk.Uz,ar B7 147 [.map (some M8)],dk bj bH M8 a0.Uk.Uy.at_,ar B9 118 [U A10 n10 c10,.map (some M11)],om A10 n10 c10 a0.Un.Un,dk av dq M11 a0.Un.UB,gz A12 n12 c12 a0.UF,fX A13 n13 c13 a0.UH,gz A14 n14 c14 a0.UG]) (fun u post=>u=.string r/\post=[]):=by
 refine cA Tryz.func110 ?_;intro b3;refine sY ?_;refine fC (bD J Tf) ?_;refine gH J h ?_ ?_<;>intro h
 ·exact eY
 refine sY ?_;refine gH J h ?_ ?_<;>intro h
 ·exact eY
 refine fw h ?_ ?_<;>intro h
 ·exact eY
 refine ac ?_;refine aG ?_;refine dY [0,1,2,3] ?_;obtain ⟨a8,a6,h⟩:=aa h;refine nB (fun l=>((((((((((l.setIfInBounds 4 true).setIfInBounds 5 true).setIfInBounds 6 true).setIfInBounds 7 true).setIfInBounds 8 true).setIfInBounds 9 true).setIfInBounds 10 true).setIfInBounds 11 true).setIfInBounds 12 true).setIfInBounds 13 true)) 0 31 a8 (fun rest=> ?_) ?_
 ·clear h;refine pP 21 J (fun a2=> ?_) (fun a2=> ?_)
  ·have h:=aE a2 a6;refine cV 4 J I (nw a2 J) J ?_;refine cV 5 J I (nw a2 J) J ?_;refine cV 6 J I (nw a2 J) J ?_;refine cV 7 J I (nw a2 J) J ?_;refine cV 8 J I (nw a2 J) J ?_;refine cV 9 J I (nw a2 J) J ?_;refine cV 10 J I (nw a2 J) J ?_;refine cV 11 J I (nw a2 J) J ?_;refine cV 12 J I (nw a2 J) J ?_;refine zE 13 J (gM a2 J J) ?_;obtain rfl:=bS h;exact jJ rest (dt J (ai (ai (ai (ai (ai (ai (ai (ai (ai (ai bu J) J) J) J) J) J) J) J) J) J)) (ad _) (ad _)
  have h:=aF a2 a6;refine iO 4 J I (dj J vb) (fN a2 J) J ?_;refine qi 5 J I (bp 0 J J oH J) (fN a2 J) J ?_;obtain ⟨a7,h⟩:=ah h;refine iO 6 J I (yX J J a7.1 a7.2) (fN a2 J) J ?_;refine iO 7 J I (aX J) (fN a2 J) J ?_;refine iO 8 J I (bE J) (fN a2 J) J ?_;refine iO 9 J I (dj J IW) (fN a2 J) J ?_;refine qi 10 J I (rQ 1 J J IE J) (fN a2 J) J ?_;refine qi 11 J I (ki 12 J aM J Ex) (fN a2 J) J ?_;refine iO 12 J I (OG J J) (fN a2 J) J ?_;refine zE 13 J (gN a2 J J) ?_;obtain rfl:=bS h;exact jJ rest (dt J (ai (ai (ai (ai (ai (ai (ai (ai (ai (ai bu J) J) J) J) J) J) J) J) J) J)) (ad _) (ad _)
 refine cT I ?_;refine fw h ?_ ?_<;>intro h
 ·exact eY
 refine ac ?_;refine dY [] ?_;refine ac ?_;obtain ⟨b4,h⟩:=ah h;refine ac ?_;obtain ⟨b5,b0,b1,b2,h⟩:=bz h;exact eY
def eO (N:Nat)(a1:Bool)(p21:ByteArray)(a2:Int)(a6:Int)(a7:Int)(a8:Int)(b0:ByteArray)(b1:TO)(b2:Int)(b3:Int)(b4:Int)(b5:Int)(b6:Int)(b7:Int)(b8:Int)(b9:Int)(c0:Int)(c7:Int)(d0:TX)(d1:Int)(d2:Int)(d3:Int)(d4:TZ)(d6:TX)(e2:TV)(e3:TV)(e4:TN)(e5:TN)(e6:List TA)(e7:(List (TH×Int)))(e8:TW):Option (TF×TC):=
 some ((⟨a1,0,p21,(⟨a2,a6,(⟨a7,a8,b0⟩:Ty)⟩:TJ),b1⟩:TF),(⟨(⟨b2,b3,b4⟩:TL),(⟨b5,b6,b7,b8,b9,c0,c7⟩:Tx),(),(⟨(⟨e2,e3⟩:TM),e4,e5,(⟨e8⟩:Tw)⟩:TI),(⟨e6,e7⟩:Tt),d0,d1,d2,d3,d4,d6⟩:TC))
def uA (N:Nat)(a1:TJ×TC)(a2:ByteArray):Option (TF×TC):=
 eO N false a2 a1.1.Ui a1.1.N 0 0 (⟨#[]⟩) [] a1.2.UA.UV a1.2.UA.UT a1.2.UA.UU a1.2.Us.UD a1.2.Us.Uu a1.2.Us.Uq a1.2.Us.Ut a1.2.Us.Uj a1.2.Us.UC a1.2.Us.UE a1.2.UF a1.2.UO a1.2.UP a1.2.UQ a1.2.UH a1.2.UG a1.2.Uk.m_.Uj a1.2.Uk.m_.Ul a1.2.Uk.Ur a1.2.Uk.Uz a1.2.Un.Un a1.2.Un.UB a1.2.Uk.Uy.at_
def pC (N:Nat)(a0:TC)(a2:TN):Option (TF×TC):=
 (iS N a0 a2).bind fun a1=>eO N false (⟨#[]⟩) 0 0 0 0 (⟨#[]⟩) [] a1.UA.UV a1.UA.UT a1.UA.UU a1.Us.UD a1.Us.Uu a1.Us.Uq a1.Us.Ut a1.Us.Uj a1.Us.UC a1.Us.UE a1.UF a1.UO a1.UP a1.UQ a1.UH a1.UG a1.Uk.m_.Uj a1.Uk.m_.Ul a1.Uk.Ur a1.Uk.Uz a1.Un.Un a1.Un.UB a1.Uk.Uy.at_
def pB (N:Nat)(a0:TC)(a1:Tp):Nat->TN->Int->Option (TF×TC)
 |0,_,_=>none
 |a8+1,a6,a2=>bif decide (a2<(a1.L.length:Int)) then ((aw a1.L a2).bind fun a7=>be (bJ (a6.length+([(⟨3,a7,⟨#[]⟩⟩:Ty)]:List Ty).length)) (be (in64 (a2+1)) ((pB N a0 a1 a8) (a6++([(⟨3,a7,⟨#[]⟩⟩:Ty)]:List Ty)) (a2+1)))) else (pC N a0 a6)
def pA (N:Nat)(a1:TN×Bool×TC):Nat->Int->TO->Option (TF×TC)
 |0,_,_=>none
 |a8+1,a2,a6=>bif decide (a2<(a1.1.length:Int)) then ((aw a1.1 a2).bind fun a7=>be (bJ (a6.length+([a7.N]:List Int).length)) (be (in64 (a2+1)) ((pA N a1 a8) (a2+1) (a6++([a7.N]:List Int))))) else (eO N a1.2.1 (⟨#[]⟩) 0 0 0 0 (⟨#[]⟩) a6 a1.2.2.UA.UV a1.2.2.UA.UT a1.2.2.UA.UU a1.2.2.Us.UD a1.2.2.Us.Uu a1.2.2.Us.Uq a1.2.2.Us.Ut a1.2.2.Us.Uj a1.2.2.Us.UC a1.2.2.Us.UE a1.2.2.UF a1.2.2.UO a1.2.2.UP a1.2.2.UQ a1.2.2.UH a1.2.2.UG a1.2.2.Uk.m_.Uj a1.2.2.Uk.m_.Ul a1.2.2.Uk.Ur a1.2.2.Uk.Uz a1.2.2.Un.Un a1.2.2.Un.UB a1.2.2.Uk.Uy.at_)
def uB (N:Nat)(a0:TC)(a1:Tp):Option (TF×TC):=
 bif decide (a1.Ui=6) then ((jT N a0 a1.S).bind fun a8=>eO N false (⟨#[]⟩) 0 0 0 0 (⟨#[]⟩) [] a8.UA.UV a8.UA.UT a8.UA.UU a8.Us.UD a8.Us.Uu a8.Us.Uq a8.Us.Ut a8.Us.Uj a8.Us.UC a8.Us.UE a8.UF a8.UO a8.UP a8.UQ a8.UH a8.UG a8.Uk.m_.Uj a8.Uk.m_.Ul a8.Uk.Ur a8.Uk.Uz a8.Un.Un a8.Un.UB a8.Uk.Uy.at_) else (bif decide (a1.Ui=7) then ((dU N a0 (⟨a1.N,(⟨0,0,⟨#[]⟩⟩:TE),a1.S⟩:TG)).bind fun b0=>eO N false (⟨#[]⟩) 0 0 0 0 (⟨#[]⟩) [] b0.UA.UV b0.UA.UT b0.UA.UU b0.Us.UD b0.Us.Uu b0.Us.Uq b0.Us.Ut b0.Us.Uj b0.Us.UC b0.Us.UE b0.UF b0.UO b0.UP b0.UQ b0.UH b0.UG b0.Uk.m_.Uj b0.Uk.m_.Ul b0.Uk.Ur b0.Uk.Uz b0.Un.Un b0.Un.UB b0.Uk.Uy.at_) else (bif decide (a1.Ui=8) then ((dI N a0 a1.N a1.M).bind fun a7=>bif decide (a7.1.Ui=1) then ((aI N a7.2 a7.1.Value).bind fun b4=>bif decide ((b4.Uo.length:Int)=2) then ((aw b4.Uo 1).bind fun b5=>uA N a7 b5.S) else (uA N a7 (⟨#[]⟩))) else (eO N false (⟨#[]⟩) a7.1.Ui a7.1.N a7.1.Value.Ui a7.1.Value.N a7.1.Value.S [] a7.2.UA.UV a7.2.UA.UT a7.2.UA.UU a7.2.Us.UD a7.2.Us.Uu a7.2.Us.Uq a7.2.Us.Ut a7.2.Us.Uj a7.2.Us.UC a7.2.Us.UE a7.2.UF a7.2.UO a7.2.UP a7.2.UQ a7.2.UH a7.2.UG a7.2.Uk.m_.Uj a7.2.Uk.m_.Ul a7.2.Uk.Ur a7.2.Uk.Uz a7.2.Un.Un a7.2.Un.UB a7.2.Uk.Uy.at_)) else (bif decide (a1.Ui=10) then (pB N a0 a1 N [] 0) else (bif decide (a1.Ui=11) then ((fE N a0).bind fun b1=>pA N b1 N 0 []) else (bif decide (a1.Ui=15) then ((AE N).bind fun b2=>(dv N a0 b2).bind fun a2=>eO N false (⟨#[]⟩) 0 0 0 0 (⟨#[]⟩) [] a2.2.UA.UV a2.2.UA.UT a2.2.UA.UU a2.2.Us.UD a2.2.Us.Uu a2.2.Us.Uq a2.2.Us.Ut a2.2.Us.Uj a2.2.Us.UC a2.2.Us.UE a2.2.UF a2.2.UO a2.2.UP a2.2.UQ a2.2.UH a2.2.UG a2.2.Uk.m_.Uj a2.2.Uk.m_.Ul a2.2.Uk.Ur a2.2.Uk.Uz a2.2.Un.Un a2.2.Un.UB a2.2.Uk.Uy.at_) else (bif decide (a1.Ui=16) then ((iJ N a0 (⟨3,a1.N,⟨#[]⟩⟩:Ty)).bind fun a6=>eO N false (⟨#[]⟩) 0 0 0 0 (⟨#[]⟩) [] a6.UA.UV a6.UA.UT a6.UA.UU a6.Us.UD a6.Us.Uu a6.Us.Uq a6.Us.Ut a6.Us.Uj a6.Us.UC a6.Us.UE a6.UF a6.UO a6.UP a6.UQ a6.UH a6.UG a6.Uk.m_.Uj a6.Uk.m_.Ul a6.Uk.Ur a6.Uk.Uz a6.Un.Un a6.Un.UB a6.Uk.Uy.at_) else (bif decide (a1.Ui=17) then ((fT N a0 (⟨6,a1.N,⟨#[]⟩⟩:Ty)).bind fun b3=>eO N false b3 0 0 0 0 (⟨#[]⟩) [] a0.UA.UV a0.UA.UT a0.UA.UU a0.Us.UD a0.Us.Uu a0.Us.Uq a0.Us.Ut a0.Us.Uj a0.Us.UC a0.Us.UE a0.UF a0.UO a0.UP a0.UQ a0.UH a0.UG a0.Uk.m_.Uj a0.Uk.m_.Ul a0.Uk.Ur a0.Uk.Uz a0.Un.Un a0.Un.UB a0.Uk.Uy.at_) else (eO N false (⟨#[]⟩) 0 0 0 0 (⟨#[]⟩) [] a0.UA.UV a0.UA.UT a0.UA.UU a0.Us.UD a0.Us.Uu a0.Us.Uq a0.Us.Ut a0.Us.Uj a0.Us.UC a0.Us.UE a0.UF a0.UO a0.UP a0.UQ a0.UH a0.UG a0.Uk.m_.Uj a0.Uk.m_.Ul a0.Uk.Ur a0.Uk.Uz a0.Un.Un a0.Un.UB a0.Uk.Uy.at_))))))))
theorem Gc {N:Nat}{a0:TC}{a1:Tp}{r:TF×TC}(h:uB N a0 a1=some r):Okc Ua 68 [pV B1 0,.agg #[iV a1.Ui,iV a1.N,iV a1.M,.string a1.S,U A15 n15 c15]] ([db A15 n15 c15 a1.L,ab B1 79 (iD a0 B2 B9 A12 n12 c12 A13 n13 c13 A14 n14 c14),ab B2 99 [U A3 n3 c3,U A4 n4 c4,U A5 n5 c5,U A6 n6 c6,pV B7 0],aZ A3 n3 c3 a0.Uk.m_.Uj,aZ A4 n4 c4 a0.Uk.m_.Ul,aC A5 n5 c5 a0.Uk.Ur,aC A6 n6 c6 a0.Uk.Uz,ab B7 147 [.map (some M8)],am bj bH M8 a0.Uk.Uy.at_,ab B9 118 [U A10 n10 c10,.map (some M11)],gQ A10 n10 c10 a0.Un.Un,am av dq M11 a0.Un.UB,cj A12 n12 c12 a0.UF,ik A13 n13 c13 a0.UH,cj A14 n14 c14 a0.UG]) (fun u post=> ∃A0 n0 c0 A1 n1 c1 A2 n2 c2 A3 n3 c3 A4 n4 c4 M5 A6 n6 c6 M7 A8 n8 c8 A9 n9 c9 A10 n10 c10,u=.agg #[.bool r.1.Ok,iV r.1.N,.string r.1.S,iV r.1.UN.Ui,iV r.1.UN.N,iV r.1.UN.Value.Ui,iV r.1.UN.Value.N,.string r.1.UN.Value.S,U A0 n0 c0]/\post=[eA A0 n0 c0 r.1.L,ab B1 79 (iD r.2 B2 B9 A8 n8 c8 A9 n9 c9 A10 n10 c10),ab B2 99 [U A1 n1 c1,U A2 n2 c2,U A3 n3 c3,U A4 n4 c4,pV B7 0],aZ A1 n1 c1 r.2.Uk.m_.Uj,aZ A2 n2 c2 r.2.Uk.m_.Ul,aC A3 n3 c3 r.2.Uk.Ur,aC A4 n4 c4 r.2.Uk.Uz,ab B7 147 [.map (some M5)],am bj bH M5 r.2.Uk.Uy.at_,ab B9 118 [U A6 n6 c6,.map (some M7)],gQ A6 n6 c6 r.2.Un.Un,am av dq M7 r.2.Un.UB,cj A8 n8 c8 r.2.UF,ik A9 n9 c9 r.2.UH,cj A10 n10 c10 r.2.UG]):=by
 refine cA Tryz.func68 ?_;intro V0
 refine jg fun d0=> ?_
 intro c7;refine ac ?_;refine au (fun s L=> ∃m3 p21 m4 m5 m6 m7 m8 m9 n7 o0 o1 o2 p0 p1 p2 p3 p4 p5 p6 p7 p8 q0 q1 q2 q3 q4 q5 q6 q7 q8 q9 r0 r1 r2 r3 r4 r5 r6 s0 s1 s2 s3 s4 s5 s6 s7 s8 s9 t1 t2 u0 u1 u2 u3 u4 u5 u6 u7 u8 u9,eO N m3 p21 m4 m5 m6 m7 m8 m9 n7 o0 o1 o2 p0 p1 p2 p3 p4 p5 p6 p7 p8 q0 q1 q2 q3 q4 q5 q6 q7 q8 q9=some r/\s=[(4,pV d0 0),(5,pV c7 0)]/\L=[ab d0 56 [.bool false,iV 0,.string (⟨#[]⟩),iV 0,iV 0,iV 0,iV 0,.string (⟨#[]⟩),U none 0 0],eA r0 r1 r2 m9,ab c7 56 [.bool m3,iV 0,.string p21,iV m4,iV m5,iV m6,iV m7,.string m8,U r0 r1 r2],cj r3 r4 r5 p6,ik r6 s0 s1 q1,cj s2 s3 s4 q2,ab B1 79 [iV n7,iV o0,iV o1,iV o2,iV p0,iV p1,iV p2,iV p3,iV p4,iV p5,.nilIface,pV B2 0,pV B9 0,U r3 r4 r5,iV p7,iV p8,iV q0,U r6 s0 s1,U s2 s3 s4],aZ s5 s6 s7 q3,aZ s8 s9 t1 q4,aC t2 u0 u1 q5,aC u2 u3 u4 q6,ab B2 99 [U s5 s6 s7,U s8 s9 t1,U t2 u0 u1,U u2 u3 u4,pV B7 0],gQ u5 u6 u7 q7,am av dq u8 q8,ab B9 118 [U u5 u6 u7,.map (some u8)],am bj bH u9 q9,ab B7 147 [.map (some u9)]]) ?_ ?_
 ·refine fw h ?_ ?_<;>intro h
  ·refine ac ?_;obtain ⟨b1,k,h⟩:=aa h;refine gD (oC (wq k)) ?_;rintro _ _ ⟨_,⟨V5,V6,V7,V8,V9,W0,W1,W2,W3,W4,W5,W7,W8,W9,X0,X1,X2,X3,X4,X5,X6,X7,X8,X9,Y0,Y1,rfl,rfl⟩,rfl⟩;refine ac ?_;exact ⟨_,_,⟨false,⟨#[]⟩,0,0,0,0,⟨#[]⟩,[],b1.UA.UV,b1.UA.UT,b1.UA.UU,b1.Us.UD,b1.Us.Uu,b1.Us.Uq,b1.Us.Ut,b1.Us.Uj,b1.Us.UC,b1.Us.UE,b1.UF,b1.UO,b1.UP,b1.UQ,b1.UH,b1.UG,b1.Uk.m_.Uj,b1.Uk.m_.Ul,b1.Uk.Ur,b1.Uk.Uz,b1.Un.Un,b1.Un.UB,b1.Uk.Uy.at_,none,0,0,X3,X4,X5,X6,X7,X8,X9,Y0,Y1,V5,V6,V7,V8,V9,W0,W1,W2,W3,W4,W5,W7,W9,X0,X1,X2,W8,h,J,J⟩,sA,(aU (dg .i64) 3 _).trans (cS [16,0,15,12,13,14,1,3,4,5,6,2,10,11,9,8,7] 19)⟩
  refine fw h ?_ ?_<;>intro h
  ·refine ac ?_;obtain ⟨b2,k,h⟩:=aa h;refine gD (oC (nR k)) ?_;rintro _ _ ⟨_,⟨Y2,Y3,Y4,Y5,Y6,Y7,Y8,Y9,Z0,Z1,Z2,Z3,Z4,Z5,Z6,Z7,Z8,Z9,Vm,Vn,Vo,Vp,Vq,Vr,Vs,Vt,rfl,rfl⟩,rfl⟩;refine ac ?_;exact ⟨_,_,⟨false,⟨#[]⟩,0,0,0,0,⟨#[]⟩,[],b2.UA.UV,b2.UA.UT,b2.UA.UU,b2.Us.UD,b2.Us.Uu,b2.Us.Uq,b2.Us.Ut,b2.Us.Uj,b2.Us.UC,b2.Us.UE,b2.UF,b2.UO,b2.UP,b2.UQ,b2.UH,b2.UG,b2.Uk.m_.Uj,b2.Uk.m_.Ul,b2.Uk.Ur,b2.Uk.Uz,b2.Un.Un,b2.Un.UB,b2.Uk.Uy.at_,none,0,0,Z9,Vm,Vn,Vo,Vp,Vq,Vr,Vs,Vt,Y2,Y3,Y4,Y5,Y6,Y7,Y8,Y9,Z0,Z1,Z2,Z3,Z5,Z6,Z7,Z8,Z4,h,J,J⟩,sA,(aU (dg .i64) 3 _).trans (cS [16,0,15,12,13,14,1,3,4,5,6,2,10,11,9,8,7] 19)⟩
  refine fw h ?_ ?_<;>intro h
  ·refine ac ?_;obtain ⟨a2,k,h⟩:=aa h;refine gD (oC (pT k)) ?_;rintro _ _ ⟨_,⟨j6,j7,j8,j9,k0,k1,k2,k3,k4,k5,k6,k7,k8,k9,l0,l1,l2,l3,l4,l5,l6,l7,l8,l9,m0,m1,rfl,rfl⟩,rfl⟩;refine fw h ?_ ?_<;>intro h
   ·refine ac ?_;obtain ⟨VI,k,h⟩:=aa h
    refine FN (oR (ce k)) fun VJ VK VL VM VN VO=> ?_
    intro VP;refine ac ?_;refine au (fun s L=> ∃m2,uA N a2 m2=some r/\s=[(4,pV d0 0),(5,pV c7 0)]/\L=[ab d0 56 [.bool false,iV 0,.string (⟨#[]⟩),iV 0,iV 0,iV 0,iV 0,.string (⟨#[]⟩),U none 0 0],ab c7 56 [.bool false,iV 0,.string m2,iV a2.1.Ui,iV a2.1.N,iV a2.1.Value.Ui,iV a2.1.Value.N,.string a2.1.Value.S,U none 0 0],cj l3 l4 l5 a2.2.UF,ik l6 l7 l8 a2.2.UH,cj l9 m0 m1 a2.2.UG,ab B1 79 (iD a2.2 B2 B9 l3 l4 l5 l6 l7 l8 l9 m0 m1),aZ j6 j7 j8 a2.2.Uk.m_.Uj,aZ j9 k0 k1 a2.2.Uk.m_.Ul,aC k2 k3 k4 a2.2.Uk.Ur,aC k5 k6 k7 a2.2.Uk.Uz,ab B2 99 [U j6 j7 j8,U j9 k0 k1,U k2 k3 k4,U k5 k6 k7,pV B7 0],gQ k9 l0 l1 a2.2.Un.Un,am av dq l2 a2.2.Un.UB,ab B9 118 [U k9 l0 l1,.map (some l2)],am bj bH k8 a2.2.Uk.Uy.at_,ab B7 147 [.map (some k8)]]) ?_ ?_
    ·refine fw h ?_ ?_<;>intro h
     ·refine ac ?_;obtain ⟨VQ,v1,v2,Vu,h⟩:=bz h;refine ac ?_;refine EL (sW 1 J aB J (bR v1 v2) I2) ?_;exact jN
     exact jY
    rintro _ _ ⟨m2,h,rfl,rfl⟩;refine ac ?_;exact ⟨_,_,⟨false,m2,a2.1.Ui,a2.1.N,0,0,⟨#[]⟩,[],a2.2.UA.UV,a2.2.UA.UT,a2.2.UA.UU,a2.2.Us.UD,a2.2.Us.Uu,a2.2.Us.Uq,a2.2.Us.Ut,a2.2.Us.Uj,a2.2.Us.UC,a2.2.Us.UE,a2.2.UF,a2.2.UO,a2.2.UP,a2.2.UQ,a2.2.UH,a2.2.UG,a2.2.Uk.m_.Uj,a2.2.Uk.m_.Ul,a2.2.Uk.Ur,a2.2.Uk.Uz,a2.2.Un.Un,a2.2.Un.UB,a2.2.Uk.Uy.at_,none,0,0,l3,l4,l5,l6,l7,l8,l9,m0,m1,j6,j7,j8,j9,k0,k1,k2,k3,k4,k5,k6,k7,k9,l0,l1,l2,k8,h,J,J⟩,sA,(aU (dg .i64) 3 _).trans (cS [1,0,2,3,4,5,6,7,8,9,10,11,12,13,14,15,16] 17)⟩
   refine ac ?_;exact ⟨_,_,⟨false,⟨#[]⟩,a2.1.Ui,a2.1.N,a2.1.Value.Ui,a2.1.Value.N,a2.1.Value.S,[],a2.2.UA.UV,a2.2.UA.UT,a2.2.UA.UU,a2.2.Us.UD,a2.2.Us.Uu,a2.2.Us.Uq,a2.2.Us.Ut,a2.2.Us.Uj,a2.2.Us.UC,a2.2.Us.UE,a2.2.UF,a2.2.UO,a2.2.UP,a2.2.UQ,a2.2.UH,a2.2.UG,a2.2.Uk.m_.Uj,a2.2.Uk.m_.Ul,a2.2.Uk.Ur,a2.2.Uk.Uz,a2.2.Un.Un,a2.2.Un.UB,a2.2.Uk.Uy.at_,none,0,0,l3,l4,l5,l6,l7,l8,l9,m0,m1,j6,j7,j8,j9,k0,k1,k2,k3,k4,k5,k6,k7,k9,l0,l1,l2,k8,h,J,J⟩,sA,(aU (dg .i64) 3 _).trans (cS [16,0,15,12,13,14,1,3,4,5,6,2,10,11,9,8,7] 19)⟩
  refine fw h ?_ ?_<;>intro h
  ·refine ac ?_;refine au (fun s L=> ∃h8 h9 i0 i1,pC N a0 h8=some r/\s=[(0,pV B1 0),(4,pV d0 0),(5,pV c7 0),(7,U h9 i0 i1)]/\L=[aC h9 i0 i1 h8,cj A12 n12 c12 a0.UF,ik A13 n13 c13 a0.UH,cj A14 n14 c14 a0.UG,ab B1 79 (iD a0 B2 B9 A12 n12 c12 A13 n13 c13 A14 n14 c14),ab d0 56 [.bool false,iV 0,.string (⟨#[]⟩),iV 0,iV 0,iV 0,iV 0,.string (⟨#[]⟩),U none 0 0],ab c7 56 [.bool false,iV 0,.string (⟨#[]⟩),iV 0,iV 0,iV 0,iV 0,.string (⟨#[]⟩),U none 0 0],aZ A3 n3 c3 a0.Uk.m_.Uj,aZ A4 n4 c4 a0.Uk.m_.Ul,aC A5 n5 c5 a0.Uk.Ur,aC A6 n6 c6 a0.Uk.Uz,ab B2 99 [U A3 n3 c3,U A4 n4 c4,U A5 n5 c5,U A6 n6 c6,pV B7 0],gQ A10 n10 c10 a0.Un.Un,am av dq M11 a0.Un.UB,ab B9 118 [U A10 n10 c10,.map (some M11)],am bj bH M8 a0.Uk.Uy.at_,ab B7 147 [.map (some M8)]]) ?_ ?_
   ·refine ac ?_;refine aY (fun m s L=> ∃d6 e2 i2 i8 j0,pB N a0 a1 m d6 e2=some r/\s=[(0,pV B1 0),(3,pV V0 0),(4,pV d0 0),(5,pV c7 0),(7,U i2 i8 j0),(8,iV e2)]/\L=[aC i2 i8 j0 d6,cj A12 n12 c12 a0.UF,ik A13 n13 c13 a0.UH,cj A14 n14 c14 a0.UG,ab B1 79 (iD a0 B2 B9 A12 n12 c12 A13 n13 c13 A14 n14 c14),db A15 n15 c15 a1.L,ab V0 53 [iV a1.Ui,iV a1.N,iV a1.M,.string a1.S,U A15 n15 c15],ab d0 56 [.bool false,iV 0,.string (⟨#[]⟩),iV 0,iV 0,iV 0,iV 0,.string (⟨#[]⟩),U none 0 0],ab c7 56 [.bool false,iV 0,.string (⟨#[]⟩),iV 0,iV 0,iV 0,iV 0,.string (⟨#[]⟩),U none 0 0],aZ A3 n3 c3 a0.Uk.m_.Uj,aZ A4 n4 c4 a0.Uk.m_.Ul,aC A5 n5 c5 a0.Uk.Ur,aC A6 n6 c6 a0.Uk.Uz,ab B2 99 [U A3 n3 c3,U A4 n4 c4,U A5 n5 c5,U A6 n6 c6,pV B7 0],gQ A10 n10 c10 a0.Un.Un,am av dq M11 a0.Un.UB,ab B9 118 [U A10 n10 c10,.map (some M11)],am bj bH M8 a0.Uk.Uy.at_,ab B7 147 [.map (some M8)]]) N _ _ ⟨[],0,none,0,0,h,J,J⟩ sA ((aU ap 23 _).trans (cS [0,16,17,18,5,4,3,2,1,7,8,9,10,6,14,15,13,12,11] 19)) ?_;rintro (_|v6) _ _ ⟨d6,e2,i2,i8,j0,h,rfl,rfl⟩
    ·exact ao h
    rw [pB.eq_2] at h;refine sZ ?_;refine gH J h ?_ ?_<;>intro h
    ·refine sY ?_;obtain ⟨j1,V1,V2,V4,h⟩:=bz h;refine ac ?_;refine gD (az (R:=ap) (vss:=[[iV 3,iV j1,.string (⟨#[]⟩)]]) (xs:=[(⟨3,j1,⟨#[]⟩⟩:Ty)]) J (qh _ _ _) J J (fun _ _ hr=> .cons J All2.nil)) ?_;rintro _ _ ⟨Vv,Vw,Vx,rfl,rfl⟩;obtain ⟨v7,h⟩:=ah h
     refine nk (ay 1 0 J J aB J J t0 zf J J v7) fun v8 w1 w2=> ?_
     obtain ⟨Vy,h⟩:=ah h;refine ac ?_;exact ⟨v6,_,_,TR _,⟨d6++([(⟨3,j1,⟨#[]⟩⟩:Ty)]:List Ty),e2+1,v8,w1,w2,h,J,J⟩,sA,cS [1,2,3,4,5,6,7,8,9,10,11,12,13,14,15,16,17,18,19] 20⟩
    exact jY
   rintro _ _ ⟨h8,h9,i0,i1,h,rfl,rfl⟩;refine ac ?_;refine nX (bv 0 J) ?_;refine ac ?_;obtain ⟨a7,k,h⟩:=aa h;refine gD (oC (uF k)) ?_;rintro _ _ ⟨_,⟨w3,w4,w5,w6,w7,w8,w9,x0,x1,x2,x3,x4,x5,x6,x7,x8,x9,y0,y1,y2,y3,y4,y5,y6,y7,y8,rfl,rfl⟩,rfl⟩;refine ac ?_;exact ⟨_,_,⟨false,⟨#[]⟩,0,0,0,0,⟨#[]⟩,[],a7.UA.UV,a7.UA.UT,a7.UA.UU,a7.Us.UD,a7.Us.Uu,a7.Us.Uq,a7.Us.Ut,a7.Us.Uj,a7.Us.UC,a7.Us.UE,a7.UF,a7.UO,a7.UP,a7.UQ,a7.UH,a7.UG,a7.Uk.m_.Uj,a7.Uk.m_.Ul,a7.Uk.Ur,a7.Uk.Uz,a7.Un.Un,a7.Un.UB,a7.Uk.Uy.at_,none,0,0,y0,y1,y2,y3,y4,y5,y6,y7,y8,w3,w4,w5,w6,w7,w8,w9,x0,x1,x2,x3,x4,x6,x7,x8,x9,x5,h,J,J⟩,sA,(aU (dg .i64) 3 _).trans (cS [16,0,17,12,13,14,1,3,4,5,6,2,10,11,9,8,7] 18)⟩
  refine fw h ?_ ?_<;>intro h
  ·refine ac ?_;obtain ⟨a6,k,h⟩:=aa h;refine gD (oC (uG k)) ?_;rintro _ _ ⟨_,⟨b3,b4,b5,e3,e4,e5,e6,e7,e8,e9,f1,f2,f3,f4,g0,g1,g2,g3,g4,g5,g6,g7,g8,g9,h0,h1,h2,h3,h4,rfl,rfl⟩,rfl⟩;refine ac ?_;refine aY (fun m s L=> ∃b6 h5 b7 b8 b9,pA N a6 m b6 h5=some r/\s=[(4,pV d0 0),(5,pV c7 0),(9,U b3 b4 b5),(11,iV b6)]/\L=[aC b3 b4 b5 a6.1,ab d0 56 [.bool false,iV 0,.string (⟨#[]⟩),iV 0,iV 0,iV 0,iV 0,.string (⟨#[]⟩),U none 0 0],eA b7 b8 b9 h5,ab c7 56 [.bool a6.2.1,iV 0,.string (⟨#[]⟩),iV 0,iV 0,iV 0,iV 0,.string (⟨#[]⟩),U b7 b8 b9],cj g6 g7 g8 a6.2.2.UF,ik g9 h0 h1 a6.2.2.UH,cj h2 h3 h4 a6.2.2.UG,ab B1 79 (iD a6.2.2 B2 B9 g6 g7 g8 g9 h0 h1 h2 h3 h4),aZ e3 e4 e5 a6.2.2.Uk.m_.Uj,aZ e6 e7 e8 a6.2.2.Uk.m_.Ul,aC e9 f1 f2 a6.2.2.Uk.Ur,aC f3 f4 g0 a6.2.2.Uk.Uz,ab B2 99 [U e3 e4 e5,U e6 e7 e8,U e9 f1 f2,U f3 f4 g0,pV B7 0],gQ g2 g3 g4 a6.2.2.Un.Un,am av dq g5 a6.2.2.Un.UB,ab B9 118 [U g2 g3 g4,.map (some g5)],am bj bH g1 a6.2.2.Uk.Uy.at_,ab B7 147 [.map (some g1)]]) N _ _ ⟨0,[],none,0,0,h,J,J⟩ sA ((aU (dg .i64) 3 _).trans (cS [1,17,0,16,13,14,15,2,4,5,6,7,3,11,12,10,9,8] 20)) ?_;rintro (_|Vz) _ _ ⟨b6,h5,b7,b8,b9,h,rfl,rfl⟩
   ·exact ao h
   rw [pA.eq_2] at h;refine sZ ?_;refine gH J h ?_ ?_<;>intro h
   ·refine sY ?_;obtain ⟨d1,h6,h7,j2,h⟩:=bz h;refine ie (t:=[(4,pV d0 0),(5,pV c7 0),(9,U b3 b4 b5),(11,iV b6)]) ?_ lW (ad _)
    refine iW I 8 [] [1,7] [96,97,98,99,100,101,102,103] [[],[0],[],[],[2,3],[4],[5],[6]] [aV (pV c7 8),
aV (U b7 b8 b9),
aV (U b3 b4 b5),
aV (iV b6),
aV (da (U b3 b4 b5) b6.toNat 3 0),
aV (da (U b3 b4 b5) b6.toNat 3 1),
aV (iV d1.N),
aX3 (fun (d2:Option Addr) (d3 d4:Nat)=> U d2 d3 d4) (fun d2 d3 d4=> [eA d2 d3 d4 ([d1.N]:List Int)])] [] (ad _) (lB) I rfl rfl ?_ ?_ ?_
    ·exact lA
    ·refine ae J ?_ ?_
     ·refine uv (az (R:=(dg .i64)) (vss:=[[iV d1.N]]) (xs:=[d1.N]) J (ll _) J J (fun _ _ hr=> .cons J All2.nil)) J ?_;rintro _ _ ⟨y9,z1,z2,rfl,rfl⟩;exact vc y9 z1 z2 (ad _)
     refine ae J ?_ ?_
     ·exact dy (gX (u:=iV d1.N) 0 J aB J j2 oH (fun _ _ _ h=>by rw [show _=_ from h];rfl)) J (aQ J (ad _))
     refine ae J ?_ ?_
     ·exact dy (sW 0 J aB J (bR h6 h7) vb) J (aQ J (ad _))
     refine ae J ?_ ?_
     ·exact dy (fA 0 J aB J J t0 size23.out h6 h7) J (aQ J (ad _))
     refine ae J ?_ ?_
     ·exact bU (aX J) J (aQ J (ad _))
     refine ae J ?_ ?_
     ·exact bU (aX J) J (aQ J (ad _))
     refine ae J ?_ ?_
     ·exact dy (bp 3 J J zH J) J (aQ J (ad _))
     refine ae J ?_ ?_
     ·exact bU (dj J Ah) J (aQ J (ad _))
     exact ee
    intro d2 d3 d4;refine nD (t:=[(97,U b7 b8 b9),(103,U d2 d3 d4),(4,pV d0 0),(5,pV c7 0),(9,U b3 b4 b5),(11,iV b6)]) (L':=[eA d2 d3 d4 ([d1.N]:List Int),aC b3 b4 b5 a6.1,ab d0 56 [.bool false,iV 0,.string (⟨#[]⟩),iV 0,iV 0,iV 0,iV 0,.string (⟨#[]⟩),U none 0 0],eA b7 b8 b9 h5,ab c7 56 [.bool a6.2.1,iV 0,.string (⟨#[]⟩),iV 0,iV 0,iV 0,iV 0,.string (⟨#[]⟩),U b7 b8 b9],cj g6 g7 g8 a6.2.2.UF,ik g9 h0 h1 a6.2.2.UH,cj h2 h3 h4 a6.2.2.UG,ab B1 79 (iD a6.2.2 B2 B9 g6 g7 g8 g9 h0 h1 h2 h3 h4),aZ e3 e4 e5 a6.2.2.Uk.m_.Uj,aZ e6 e7 e8 a6.2.2.Uk.m_.Ul,aC e9 f1 f2 a6.2.2.Uk.Ur,aC f3 f4 g0 a6.2.2.Uk.Uz,ab B2 99 [U e3 e4 e5,U e6 e7 e8,U e9 f1 f2,U f3 f4 g0,pV B7 0],gQ g2 g3 g4 a6.2.2.Un.Un,am av dq g5 a6.2.2.Un.UB,ab B9 118 [U g2 g3 g4,.map (some g5)],am bj bH g1 a6.2.2.Uk.Uy.at_,ab B7 147 [.map (some g1)]]) ?_ lW (ad _);obtain ⟨z6,h⟩:=ah h;refine pa 8 J I (ay 3 0 J J aB J J t5 F5 J J z6) J J J ?_;rintro _ _ ⟨j3,j4,j5,rfl,rfl⟩;refine zc 9 J I (dj J Ah) J J J ?_
    refine vI 10 J I (aj (us:=[U j3 j4 j5]) (cs':=[.bool a6.2.1,iV 0,.string (⟨#[]⟩),iV 0,iV 0,iV 0,iV 0,.string (⟨#[]⟩),U j3 j4 j5]) 4 J J J J size39.out J J J) J J ?_;rintro _ _ rfl;refine lD I ?_;refine ac ?_;obtain ⟨VA,h⟩:=ah h;exact lY
   exact jY
  refine fw h ?_ ?_<;>intro h
  ·refine ac ?_;obtain ⟨VB,k,h⟩:=aa h;refine gD (oR (Ho k)) ?_;rintro _ _ ⟨_,⟨VC,VD,VE,VF,VG,VH,rfl,rfl⟩,rfl⟩;refine nX (bv 0 J) ?_;refine ac ?_;refine nX (bv 1 J) ?_;obtain ⟨a8,k,h⟩:=aa h;refine gD (oC (fj k)) ?_;rintro _ _ ⟨_,⟨A7,B0,B3,B4,B5,B8,L0,L1,L2,L3,L4,L5,L6,L7,L8,L9,M0,M1,M2,M3,M4,M6,M9,Q1,S0,S1,rfl,rfl⟩,rfl⟩;refine ac ?_;exact ⟨_,_,⟨false,⟨#[]⟩,0,0,0,0,⟨#[]⟩,[],a8.2.UA.UV,a8.2.UA.UT,a8.2.UA.UU,a8.2.Us.UD,a8.2.Us.Uu,a8.2.Us.Uq,a8.2.Us.Ut,a8.2.Us.Uj,a8.2.Us.UC,a8.2.Us.UE,a8.2.UF,a8.2.UO,a8.2.UP,a8.2.UQ,a8.2.UH,a8.2.UG,a8.2.Uk.m_.Uj,a8.2.Uk.m_.Ul,a8.2.Uk.Ur,a8.2.Uk.Uz,a8.2.Un.Un,a8.2.Un.UB,a8.2.Uk.Uy.at_,none,0,0,M1,M2,M3,M4,M6,M9,Q1,S0,S1,A7,B0,B3,B4,B5,B8,L0,L1,L2,L3,L4,L5,L7,L8,L9,M0,L6,h,J,J⟩,sA,(aU (dg .i64) 3 _).trans (cS [18,0,17,12,13,14,1,3,4,5,6,2,10,11,9,8,7] 21)⟩
  refine fw h ?_ ?_<;>intro h
  ·refine ac ?_;obtain ⟨b0,k,h⟩:=aa h;refine gD (oC (xY k)) ?_;rintro _ _ ⟨_,⟨S2,S3,S4,S5,S6,S7,S8,S9,T1,T2,T3,T4,T5,T6,T7,T8,T9,U0,U1,U2,U3,U4,U5,U6,U7,U8,rfl,rfl⟩,rfl⟩;refine ac ?_;exact ⟨_,_,⟨false,⟨#[]⟩,0,0,0,0,⟨#[]⟩,[],b0.UA.UV,b0.UA.UT,b0.UA.UU,b0.Us.UD,b0.Us.Uu,b0.Us.Uq,b0.Us.Ut,b0.Us.Uj,b0.Us.UC,b0.Us.UE,b0.UF,b0.UO,b0.UP,b0.UQ,b0.UH,b0.UG,b0.Uk.m_.Uj,b0.Uk.m_.Ul,b0.Uk.Ur,b0.Uk.Uz,b0.Un.Un,b0.Un.UB,b0.Uk.Uy.at_,none,0,0,U0,U1,U2,U3,U4,U5,U6,U7,U8,S2,S3,S4,S5,S6,S7,S8,S9,T1,T2,T3,T4,T6,T7,T8,T9,T5,h,J,J⟩,sA,(aU (dg .i64) 3 _).trans (cS [16,0,15,12,13,14,1,3,4,5,6,2,10,11,9,8,7] 19)⟩
  refine fw h ?_ ?_<;>intro h
  ·refine ac ?_;obtain ⟨U9,k,h⟩:=aa h;refine kD (oR (sI k)) ?_;exact ⟨_,_,⟨false,U9,0,0,0,0,⟨#[]⟩,[],a0.UA.UV,a0.UA.UT,a0.UA.UU,a0.Us.UD,a0.Us.Uu,a0.Us.Uq,a0.Us.Ut,a0.Us.Uj,a0.Us.UC,a0.Us.UE,a0.UF,a0.UO,a0.UP,a0.UQ,a0.UH,a0.UG,a0.Uk.m_.Uj,a0.Uk.m_.Ul,a0.Uk.Ur,a0.Uk.Uz,a0.Un.Un,a0.Un.UB,a0.Uk.Uy.at_,none,0,0,A12,n12,c12,A13,n13,c13,A14,n14,c14,A3,n3,c3,A4,n4,c4,A5,n5,c5,A6,n6,c6,A10,n10,c10,M11,M8,h,J,J⟩,sA,(aU (dg .i64) 3 _).trans (cS [2,0,1,16,17,18,5,7,8,9,10,6,14,15,13,12,11] 19)⟩
  refine ac ?_;exact ⟨_,_,⟨false,⟨#[]⟩,0,0,0,0,⟨#[]⟩,[],a0.UA.UV,a0.UA.UT,a0.UA.UU,a0.Us.UD,a0.Us.Uu,a0.Us.Uq,a0.Us.Ut,a0.Us.Uj,a0.Us.UC,a0.Us.UE,a0.UF,a0.UO,a0.UP,a0.UQ,a0.UH,a0.UG,a0.Uk.m_.Uj,a0.Uk.m_.Ul,a0.Uk.Ur,a0.Uk.Uz,a0.Un.Un,a0.Un.UB,a0.Uk.Uy.at_,none,0,0,A12,n12,c12,A13,n13,c13,A14,n14,c14,A3,n3,c3,A4,n4,c4,A5,n5,c5,A6,n6,c6,A10,n10,c10,M11,M8,h,J,J⟩,sA,(aU (dg .i64) 3 _).trans (cS [2,0,1,16,17,18,5,7,8,9,10,6,14,15,13,12,11] 19)⟩
 rintro _ _ ⟨m3,p21,m4,m5,m6,m7,m8,m9,n7,o0,o1,o2,p0,p1,p2,p3,p4,p5,p6,p7,p8,q0,q1,q2,q3,q4,q5,q6,q7,q8,q9,r0,r1,r2,r3,r4,r5,r6,s0,s1,s2,s3,s4,s5,s6,s7,s8,s9,t1,t2,u0,u1,u2,u3,u4,u5,u6,u7,u8,u9,h,rfl,rfl⟩;exact eY
end Go.Proofs.YtjmonlcchlkdhaaGreat
namespace Go.Proofs.YtjmonlcchlkdhaaGreat
variable {A1 A10 A12 A13 A14 A15 A16 A2 A3 A4 A5 A6 A8 A9:Option Addr} {B1 B2 B6 B7 B9 M11 M7 M8 c1 c10 c12 c13 c14 c15 c16 c2 c3 c4 c5 c6 c8 c9 n1 n10 n12 n13 n14 n15 n16 n2 n3 n4 n5 n6 n8 n9:Nat}
open Go.RowKit Asn
set_option maxRecDepth 20000
def iH (N:Nat)(a1:Bool)(p21:Int)(a2:Int)(a6:Int)(a7:Int)(a8:Int)(b0:Int)(b1:Int)(b2:Int)(b3:Int)(b4:Int)(b5:Int)(b6:TX)(b7:Int)(b8:Int)(b9:Int)(c0:TZ)(c7:TX)(d0:TV)(d1:TV)(d2:TN)(d3:TN)(d4:List TA)(d6:(List (TH×Int)))(e2:TW):Option (TF×TC):=
 some ((⟨a1,p21,⟨#[]⟩,(⟨0,0,(⟨0,0,⟨#[]⟩⟩:Ty)⟩:TJ),[]⟩:TF),(⟨(⟨a2,a6,a7⟩:TL),(⟨a8,b0,b1,b2,b3,b4,b5⟩:Tx),(),(⟨(⟨d0,d1⟩:TM),d2,d3,(⟨e2⟩:Tw)⟩:TI),(⟨d4,d6⟩:Tt),b6,b7,b8,b9,c0,c7⟩:TC))
def vV (N:Nat)(a0:TC)(a1:Tp):Option (TF×TC):=
 bif decide (a1.Ui=0) then ((fH N a0).bind fun b1=>iH N b1.1 0 b1.2.UA.UV b1.2.UA.UT b1.2.UA.UU b1.2.Us.UD b1.2.Us.Uu b1.2.Us.Uq b1.2.Us.Ut b1.2.Us.Uj b1.2.Us.UC b1.2.Us.UE b1.2.UF b1.2.UO b1.2.UP b1.2.UQ b1.2.UH b1.2.UG b1.2.Uk.m_.Uj b1.2.Uk.m_.Ul b1.2.Uk.Ur b1.2.Uk.Uz b1.2.Un.Un b1.2.Un.UB b1.2.Uk.Uy.at_) else (bif decide (a1.Ui=1) then ((jV N a0).bind fun b2=>iH N b2.1 0 b2.2.UA.UV b2.2.UA.UT b2.2.UA.UU b2.2.Us.UD b2.2.Us.Uu b2.2.Us.Uq b2.2.Us.Ut b2.2.Us.Uj b2.2.Us.UC b2.2.Us.UE b2.2.UF b2.2.UO b2.2.UP b2.2.UQ b2.2.UH b2.2.UG b2.2.Uk.m_.Uj b2.2.Uk.m_.Ul b2.2.Uk.Ur b2.2.Uk.Uz b2.2.Un.Un b2.2.Un.UB b2.2.Uk.Uy.at_) else (bif decide (a1.Ui=2) then ((jU N a0).bind fun b5=>iH N false 0 b5.UA.UV b5.UA.UT b5.UA.UU b5.Us.UD b5.Us.Uu b5.Us.Uq b5.Us.Ut b5.Us.Uj b5.Us.UC b5.Us.UE b5.UF b5.UO b5.UP b5.UQ b5.UH b5.UG b5.Uk.m_.Uj b5.Uk.m_.Ul b5.Uk.Ur b5.Uk.Uz b5.Un.Un b5.Un.UB b5.Uk.Uy.at_) else (bif decide (a1.Ui=3) then ((vU N).bind fun b7=>(du N a0 b7).bind fun b3=>iH N b3.2.1 0 b3.2.2.UA.UV b3.2.2.UA.UT b3.2.2.UA.UU b3.2.2.Us.UD b3.2.2.Us.Uu b3.2.2.Us.Uq b3.2.2.Us.Ut b3.2.2.Us.Uj b3.2.2.Us.UC b3.2.2.Us.UE b3.2.2.UF b3.2.2.UO b3.2.2.UP b3.2.2.UQ b3.2.2.UH b3.2.2.UG b3.2.2.Uk.m_.Uj b3.2.2.Uk.m_.Ul b3.2.2.Uk.Ur b3.2.2.Uk.Uz b3.2.2.Un.Un b3.2.2.Un.UB b3.2.2.Uk.Uy.at_) else (bif decide (a1.Ui=4) then ((jj N a0 a1.S).bind fun b4=>iH N false b4.1.N b4.2.UA.UV b4.2.UA.UT b4.2.UA.UU b4.2.Us.UD b4.2.Us.Uu b4.2.Us.Uq b4.2.Us.Ut b4.2.Us.Uj b4.2.Us.UC b4.2.Us.UE b4.2.UF b4.2.UO b4.2.UP b4.2.UQ b4.2.UH b4.2.UG b4.2.Uk.m_.Uj b4.2.Uk.m_.Ul b4.2.Uk.Ur b4.2.Uk.Uz b4.2.Un.Un b4.2.Un.UB b4.2.Uk.Uy.at_) else (bif decide (a1.Ui=5) then ((jS N a0).bind fun a7=>iH N false 0 a7.UA.UV a7.UA.UT a7.UA.UU a7.Us.UD a7.Us.Uu a7.Us.Uq a7.Us.Ut a7.Us.Uj a7.Us.UC a7.Us.UE a7.UF a7.UO a7.UP a7.UQ a7.UH a7.UG a7.Uk.m_.Uj a7.Uk.m_.Ul a7.Uk.Ur a7.Uk.Uz a7.Un.Un a7.Un.UB a7.Uk.Uy.at_) else (bif decide (a1.Ui=9) then ((jn N a0 a1.N).bind fun a8=>iH N false 0 a8.UA.UV a8.UA.UT a8.UA.UU a8.Us.UD a8.Us.Uu a8.Us.Uq a8.Us.Ut a8.Us.Uj a8.Us.UC a8.Us.UE a8.UF a8.UO a8.UP a8.UQ a8.UH a8.UG a8.Uk.m_.Uj a8.Uk.m_.Ul a8.Uk.Ur a8.Uk.Uz a8.Un.Un a8.Un.UB a8.Uk.Uy.at_) else (bif decide (a1.Ui=12) then ((jk N a0).bind fun a2=>iH N false a2.1 a2.2.UA.UV a2.2.UA.UT a2.2.UA.UU a2.2.Us.UD a2.2.Us.Uu a2.2.Us.Uq a2.2.Us.Ut a2.2.Us.Uj a2.2.Us.UC a2.2.Us.UE a2.2.UF a2.2.UO a2.2.UP a2.2.UQ a2.2.UH a2.2.UG a2.2.Uk.m_.Uj a2.2.Uk.m_.Ul a2.2.Uk.Ur a2.2.Uk.Uz a2.2.Un.Un a2.2.Un.UB a2.2.Uk.Uy.at_) else (bif decide (a1.Ui=13) then ((kM N a0 (⟨3,a1.N,⟨#[]⟩⟩:Ty)).bind fun a6=>iH N false a6.1 a6.2.UA.UV a6.2.UA.UT a6.2.UA.UU a6.2.Us.UD a6.2.Us.Uu a6.2.Us.Uq a6.2.Us.Ut a6.2.Us.Uj a6.2.Us.UC a6.2.Us.UE a6.2.UF a6.2.UO a6.2.UP a6.2.UQ a6.2.UH a6.2.UG a6.2.Uk.m_.Uj a6.2.Uk.m_.Ul a6.2.Uk.Ur a6.2.Uk.Uz a6.2.Un.Un a6.2.Un.UB a6.2.Uk.Uy.at_) else (bif decide (a1.Ui=14) then ((lL N a0 a1.N).bind fun b0=>iH N false 0 b0.UA.UV b0.UA.UT b0.UA.UU b0.Us.UD b0.Us.Uu b0.Us.Uq b0.Us.Ut b0.Us.Uj b0.Us.UC b0.Us.UE b0.UF b0.UO b0.UP b0.UQ b0.UH b0.UG b0.Uk.m_.Uj b0.Uk.m_.Ul b0.Uk.Ur b0.Uk.Uz b0.Un.Un b0.Un.UB b0.Uk.Uy.at_) else ((uB N a0 a1).bind fun b6=>some (b6.1,b6.2)))))))))))
theorem Jk {N:Nat}{a0:TC}{a1:Tp}{r:TF×TC}(h:vV N a0 a1=some r):Okc Ua 24 [pV B1 0,.agg #[iV a1.Ui,iV a1.N,iV a1.M,.string a1.S,U A15 n15 c15]] ([db A15 n15 c15 a1.L,ab B1 79 (iD a0 B2 B9 A12 n12 c12 A13 n13 c13 A14 n14 c14),ab B2 99 [U A3 n3 c3,U A4 n4 c4,U A5 n5 c5,U A6 n6 c6,pV B7 0],aZ A3 n3 c3 a0.Uk.m_.Uj,aZ A4 n4 c4 a0.Uk.m_.Ul,aC A5 n5 c5 a0.Uk.Ur,aC A6 n6 c6 a0.Uk.Uz,ab B7 147 [.map (some M8)],am bj bH M8 a0.Uk.Uy.at_,ab B9 118 [U A10 n10 c10,.map (some M11)],gQ A10 n10 c10 a0.Un.Un,am av dq M11 a0.Un.UB,cj A12 n12 c12 a0.UF,ik A13 n13 c13 a0.UH,cj A14 n14 c14 a0.UG]) (fun u post=> ∃A0 n0 c0 A1 n1 c1 A2 n2 c2 A3 n3 c3 A4 n4 c4 M5 A6 n6 c6 M7 A8 n8 c8 A9 n9 c9 A10 n10 c10,u=.agg #[.bool r.1.Ok,iV r.1.N,.string r.1.S,iV r.1.UN.Ui,iV r.1.UN.N,iV r.1.UN.Value.Ui,iV r.1.UN.Value.N,.string r.1.UN.Value.S,U A0 n0 c0]/\post=[eA A0 n0 c0 r.1.L,ab B1 79 (iD r.2 B2 B9 A8 n8 c8 A9 n9 c9 A10 n10 c10),ab B2 99 [U A1 n1 c1,U A2 n2 c2,U A3 n3 c3,U A4 n4 c4,pV B7 0],aZ A1 n1 c1 r.2.Uk.m_.Uj,aZ A2 n2 c2 r.2.Uk.m_.Ul,aC A3 n3 c3 r.2.Uk.Ur,aC A4 n4 c4 r.2.Uk.Uz,ab B7 147 [.map (some M5)],am bj bH M5 r.2.Uk.Uy.at_,ab B9 118 [U A6 n6 c6,.map (some M7)],gQ A6 n6 c6 r.2.Un.Un,am av dq M7 r.2.Un.UB,cj A8 n8 c8 r.2.UF,ik A9 n9 c9 r.2.UH,cj A10 n10 c10 r.2.UG]):=by
 refine cA Tryz.func24 ?_;intro U8
 refine jg fun h7=> ?_
 intro h8;refine ac ?_;refine au (fun s L=> ∃a2 p21 a6 a7 a8 b0 b1 b2 b3 b4 b5 b6 b7 b8 b9 c7 d0 d1 d2 d3 d4 d6 e2 e3 e4 e5 e6 e7 e8 e9 f1 f2 f3 f4 g0 g1 g2 g3 g4 g5 g6 g7 g8 g9 h0 h1 h2 h3 h4 h5 h6,iH N a2 p21 a6 a7 a8 b0 b1 b2 b3 b4 b5 b6 b7 b8 b9 c7 d0 d1 d2 d3 d4 d6 e2 e3 e4=some r/\s=[(4,pV h7 0),(5,pV h8 0)]/\L=[ab h7 56 [.bool false,iV 0,.string (⟨#[]⟩),iV 0,iV 0,iV 0,iV 0,.string (⟨#[]⟩),U none 0 0],ab h8 56 [.bool a2,iV p21,.string (⟨#[]⟩),iV 0,iV 0,iV 0,iV 0,.string (⟨#[]⟩),U none 0 0],cj e5 e6 e7 b7,ik e8 e9 f1 d0,cj f2 f3 f4 d1,ab B1 79 [iV a6,iV a7,iV a8,iV b0,iV b1,iV b2,iV b3,iV b4,iV b5,iV b6,.nilIface,pV B2 0,pV B9 0,U e5 e6 e7,iV b8,iV b9,iV c7,U e8 e9 f1,U f2 f3 f4],aZ g0 g1 g2 d2,aZ g3 g4 g5 d3,aC g6 g7 g8 d4,aC g9 h0 h1 d6,ab B2 99 [U g0 g1 g2,U g3 g4 g5,U g6 g7 g8,U g9 h0 h1,pV B7 0],gQ h2 h3 h4 e2,am av dq h5 e3,ab B9 118 [U h2 h3 h4,.map (some h5)],am bj bH h6 e4,ab B7 147 [.map (some h6)]]) ?_ ?_
 ·refine fw h ?_ ?_<;>intro h
  ·refine ac ?_;obtain ⟨U9,k,h⟩:=aa h;refine gD (oC (mY k)) ?_;rintro _ _ ⟨_,⟨V0,V1,V2,V4,V5,V6,V7,V8,V9,W0,W1,W2,W3,W4,W5,W7,W8,W9,X0,X1,X2,X3,X4,X5,X6,X7,rfl,rfl⟩,rfl⟩;exact jY
  refine fw h ?_ ?_<;>intro h
  ·refine ac ?_;obtain ⟨X8,k,h⟩:=aa h;refine gD (oC (wu k)) ?_;rintro _ _ ⟨_,⟨X9,Y0,Y1,Y2,Y3,Y4,Y5,Y6,Y7,Y8,Y9,Z0,Z1,Z2,Z3,Z4,Z5,Z6,Z7,Z8,Z9,Vm,Vn,Vo,Vp,Vq,rfl,rfl⟩,rfl⟩;exact jY
  refine fw h ?_ ?_<;>intro h
  ·refine ac ?_;obtain ⟨Vr,k,h⟩:=aa h;refine gD (oC (wr k)) ?_;rintro _ _ ⟨_,⟨Vs,Vt,Vu,Vv,Vw,Vx,Vy,Vz,VA,VB,VC,VD,VE,VF,VG,VH,VI,VJ,VK,VL,VM,VN,VO,VP,VQ,VR,rfl,rfl⟩,rfl⟩;exact jY
  refine fw h ?_ ?_<;>intro h
  ·refine ac ?_;obtain ⟨VS,k,h⟩:=aa h;refine gD (oR (Fh k)) ?_;rintro _ _ ⟨_,⟨VT,VU,VV,VW,VX,VY,rfl,rfl⟩,rfl⟩;refine nX (bv 0 J) ?_;refine ac ?_;refine nX (bv 1 J) ?_;obtain ⟨VZ,k,h⟩:=aa h;refine gD (oC (fi k)) ?_;rintro _ _ ⟨_,⟨Wa,Wb,Wc,Wd,We,Wf,Wg,Wh,Wi,Wj,Wk,Wl,Wm,Wn,Wo,Ws,Wt,Wu,Wv,Ww,Wx,Wy,Wz,WB,WC,WD,rfl,rfl⟩,rfl⟩;exact jY
  refine fw h ?_ ?_<;>intro h
  ·refine ac ?_;obtain ⟨WE,k,h⟩:=aa h;refine gD (oC (vL k)) ?_;rintro _ _ ⟨_,⟨WF,WG,WI,WJ,WK,WL,h9,i0,i1,i2,i8,j0,j1,j2,j3,j4,j5,j6,j7,j8,j9,k0,k1,k2,k3,k4,rfl,rfl⟩,rfl⟩;refine fC (qc J (LE _ _ _)) ?_;exact jN
  refine fw h ?_ ?_<;>intro h
  ·refine ac ?_;obtain ⟨k5,k,h⟩:=aa h;refine gD (oC (wn k)) ?_;rintro _ _ ⟨_,⟨k6,k7,k8,k9,l0,l1,l2,l3,l4,l5,l6,l7,l8,l9,m0,m1,m2,m3,m4,m5,m6,m7,m8,m9,n7,o0,rfl,rfl⟩,rfl⟩;exact jY
  refine fw h ?_ ?_<;>intro h
  ·refine ac ?_;obtain ⟨o1,k,h⟩:=aa h;refine gD (oC (vP k)) ?_;rintro _ _ ⟨_,⟨o2,p0,p1,p2,p3,p4,p5,p6,p7,p8,q0,q1,q2,q3,q4,q5,q6,q7,q8,q9,r0,r1,r2,r3,r4,r5,rfl,rfl⟩,rfl⟩;exact jY
  refine fw h ?_ ?_<;>intro h
  ·refine ac ?_;obtain ⟨r6,k,h⟩:=aa h;refine gD (oC (vM k)) ?_;rintro _ _ ⟨_,⟨s0,s1,s2,s3,s4,s5,s6,s7,s8,s9,t1,t2,u0,u1,u2,u3,u4,u5,u6,u7,u8,u9,v1,v2,v6,v7,rfl,rfl⟩,rfl⟩;exact jY
  refine fw h ?_ ?_<;>intro h
  ·refine ac ?_;obtain ⟨v8,k,h⟩:=aa h;refine gD (oC (xX k)) ?_;rintro _ _ ⟨_,⟨w1,w2,w3,w4,w5,w6,w7,w8,w9,x0,x1,x2,x3,x4,x5,x6,x7,x8,x9,y0,y1,y2,y3,y4,y5,y6,rfl,rfl⟩,rfl⟩;exact jY
  refine fw h ?_ ?_<;>intro h
  ·refine ac ?_;obtain ⟨y7,k,h⟩:=aa h;refine gD (oC (yF k)) ?_;rintro _ _ ⟨_,⟨y8,y9,z1,z2,z6,A7,B0,B3,B4,B5,B8,L0,L1,L2,L3,L4,L5,L6,L7,L8,L9,M0,M1,M2,M3,M4,rfl,rfl⟩,rfl⟩;exact jY
  refine ac ?_;obtain ⟨M6,k,h⟩:=aa h;refine gD (oC (Gc k)) ?_;rintro _ _ ⟨_,⟨M9,Q1,S0,S1,S2,S3,S4,S5,S6,S7,S8,S9,T1,T2,T3,T4,T5,T6,T7,T8,T9,U0,U1,U2,U3,U4,U5,U6,U7,rfl,rfl⟩,rfl⟩;exact eY
 rintro _ _ ⟨a2,p21,a6,a7,a8,b0,b1,b2,b3,b4,b5,b6,b7,b8,b9,c7,d0,d1,d2,d3,d4,d6,e2,e3,e4,e5,e6,e7,e8,e9,f1,f2,f3,f4,g0,g1,g2,g3,g4,g5,g6,g7,g8,g9,h0,h1,h2,h3,h4,h5,h6,h,rfl,rfl⟩;refine ac ?_;obtain rfl:=bS h;exact fR (rs:=[.cell 4 56]) (vs:=[.agg #[.bool a2,iV p21,.string (⟨#[]⟩),iV 0,iV 0,iV 0,iV 0,.string (⟨#[]⟩),U none 0 0]]) J (.cons (bo 0 J J agg56.out) .nil) J ((aU (dg .i64) 3 _).trans (cS [0,6,11,7,8,9,10,16,15,14,12,13,3,4,5] 17)) ⟨_,_,_,_,_,_,_,_,_,_,_,_,_,_,_,_,_,_,_,_,_,_,_,_,_,_,_,_,_,J,J⟩
def Bu (N:Nat):Option Bool:=
 some true
def sN (N:Nat)(a0:TO)(a1:TO):Nat->Int->Option Bool
 |0,_=>none
 |m5+1,p6=>bif decide (p6<(a0.length:Int)) then ((aw a0 p6).bind fun x8=>(aw a1 p6).bind fun x9=>bif !decide (x8=x9) then (some false) else (be (in64 (p6+1)) ((sN N a0 a1 m5) (p6+1)))) else (Bu N)
def yw (N:Nat)(a0:TO)(a1:TO):Option Bool:=
 bif !decide ((a0.length:Int)=(a1.length:Int)) then (some false) else (sN N a0 a1 N 0)
theorem Gd {N:Nat}{a0:TO}{a1:TO}{r:Bool}(h:yw N a0 a1=some r):Okc Ua 58 [U A1 n1 c1,U A2 n2 c2] ([db A1 n1 c1 a0,db A2 n2 c2 a1]) (fun u post=>u=.bool r/\post=[]):=by
 refine cA Tryz.func58 ?_;refine sZ ?_;refine gH J h ?_ ?_<;>intro h
 ·exact eY
 refine ac ?_;refine au (fun s L=>Bu N=some r/\s=[(4,.bool false)]/\L=[]) ?_ ?_
 ·refine ac ?_;refine aY (fun m s L=> ∃p6,sN N a0 a1 m p6=some r/\s=[(0,U A1 n1 c1),(1,U A2 n2 c2),(4,.bool false),(5,iV p6)]/\L=[db A1 n1 c1 a0,db A2 n2 c2 a1]) N _ _ ⟨0,h,J,J⟩ sA (cS [0,1] 2) ?_;rintro (_|m5) _ _ ⟨p6,h,rfl,rfl⟩
  ·exact ao h
  rw [sN.eq_2] at h;refine sZ ?_;refine gH J h ?_ ?_<;>intro h
  ·refine sY ?_;refine dY [] ?_;refine ac ?_;obtain ⟨x8,a2,a6,a7,h⟩:=bz h;refine ac ?_;obtain ⟨x9,a8,b0,b1,h⟩:=bz h;refine fw h ?_ ?_<;>intro h
   ·exact eY
   refine ac ?_;obtain ⟨b2,h⟩:=ah h;exact lY
  exact jY
 rintro _ _ ⟨h,rfl,rfl⟩;exact eY
def ry (N:Nat)(a0:TF)(a1:TF):Option Bool:=
 (bif a0.Ok==a1.Ok then (some (decide (a0.N=a1.N))) else (some false)).bind fun b5=>(bif b5 then (some (a0.S.toList==a1.S.toList)) else (some false)).bind fun b6=>(bif b6 then (some (decide (a0.UN=a1.UN))) else (some false)).bind fun b7=>(bif b7 then ((yw N a0.L a1.L).bind fun y9=>some y9) else (some false)).bind fun b8=>some b8
theorem Gb {N:Nat}{a0:TF}{a1:TF}{r:Bool}(h:ry N a0 a1=some r):Okc Ua 23 [.agg #[.bool a0.Ok,iV a0.N,.string a0.S,iV a0.UN.Ui,iV a0.UN.N,iV a0.UN.Value.Ui,iV a0.UN.Value.N,.string a0.UN.Value.S,U A1 n1 c1],.agg #[.bool a1.Ok,iV a1.N,.string a1.S,iV a1.UN.Ui,iV a1.UN.N,iV a1.UN.Value.Ui,iV a1.UN.Value.N,.string a1.UN.Value.S,U A2 n2 c2]] ([db A1 n1 c1 a0.L,db A2 n2 c2 a1.L]) (fun u post=>u=.bool r/\post=[]):=by
 refine cA Tryz.func23 ?_;intro B3
 refine jg fun B4=> ?_
 refine fC (LW J J Tg) ?_;refine gS 6 16 10 h ?_;intro b5 h;refine ac ?_;obtain ⟨b6,a2,h⟩:=aa h;refine aR 6 23 b6 ?_ ?_
 ·clear h;refine aP 17 J (fun g6=> ?_) (fun g6=> ?_)
  ·have h:=aE g6 a2;refine ac ?_;refine qk (wY J J) J (cB g6 J) J ?_;exact gY
  have h:=aF g6 a2;exact gY
 refine ac ?_;obtain ⟨b7,a6,h⟩:=aa h;refine aR 6 30 b7 ?_ ?_
 ·clear h;refine aP 24 J (fun g7=> ?_) (fun g7=> ?_)
  ·have h:=aE g7 a6;refine ac ?_;refine qk (LS (x:=a0.UN) (y:=a1.UN) J J) J (cB g7 J) J ?_;exact gY
  have h:=aF g7 a6;exact gY
 refine ac ?_;obtain ⟨b8,a7,h⟩:=aa h;refine aR 6 37 b8 ?_ ?_
 ·clear h;refine aP 31 J (fun g8=> ?_) (fun g8=> ?_)
  ·have h:=aE g8 a7;refine ac ?_;obtain ⟨y9,k,h⟩:=aa h;refine gU (oR (Gd k)) (cB g8 J) ?_;exact gY
  have h:=aF g8 a7;exact gY
 exact eY
theorem D1 {r:Bool}: ∀v post,((fun (u:Value) (post:List Chunk)=>u=.bool r/\post=[])) v post-> ∀c∈post,jP c:=by
 rintro _ _ ⟨rfl,rfl⟩;exact aD
def gw (N:Nat)(a0:TC):Option TX:=
 be (bJ (([]:List ByteArray).length+a0.UG.length)) (some (([]:List ByteArray)++a0.UG))
theorem yE {N:Nat}{a0:TC}{r:TX}(h:gw N a0=some r):Okc Ua 26 [pV B1 0] ([ar B1 79 (iD a0 B2 B9 A12 n12 c12 A13 n13 c13 A14 n14 c14),ar B2 99 [U A3 n3 c3,U A4 n4 c4,U A5 n5 c5,U A6 n6 c6,pV B7 0],bf A3 n3 c3 a0.Uk.m_.Uj,bf A4 n4 c4 a0.Uk.m_.Ul,bc A5 n5 c5 a0.Uk.Ur,bc A6 n6 c6 a0.Uk.Uz,ar B7 147 [.map (some M8)],dk bj bH M8 a0.Uk.Uy.at_,ar B9 118 [U A10 n10 c10,.map (some M11)],om A10 n10 c10 a0.Un.Un,dk av dq M11 a0.Un.UB,gz A12 n12 c12 a0.UF,fX A13 n13 c13 a0.UH,gz A14 n14 c14 a0.UG]) (fun u post=> ∃A0 n0 c0,u=U A0 n0 c0/\post=[cj A0 n0 c0 r]):=by
 refine cA Tryz.func26 ?_;refine sZ ?_;refine fC (bD J Tf) ?_;refine cy J ?_;refine ac ?_;refine nX (aU qu 9 _) ?_;obtain ⟨a1,h⟩:=ah h
 refine nk (ay 0 14 J J aM J J Ex Hk J J a1) fun a2 a6 a7=> ?_
 exact eN
def qK (N:Nat)(a0:TL):Option Int:=
 some a0.UV
theorem wk {N:Nat}{a0:TL}{r:Int}(h:qK N a0=some r){bt:TypeId}{cs:List Value}(hc:cs[0]? =some (iV a0.UV)):Okc Ua 69 [pV B1 0] ([ar B1 bt cs]) (fun u post=>u=iV r/\post=[]):=by
 refine cA Tryz.func69 ?_;refine EL (rQ 0 J J oH hc) ?_;exact eN
def fh (N:Nat)(a0:TC):Option Int:=
 (qK N a0.UA).bind fun a1=>some a1
theorem wo {N:Nat}{a0:TC}{r:Int}(h:fh N a0=some r):Okc Ua 27 [pV B1 0] ([ar B1 79 (iD a0 B2 B9 A12 n12 c12 A13 n13 c13 A14 n14 c14),ar B2 99 [U A3 n3 c3,U A4 n4 c4,U A5 n5 c5,U A6 n6 c6,pV B7 0],bf A3 n3 c3 a0.Uk.m_.Uj,bf A4 n4 c4 a0.Uk.m_.Ul,bc A5 n5 c5 a0.Uk.Ur,bc A6 n6 c6 a0.Uk.Uz,ar B7 147 [.map (some M8)],dk bj bH M8 a0.Uk.Uy.at_,ar B9 118 [U A10 n10 c10,.map (some M11)],om A10 n10 c10 a0.Un.Un,dk av dq M11 a0.Un.UB,gz A12 n12 c12 a0.UF,fX A13 n13 c13 a0.UH,gz A14 n14 c14 a0.UG]) (fun u post=>u=iV r/\post=[]):=by
 refine cA Tryz.func27 ?_;refine sZ ?_;refine fC (bD J Tf) ?_;refine cy J ?_;refine ac ?_;obtain ⟨a1,k,h⟩:=aa h;refine kD (oR (wk (bt:=79) (cs:=iD a0 B2 B9 A12 n12 c12 A13 n13 c13 A14 n14 c14) k J)) ?_;exact eN
def fI (N:Nat)(a0:TC):Option Unit:=
 some ()
theorem xZ {N:Nat}{a0:TC}{r:Unit}(h:fI N a0=some r):Okc Ua 20 [pV B1 0] ([ar B1 79 (iD a0 B2 B9 A12 n12 c12 A13 n13 c13 A14 n14 c14),ar B2 99 [U A3 n3 c3,U A4 n4 c4,U A5 n5 c5,U A6 n6 c6,pV B7 0],bf A3 n3 c3 a0.Uk.m_.Uj,bf A4 n4 c4 a0.Uk.m_.Ul,bc A5 n5 c5 a0.Uk.Ur,bc A6 n6 c6 a0.Uk.Uz,ar B7 147 [.map (some M8)],dk bj bH M8 a0.Uk.Uy.at_,ar B9 118 [U A10 n10 c10,.map (some M11)],om A10 n10 c10 a0.Un.Un,dk av dq M11 a0.Un.UB,gz A12 n12 c12 a0.UF,fX A13 n13 c13 a0.UH,gz A14 n14 c14 a0.UG]) (fun u post=>u=pV B2 0/\post=[]):=by
 refine cA Tryz.func20 ?_;refine sZ ?_;refine fC (bD J Tf) ?_;refine cy J ?_;exact eY
theorem vN {B2:Nat}: ∀v post,((fun (u:Value) (post:List Chunk)=>u=pV B2 0/\post=[])) v post-> ∀c∈post,jP c:=by
 rintro _ _ ⟨rfl,rfl⟩;exact aD
def kW (N:Nat)(a0:TI)(a1:Ty):Option Bool:=
 (bif decide (a1.Ui=7) then (some true) else (some (decide (a1.Ui=9)))).bind fun b9=>(bif b9 then ((gL N a0 a1.N).bind fun a2=>some (!a2)) else (some false)).bind fun a6=>some a6
theorem yb {N:Nat}{a0:TI}{a1:Ty}{r:Bool}(h:kW N a0 a1=some r):Okc Ua 52 [pV B1 0,(gA a1)] ([ar B1 99 [U A2 n2 c2,U A3 n3 c3,U A4 n4 c4,U A5 n5 c5,pV B6 0],bf A2 n2 c2 a0.m_.Uj,bf A3 n3 c3 a0.m_.Ul,bc A4 n4 c4 a0.Ur,bc A5 n5 c5 a0.Uz,ar B6 147 [.map (some M7)],dk bj bH M7 a0.Uy.at_]) (fun u post=>u=.bool r/\post=[]):=by
 refine cA Tryz.func52 ?_;intro B8;refine ac ?_;refine gS 4 12 8 h ?_;intro b9 h;refine ac ?_;obtain ⟨a7,a2,h⟩:=aa h;refine aR 6 19 a7 ?_ ?_
 ·clear h;refine aP 13 J (fun a6=> ?_) (fun a6=> ?_)
  ·have h:=aE a6 a2;refine ac ?_;obtain ⟨a8,k,h⟩:=aa h;refine gU (oR (mP k)) (cB a6 J) ?_;exact gY
  have h:=aF a6 a2;exact gY
 exact eY
def ng (N:Nat)(a0:Int)(a1:TI):Option Bool:=
 (gL N a1 a0).bind fun y9=>some (!y9)
theorem wT {N:Nat}{a0:Int}{a1:TI}{r:Bool}(h:ng N a0 a1=some r):Okc Ua 99 [iV a0,pV B1 0] ([ar B1 46 [pV B2 0],ar B2 99 [U A3 n3 c3,U A4 n4 c4,U A5 n5 c5,U A6 n6 c6,pV B7 0],bf A3 n3 c3 a1.m_.Uj,bf A4 n4 c4 a1.m_.Ul,bc A5 n5 c5 a1.Ur,bc A6 n6 c6 a1.Uz,ar B7 147 [.map (some M8)],dk bj bH M8 a1.Uy.at_]) (fun u post=>u=.bool r/\post=[]):=by
 refine cA Tryz.func99 ?_;obtain ⟨y9,k,h⟩:=aa h;refine kD (oR (mP k)) ?_;exact eN
def mO (N:Nat)(a0:TI)(a1:TB):Option Bool:=
 (f0 N a1).bind fun a2=>(jH N a1).bind fun a6=>(kZ N a2 a6).bind fun a7=>(bF N a7 (fun x=>ng N x a0)).bind fun a8=>some a8
theorem z7 {N:Nat}{a0:TI}{a1:TB}{r:Bool}(h:mO N a0 a1=some r):Okc Ua 55 [pV B1 0,.agg #[iV a1.Ui,iV a1.Uw,iV a1.Uv,iV a1.Ux,U A8 n8 c8,U A9 n9 c9]] ([ar B1 99 [U A2 n2 c2,U A3 n3 c3,U A4 n4 c4,U A5 n5 c5,pV B6 0],bf A2 n2 c2 a0.m_.Uj,bf A3 n3 c3 a0.m_.Ul,bc A4 n4 c4 a0.Ur,bc A5 n5 c5 a0.Uz,ar B6 147 [.map (some M7)],dk bj bH M7 a0.Uy.at_,bc A8 n8 c8 a1.Uo,bc A9 n9 c9 a1.Um]) (fun u post=>u=.bool r/\post=[]):=by
 refine cA Tryz.func55 ?_;intro a2
 refine jg fun a6=> ?_
 refine dY [0,2] ?_;refine zE 6 J (ed J) ?_;obtain ⟨a7,k,h⟩:=aa h;refine zD 1 J (oR (jI k)) ?_;rintro _ _ ⟨_,⟨A13,n13,c13,rfl,rfl⟩,rfl⟩;refine aA (cS [1,2,3,4,5,6,7,8,9,10,11] 12) ?_;obtain ⟨a8,k,h⟩:=aa h;refine zD 3 J (oR (oZ k)) ?_;rintro _ _ ⟨_,⟨A15,n15,c15,rfl,rfl⟩,rfl⟩;refine aA (cS [2,3,4,5,6,7,8,9,10,11,12] 13) ?_;refine zD 4 J (eU (cs:=[U A13 n13 c13,U A15 n15 c15]) J (E3 _ _ _ _ _ _)) ?_;rintro _ _ ⟨b0,rfl,rfl⟩;refine aA (cS [3,4,5,6,7,8,9,10,11,12,13] 14) ?_;obtain ⟨b1,k,h⟩:=aa h;refine zD 5 J (oR (tT k)) ?_;rintro _ _ ⟨_,⟨b2,b3,b4,rfl,rfl⟩,rfl⟩;refine aA (cS [4,5,6,7,8,9,10,11,12,13,14] 15) ?_;obtain ⟨b5,k,h⟩:=aa h;refine zD 7 J (oR (dz k ⟨hP J (hP J (hP J (hP J (hP J (hP J (hP J (hP J aD))))))),99, #[], #[pV a2 0],J,call99.out,fun _ _ hh=>wT hh⟩)) ?_;rintro _ _ ⟨_,⟨rfl,rfl⟩,rfl⟩;refine aA (cS [4,5,6,7,8,9,10,11,12,13,14] 15) ?_;refine zX [8] ?_;exact eY
theorem ya {r:Bool}: ∀v post,((fun (u:Value) (post:List Chunk)=>u=.bool r/\post=[])) v post-> ∀c∈post,jP c:=by
 rintro _ _ ⟨rfl,rfl⟩;exact aD
def kA (N:Nat):Option Int:=
 some (-1)
def cH (N:Nat)(a0:TV)(a1_0:TI):Nat->Int->Option Int
 |0,_=>none
 |a2+1,a1=>bif decide (a1<(a0.length:Int)) then ((aw a0 a1).bind fun a6=>(mO N a1_0 a6).bind fun a7=>bif a7 then (some a1) else (be (in64 (a1+1)) ((cH N a0 a1_0 a2) (a1+1)))) else (kA N)
def gG (N:Nat)(a0:TV)(a1_0:TI):Option Int:=
 cH N a0 a1_0 N 0
theorem pS {N:Nat}{a0:TV}{a1_0:TI}{r:Int}(h:gG N a0 a1_0=some r):Okc Ua 93 [U A1 n1 c1,.func (.func 55) #[pV B2 0] #[]] ([bf A1 n1 c1 a0,ar B2 99 [U A3 n3 c3,U A4 n4 c4,U A5 n5 c5,U A6 n6 c6,pV B7 0],bf A3 n3 c3 a1_0.m_.Uj,bf A4 n4 c4 a1_0.m_.Ul,bc A5 n5 c5 a1_0.Ur,bc A6 n6 c6 a1_0.Uz,ar B7 147 [.map (some M8)],dk bj bH M8 a1_0.Uy.at_]) (fun u post=>u=iV r/\post=[]):=by
 refine cA Tryz.func93 ?_;refine au (fun s L=>kA N=some r/\s=[(4,iV 0)]/\L=[]) ?_ ?_
 ·refine ac ?_;refine aY (fun m s L=> ∃a2,cH N a0 a1_0 m a2=some r/\s=[(0,U A1 n1 c1),(1,.func (.func 55) #[pV B2 0] #[]),(4,iV 0),(7,iV (a0.length:Int)),(8,iV a2)]/\L=[bf A1 n1 c1 a0,bf A3 n3 c3 a1_0.m_.Uj,bf A4 n4 c4 a1_0.m_.Ul,bc A5 n5 c5 a1_0.Ur,bc A6 n6 c6 a1_0.Uz,ar B2 99 [U A3 n3 c3,U A4 n4 c4,U A5 n5 c5,U A6 n6 c6,pV B7 0],dk bj bH M8 a1_0.Uy.at_,ar B7 147 [.map (some M8)]]) N _ _ ⟨0,h,J,J⟩ sA (cS [0,2,3,4,5,1,7,6] 8) ?_;rintro (_|b0) _ _ ⟨a2,h,rfl,rfl⟩
  ·exact ao h
  rw [cH.eq_2] at h;refine ac ?_;refine aG ?_;refine gH J h ?_ ?_<;>intro h
  ·refine sY ?_;obtain ⟨a1,a7,a8,a6,h⟩:=bz h;refine ac ?_;refine uw 0 J a6 (gK a1) ?_;rintro _ _ ⟨A14,n14,c14,A15,n15,c15,rfl,rfl⟩;refine gR (lM (us:=[iV a1.Ui,iV a1.Uw,iV a1.Uv,iV a1.Ux,U A14 n14 c14,U A15 n15 c15]) 0 J J agg42.out J) ?_;obtain ⟨b1,k,h⟩:=aa h;refine kD (JL (z7 k) call55.out J J J (hP (cG (i:=8) J J) (hP (cG (i:=4) J J) (hP (cG (i:=5) J J) (hP (cG (i:=6) J J) (hP (cG (i:=7) J J) (hP (cG (i:=10) J J) (hP (cG (i:=9) J J) (hP (cG (i:=1) J J) (hP (cG (i:=2) J J) aD))))))))) ya) ?_;refine gH J h ?_ ?_<;>intro h
   ·exact eY
   refine ac ?_;obtain ⟨b2,h⟩:=ah h;exact lY
  exact jY
 rintro _ _ ⟨h,rfl,rfl⟩;exact eY
def dr (N:Nat)(a0:TV)(a1_0:TI):Option Bool:=
 (gG N a0 a1_0).bind fun y9=>some (decide (0<=y9))
theorem ov {N:Nat}{a0:TV}{a1_0:TI}{r:Bool}(h:dr N a0 a1_0=some r):Okc Ua 53 [U A1 n1 c1,.func (.func 55) #[pV B2 0] #[]] ([bf A1 n1 c1 a0,ar B2 99 [U A3 n3 c3,U A4 n4 c4,U A5 n5 c5,U A6 n6 c6,pV B7 0],bf A3 n3 c3 a1_0.m_.Uj,bf A4 n4 c4 a1_0.m_.Ul,bc A5 n5 c5 a1_0.Ur,bc A6 n6 c6 a1_0.Uz,ar B7 147 [.map (some M8)],dk bj bH M8 a1_0.Uy.at_]) (fun u post=>u=.bool r/\post=[]):=by
 refine cA Tryz.func53 ?_;obtain ⟨y9,k,h⟩:=aa h;refine kD (oR (pS k)) ?_;exact eN
def ot (N:Nat)(a0:Int):Option Bool:=
 some (!decide (a0=a0))
theorem vq {N:Nat}{a0:Int}{r:Bool}(h:ot N a0=some r):Okc Ua 145 [iV a0] ([]) (fun u post=>u=.bool r/\post=[]):=by
 refine cA Tryz.func145 ?_;exact eN
theorem sP {r:Bool}: ∀v post,((fun (u:Value) (post:List Chunk)=>u=.bool r/\post=[])) v post-> ∀c∈post,jP c:=by
 rintro _ _ ⟨rfl,rfl⟩;exact aD
def kJ (N:Nat)(a1:Int)(a0:TO)(p3:Int):Option (Int×Bool):=
 (bif decide (p3<(a0.length:Int)) then ((aw a0 p3).bind fun a2=>(bif decide (a2=a1) then (some true) else ((aw a0 p3).bind fun a6=>(ot N a6).bind fun a7=>(bif a7 then ((ot N a1).bind fun a8=>some a8) else (some false)).bind fun b0=>some b0)).bind fun b1=>some b1) else (some false)).bind fun b2=>some (p3,b2)
def dA (N:Nat)(a1:Int)(a0:TO):Nat->Int->Int->Option (Int×Bool)
 |0,_,_=>none
 |m4+1,p5,p6=>bif decide (p5<p6) then (be (in64 (p5+p6)) ((aw a0 (IntKind.i64.wrap ((IntKind.u64.wrap (p5+p6)).fdiv (2 ^ 1)))).bind fun x9=>(vh N x9 a1).bind fun a2=>bif a2 then (be (in64 ((IntKind.i64.wrap ((IntKind.u64.wrap (p5+p6)).fdiv (2 ^ 1)))+1)) ((dA N a1 a0 m4) ((IntKind.i64.wrap ((IntKind.u64.wrap (p5+p6)).fdiv (2 ^ 1)))+1) p6)) else ((dA N a1 a0 m4) p5 (IntKind.i64.wrap ((IntKind.u64.wrap (p5+p6)).fdiv (2 ^ 1)))))) else (kJ N a1 a0 p5)
def iR (N:Nat)(a0:TO)(a1:Int):Option (Int×Bool):=
 dA N a1 a0 N 0 (a0.length:Int)
theorem uE {N:Nat}{a0:TO}{a1:Int}{r:Int×Bool}(h:iR N a0 a1=some r):Okc Ua 101 [U A1 n1 c1,iV a1] ([db A1 n1 c1 a0]) (fun u post=>u=.tuple #[iV r.1,.bool r.2]/\post=[]):=by
 refine Dc Tryz.func101 J J ?_;simp only [qN];refine Y ?_;refine gR (ki 0 J aM J t5) ?_;refine Y ?_;refine au (fun s L=> ∃p3,kJ N a1 a0 p3=some r/\s=[(0,U A1 n1 c1),(1,iV a1),(4,iV 0),(5,.bool false),(6,iV (a0.length:Int)),(7,iV p3)]/\L=[db A1 n1 c1 a0]) ?_ ?_
 ·refine tq ?_;refine aY (fun m s L=> ∃p5 p6,dA N a1 a0 m p5 p6=some r/\s=[(0,U A1 n1 c1),(1,iV a1),(4,iV 0),(5,.bool false),(6,iV (a0.length:Int)),(7,iV p5),(8,iV p6)]/\L=[db A1 n1 c1 a0]) N _ _ ⟨0,(a0.length:Int),h,J,J⟩ sA (cS [0] 1) ?_;rintro (_|m4) _ _ ⟨p5,p6,h,rfl,rfl⟩
  ·exact ao h
  rw [dA.eq_2] at h;refine aG ?_;refine Y ?_;refine gH J h ?_ ?_<;>intro h
  ·refine Y ?_;obtain ⟨q8,h⟩:=ah h;refine gE (dL J J q8.1 q8.2) ?_;refine gE (LV J J Tryz.underlying194) ?_;refine gE (Pn (v:=(IntKind.u64.wrap (p5+p6)).fdiv (2 ^ 1)) J J (fun _=>J)) ?_;refine gE (LV J J hU) ?_;refine Y ?_;obtain ⟨x9,b9,c0,c7,h⟩:=bz h;refine gR (fA 0 J aM J J t5 size3.out b9 c0) ?_;refine gR (gX (u:=iV x9) 0 J aM J c7 oH (fun _ _ _ h=>by rw [show _=_ from h];rfl)) ?_;refine Y ?_;obtain ⟨d6,k,h⟩:=aa h;refine gV (cp (G7 k) call144.out J (aD) Ed) ?_;refine Y ?_;refine gH J h ?_ ?_<;>intro h
   ·refine Y ?_;obtain ⟨b8,h⟩:=ah h;refine gE (dL J J b8.1 b8.2) ?_;refine Y ?_;exact ⟨m4,_,_,TR _,⟨(IntKind.i64.wrap ((IntKind.u64.wrap (p5+p6)).fdiv (2 ^ 1)))+1,p6,h,J,J⟩,sA,cS [0] 1⟩
   refine Y ?_;exact ⟨m4,_,_,TR _,⟨p5,(IntKind.i64.wrap ((IntKind.u64.wrap (p5+p6)).fdiv (2 ^ 1))),h,J,J⟩,sA,cS [0] 1⟩
  refine Y ?_;exact ⟨_,_,⟨p5,h,J,J⟩,sA,cS [0] 1⟩
 rintro _ _ ⟨p3,h,rfl,rfl⟩;refine Y ?_;obtain ⟨d0,a6,h⟩:=aa h;refine aR 18 53 d0 ?_ ?_
 ·clear h;refine aP 35 J (fun a7=> ?_) (fun a7=> ?_)
  ·have h:=aE a7 a6;refine Y ?_;obtain ⟨d1,b2,b3,b4,h⟩:=bz h;refine vR (fA 0 J aM J J t5 size3.out b2 b3) J (cB a7 J) J ?_;refine vR (gX (u:=iV d1) 0 J aM J b4 oH (fun _ _ _ h=>by rw [show _=_ from h];rfl)) J (cB a7 J) J ?_;refine Y ?_;obtain ⟨d2,a8,h⟩:=aa h;refine aR 10 52 d2 ?_ ?_
   ·clear h;refine aP 42 J (fun a2=> ?_) (fun a2=> ?_)
    ·have h:=aE a2 a8;refine Y ?_;obtain rfl:=bS h;exact cJ sA (cS [0] 1)
    have h:=aF a2 a8;refine Y ?_;obtain ⟨d3,b5,b6,b7,h⟩:=bz h;refine vR (fA 0 J aM J J t5 size3.out b5 b6) J (fN a2 J) J ?_;refine vR (gX (u:=iV d3) 0 J aM J b7 oH (fun _ _ _ h=>by rw [show _=_ from h];rfl)) J (fN a2 J) J ?_;obtain ⟨e2,k,h⟩:=aa h;refine gU (cp (vq k) call145.out J (aD) sP) (fN a2 J) ?_;refine Y ?_;obtain ⟨d4,b0,h⟩:=aa h;refine aR 3 51 d4 ?_ ?_
    ·clear h;refine aP 48 J (fun b1=> ?_) (fun b1=> ?_)
     ·have h:=aE b1 b0;refine Y ?_;obtain ⟨e3,k,h⟩:=aa h;refine gU (cp (vq k) call145.out J (aD) sP) (cB b1 J) ?_;refine Y ?_;obtain rfl:=bS h;exact cJ sA (cS [0] 1)
     have h:=aF b1 b0;refine Y ?_;obtain rfl:=bS h;exact cJ sA (cS [0] 1)
    refine Y ?_;obtain rfl:=bS h;exact cJ sA (cS [0] 1)
   refine Y ?_;obtain rfl:=bS h;exact cJ sA (cS [0] 1)
  have h:=aF a7 a6;refine Y ?_;obtain rfl:=bS h;exact cJ sA (cS [0] 1)
 refine Y ?_;obtain rfl:=bS h;exact OH J J J (cS [] 1) ⟨J,J⟩
def ub (N:Nat):Option Bool:=
 some true
def iA (N:Nat)(a0:TM)(a1:TO):Nat->Int->Option Bool
 |0,_=>none
 |a2+1,p21=>bif decide (p21<(a0.Ul.length:Int)) then ((aw a0.Ul p21).bind fun a6=>be (in64 (2*p21)) (be (in64 ((2*p21)+2)) ((iR N a1 ((2*p21)+2)).bind fun a7=>(bif !a7.2 then ((mg N a6).bind fun a8=>some a8) else (some false)).bind fun b0=>bif b0 then (some false) else (be (in64 (p21+1)) ((iA N a0 a1 a2) (p21+1)))))) else (ub N)
def vy (N:Nat)(a1:TO)(a0:TM):Option Bool:=
 iA N a0 a1 N 0
def nE (N:Nat)(a1:TO)(a0:TM):Nat->Int->Option Bool
 |0,_=>none
 |m6+1,p7=>bif decide (p7<(a1.length:Int)) then ((aw a1 p7).bind fun x9=>(mG N x9).bind fun a2=>(bif !a2 then (some true) else (be (in64 (x9.tdiv 2)) (some (decide ((a0.Ul.length:Int)<x9.tdiv 2))))).bind fun a6=>(bif a6 then (some true) else ((bif decide (0<p7) then (be (in64 (p7 - 1)) ((aw a1 (p7 - 1)).bind fun a7=>some (decide (x9<=a7)))) else (some false)).bind fun a8=>some a8)).bind fun b0=>bif b0 then (some false) else (be (in64 (p7+1)) ((nE N a1 a0 m6) (p7+1)))) else (vy N a1 a0)
def oz (N:Nat)(a0:TM)(a1:TO):Option Bool:=
 nE N a1 a0 N 0
theorem Cc {N:Nat}{a0:TM}{a1:TO}{r:Bool}(h:oz N a0 a1=some r):Okc Ua 56 [.agg #[U A1 n1 c1,U A2 n2 c2],U A3 n3 c3] ([bf A1 n1 c1 a0.Uj,bf A2 n2 c2 a0.Ul,db A3 n3 c3 a1]) (fun u post=>u=.bool r/\post=[]):=by
 refine cA Tryz.func56 ?_;intro B4;refine ac ?_;refine au (fun s L=>vy N a1 a0=some r/\s=[(1,U A3 n3 c3),(2,pV B4 0),(4,.bool false)]/\L=[db A3 n3 c3 a1,bf A1 n1 c1 a0.Uj,bf A2 n2 c2 a0.Ul,ab B4 96 [U A1 n1 c1,U A2 n2 c2]]) ?_ ?_
 ·refine ac ?_;refine aY (fun m s L=> ∃p7,nE N a1 a0 m p7=some r/\s=[(1,U A3 n3 c3),(2,pV B4 0),(4,.bool false),(11,U A3 n3 c3),(12,iV (a1.length:Int)),(13,iV p7)]/\L=[db A3 n3 c3 a1,bf A1 n1 c1 a0.Uj,bf A2 n2 c2 a0.Ul,ab B4 96 [U A1 n1 c1,U A2 n2 c2]]) N _ _ ⟨0,h,J,J⟩ sA (cS [3,1,2,0] 4) ?_;rintro (_|m6) _ _ ⟨p7,h,rfl,rfl⟩
  ·exact ao h
  rw [nE.eq_2] at h;refine ac ?_;refine aG ?_;refine gH J h ?_ ?_<;>intro h
  ·refine sY ?_;obtain ⟨x9,e7,e8,e9,h⟩:=bz h;refine ac ?_;obtain ⟨f1,k,h⟩:=aa h;refine kD (oR (yh k)) ?_;obtain ⟨b8,a2,h⟩:=aa h;refine aR 7 28 b8 ?_ ?_
   ·clear h;refine aP 21 J (fun b1=> ?_) (fun b1=> ?_)
    ·have h:=aE b1 a2;exact gY
    have h:=aF b1 a2;refine ac ?_;obtain ⟨b6,h⟩:=ah h;refine qk (yY J J (by decide) b6.1 b6.2) J (fN b1 J) J ?_;exact gY
   refine ac ?_;obtain ⟨b9,a6,h⟩:=aa h;refine aR 12 41 b9 ?_ ?_
   ·clear h;refine aP 29 J (fun b3=> ?_) (fun b3=> ?_)
    ·have h:=aE b3 a6;exact gY
    have h:=aF b3 a6;refine ac ?_;obtain ⟨c0,a7,h⟩:=aa h;refine aR 8 40 c0 ?_ ?_
    ·clear h;refine aP 32 J (fun b4=> ?_) (fun b4=> ?_)
     ·have h:=aE b4 a7;refine ac ?_;obtain ⟨f2,h⟩:=ah h;refine ac ?_;obtain ⟨f3,c7,d0,d1,h⟩:=bz h;exact gY
     have h:=aF b4 a7;exact gY
    exact gY
   refine fw h ?_ ?_<;>intro h
   ·exact eY
   refine ac ?_;obtain ⟨f4,h⟩:=ah h;exact lY
  exact jY
 rintro _ _ ⟨h,rfl,rfl⟩;refine au (fun s L=>ub N=some r/\s=[(4,.bool false)]/\L=[]) ?_ ?_
 ·refine ac ?_;refine aY (fun m s L=> ∃p21,iA N a0 a1 m p21=some r/\s=[(1,U A3 n3 c3),(4,.bool false),(44,U A2 n2 c2),(45,iV (a0.Ul.length:Int)),(46,iV p21)]/\L=[db A3 n3 c3 a1,bf A2 n2 c2 a0.Ul]) N _ _ ⟨0,h,J,J⟩ sA (cS [0,2] 4) ?_;rintro (_|g0) _ _ ⟨p21,h,rfl,rfl⟩
  ·exact ao h
  rw [iA.eq_2] at h;refine ac ?_;refine aG ?_;refine gH J h ?_ ?_<;>intro h
  ·refine sY ?_;obtain ⟨a8,d2,d3,b5,h⟩:=bz h;refine ac ?_;refine uw 1 J b5 (gK a8) ?_;rintro _ _ ⟨d4,d6,e2,e3,e4,e5,rfl,rfl⟩;refine EL (lM (us:=[iV a8.Ui,iV a8.Uw,iV a8.Uv,iV a8.Ux,U d4 d6 e2,U e3 e4 e5]) 0 J J agg42.out J) ?_;intro g1;refine ac ?_;obtain ⟨b7,h⟩:=ah h;refine gE (tJ J J b7.1 b7.2) ?_;obtain ⟨g2,h⟩:=ah h;refine ac ?_;obtain ⟨g3,k,h⟩:=aa h;refine kD (oR (uE k)) ?_;obtain ⟨e6,b0,h⟩:=aa h;refine aR 3 64 e6 ?_ ?_
   ·clear h;refine aP 61 J (fun b2=> ?_) (fun b2=> ?_)
    ·have h:=aE b2 b0;refine ac ?_;obtain ⟨g4,k,h⟩:=aa h;refine gU (oR (vv k)) (cB b2 J) ?_;exact gY
    have h:=aF b2 b0;exact gY
   refine fw h ?_ ?_<;>intro h
   ·exact eY
   refine ac ?_;obtain ⟨g5,h⟩:=ah h;exact lY
  exact jY
 rintro _ _ ⟨h,rfl,rfl⟩;exact eY
def ib (N:Nat)(a0:TI)(a1:Bool):Option Int:=
 bif a1 then (some 50) else ((jh N a0.Uy).bind fun a2=>(oz N a0.m_ a2).bind fun a6=>bif !a6 then (some 6) else (some 0))
def d9 (N:Nat)(a0:TI):Option Int:=
 (aK N a0).bind fun y8=>bif y8 then (some 1) else ((cc N a0.Ur a0.Uz).bind fun a2=>(cz N a2 (fun x=>kW N a0 x)).bind fun a1=>bif a1 then (ib N a0 a1) else ((ga N a0.m_.Uj a0.m_.Ul).bind fun a6=>(dr N a6 a0).bind fun a7=>ib N a0 a7))
theorem yV {N:Nat}{a0:TI}{r:Int}(h:d9 N a0=some r):Okc Ua 21 [pV B1 0] ([ar B1 99 [U A2 n2 c2,U A3 n3 c3,U A4 n4 c4,U A5 n5 c5,pV B6 0],bf A2 n2 c2 a0.m_.Uj,bf A3 n3 c3 a0.m_.Ul,bc A4 n4 c4 a0.Ur,bc A5 n5 c5 a0.Uz,ar B6 147 [.map (some M7)],dk bj bH M7 a0.Uy.at_]) (fun u post=>u=iV r/\post=[]):=by
 refine cA Tryz.func21 ?_;refine sZ ?_;obtain ⟨y8,k,h⟩:=aa h;refine kD (oR (ci k)) ?_;refine gH J h ?_ ?_<;>intro h
 ·exact eY
 refine au (fun s L=> ∃a8,ib N a0 a8=some r/\s=[(0,pV B1 0),(2,iV 0),(6,.bool a8)]/\L=[bf A2 n2 c2 a0.m_.Uj,bf A3 n3 c3 a0.m_.Ul,bc A4 n4 c4 a0.Ur,bc A5 n5 c5 a0.Uz,ar B1 99 [U A2 n2 c2,U A3 n3 c3,U A4 n4 c4,U A5 n5 c5,pV B6 0],dk bj bH M7 a0.Uy.at_,ar B6 147 [.map (some M7)]]) ?_ ?_
 ·refine dY [0,1,2,3,4,5,6,7,10] ?_;refine zE 11 J (rh (caps:=[]) J J) ?_;refine zD 8 J (eU (cs:=[U A4 n4 c4,U A5 n5 c5]) J (nA _ _ _ _ _ _)) ?_;rintro _ _ ⟨b3,rfl,rfl⟩;refine aA (cS [1,2,3,4,5,6,7] 8) ?_;obtain ⟨b4,k,h⟩:=aa h;refine zD 9 J (oR (bA k)) ?_;rintro _ _ ⟨_,⟨A14,n14,c14,rfl,rfl⟩,rfl⟩;refine aA (cS [2,3,4,5,6,7,8] 9) ?_;obtain ⟨b1,k,h⟩:=aa h;refine zD 12 J (oR (kY k ⟨hP J (hP J (hP J (hP J (hP J (hP J (hP J aD)))))),52, #[pV B1 0], #[],J,call52.out,fun _ _ hh=>yb hh⟩)) ?_;rintro _ _ ⟨_,⟨rfl,rfl⟩,rfl⟩;refine aA (cS [2,3,4,5,6,7,8] 9) ?_;refine zX [13] ?_;refine fw h ?_ ?_<;>intro h
  ·exact jY
  obtain ⟨b2,b0,h⟩:=aa h;refine ie (t:=[(0,pV B1 0),(2,iV 0),(6,.bool b1)]) ?_ lW (ad _)
  refine iW I 14 [] [11,13] [20,21,22,23,24,25,26,27,28,29,30,31,32,33] [[],[0],[1],[2],[3],[],[5],[6],[7],[8],[4,9],[10],[],[12]] [aV (pV B1 0),
aV (pV B1 0),
aV (pV B1 0),
aV (pV B1 0),
aV (U A2 n2 c2),
aV (pV B1 0),
aV (pV B1 0),
aV (pV B1 0),
aV (pV B1 1),
aV (U A3 n3 c3),
aX1 (fun (a7:Nat)=> .slice (some ⟨a7,0,none⟩) 2 2) (fun a7=> [ar a7 94 [U A2 n2 c2,U A3 n3 c3]]),
aX3 (fun (a1:Option Addr) (a2 a6:Nat)=> U a1 a2 a6) (fun a1 a2 a6=> [aZ a1 a2 a6 b2]),
aV (pV B1 0),
aV (.func (.func 55) #[pV B1 0] #[])] [] (ad _) (lB) I rfl rfl ?_ ?_ ?_
  ·exact lA
  ·refine ae J ?_ ?_
   ·exact bU (rh (caps:=[]) J J) J (aQ J (ad _))
   refine ae J ?_ ?_
   ·exact bU (aX J) J (aQ J (ad _))
   refine ae J ?_ ?_
   ·intro a7;refine uv (oC (o6 b0)) J ?_;rintro _ _ ⟨_,⟨b5,b6,b7,rfl,rfl⟩,rfl⟩;exact vc b5 b6 b7 (ad _)
   refine ae J ?_ ?_
   ·refine uv (eU (cs:=[U A2 n2 c2,U A3 n3 c3]) J (Bo _ _ _ _ _ _)) J ?_;rintro _ _ ⟨b8,rfl,rfl⟩;exact Qm b8 ((iF 0 J).trans (ad _))
   refine ae J ?_ ?_
   ·exact dy (rQ 2 J J EC J) J (aQ J (ad _))
   refine ae J ?_ ?_
   ·exact bU (dj J Cm) J (aQ J (ad _))
   refine ae J ?_ ?_
   ·exact bU (ni J Ag) J (aQ J (ad _))
   refine ae J ?_ ?_
   ·exact bU (bE J) J (aQ J (ad _))
   refine ae J ?_ ?_
   ·exact bU (aX J) J (aQ J (ad _))
   refine ae J ?_ ?_
   ·exact dy (rQ 2 J J EC J) J (aQ J (ad _))
   refine ae J ?_ ?_
   ·exact bU (ni J Cn) J (aQ J (ad _))
   refine ae J ?_ ?_
   ·exact bU (ni J Ag) J (aQ J (ad _))
   refine ae J ?_ ?_
   ·exact bU (bE J) J (aQ J (ad _))
   refine ae J ?_ ?_
   ·exact bU (aX J) J (aQ J (ad _))
   exact ee
  intro a1 a2 a6;refine nD (t:=[(31,U a1 a2 a6),(33,.func (.func 55) #[pV B1 0] #[]),(0,pV B1 0),(2,iV 0),(6,.bool b1)]) (L':=[aZ a1 a2 a6 b2,aC A14 n14 c14 b4,ab b3 30 [U A4 n4 c4,U A5 n5 c5],ar B1 99 [U A2 n2 c2,U A3 n3 c3,U A4 n4 c4,U A5 n5 c5,pV B6 0],bf A2 n2 c2 a0.m_.Uj,bf A3 n3 c3 a0.m_.Ul,bc A4 n4 c4 a0.Ur,bc A5 n5 c5 a0.Uz,ar B6 147 [.map (some M7)],dk bj bH M7 a0.Uy.at_]) ?_ lW (ad _);obtain ⟨b9,k,h⟩:=aa h;refine pa 14 J I (oR (ov k)) J J J ?_;rintro _ _ ⟨_,⟨rfl,rfl⟩,rfl⟩;refine zc 15 J I (EQ J) J J J ?_;refine lD I ?_;exact jY
 rintro _ _ ⟨a8,h,rfl,rfl⟩;refine gH J h ?_ ?_<;>intro h
 ·exact eY
 refine dY [] ?_;refine ac ?_;obtain ⟨c0,k,h⟩:=aa h;refine zD 8 J (oR (rN k)) ?_;rintro _ _ ⟨_,⟨c7,d0,d1,rfl,rfl⟩,rfl⟩;refine aA (cS [1,2,3,4,5,6,7] 8) ?_;obtain ⟨d2,k,h⟩:=aa h;refine zD 9 J (oR (Cc k)) ?_;rintro _ _ ⟨_,⟨rfl,rfl⟩,rfl⟩;refine aA (cS [1,2,3,4,5,6,7] 8) ?_;refine fw h ?_ ?_<;>intro h
 ·exact eY
 exact eY
theorem wU {r:Int}: ∀v post,((fun (u:Value) (post:List Chunk)=>u=iV r/\post=[])) v post-> ∀c∈post,jP c:=by
 rintro _ _ ⟨rfl,rfl⟩;exact aD
end Go.Proofs.YtjmonlcchlkdhaaGreat