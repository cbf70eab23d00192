/- Merged texts: part 7. No conditions of their own. -/
import Derived.Test.YtjmonlcchlkdhaaGreatG6
import Derived.Test.YtjmonlcchlkdhaaGreatG2
import Derived.Test.YtjmonlcchlkdhaaGreatG1
set_option maxHeartbeats 4000000
namespace Go.Proofs.YtjmonlcchlkdhaaGreat
section
theorem Rh:type_of% Tryz.underlying53:=Tryz.underlying53
variable {A1 A10 A12 A13 A14 A15 A16 A2 A3 A4 A5 A6 A8 A9:Option Addr} {B1 B2 B6 B7 B9 M11 M7 M8 c1 c10 c12 c13 c14 c15 c16 c2 c3 c4 c5 c6 c8 c9 n1 n10 n12 n13 n14 n15 n16 n2 n3 n4 n5 n6 n8 n9:Nat}
open Go.RowKit Asn
set_option maxRecDepth 20000
def iH (N:Nat)(a0:Rn):Option (Int×Rn):=
 bn (in64 (a0.Sx+1)) (some (a0.Sx+1,(⟨a0.Sr,a0.Sh,(),a0.Sb,a0.Sf,a0.St,a0.Sy,a0.Sx+1,a0.Sz,a0.Sv,a0.Su⟩:Rn)))
theorem ux {N:Nat}{a0:Rn}{r:Int×Rn}(h:iH N a0=some r):Okc RY 66 [pV B1 0] ([ac B1 79 (iU a0 B2 B9 A12 n12 c12 A13 n13 c13 A14 n14 c14),ac B2 99 [U A3 n3 c3,U A4 n4 c4,U A5 n5 c5,U A6 n6 c6,pV B7 0],aR A3 n3 c3 a0.Sb.m_.Se,aR A4 n4 c4 a0.Sb.m_.Sc,aw A5 n5 c5 a0.Sb.Si,aw A6 n6 c6 a0.Sb.Sq,ac B7 147 [.map (some M8)],aj bf bI M8 a0.Sb.So.at_,ac B9 118 [U A10 n10 c10,.map (some M11)],f9 A10 n10 c10 a0.Sf.Sf,aj ap dp M11 a0.Sf.Ss,ce A12 n12 c12 a0.St,gX A13 n13 c13 a0.Sv,ce A14 n14 c14 a0.Su]) (fun u post=> ∃A0 n0 c0 A1 n1 c1 A2 n2 c2 A3 n3 c3 M4 A5 n5 c5 M6 A7 n7 c7 A8 n8 c8 A9 n9 c9,u=iV r.1/\post=[ac B1 79 (iU r.2 B2 B9 A7 n7 c7 A8 n8 c8 A9 n9 c9),ac B2 99 [U A0 n0 c0,U A1 n1 c1,U A2 n2 c2,U A3 n3 c3,pV B7 0],aR A0 n0 c0 r.2.Sb.m_.Se,aR A1 n1 c1 r.2.Sb.m_.Sc,aw A2 n2 c2 r.2.Sb.Si,aw A3 n3 c3 r.2.Sb.Sq,ac B7 147 [.map (some M4)],aj bf bI M4 r.2.Sb.So.at_,ac B9 118 [U A5 n5 c5,.map (some M6)],f9 A5 n5 c5 r.2.Sf.Sf,aj ap dp M6 r.2.Sf.Ss,ce A7 n7 c7 r.2.St,gX A8 n8 c8 r.2.Sv,ce A9 n9 c9 r.2.Su]):=by
 refine cG Tryz.func66 ?_;refine sZ ?_;refine fm (bA J Ra) ?_;refine cJ J ?_;refine ab ?_;obtain ⟨a1,h⟩:=ah h;exact eY
def jZ (N:Nat)(a0:Rn)(a1:Ry):Option (Int×Rn):=
 (dn N a0.Sb a1).bind fun a2=>some (a2.1,(⟨a0.Sr,a0.Sh,(),a2.2,a0.Sf,a0.St,a0.Sy,a0.Sx,a0.Sz,a0.Sv,a0.Su⟩:Rn))
theorem wH {N:Nat}{a0:Rn}{a1:Ry}{r:Int×Rn}(h:jZ N a0 a1=some r):Okc RY 15 [pV B1 0,(fX a1)] ([ac B1 79 (iU a0 B2 B9 A12 n12 c12 A13 n13 c13 A14 n14 c14),ac B2 99 [U A3 n3 c3,U A4 n4 c4,U A5 n5 c5,U A6 n6 c6,pV B7 0],aR A3 n3 c3 a0.Sb.m_.Se,aR A4 n4 c4 a0.Sb.m_.Sc,aw A5 n5 c5 a0.Sb.Si,aw A6 n6 c6 a0.Sb.Sq,ac B7 147 [.map (some M8)],aj bf bI M8 a0.Sb.So.at_,ac B9 118 [U A10 n10 c10,.map (some M11)],f9 A10 n10 c10 a0.Sf.Sf,aj ap dp M11 a0.Sf.Ss,ce A12 n12 c12 a0.St,gX A13 n13 c13 a0.Sv,ce A14 n14 c14 a0.Su]) (fun u post=> ∃A0 n0 c0 A1 n1 c1 A2 n2 c2 A3 n3 c3 M4 A5 n5 c5 M6 A7 n7 c7 A8 n8 c8 A9 n9 c9,u=iV r.1/\post=[ac B1 79 (iU r.2 B2 B9 A7 n7 c7 A8 n8 c8 A9 n9 c9),ac B2 99 [U A0 n0 c0,U A1 n1 c1,U A2 n2 c2,U A3 n3 c3,pV B7 0],aR A0 n0 c0 r.2.Sb.m_.Se,aR A1 n1 c1 r.2.Sb.m_.Sc,aw A2 n2 c2 r.2.Sb.Si,aw A3 n3 c3 r.2.Sb.Sq,ac B7 147 [.map (some M4)],aj bf bI M4 r.2.Sb.So.at_,ac B9 118 [U A5 n5 c5,.map (some M6)],f9 A5 n5 c5 r.2.Sf.Sf,aj ap dp M6 r.2.Sf.Ss,ce A7 n7 c7 r.2.St,gX A8 n8 c8 r.2.Sv,ce A9 n9 c9 r.2.Su]):=by
 refine cG Tryz.func15 ?_;intro a2;refine sY ?_;refine fm (bA J Ra) ?_;refine cJ J ?_;refine ab ?_;refine aL ?_;refine cZ I ([ac a2 23 (tO a1),ac B1 79 (iU a0 B2 B9 A12 n12 c12 A13 n13 c13 A14 n14 c14),ac B9 118 [U A10 n10 c10,.map (some M11)],f9 A10 n10 c10 a0.Sf.Sf,aj ap dp M11 a0.Sf.Ss,ce A12 n12 c12 a0.St,gX A13 n13 c13 a0.Sv,ce A14 n14 c14 a0.Su]) (cS [0,1,9,10,11,12,13,14] 15) ?_;refine ab ?_;obtain ⟨a6,k,h⟩:=aa h;refine zD 5 J (oC (cW k)) ?_;rintro _ _ ⟨_,⟨a7,a8,b0,b1,b2,b3,b4,b5,b6,b7,b8,b9,d0,rfl,rfl⟩,rfl⟩;refine aJ (cS [7,8,9,10,11,12,13,14] 15) ?_;refine aU ?_;exact eY
def kZ (N:Nat)(a0:Rn)(a1:Int):Option Rn:=
 (dZ N a0.Sb (max a1 20)).bind fun a2=>some (⟨a0.Sr,a0.Sh,(),a2,a0.Sf,a0.St,a0.Sy,a0.Sx,a0.Sz,a0.Sv,a0.Su⟩:Rn)
theorem xo {N:Nat}{a0:Rn}{a1:Int}{r:Rn}(h:kZ N a0 a1=some r):Okc RY 67 [pV B1 0,iV a1] ([ac B1 79 (iU a0 B2 B9 A12 n12 c12 A13 n13 c13 A14 n14 c14),ac B2 99 [U A3 n3 c3,U A4 n4 c4,U A5 n5 c5,U A6 n6 c6,pV B7 0],aR A3 n3 c3 a0.Sb.m_.Se,aR A4 n4 c4 a0.Sb.m_.Sc,aw A5 n5 c5 a0.Sb.Si,aw A6 n6 c6 a0.Sb.Sq,ac B7 147 [.map (some M8)],aj bf bI M8 a0.Sb.So.at_,ac B9 118 [U A10 n10 c10,.map (some M11)],f9 A10 n10 c10 a0.Sf.Sf,aj ap dp M11 a0.Sf.Ss,ce A12 n12 c12 a0.St,gX A13 n13 c13 a0.Sv,ce A14 n14 c14 a0.Su]) (fun u post=> ∃A0 n0 c0 A1 n1 c1 A2 n2 c2 A3 n3 c3 M4 A5 n5 c5 M6 A7 n7 c7 A8 n8 c8 A9 n9 c9,u=.tuple #[]/\post=[ac B1 79 (iU r B2 B9 A7 n7 c7 A8 n8 c8 A9 n9 c9),ac B2 99 [U A0 n0 c0,U A1 n1 c1,U A2 n2 c2,U A3 n3 c3,pV B7 0],aR A0 n0 c0 r.Sb.m_.Se,aR A1 n1 c1 r.Sb.m_.Sc,aw A2 n2 c2 r.Sb.Si,aw A3 n3 c3 r.Sb.Sq,ac B7 147 [.map (some M4)],aj bf bI M4 r.Sb.So.at_,ac B9 118 [U A5 n5 c5,.map (some M6)],f9 A5 n5 c5 r.Sf.Sf,aj ap dp M6 r.Sf.Ss,ce A7 n7 c7 r.St,gX A8 n8 c8 r.Sv,ce A9 n9 c9 r.Su]):=by
 refine cG Tryz.func67 ?_;refine fm (jD J Ra) ?_;refine cq J ?_;refine ab ?_;refine gE (Kh J J hP hP) ?_;obtain ⟨a2,k,h⟩:=aa h;refine gD (oC (oK k)) ?_;rintro _ _ ⟨_,⟨A16,n16,c16,a6,a7,a8,b0,b1,b2,b3,b4,b5,b6,rfl,rfl⟩,rfl⟩;exact eY
def jj (N:Nat)(a0:Rn)(a1:ByteArray):Option Rn:=
 bn (cc (a0.Su.length+([a1]:List ByteArray).length)) ((dH N (⟨a0.Sr,a0.Sh,(),a0.Sb,a0.Sf,a0.St,a0.Sy,a0.Sx,a0.Sz,a0.Sv,a0.Su++([a1]:List ByteArray)⟩:Rn) (⟨1,(⟨0,0,⟨#[]⟩⟩:Rq),a1⟩:RF)).bind fun a2=>some a2)
theorem uO {N:Nat}{a0:Rn}{a1:ByteArray}{r:Rn}(h:jj N a0 a1=some r):Okc RY 105 [pV B1 0,.string a1] ([ac B1 79 (iU a0 B2 B9 A12 n12 c12 A13 n13 c13 A14 n14 c14),ac B2 99 [U A3 n3 c3,U A4 n4 c4,U A5 n5 c5,U A6 n6 c6,pV B7 0],aR A3 n3 c3 a0.Sb.m_.Se,aR A4 n4 c4 a0.Sb.m_.Sc,aw A5 n5 c5 a0.Sb.Si,aw A6 n6 c6 a0.Sb.Sq,ac B7 147 [.map (some M8)],aj bf bI M8 a0.Sb.So.at_,ac B9 118 [U A10 n10 c10,.map (some M11)],f9 A10 n10 c10 a0.Sf.Sf,aj ap dp M11 a0.Sf.Ss,ce A12 n12 c12 a0.St,gX A13 n13 c13 a0.Sv,ce A14 n14 c14 a0.Su]) (fun u post=> ∃A0 n0 c0 A1 n1 c1 A2 n2 c2 A3 n3 c3 M4 A5 n5 c5 M6 A7 n7 c7 A8 n8 c8 A9 n9 c9,u=.tuple #[]/\post=[ac B1 79 (iU r B2 B9 A7 n7 c7 A8 n8 c8 A9 n9 c9),ac B2 99 [U A0 n0 c0,U A1 n1 c1,U A2 n2 c2,U A3 n3 c3,pV B7 0],aR A0 n0 c0 r.Sb.m_.Se,aR A1 n1 c1 r.Sb.m_.Sc,aw A2 n2 c2 r.Sb.Si,aw A3 n3 c3 r.Sb.Sq,ac B7 147 [.map (some M4)],aj bf bI M4 r.Sb.So.at_,ac B9 118 [U A5 n5 c5,.map (some M6)],f9 A5 n5 c5 r.Sf.Sf,aj ap dp M6 r.Sf.Ss,ce A7 n7 c7 r.St,gX A8 n8 c8 r.Sv,ce A9 n9 c9 r.Su]):=by
 refine cG Tryz.func105 ?_;refine fm (jD J Ra) ?_;refine cq J ?_;refine ab ?_;refine gD (aY (R:=Bt) (vss:=[[.string a1]]) (xs:=[a1]) J (F0 _) J J (fun _ _ hr=> .cons J All2.nil)) ?_;rintro _ _ ⟨A15,n15,c15,rfl,rfl⟩;obtain ⟨a2,h⟩:=ah h
 refine nr (aX 14 0 J J aI J J z5 O0 J J a2) fun a6 a7 a8=> ?_
 obtain ⟨b0,k,h⟩:=aa h;refine gD (oC (mZ k)) ?_;rintro _ _ ⟨_,⟨b1,b2,b3,b4,b5,b6,b7,b8,b9,d0,d1,d2,d3,d4,d6,e2,e3,e4,e5,e6,e7,e8,e9,f1,f2,f3,rfl,rfl⟩,rfl⟩;exact eY
def lh (N:Nat)(a0:RG)(y17_0:Int)(a1:Rk)(a2:Rk)(a6:RU):Option (Int×RG):=
 some (0,(⟨(⟨List.set (List.set a0.m_.Se y17_0.toNat (⟨a1.Sa,a1.Sk,a1.Sj,a1.Sn,a1.Sg,a1.Sd⟩:Rk)) y17_0.toNat (⟨(⟨a1.Sa,a1.Sk,a1.Sj,a1.Sn,a1.Sg,a1.Sd⟩:Rk).Sa,(⟨a1.Sa,a1.Sk,a1.Sj,a1.Sn,a1.Sg,a1.Sd⟩:Rk).Sk,(⟨a1.Sa,a1.Sk,a1.Sj,a1.Sn,a1.Sg,a1.Sd⟩:Rk).Sj,a2.Sn,(⟨a1.Sa,a1.Sk,a1.Sj,a1.Sn,a1.Sg,a1.Sd⟩:Rk).Sg,(⟨a1.Sa,a1.Sk,a1.Sj,a1.Sn,a1.Sg,a1.Sd⟩:Rk).Sd⟩:Rk),a0.m_.Sc⟩:Rp),a0.Si,a0.Sq,(⟨a6⟩:Rr)⟩:RG))
def lg (N:Nat)(a0:RG)(y17_1:Int)(a1:Rk)(a2:Rk)(a6:RU):Option (Int×RG):=
 some (0,(⟨(⟨a0.m_.Se,List.set (List.set a0.m_.Sc y17_1.toNat (⟨a1.Sa,a1.Sk,a1.Sj,a1.Sn,a1.Sg,a1.Sd⟩:Rk)) y17_1.toNat (⟨(⟨a1.Sa,a1.Sk,a1.Sj,a1.Sn,a1.Sg,a1.Sd⟩:Rk).Sa,(⟨a1.Sa,a1.Sk,a1.Sj,a1.Sn,a1.Sg,a1.Sd⟩:Rk).Sk,(⟨a1.Sa,a1.Sk,a1.Sj,a1.Sn,a1.Sg,a1.Sd⟩:Rk).Sj,a2.Sn,(⟨a1.Sa,a1.Sk,a1.Sj,a1.Sn,a1.Sg,a1.Sd⟩:Rk).Sg,(⟨a1.Sa,a1.Sk,a1.Sj,a1.Sn,a1.Sg,a1.Sd⟩:Rk).Sd⟩:Rk)⟩:Rp),a0.Si,a0.Sq,(⟨a6⟩:Rr)⟩:RG))
def mR (N:Nat)(a0:RG)(a1:Int)(a2:Rk):Option (Int×RG):=
 (aG N a0).bind fun b1=>bif b1 then (some (1,a0)) else ((ga N a0 a1).bind fun b2=>bif !b2 then (some (50,a0)) else ((fA N a2).bind fun b3=>bif !b3 then (some (51,a0)) else ((iW N a0 a1).bind fun b4=>Au b4 (fun y17_0=>(au a0.m_.Se y17_0).bind fun a6=>(eg N a2).bind fun a7=>bif decide (a1.tmod 2=0) then ((dC N a0.So a1 a2).bind fun b5=>lh N a0 y17_0 a7 a6 b5.2.at_) else (lh N a0 y17_0 a7 a6 a0.So.at_)) (fun y17_1=>(au a0.m_.Sc y17_1).bind fun a8=>(eg N a2).bind fun b0=>bif decide (a1.tmod 2=0) then ((dC N a0.So a1 a2).bind fun b6=>lg N a0 y17_1 b0 a8 b6.2.at_) else (lg N a0 y17_1 b0 a8 a0.So.at_)))))
theorem zz {N:Nat}{a0:RG}{a1:Int}{a2:Rk}{r:Int×RG}(h:mR N a0 a1 a2=some r):Okc RY 186 [pV B1 0,iV a1,.agg #[iV a2.Sa,iV a2.Sk,iV a2.Sj,iV a2.Sn,U A8 n8 c8,U A9 n9 c9]] ([bc A8 n8 c8 a2.Sg,bc A9 n9 c9 a2.Sd,ac B1 99 [U A2 n2 c2,U A3 n3 c3,U A4 n4 c4,U A5 n5 c5,pV B6 0],aR A2 n2 c2 a0.m_.Se,aR A3 n3 c3 a0.m_.Sc,aw A4 n4 c4 a0.Si,aw A5 n5 c5 a0.Sq,ac B6 147 [.map (some M7)],aj bf bI M7 a0.So.at_]) (fun u post=> ∃A0 n0 c0 A1 n1 c1 A2 n2 c2 A3 n3 c3 M4,u=iV r.1/\post=[ac B1 99 [U A0 n0 c0,U A1 n1 c1,U A2 n2 c2,U A3 n3 c3,pV B6 0],aR A0 n0 c0 r.2.m_.Se,aR A1 n1 c1 r.2.m_.Sc,aw A2 n2 c2 r.2.Si,aw A3 n3 c3 r.2.Sq,ac B6 147 [.map (some M4)],aj bf bI M4 r.2.So.at_]):=by
 refine cG Tryz.func186 ?_;intro d3;refine sY ?_;obtain ⟨f4,k,h⟩:=aa h;refine jQ (oR (ca k)) ?_;refine gH J h ?_ ?_<;>intro h
 ·exact eY
 refine ab ?_;obtain ⟨g0,k,h⟩:=aa h;refine jQ (oR (lR k)) ?_;refine gH J h ?_ ?_<;>intro h
 ·exact eY
 refine ab ?_;obtain ⟨g1,k,h⟩:=aa h;refine jQ (oR (kM k)) ?_;refine gH J h ?_ ?_<;>intro h
 ·exact eY
 refine ab ?_;obtain ⟨f3,b7,h⟩:=aa h;rcases f3 with y17_0|y17_1
 ·replace h:=F6 h;refine gD (oR (km b7)) ?_;rintro _ _ ⟨_,⟨rfl,rfl⟩,rfl⟩;obtain ⟨b5,a8,b0,b3,h⟩:=bG h;refine ab ?_;refine gR (rX 4 J aI J (bP a8 b0)) ?_;refine gR (sT 4 J aI J (bP a8 b0) yE) ?_;refine Dv (iO (u:=iV b5.Sn) 4 J aI J b3 su (fun _ _ _ h=>by obtain ⟨_,_,_,_,_,_,e,_⟩:=h;rw [e];rfl)) ?_;obtain ⟨a6,k,h⟩:=aa h;refine gD (oR (i3 k)) ?_;rintro _ _ ⟨_,⟨d4,d6,e2,e3,e4,e5,rfl,rfl⟩,rfl⟩;refine gR (rX 6 J aI J (bP a8 b0)) ?_;refine nu (bJ 0 J) ?_;refine nu (bJ 1 J) ?_;refine GJ (qt (us:=[iV a6.Sa,iV a6.Sk,iV a6.Sj,iV a6.Sn,U d4 d6 e2,U e3 e4 e5]) (z:=(⟨a6.Sa,a6.Sk,a6.Sj,a6.Sn,a6.Sg,a6.Sd⟩:Rk)) 6 J J J J size42.out J (bP a8 b0) J (fun S w vs xk hk hr ho=>by obtain rfl:=Option.some.inj (hk.symm.trans b3);obtain ⟨_,_,_,_,_,_,rfl,s4,s5⟩:=hr;exact ⟨_,_,_,_,_,_,rfl,ho 0 _ rfl rfl,ho 1 _ rfl rfl⟩)) ?_;have b8:=Hw (z:=(⟨a6.Sa,a6.Sk,a6.Sj,a6.Sn,a6.Sg,a6.Sd⟩:Rk)) b3;refine gR (rX 6 J aI J (zv (bP a8 b0))) ?_;refine gR (sT 6 J aI J (zv (bP a8 b0)) yE) ?_
  refine GJ (qt (us:=[iV b5.Sn]) (z:=(⟨(⟨a6.Sa,a6.Sk,a6.Sj,a6.Sn,a6.Sg,a6.Sd⟩:Rk).Sa,(⟨a6.Sa,a6.Sk,a6.Sj,a6.Sn,a6.Sg,a6.Sd⟩:Rk).Sk,(⟨a6.Sa,a6.Sk,a6.Sj,a6.Sn,a6.Sg,a6.Sd⟩:Rk).Sj,b5.Sn,(⟨a6.Sa,a6.Sk,a6.Sj,a6.Sn,a6.Sg,a6.Sd⟩:Rk).Sg,(⟨a6.Sa,a6.Sk,a6.Sj,a6.Sn,a6.Sg,a6.Sd⟩:Rk).Sd⟩:Rk)) 6 J J J J size3.out J (zv (bP a8 b0)) J (fun S w vs xk hk hr ho=>by obtain rfl:=Option.some.inj (hk.symm.trans b8);obtain ⟨_,_,_,_,_,_,rfl,s4,s5⟩:=hr;exact ⟨_,_,_,_,_,_,rfl,s4,s5⟩)) ?_;refine ao (fun s L=> ∃b9 c7,lh N a0 y17_0 a6 b5 b9=some r/\s=[(6,iV 0)]/\L=[aR A2 n2 c2 (List.set (List.set a0.m_.Se y17_0.toNat (⟨a6.Sa,a6.Sk,a6.Sj,a6.Sn,a6.Sg,a6.Sd⟩:Rk)) y17_0.toNat (⟨(⟨a6.Sa,a6.Sk,a6.Sj,a6.Sn,a6.Sg,a6.Sd⟩:Rk).Sa,(⟨a6.Sa,a6.Sk,a6.Sj,a6.Sn,a6.Sg,a6.Sd⟩:Rk).Sk,(⟨a6.Sa,a6.Sk,a6.Sj,a6.Sn,a6.Sg,a6.Sd⟩:Rk).Sj,b5.Sn,(⟨a6.Sa,a6.Sk,a6.Sj,a6.Sn,a6.Sg,a6.Sd⟩:Rk).Sg,(⟨a6.Sa,a6.Sk,a6.Sj,a6.Sn,a6.Sg,a6.Sd⟩:Rk).Sd⟩:Rk)),aR A3 n3 c3 a0.m_.Sc,aw A4 n4 c4 a0.Si,aw A5 n5 c5 a0.Sq,ac B1 99 [U A2 n2 c2,U A3 n3 c3,U A4 n4 c4,U A5 n5 c5,pV B6 0],aj bf bI c7 b9,ac B6 147 [.map (some c7)]]) ?_ ?_
  ·refine ab ?_;refine fm (rk J J (by decide)) ?_;refine gH J h ?_ ?_<;>intro h
   ·refine cZ I ([bc d4 d6 e2 a6.Sg,bc e3 e4 e5 a6.Sd,ac d3 42 [iV a2.Sa,iV a2.Sk,iV a2.Sj,iV a2.Sn,U A8 n8 c8,U A9 n9 c9],bc A8 n8 c8 a2.Sg,bc A9 n9 c9 a2.Sd,ac B1 99 [U A2 n2 c2,U A3 n3 c3,U A4 n4 c4,U A5 n5 c5,pV B6 0],aR A2 n2 c2 (List.set (List.set a0.m_.Se y17_0.toNat (⟨a6.Sa,a6.Sk,a6.Sj,a6.Sn,a6.Sg,a6.Sd⟩:Rk)) y17_0.toNat (⟨(⟨a6.Sa,a6.Sk,a6.Sj,a6.Sn,a6.Sg,a6.Sd⟩:Rk).Sa,(⟨a6.Sa,a6.Sk,a6.Sj,a6.Sn,a6.Sg,a6.Sd⟩:Rk).Sk,(⟨a6.Sa,a6.Sk,a6.Sj,a6.Sn,a6.Sg,a6.Sd⟩:Rk).Sj,b5.Sn,(⟨a6.Sa,a6.Sk,a6.Sj,a6.Sn,a6.Sg,a6.Sd⟩:Rk).Sg,(⟨a6.Sa,a6.Sk,a6.Sj,a6.Sn,a6.Sg,a6.Sd⟩:Rk).Sd⟩:Rk)),aR A3 n3 c3 a0.m_.Sc,aw A4 n4 c4 a0.Si,aw A5 n5 c5 a0.Sq]) (cS [0,1,2,3,4,5,6,7,8,9] 12) ?_;refine ab ?_;obtain ⟨g2,k,h⟩:=aa h;refine zD 6 J (oC (mX k)) ?_;rintro _ _ ⟨_,⟨g3,rfl,rfl⟩,rfl⟩;refine aJ (cS [2,3,4,5,6,7,8,9,10,11] 12) ?_;exact jY
   exact jY
  rintro _ _ ⟨b9,c7,h,rfl,rfl⟩;exact eY
 replace h:=F5 h;refine gD (oR (km b7)) ?_;rintro _ _ ⟨_,⟨rfl,rfl⟩,rfl⟩;obtain ⟨b6,b1,b2,b4,h⟩:=bG h;refine ab ?_;refine gR (rX 5 J aI J (bP b1 b2)) ?_;refine gR (sT 5 J aI J (bP b1 b2) yE) ?_;refine Dv (iO (u:=iV b6.Sn) 5 J aI J b4 su (fun _ _ _ h=>by obtain ⟨_,_,_,_,_,_,e,_⟩:=h;rw [e];rfl)) ?_;obtain ⟨a7,k,h⟩:=aa h;refine gD (oR (i3 k)) ?_;rintro _ _ ⟨_,⟨e6,e7,e8,e9,f1,f2,rfl,rfl⟩,rfl⟩;refine gR (rX 7 J aI J (bP b1 b2)) ?_;refine nu (bJ 0 J) ?_;refine nu (bJ 1 J) ?_;refine ab ?_;refine GJ (qt (us:=[iV a7.Sa,iV a7.Sk,iV a7.Sj,iV a7.Sn,U e6 e7 e8,U e9 f1 f2]) (z:=(⟨a7.Sa,a7.Sk,a7.Sj,a7.Sn,a7.Sg,a7.Sd⟩:Rk)) 7 J J J J size42.out J (bP b1 b2) J (fun S w vs xk hk hr ho=>by obtain rfl:=Option.some.inj (hk.symm.trans b4);obtain ⟨_,_,_,_,_,_,rfl,s4,s5⟩:=hr;exact ⟨_,_,_,_,_,_,rfl,ho 0 _ rfl rfl,ho 1 _ rfl rfl⟩)) ?_;have d0:=Hw (z:=(⟨a7.Sa,a7.Sk,a7.Sj,a7.Sn,a7.Sg,a7.Sd⟩:Rk)) b4;refine gR (rX 7 J aI J (zv (bP b1 b2))) ?_;refine gR (sT 7 J aI J (zv (bP b1 b2)) yE) ?_
 refine GJ (qt (us:=[iV b6.Sn]) (z:=(⟨(⟨a7.Sa,a7.Sk,a7.Sj,a7.Sn,a7.Sg,a7.Sd⟩:Rk).Sa,(⟨a7.Sa,a7.Sk,a7.Sj,a7.Sn,a7.Sg,a7.Sd⟩:Rk).Sk,(⟨a7.Sa,a7.Sk,a7.Sj,a7.Sn,a7.Sg,a7.Sd⟩:Rk).Sj,b6.Sn,(⟨a7.Sa,a7.Sk,a7.Sj,a7.Sn,a7.Sg,a7.Sd⟩:Rk).Sg,(⟨a7.Sa,a7.Sk,a7.Sj,a7.Sn,a7.Sg,a7.Sd⟩:Rk).Sd⟩:Rk)) 7 J J J J size3.out J (zv (bP b1 b2)) J (fun S w vs xk hk hr ho=>by obtain rfl:=Option.some.inj (hk.symm.trans d0);obtain ⟨_,_,_,_,_,_,rfl,s4,s5⟩:=hr;exact ⟨_,_,_,_,_,_,rfl,s4,s5⟩)) ?_;refine ao (fun s L=> ∃d1 d2,lg N a0 y17_1 a7 b6 d1=some r/\s=[(6,iV 0)]/\L=[aR A2 n2 c2 a0.m_.Se,aR A3 n3 c3 (List.set (List.set a0.m_.Sc y17_1.toNat (⟨a7.Sa,a7.Sk,a7.Sj,a7.Sn,a7.Sg,a7.Sd⟩:Rk)) y17_1.toNat (⟨(⟨a7.Sa,a7.Sk,a7.Sj,a7.Sn,a7.Sg,a7.Sd⟩:Rk).Sa,(⟨a7.Sa,a7.Sk,a7.Sj,a7.Sn,a7.Sg,a7.Sd⟩:Rk).Sk,(⟨a7.Sa,a7.Sk,a7.Sj,a7.Sn,a7.Sg,a7.Sd⟩:Rk).Sj,b6.Sn,(⟨a7.Sa,a7.Sk,a7.Sj,a7.Sn,a7.Sg,a7.Sd⟩:Rk).Sg,(⟨a7.Sa,a7.Sk,a7.Sj,a7.Sn,a7.Sg,a7.Sd⟩:Rk).Sd⟩:Rk)),aw A4 n4 c4 a0.Si,aw A5 n5 c5 a0.Sq,ac B1 99 [U A2 n2 c2,U A3 n3 c3,U A4 n4 c4,U A5 n5 c5,pV B6 0],aj bf bI d2 d1,ac B6 147 [.map (some d2)]]) ?_ ?_
 ·refine ab ?_;refine fm (rk J J (by decide)) ?_;refine gH J h ?_ ?_<;>intro h
  ·refine cZ I ([bc e6 e7 e8 a7.Sg,bc e9 f1 f2 a7.Sd,ac d3 42 [iV a2.Sa,iV a2.Sk,iV a2.Sj,iV a2.Sn,U A8 n8 c8,U A9 n9 c9],bc A8 n8 c8 a2.Sg,bc A9 n9 c9 a2.Sd,ac B1 99 [U A2 n2 c2,U A3 n3 c3,U A4 n4 c4,U A5 n5 c5,pV B6 0],aR A2 n2 c2 a0.m_.Se,aR A3 n3 c3 (List.set (List.set a0.m_.Sc y17_1.toNat (⟨a7.Sa,a7.Sk,a7.Sj,a7.Sn,a7.Sg,a7.Sd⟩:Rk)) y17_1.toNat (⟨(⟨a7.Sa,a7.Sk,a7.Sj,a7.Sn,a7.Sg,a7.Sd⟩:Rk).Sa,(⟨a7.Sa,a7.Sk,a7.Sj,a7.Sn,a7.Sg,a7.Sd⟩:Rk).Sk,(⟨a7.Sa,a7.Sk,a7.Sj,a7.Sn,a7.Sg,a7.Sd⟩:Rk).Sj,b6.Sn,(⟨a7.Sa,a7.Sk,a7.Sj,a7.Sn,a7.Sg,a7.Sd⟩:Rk).Sg,(⟨a7.Sa,a7.Sk,a7.Sj,a7.Sn,a7.Sg,a7.Sd⟩:Rk).Sd⟩:Rk)),aw A4 n4 c4 a0.Si,aw A5 n5 c5 a0.Sq]) (cS [0,1,2,3,4,5,6,7,8,9] 12) ?_;refine ab ?_;obtain ⟨g4,k,h⟩:=aa h;refine zD 6 J (oC (mX k)) ?_;rintro _ _ ⟨_,⟨g5,rfl,rfl⟩,rfl⟩;refine aJ (cS [2,3,4,5,6,7,8,9,10,11] 12) ?_;exact jY
  exact jY
 rintro _ _ ⟨d1,d2,h,rfl,rfl⟩;exact eY
def iI (N:Nat)(a0:Rn)(a1:Ry)(a2:Rk):Option Rn:=
 (fu N a1).bind fun a6=>bif a6 then ((mR N a0.Sb a1.N a2).bind fun a7=>some (⟨a0.Sr,a0.Sh,(),a7.2,a0.Sf,a0.St,a0.Sy,a0.Sx,a0.Sz,a0.Sv,a0.Su⟩:Rn)) else (some a0)
theorem qL {N:Nat}{a0:Rn}{a1:Ry}{a2:Rk}{r:Rn}(h:iI N a0 a1 a2=some r):Okc RY 151 [pV B1 0,(fX a1),.agg #[iV a2.Sa,iV a2.Sk,iV a2.Sj,iV a2.Sn,U A15 n15 c15,U A16 n16 c16]] ([bc A15 n15 c15 a2.Sg,bc A16 n16 c16 a2.Sd,ac B1 79 (iU a0 B2 B9 A12 n12 c12 A13 n13 c13 A14 n14 c14),ac B2 99 [U A3 n3 c3,U A4 n4 c4,U A5 n5 c5,U A6 n6 c6,pV B7 0],aR A3 n3 c3 a0.Sb.m_.Se,aR A4 n4 c4 a0.Sb.m_.Sc,aw A5 n5 c5 a0.Sb.Si,aw A6 n6 c6 a0.Sb.Sq,ac B7 147 [.map (some M8)],aj bf bI M8 a0.Sb.So.at_,ac B9 118 [U A10 n10 c10,.map (some M11)],f9 A10 n10 c10 a0.Sf.Sf,aj ap dp M11 a0.Sf.Ss,ce A12 n12 c12 a0.St,gX A13 n13 c13 a0.Sv,ce A14 n14 c14 a0.Su]) (fun u post=> ∃A0 n0 c0 A1 n1 c1 A2 n2 c2 A3 n3 c3 M4 A5 n5 c5 M6 A7 n7 c7 A8 n8 c8 A9 n9 c9,u=.tuple #[]/\post=[ac B1 79 (iU r B2 B9 A7 n7 c7 A8 n8 c8 A9 n9 c9),ac B2 99 [U A0 n0 c0,U A1 n1 c1,U A2 n2 c2,U A3 n3 c3,pV B7 0],aR A0 n0 c0 r.Sb.m_.Se,aR A1 n1 c1 r.Sb.m_.Sc,aw A2 n2 c2 r.Sb.Si,aw A3 n3 c3 r.Sb.Sq,ac B7 147 [.map (some M4)],aj bf bI M4 r.Sb.So.at_,ac B9 118 [U A5 n5 c5,.map (some M6)],f9 A5 n5 c5 r.Sf.Sf,aj ap dp M6 r.Sf.Ss,ce A7 n7 c7 r.St,gX A8 n8 c8 r.Sv,ce A9 n9 c9 r.Su]):=by
 refine cG Tryz.func151 ?_;intro a6
 refine iD fun a7=> ?_
 refine fm (jD J Ra) ?_;obtain ⟨a8,k,h⟩:=aa h;refine jQ (oR (uM k)) ?_;refine gH J h ?_ ?_<;>intro h
 ·refine cZ I ([ac a7 42 [iV a2.Sa,iV a2.Sk,iV a2.Sj,iV a2.Sn,U A15 n15 c15,U A16 n16 c16],ac a6 23 (tO a1),bc A15 n15 c15 a2.Sg,bc A16 n16 c16 a2.Sd,ac B1 79 (iU a0 B2 B9 A12 n12 c12 A13 n13 c13 A14 n14 c14),ac B9 118 [U A10 n10 c10,.map (some M11)],f9 A10 n10 c10 a0.Sf.Sf,aj ap dp M11 a0.Sf.Ss,ce A12 n12 c12 a0.St,gX A13 n13 c13 a0.Sv,ce A14 n14 c14 a0.Su]) (cS [0,1,2,3,4,12,13,14,15,16,17] 18) ?_;refine ab ?_;obtain ⟨b0,k,h⟩:=aa h;refine zD 7 J (oC (zz k)) ?_;rintro _ _ ⟨_,⟨b1,b2,b3,b4,b5,b6,b7,b8,b9,d0,d1,d2,d3,rfl,rfl⟩,rfl⟩;refine aJ (cS [7,8,9,10,11,12,13,14,15,16,17] 18) ?_;refine aU ?_;exact eY
 exact eY
def fG (N:Nat)(a0:Rn)(a1:Int)(a2:Ry):Option Rn:=
 (aZ N a0.Sb a1).bind fun a7=>(aB N a0 a7).bind fun a6=>bn (cc (a6.Sd.length+([a2]:List Ry).length)) ((iI N a0 a7 (⟨a6.Sa,a6.Sk,a6.Sj,a6.Sn,a6.Sg,a6.Sd++([a2]:List Ry)⟩:Rk)).bind fun a8=>some a8)
theorem om {N:Nat}{a0:Rn}{a1:Int}{a2:Ry}{r:Rn}(h:fG N a0 a1 a2=some r):Okc RY 150 [pV B1 0,iV a1,(fX a2)] ([ac B1 79 (iU a0 B2 B9 A12 n12 c12 A13 n13 c13 A14 n14 c14),ac B2 99 [U A3 n3 c3,U A4 n4 c4,U A5 n5 c5,U A6 n6 c6,pV B7 0],aR A3 n3 c3 a0.Sb.m_.Se,aR A4 n4 c4 a0.Sb.m_.Sc,aw A5 n5 c5 a0.Sb.Si,aw A6 n6 c6 a0.Sb.Sq,ac B7 147 [.map (some M8)],aj bf bI M8 a0.Sb.So.at_,ac B9 118 [U A10 n10 c10,.map (some M11)],f9 A10 n10 c10 a0.Sf.Sf,aj ap dp M11 a0.Sf.Ss,ce A12 n12 c12 a0.St,gX A13 n13 c13 a0.Sv,ce A14 n14 c14 a0.Su]) (fun u post=> ∃A0 n0 c0 A1 n1 c1 A2 n2 c2 A3 n3 c3 M4 A5 n5 c5 M6 A7 n7 c7 A8 n8 c8 A9 n9 c9,u=.tuple #[]/\post=[ac B1 79 (iU r B2 B9 A7 n7 c7 A8 n8 c8 A9 n9 c9),ac B2 99 [U A0 n0 c0,U A1 n1 c1,U A2 n2 c2,U A3 n3 c3,pV B7 0],aR A0 n0 c0 r.Sb.m_.Se,aR A1 n1 c1 r.Sb.m_.Sc,aw A2 n2 c2 r.Sb.Si,aw A3 n3 c3 r.Sb.Sq,ac B7 147 [.map (some M4)],aj bf bI M4 r.Sb.So.at_,ac B9 118 [U A5 n5 c5,.map (some M6)],f9 A5 n5 c5 r.Sf.Sf,aj ap dp M6 r.Sf.Ss,ce A7 n7 c7 r.St,gX A8 n8 c8 r.Sv,ce A9 n9 c9 r.Su]):=by
 refine cG Tryz.func150 ?_;intro a7;refine ab ?_;obtain ⟨a8,k,h⟩:=aa h;refine jQ (oR (co k)) ?_;intro b0;refine ab ?_;obtain ⟨b1,k,h⟩:=aa h
 refine Ew (oR (bY k)) fun b2 b3 b4 b5 b6 b7=> ?_
 intro b8;refine ab ?_;refine gD (aY (R:=aF) (vss:=[(tO a2)]) (xs:=[a2]) J (rC _ _ _) J J (fun _ _ hr=> .cons J All2.nil)) ?_;rintro _ _ ⟨b9,d0,d1,rfl,rfl⟩;obtain ⟨a6,h⟩:=ah h
 refine nr (aX 3 0 J J aI J J hU yW J J a6) fun d2 d3 d4=> ?_
 refine nu (bJ 2 J) ?_;refine nu (bJ 3 J) ?_;refine ab ?_;obtain ⟨d6,k,h⟩:=aa h;refine gD (oC (qL k)) ?_;rintro _ _ ⟨_,⟨e2,e3,e4,e5,e6,e7,e8,e9,f1,f2,f3,f4,g0,g1,g2,g3,g4,g5,g6,g7,g8,g9,h0,h1,h2,h3,rfl,rfl⟩,rfl⟩;exact eY
def ik (N:Nat)(a0:Rn)(a1:RJ):Option Rn:=
 (dh N a0 (⟨11,0,0,0,[],a1⟩:Rk)).bind fun a2=>(fG N a2.2 18 a2.1).bind fun a6=>some a6
theorem tw {N:Nat}{a0:Rn}{a1:RJ}{r:Rn}(h:ik N a0 a1=some r):Okc RY 106 [pV B1 0,U A15 n15 c15] ([bc A15 n15 c15 a1,ac B1 79 (iU a0 B2 B9 A12 n12 c12 A13 n13 c13 A14 n14 c14),ac B2 99 [U A3 n3 c3,U A4 n4 c4,U A5 n5 c5,U A6 n6 c6,pV B7 0],aR A3 n3 c3 a0.Sb.m_.Se,aR A4 n4 c4 a0.Sb.m_.Sc,aw A5 n5 c5 a0.Sb.Si,aw A6 n6 c6 a0.Sb.Sq,ac B7 147 [.map (some M8)],aj bf bI M8 a0.Sb.So.at_,ac B9 118 [U A10 n10 c10,.map (some M11)],f9 A10 n10 c10 a0.Sf.Sf,aj ap dp M11 a0.Sf.Ss,ce A12 n12 c12 a0.St,gX A13 n13 c13 a0.Sv,ce A14 n14 c14 a0.Su]) (fun u post=> ∃A0 n0 c0 A1 n1 c1 A2 n2 c2 A3 n3 c3 M4 A5 n5 c5 M6 A7 n7 c7 A8 n8 c8 A9 n9 c9,u=.tuple #[]/\post=[ac B1 79 (iU r B2 B9 A7 n7 c7 A8 n8 c8 A9 n9 c9),ac B2 99 [U A0 n0 c0,U A1 n1 c1,U A2 n2 c2,U A3 n3 c3,pV B7 0],aR A0 n0 c0 r.Sb.m_.Se,aR A1 n1 c1 r.Sb.m_.Sc,aw A2 n2 c2 r.Sb.Si,aw A3 n3 c3 r.Sb.Sq,ac B7 147 [.map (some M4)],aj bf bI M4 r.Sb.So.at_,ac B9 118 [U A5 n5 c5,.map (some M6)],f9 A5 n5 c5 r.Sf.Sf,aj ap dp M6 r.Sf.Ss,ce A7 n7 c7 r.St,gX A8 n8 c8 r.Sv,ce A9 n9 c9 r.Su]):=by
 refine cG Tryz.func106 ?_;refine fm (jD J Ra) ?_;refine cq J ?_;refine ab ?_;obtain ⟨a2,k,h⟩:=aa h;refine nu (kq aF _) ?_;refine gD (oC (eM k)) ?_;rintro _ _ ⟨_,⟨a6,a7,a8,b0,b1,b2,b3,b4,b5,b6,b7,b8,b9,d0,d1,d2,d3,d4,d6,e2,e3,e4,e5,e6,e7,e8,rfl,rfl⟩,rfl⟩;obtain ⟨e9,k,h⟩:=aa h;refine gD (oC (om k)) ?_;rintro _ _ ⟨_,⟨f1,f2,f3,f4,g0,g1,g2,g3,g4,g5,g6,g7,g8,g9,h0,h1,h2,h3,h4,h5,h6,h7,h8,h9,i0,i1,rfl,rfl⟩,rfl⟩;exact eY
def kc (N:Nat)(a0:Rn):Option Int:=
 (aZ N a0.Sb 18).bind fun a1=>(aB N a0 a1).bind fun a2=>some (a2.Sd.length:Int)
theorem wJ {N:Nat}{a0:Rn}{r:Int}(h:kc N a0=some r):Okc RY 71 [pV B1 0] ([ar B1 79 (iU a0 B2 B9 A12 n12 c12 A13 n13 c13 A14 n14 c14),ar B2 99 [U A3 n3 c3,U A4 n4 c4,U A5 n5 c5,U A6 n6 c6,pV B7 0],bi A3 n3 c3 a0.Sb.m_.Se,bi A4 n4 c4 a0.Sb.m_.Sc,bc A5 n5 c5 a0.Sb.Si,bc A6 n6 c6 a0.Sb.Sq,ar B7 147 [.map (some M8)],eS bf bI M8 a0.Sb.So.at_,ar B9 118 [U A10 n10 c10,.map (some M11)],rK A10 n10 c10 a0.Sf.Sf,eS ap dp M11 a0.Sf.Ss,CI A12 n12 c12 a0.St,BZ A13 n13 c13 a0.Sv,CI A14 n14 c14 a0.Su]) (fun u post=>u=iV r/\post=[]):=by
 refine cG Tryz.func71 ?_;refine sZ ?_;refine fm (bA J Ra) ?_;refine cJ J ?_;refine ab ?_;obtain ⟨a1,k,h⟩:=aa h;refine gV (oR (co k)) ?_;obtain ⟨a2,k,h⟩:=aa h;refine gD (oR (bY k)) ?_;rintro _ _ ⟨_,⟨a6,a7,a8,b0,b1,b2,rfl,rfl⟩,rfl⟩;refine fm (pu J (vv _ _ _ _ _ _ _ _ _ _)) ?_;exact eN
def eZ (N:Nat)(a0:Rn):Option (RJ×Bool×Rn):=
 (kc N a0).bind fun a6=>bif decide (a6=0) then (some ([],false,a0)) else ((aZ N a0.Sb 18).bind fun a2=>(aB N a0 a2).bind fun a1=>(au a1.Sd 0).bind fun a7=>(aB N a0 a7).bind fun a8=>bn ((0:Int)<=1/\(1:Int).toNat<=a1.Sd.length/\a1.Sd.length<=a1.Sd.length) ((iI N a0 a2 (⟨a1.Sa,a1.Sk,a1.Sj,a1.Sn,a1.Sg,(a1.Sd.drop ((1:Int).toNat)).take (a1.Sd.length - (1:Int).toNat)⟩:Rk)).bind fun b0=>some (a8.Sd,true,b0)))
theorem tx {N:Nat}{a0:Rn}{r:RJ×Bool×Rn}(h:eZ N a0=some r):Okc RY 107 [pV B1 0] ([ac B1 79 (iU a0 B2 B9 A12 n12 c12 A13 n13 c13 A14 n14 c14),ac B2 99 [U A3 n3 c3,U A4 n4 c4,U A5 n5 c5,U A6 n6 c6,pV B7 0],aR A3 n3 c3 a0.Sb.m_.Se,aR A4 n4 c4 a0.Sb.m_.Sc,aw A5 n5 c5 a0.Sb.Si,aw A6 n6 c6 a0.Sb.Sq,ac B7 147 [.map (some M8)],aj bf bI M8 a0.Sb.So.at_,ac B9 118 [U A10 n10 c10,.map (some M11)],f9 A10 n10 c10 a0.Sf.Sf,aj ap dp M11 a0.Sf.Ss,ce A12 n12 c12 a0.St,gX A13 n13 c13 a0.Sv,ce A14 n14 c14 a0.Su]) (fun u post=> ∃A0 n0 c0 A1 n1 c1 A2 n2 c2 A3 n3 c3 A4 n4 c4 M5 A6 n6 c6 M7 A8 n8 c8 A9 n9 c9 A10 n10 c10,u=.tuple #[U A0 n0 c0,.bool r.2.1]/\post=[aw A0 n0 c0 r.1,ac B1 79 (iU r.2.2 B2 B9 A8 n8 c8 A9 n9 c9 A10 n10 c10),ac B2 99 [U A1 n1 c1,U A2 n2 c2,U A3 n3 c3,U A4 n4 c4,pV B7 0],aR A1 n1 c1 r.2.2.Sb.m_.Se,aR A2 n2 c2 r.2.2.Sb.m_.Sc,aw A3 n3 c3 r.2.2.Sb.Si,aw A4 n4 c4 r.2.2.Sb.Sq,ac B7 147 [.map (some M5)],aj bf bI M5 r.2.2.Sb.So.at_,ac B9 118 [U A6 n6 c6,.map (some M7)],f9 A6 n6 c6 r.2.2.Sf.Sf,aj ap dp M7 r.2.2.Sf.Ss,ce A8 n8 c8 r.2.2.St,gX A9 n9 c9 r.2.2.Sv,ce A10 n10 c10 r.2.2.Su]):=by
 refine cG Tryz.func107 ?_;refine sZ ?_;obtain ⟨b1,k,h⟩:=aa h;refine jQ (oR (wJ k)) ?_;refine gH J h ?_ ?_<;>intro h
 ·refine ab ?_;obtain rfl:=cB h;exact MN J J J ((bh aF 23 _).trans (cS [0,1,2,3,4,5,6,7,8,9,10,11,12,13,14] 15)) ⟨_,_,_,_,_,_,_,_,_,_,_,_,_,_,_,_,_,_,_,_,_,_,_,_,_,_,_,_,_,J,J⟩
 refine ab ?_;obtain ⟨b2,k,h⟩:=aa h;refine jQ (oR (co k)) ?_;intro b3;refine ab ?_;obtain ⟨a2,k,h⟩:=aa h
 refine Ew (oR (bY k)) fun b4 b5 b6 b7 b8 b9=> ?_
 intro c7;refine ab ?_;obtain ⟨d0,a6,a7,a8,h⟩:=bG h;refine ab ?_;obtain ⟨d1,k,h⟩:=aa h;refine gD (oR (bY k)) ?_;rintro _ _ ⟨_,⟨d2,d3,d4,d6,e2,e3,rfl,rfl⟩,rfl⟩;refine fm (pu J (vv _ _ _ _ _ _ _ _ _ _)) ?_;refine nu (bJ 4 J) ?_;refine ab ?_;obtain ⟨a1,h⟩:=ah h;refine MU 4 J (l:=(1:Int).toNat) (h:=a2.Sd.length) a1.2.1 a1.2.2 ?_;rintro e4 e5 e6 b0;refine Dv (vX 5 J b0 J hU size23.out J (by rw [Int.toNat_of_nonneg a1.1];rfl) a1.2.1) ?_;refine nu (bJ 4 J) ?_;obtain ⟨e7,k,h⟩:=aa h;refine gD (oC (qL k)) ?_;rintro _ _ ⟨_,⟨e8,e9,f1,f2,f3,f4,g0,g1,g2,g3,g4,g5,g6,g7,g8,g9,h0,h1,h2,h3,h4,h5,h6,h7,h8,h9,rfl,rfl⟩,rfl⟩;exact eY
def yZ (N:Nat):Option Rk:=
 some (⟨11,0,0,0,[],[]⟩:Rk)
theorem F9 {N:Nat}{r:Rk}(h:yZ N=some r):Okc RY 108 [] ([]) (fun u post=> ∃A0 n0 c0 A1 n1 c1,u=.agg #[iV r.Sa,iV r.Sk,iV r.Sj,iV r.Sn,U A0 n0 c0,U A1 n1 c1]/\post=[aw A0 n0 c0 r.Sg,aw A1 n1 c1 r.Sd]):=by
 refine cG Tryz.func108 ?_;intro B1;refine ab ?_;obtain rfl:=cB h;exact ox (rs:=[.cell 0 42]) (vs:=[.agg #[iV 11,iV 0,iV 0,iV 0,U none 0 0,U none 0 0]]) J (.cons (ij 0 J J agg42.out) .nil) J ((bh aF 23 _).trans ((bh aF 23 _).trans (cS [1,0] 3))) ⟨_,_,_,_,_,_,J,J⟩
def gQ (N:Nat)(a0:Rn)(a1:Ry):Option Rn:=
 (fG N a0 19 a1).bind fun a2=>some a2
theorem wI {N:Nat}{a0:Rn}{a1:Ry}{r:Rn}(h:gQ N a0 a1=some r):Okc RY 109 [pV B1 0,(fX a1)] ([ac B1 79 (iU a0 B2 B9 A12 n12 c12 A13 n13 c13 A14 n14 c14),ac B2 99 [U A3 n3 c3,U A4 n4 c4,U A5 n5 c5,U A6 n6 c6,pV B7 0],aR A3 n3 c3 a0.Sb.m_.Se,aR A4 n4 c4 a0.Sb.m_.Sc,aw A5 n5 c5 a0.Sb.Si,aw A6 n6 c6 a0.Sb.Sq,ac B7 147 [.map (some M8)],aj bf bI M8 a0.Sb.So.at_,ac B9 118 [U A10 n10 c10,.map (some M11)],f9 A10 n10 c10 a0.Sf.Sf,aj ap dp M11 a0.Sf.Ss,ce A12 n12 c12 a0.St,gX A13 n13 c13 a0.Sv,ce A14 n14 c14 a0.Su]) (fun u post=> ∃A0 n0 c0 A1 n1 c1 A2 n2 c2 A3 n3 c3 M4 A5 n5 c5 M6 A7 n7 c7 A8 n8 c8 A9 n9 c9,u=.tuple #[]/\post=[ac B1 79 (iU r B2 B9 A7 n7 c7 A8 n8 c8 A9 n9 c9),ac B2 99 [U A0 n0 c0,U A1 n1 c1,U A2 n2 c2,U A3 n3 c3,pV B7 0],aR A0 n0 c0 r.Sb.m_.Se,aR A1 n1 c1 r.Sb.m_.Sc,aw A2 n2 c2 r.Sb.Si,aw A3 n3 c3 r.Sb.Sq,ac B7 147 [.map (some M4)],aj bf bI M4 r.Sb.So.at_,ac B9 118 [U A5 n5 c5,.map (some M6)],f9 A5 n5 c5 r.Sf.Sf,aj ap dp M6 r.Sf.Ss,ce A7 n7 c7 r.St,gX A8 n8 c8 r.Sv,ce A9 n9 c9 r.Su]):=by
 refine cG Tryz.func109 ?_;intro a2;refine ab ?_;refine fm (jD J Ra) ?_;refine cq J ?_;refine ab ?_;obtain ⟨a6,k,h⟩:=aa h;refine gD (oC (om k)) ?_;rintro _ _ ⟨_,⟨a7,a8,b0,b1,b2,b3,b4,b5,b6,b7,b8,b9,d0,d1,d2,d3,d4,d6,e2,e3,e4,e5,e6,e7,e8,e9,rfl,rfl⟩,rfl⟩;exact eY
def fv (N:Nat)(a0:Rn)(a1:Ry):Option ByteArray:=
 bif !decide (a1.Sa=6) then (some (⟨#[]⟩:ByteArray)) else (bif decide (a1.N=1) then (some (⟨#[83,121,109,98,111,108,46,105,116,101,114,97,116,111,114]⟩:ByteArray)) else (bif decide (a1.N=2) then (some (⟨#[83,121,109,98,111,108,46,116,111,80,114,105,109,105,116,105,118,101]⟩:ByteArray)) else ((bif decide (a1.N<3) then (some true) else (bn (in64 (a1.N - 3)) (some (decide ((a0.St.length:Int)<=a1.N - 3))))).bind fun a2=>bif a2 then (some (⟨#[]⟩:ByteArray)) else (bn (in64 (a1.N - 3)) ((au a0.St (a1.N - 3)).bind fun a6=>some a6)))))
theorem rJ {N:Nat}{a0:Rn}{a1:Ry}{r:ByteArray}(h:fv N a0 a1=some r):Okc RY 110 [pV B1 0,(fX a1)] ([ar B1 79 (iU a0 B2 B9 A12 n12 c12 A13 n13 c13 A14 n14 c14),ar B2 99 [U A3 n3 c3,U A4 n4 c4,U A5 n5 c5,U A6 n6 c6,pV B7 0],bi A3 n3 c3 a0.Sb.m_.Se,bi A4 n4 c4 a0.Sb.m_.Sc,bc A5 n5 c5 a0.Sb.Si,bc A6 n6 c6 a0.Sb.Sq,ar B7 147 [.map (some M8)],eS bf bI M8 a0.Sb.So.at_,ar B9 118 [U A10 n10 c10,.map (some M11)],rK A10 n10 c10 a0.Sf.Sf,eS ap dp M11 a0.Sf.Ss,CI A12 n12 c12 a0.St,BZ A13 n13 c13 a0.Sv,CI A14 n14 c14 a0.Su]) (fun u post=>u=.string r/\post=[]):=by
 refine cG Tryz.func110 ?_;intro b3;refine sY ?_;refine fm (bA J Ra) ?_;refine gH J h ?_ ?_<;>intro h
 ·exact eY
 refine sY ?_;refine gH J h ?_ ?_<;>intro h
 ·exact eY
 refine fd h ?_ ?_<;>intro h
 ·exact eY
 refine ab ?_;refine aL ?_;refine dY [0,1,2,3] ?_;obtain ⟨a8,a6,h⟩:=aa h;refine CG (fun l=>((((((((((l.setIfInBounds 4 true).setIfInBounds 5 true).setIfInBounds 6 true).setIfInBounds 7 true).setIfInBounds 8 true).setIfInBounds 9 true).setIfInBounds 10 true).setIfInBounds 11 true).setIfInBounds 12 true).setIfInBounds 13 true)) 0 31 a8 (fun rest=> ?_) ?_
 ·clear h;refine EQ 21 J (fun a2=> ?_) (fun a2=> ?_)
  ·have h:=az a2 a6;refine rE 4 J I (wM a2 J) J ?_;refine rE 5 J I (wM a2 J) J ?_;refine rE 6 J I (wM a2 J) J ?_;refine rE 7 J I (wM a2 J) J ?_;refine rE 8 J I (wM a2 J) J ?_;refine rE 9 J I (wM a2 J) J ?_;refine rE 10 J I (wM a2 J) J ?_;refine rE 11 J I (wM a2 J) J ?_;refine rE 12 J I (wM a2 J) J ?_;refine zE 13 J (rm a2 J J) ?_;obtain rfl:=cB h;exact xE rest (ny J (aP (aP (aP (aP (aP (aP (aP (aP (aP (aP cD J) J) J) J) J) J) J) J) J) J)) (ae _) (ae _)
  have h:=aA a2 a6;refine vM 4 J I (gk J ww) (jK a2 J) J ?_;refine CF 5 J I (bL 0 J J su J) (jK a2 J) J ?_;obtain ⟨a7,h⟩:=ah h;refine vM 6 J I (GM J J a7.1 a7.2) (jK a2 J) J ?_;refine vM 7 J I (bo J) (jK a2 J) J ?_;refine vM 8 J I (bz J) (jK a2 J) J ?_;refine vM 9 J I (gk J HC) (jK a2 J) J ?_;refine CF 10 J I (qO 1 J J MH J) (jK a2 J) J ?_;refine CF 11 J I (lw 12 J bj J z5) (jK a2 J) J ?_;refine vM 12 J I (MM J J) (jK a2 J) J ?_;refine zE 13 J (rn a2 J J) ?_;obtain rfl:=cB h;exact xE rest (ny J (aP (aP (aP (aP (aP (aP (aP (aP (aP (aP cD J) J) J) J) J) J) J) J) J) J)) (ae _) (ae _)
 refine ju I ?_;refine fd h ?_ ?_<;>intro h
 ·exact eY
 refine ab ?_;refine dY [] ?_;refine ab ?_;obtain ⟨b4,h⟩:=ah h;refine ab ?_;obtain ⟨b5,b0,b1,b2,h⟩:=bG h;exact eY
def ex (N:Nat)(a1:Bool)(p21:ByteArray)(a2:Int)(a6:Int)(a7:Int)(a8:Int)(b0:ByteArray)(b1:RL)(b2:Int)(b3:Int)(b4:Int)(b5:Int)(b6:Int)(b7:Int)(b8:Int)(b9:Int)(c0:Int)(c7:Int)(d0:RV)(d1:Int)(d2:Int)(d3:Int)(d4:List RF)(d6:RV)(e2:RS)(e3:RS)(e4:RJ)(e5:RJ)(e6:List RI)(e7:(List (Rx×Int)))(e8:RU):Option (Rj×Rn):=
 some ((⟨a1,0,p21,(⟨a2,a6,(⟨a7,a8,b0⟩:Ry)⟩:RH),b1⟩:Rj),(⟨(⟨b2,b3,b4⟩:RD),(⟨b5,b6,b7,b8,b9,c0,c7⟩:Rs),(),(⟨(⟨e2,e3⟩:Rp),e4,e5,(⟨e8⟩:Rr)⟩:RG),(⟨e6,e7⟩:Rl),d0,d1,d2,d3,d4,d6⟩:Rn))
def tp (N:Nat)(a1:RH×Rn)(a2:ByteArray):Option (Rj×Rn):=
 ex N false a2 a1.1.Sa a1.1.N 0 0 (⟨#[]⟩) [] a1.2.Sr.SE a1.2.Sr.SC a1.2.Sr.SD a1.2.Sh.SI a1.2.Sh.SG a1.2.Sh.SA a1.2.Sh.SF a1.2.Sh.Se a1.2.Sh.SH a1.2.Sh.SJ a1.2.St a1.2.Sy a1.2.Sx a1.2.Sz a1.2.Sv a1.2.Su a1.2.Sb.m_.Se a1.2.Sb.m_.Sc a1.2.Sb.Si a1.2.Sb.Sq a1.2.Sf.Sf a1.2.Sf.Ss a1.2.Sb.So.at_
def oV (N:Nat)(a0:Rn)(a2:RJ):Option (Rj×Rn):=
 (ik N a0 a2).bind fun a1=>ex N false (⟨#[]⟩) 0 0 0 0 (⟨#[]⟩) [] a1.Sr.SE a1.Sr.SC a1.Sr.SD a1.Sh.SI a1.Sh.SG a1.Sh.SA a1.Sh.SF a1.Sh.Se a1.Sh.SH a1.Sh.SJ a1.St a1.Sy a1.Sx a1.Sz a1.Sv a1.Su a1.Sb.m_.Se a1.Sb.m_.Sc a1.Sb.Si a1.Sb.Sq a1.Sf.Sf a1.Sf.Ss a1.Sb.So.at_
def oU (N:Nat)(a0:Rn)(a1:Rz):Nat->RJ->Int->Option (Rj×Rn)
 |0,_,_=>none
 |a8+1,a6,a2=>bif decide (a2<(a1.L.length:Int)) then ((au a1.L a2).bind fun a7=>bn (cc (a6.length+([(⟨3,a7,⟨#[]⟩⟩:Ry)]:List Ry).length)) (bn (in64 (a2+1)) ((oU N a0 a1 a8) (a6++([(⟨3,a7,⟨#[]⟩⟩:Ry)]:List Ry)) (a2+1)))) else (oV N a0 a6)
def oT (N:Nat)(a1:RJ×Bool×Rn):Nat->Int->RL->Option (Rj×Rn)
 |0,_,_=>none
 |a8+1,a2,a6=>bif decide (a2<(a1.1.length:Int)) then ((au a1.1 a2).bind fun a7=>bn (cc (a6.length+([a7.N]:List Int).length)) (bn (in64 (a2+1)) ((oT N a1 a8) (a2+1) (a6++([a7.N]:List Int))))) else (ex N a1.2.1 (⟨#[]⟩) 0 0 0 0 (⟨#[]⟩) a6 a1.2.2.Sr.SE a1.2.2.Sr.SC a1.2.2.Sr.SD a1.2.2.Sh.SI a1.2.2.Sh.SG a1.2.2.Sh.SA a1.2.2.Sh.SF a1.2.2.Sh.Se a1.2.2.Sh.SH a1.2.2.Sh.SJ a1.2.2.St a1.2.2.Sy a1.2.2.Sx a1.2.2.Sz a1.2.2.Sv a1.2.2.Su a1.2.2.Sb.m_.Se a1.2.2.Sb.m_.Sc a1.2.2.Sb.Si a1.2.2.Sb.Sq a1.2.2.Sf.Sf a1.2.2.Sf.Ss a1.2.2.Sb.So.at_)
def tq (N:Nat)(a0:Rn)(a1:Rz):Option (Rj×Rn):=
 bif decide (a1.Sa=6) then ((jj N a0 a1.S).bind fun a8=>ex N false (⟨#[]⟩) 0 0 0 0 (⟨#[]⟩) [] a8.Sr.SE a8.Sr.SC a8.Sr.SD a8.Sh.SI a8.Sh.SG a8.Sh.SA a8.Sh.SF a8.Sh.Se a8.Sh.SH a8.Sh.SJ a8.St a8.Sy a8.Sx a8.Sz a8.Sv a8.Su a8.Sb.m_.Se a8.Sb.m_.Sc a8.Sb.Si a8.Sb.Sq a8.Sf.Sf a8.Sf.Ss a8.Sb.So.at_) else (bif decide (a1.Sa=7) then ((dH N a0 (⟨a1.N,(⟨0,0,⟨#[]⟩⟩:Rq),a1.S⟩:RF)).bind fun b0=>ex N false (⟨#[]⟩) 0 0 0 0 (⟨#[]⟩) [] b0.Sr.SE b0.Sr.SC b0.Sr.SD b0.Sh.SI b0.Sh.SG b0.Sh.SA b0.Sh.SF b0.Sh.Se b0.Sh.SH b0.Sh.SJ b0.St b0.Sy b0.Sx b0.Sz b0.Sv b0.Su b0.Sb.m_.Se b0.Sb.m_.Sc b0.Sb.Si b0.Sb.Sq b0.Sf.Sf b0.Sf.Ss b0.Sb.So.at_) else (bif decide (a1.Sa=8) then ((dv N a0 a1.N a1.M).bind fun a7=>bif decide (a7.1.Sa=1) then ((aB N a7.2 a7.1.Value).bind fun b4=>bif decide ((b4.Sg.length:Int)=2) then ((au b4.Sg 1).bind fun b5=>tp N a7 b5.S) else (tp N a7 (⟨#[]⟩))) else (ex N false (⟨#[]⟩) a7.1.Sa a7.1.N a7.1.Value.Sa a7.1.Value.N a7.1.Value.S [] a7.2.Sr.SE a7.2.Sr.SC a7.2.Sr.SD a7.2.Sh.SI a7.2.Sh.SG a7.2.Sh.SA a7.2.Sh.SF a7.2.Sh.Se a7.2.Sh.SH a7.2.Sh.SJ a7.2.St a7.2.Sy a7.2.Sx a7.2.Sz a7.2.Sv a7.2.Su a7.2.Sb.m_.Se a7.2.Sb.m_.Sc a7.2.Sb.Si a7.2.Sb.Sq a7.2.Sf.Sf a7.2.Sf.Ss a7.2.Sb.So.at_)) else (bif decide (a1.Sa=10) then (oU N a0 a1 N [] 0) else (bif decide (a1.Sa=11) then ((eZ N a0).bind fun b1=>oT N b1 N 0 []) else (bif decide (a1.Sa=15) then ((yZ N).bind fun b2=>(dh N a0 b2).bind fun a2=>ex N false (⟨#[]⟩) 0 0 0 0 (⟨#[]⟩) [] a2.2.Sr.SE a2.2.Sr.SC a2.2.Sr.SD a2.2.Sh.SI a2.2.Sh.SG a2.2.Sh.SA a2.2.Sh.SF a2.2.Sh.Se a2.2.Sh.SH a2.2.Sh.SJ a2.2.St a2.2.Sy a2.2.Sx a2.2.Sz a2.2.Sv a2.2.Su a2.2.Sb.m_.Se a2.2.Sb.m_.Sc a2.2.Sb.Si a2.2.Sb.Sq a2.2.Sf.Sf a2.2.Sf.Ss a2.2.Sb.So.at_) else (bif decide (a1.Sa=16) then ((gQ N a0 (⟨3,a1.N,⟨#[]⟩⟩:Ry)).bind fun a6=>ex N false (⟨#[]⟩) 0 0 0 0 (⟨#[]⟩) [] a6.Sr.SE a6.Sr.SC a6.Sr.SD a6.Sh.SI a6.Sh.SG a6.Sh.SA a6.Sh.SF a6.Sh.Se a6.Sh.SH a6.Sh.SJ a6.St a6.Sy a6.Sx a6.Sz a6.Sv a6.Su a6.Sb.m_.Se a6.Sb.m_.Sc a6.Sb.Si a6.Sb.Sq a6.Sf.Sf a6.Sf.Ss a6.Sb.So.at_) else (bif decide (a1.Sa=17) then ((fv N a0 (⟨6,a1.N,⟨#[]⟩⟩:Ry)).bind fun b3=>ex N false b3 0 0 0 0 (⟨#[]⟩) [] a0.Sr.SE a0.Sr.SC a0.Sr.SD a0.Sh.SI a0.Sh.SG a0.Sh.SA a0.Sh.SF a0.Sh.Se a0.Sh.SH a0.Sh.SJ a0.St a0.Sy a0.Sx a0.Sz a0.Sv a0.Su a0.Sb.m_.Se a0.Sb.m_.Sc a0.Sb.Si a0.Sb.Sq a0.Sf.Sf a0.Sf.Ss a0.Sb.So.at_) else (ex N false (⟨#[]⟩) 0 0 0 0 (⟨#[]⟩) [] a0.Sr.SE a0.Sr.SC a0.Sr.SD a0.Sh.SI a0.Sh.SG a0.Sh.SA a0.Sh.SF a0.Sh.Se a0.Sh.SH a0.Sh.SJ a0.St a0.Sy a0.Sx a0.Sz a0.Sv a0.Su a0.Sb.m_.Se a0.Sb.m_.Sc a0.Sb.Si a0.Sb.Sq a0.Sf.Sf a0.Sf.Ss a0.Sb.So.at_))))))))
theorem EX {N:Nat}{a0:Rn}{a1:Rz}{r:Rj×Rn}(h:tq N a0 a1=some r):Okc RY 68 [pV B1 0,.agg #[iV a1.Sa,iV a1.N,iV a1.M,.string a1.S,U A15 n15 c15]] ([dK A15 n15 c15 a1.L,ac B1 79 (iU a0 B2 B9 A12 n12 c12 A13 n13 c13 A14 n14 c14),ac B2 99 [U A3 n3 c3,U A4 n4 c4,U A5 n5 c5,U A6 n6 c6,pV B7 0],aR A3 n3 c3 a0.Sb.m_.Se,aR A4 n4 c4 a0.Sb.m_.Sc,aw A5 n5 c5 a0.Sb.Si,aw A6 n6 c6 a0.Sb.Sq,ac B7 147 [.map (some M8)],aj bf bI M8 a0.Sb.So.at_,ac B9 118 [U A10 n10 c10,.map (some M11)],f9 A10 n10 c10 a0.Sf.Sf,aj ap dp M11 a0.Sf.Ss,ce A12 n12 c12 a0.St,gX A13 n13 c13 a0.Sv,ce A14 n14 c14 a0.Su]) (fun u post=> ∃A0 n0 c0 A1 n1 c1 A2 n2 c2 A3 n3 c3 A4 n4 c4 M5 A6 n6 c6 M7 A8 n8 c8 A9 n9 c9 A10 n10 c10,u=.agg #[.bool r.1.Ok,iV r.1.N,.string r.1.S,iV r.1.SO.Sa,iV r.1.SO.N,iV r.1.SO.Value.Sa,iV r.1.SO.Value.N,.string r.1.SO.Value.S,U A0 n0 c0]/\post=[eG A0 n0 c0 r.1.L,ac B1 79 (iU r.2 B2 B9 A8 n8 c8 A9 n9 c9 A10 n10 c10),ac B2 99 [U A1 n1 c1,U A2 n2 c2,U A3 n3 c3,U A4 n4 c4,pV B7 0],aR A1 n1 c1 r.2.Sb.m_.Se,aR A2 n2 c2 r.2.Sb.m_.Sc,aw A3 n3 c3 r.2.Sb.Si,aw A4 n4 c4 r.2.Sb.Sq,ac B7 147 [.map (some M5)],aj bf bI M5 r.2.Sb.So.at_,ac B9 118 [U A6 n6 c6,.map (some M7)],f9 A6 n6 c6 r.2.Sf.Sf,aj ap dp M7 r.2.Sf.Ss,ce A8 n8 c8 r.2.St,gX A9 n9 c9 r.2.Sv,ce A10 n10 c10 r.2.Su]):=by
 refine cG Tryz.func68 ?_;intro U7
 refine iD fun d0=> ?_
 intro c7;refine ab ?_;refine ao (fun s L=> ∃m3 p21 m4 m5 m6 m7 m8 m9 n7 o0 o1 o2 p0 p1 p2 p3 p4 p5 p6 p7 p8 q0 q1 q2 q3 q4 q5 q6 q7 q8 q9 r0 r1 r2 r3 r4 r5 r6 s0 s1 s2 s3 s4 s5 s6 s7 s8 s9 t1 t2 u0 u1 u2 u3 u4 u5 u6 u7 u8 u9,ex N m3 p21 m4 m5 m6 m7 m8 m9 n7 o0 o1 o2 p0 p1 p2 p3 p4 p5 p6 p7 p8 q0 q1 q2 q3 q4 q5 q6 q7 q8 q9=some r/\s=[(4,pV d0 0),(5,pV c7 0)]/\L=[ac d0 56 [.bool false,iV 0,.string (⟨#[]⟩),iV 0,iV 0,iV 0,iV 0,.string (⟨#[]⟩),U none 0 0],eG r0 r1 r2 m9,ac c7 56 [.bool m3,iV 0,.string p21,iV m4,iV m5,iV m6,iV m7,.string m8,U r0 r1 r2],ce r3 r4 r5 p6,gX r6 s0 s1 q1,ce s2 s3 s4 q2,ac B1 79 [iV n7,iV o0,iV o1,iV o2,iV p0,iV p1,iV p2,iV p3,iV p4,iV p5,.nilIface,pV B2 0,pV B9 0,U r3 r4 r5,iV p7,iV p8,iV q0,U r6 s0 s1,U s2 s3 s4],aR s5 s6 s7 q3,aR s8 s9 t1 q4,aw t2 u0 u1 q5,aw u2 u3 u4 q6,ac B2 99 [U s5 s6 s7,U s8 s9 t1,U t2 u0 u1,U u2 u3 u4,pV B7 0],f9 u5 u6 u7 q7,aj ap dp u8 q8,ac B9 118 [U u5 u6 u7,.map (some u8)],aj bf bI u9 q9,ac B7 147 [.map (some u9)]]) ?_ ?_
 ·refine fd h ?_ ?_<;>intro h
  ·refine ab ?_;obtain ⟨b1,k,h⟩:=aa h;refine gD (oC (uO k)) ?_;rintro _ _ ⟨_,⟨V1,V2,V4,V5,V6,V7,V8,V9,W0,W1,W2,W3,W4,W5,W7,W8,W9,X0,X1,X2,X3,X4,X5,X6,X7,X8,rfl,rfl⟩,rfl⟩;refine ab ?_;exact ⟨_,_,⟨false,⟨#[]⟩,0,0,0,0,⟨#[]⟩,[],b1.Sr.SE,b1.Sr.SC,b1.Sr.SD,b1.Sh.SI,b1.Sh.SG,b1.Sh.SA,b1.Sh.SF,b1.Sh.Se,b1.Sh.SH,b1.Sh.SJ,b1.St,b1.Sy,b1.Sx,b1.Sz,b1.Sv,b1.Su,b1.Sb.m_.Se,b1.Sb.m_.Sc,b1.Sb.Si,b1.Sb.Sq,b1.Sf.Sf,b1.Sf.Ss,b1.Sb.So.at_,none,0,0,X0,X1,X2,X3,X4,X5,X6,X7,X8,V1,V2,V4,V5,V6,V7,V8,V9,W0,W1,W2,W3,W5,W7,W8,W9,W4,h,J,J⟩,sA,(bh (eT .i64) 3 _).trans (cS [16,0,15,12,13,14,1,3,4,5,6,2,10,11,9,8,7] 19)⟩
  refine fd h ?_ ?_<;>intro h
  ·refine ab ?_;obtain ⟨b2,k,h⟩:=aa h;refine gD (oC (mZ k)) ?_;rintro _ _ ⟨_,⟨X9,Y0,Y1,Y2,Y3,Y4,Y5,Y6,Y7,Y8,Y9,Z0,Z1,Z2,Z3,Z4,Z5,Z6,Z7,Z8,Z9,Th,Ti,Tj,Tl,Tn,rfl,rfl⟩,rfl⟩;refine ab ?_;exact ⟨_,_,⟨false,⟨#[]⟩,0,0,0,0,⟨#[]⟩,[],b2.Sr.SE,b2.Sr.SC,b2.Sr.SD,b2.Sh.SI,b2.Sh.SG,b2.Sh.SA,b2.Sh.SF,b2.Sh.Se,b2.Sh.SH,b2.Sh.SJ,b2.St,b2.Sy,b2.Sx,b2.Sz,b2.Sv,b2.Su,b2.Sb.m_.Se,b2.Sb.m_.Sc,b2.Sb.Si,b2.Sb.Sq,b2.Sf.Sf,b2.Sf.Ss,b2.Sb.So.at_,none,0,0,Z6,Z7,Z8,Z9,Th,Ti,Tj,Tl,Tn,X9,Y0,Y1,Y2,Y3,Y4,Y5,Y6,Y7,Y8,Y9,Z0,Z2,Z3,Z4,Z5,Z1,h,J,J⟩,sA,(bh (eT .i64) 3 _).trans (cS [16,0,15,12,13,14,1,3,4,5,6,2,10,11,9,8,7] 19)⟩
  refine fd h ?_ ?_<;>intro h
  ·refine ab ?_;obtain ⟨a2,k,h⟩:=aa h;refine gD (oC (pg k)) ?_;rintro _ _ ⟨_,⟨j6,j7,j8,j9,k0,k1,k2,k3,k4,k5,k6,k7,k8,k9,l0,l1,l2,l3,l4,l5,l6,l7,l8,l9,m0,m1,rfl,rfl⟩,rfl⟩;refine fd h ?_ ?_<;>intro h
   ·refine ab ?_;obtain ⟨TE,k,h⟩:=aa h
    refine Ew (oR (bY k)) fun TF TG TH TI TJ TK=> ?_
    intro TL;refine ab ?_;refine ao (fun s L=> ∃m2,tp N a2 m2=some r/\s=[(4,pV d0 0),(5,pV c7 0)]/\L=[ac d0 56 [.bool false,iV 0,.string (⟨#[]⟩),iV 0,iV 0,iV 0,iV 0,.string (⟨#[]⟩),U none 0 0],ac c7 56 [.bool false,iV 0,.string m2,iV a2.1.Sa,iV a2.1.N,iV a2.1.Value.Sa,iV a2.1.Value.N,.string a2.1.Value.S,U none 0 0],ce l3 l4 l5 a2.2.St,gX l6 l7 l8 a2.2.Sv,ce l9 m0 m1 a2.2.Su,ac B1 79 (iU a2.2 B2 B9 l3 l4 l5 l6 l7 l8 l9 m0 m1),aR j6 j7 j8 a2.2.Sb.m_.Se,aR j9 k0 k1 a2.2.Sb.m_.Sc,aw k2 k3 k4 a2.2.Sb.Si,aw k5 k6 k7 a2.2.Sb.Sq,ac B2 99 [U j6 j7 j8,U j9 k0 k1,U k2 k3 k4,U k5 k6 k7,pV B7 0],f9 k9 l0 l1 a2.2.Sf.Sf,aj ap dp l2 a2.2.Sf.Ss,ac B9 118 [U k9 l0 l1,.map (some l2)],aj bf bI k8 a2.2.Sb.So.at_,ac B7 147 [.map (some k8)]]) ?_ ?_
    ·refine fd h ?_ ?_<;>intro h
     ·refine ab ?_;obtain ⟨TM,v1,v2,To,h⟩:=bG h;refine ab ?_;refine Dv (sT 1 J aI J (bP v1 v2) HD) ?_;exact jN
     exact jY
    rintro _ _ ⟨m2,h,rfl,rfl⟩;refine ab ?_;exact ⟨_,_,⟨false,m2,a2.1.Sa,a2.1.N,0,0,⟨#[]⟩,[],a2.2.Sr.SE,a2.2.Sr.SC,a2.2.Sr.SD,a2.2.Sh.SI,a2.2.Sh.SG,a2.2.Sh.SA,a2.2.Sh.SF,a2.2.Sh.Se,a2.2.Sh.SH,a2.2.Sh.SJ,a2.2.St,a2.2.Sy,a2.2.Sx,a2.2.Sz,a2.2.Sv,a2.2.Su,a2.2.Sb.m_.Se,a2.2.Sb.m_.Sc,a2.2.Sb.Si,a2.2.Sb.Sq,a2.2.Sf.Sf,a2.2.Sf.Ss,a2.2.Sb.So.at_,none,0,0,l3,l4,l5,l6,l7,l8,l9,m0,m1,j6,j7,j8,j9,k0,k1,k2,k3,k4,k5,k6,k7,k9,l0,l1,l2,k8,h,J,J⟩,sA,(bh (eT .i64) 3 _).trans (cS [1,0,2,3,4,5,6,7,8,9,10,11,12,13,14,15,16] 17)⟩
   refine ab ?_;exact ⟨_,_,⟨false,⟨#[]⟩,a2.1.Sa,a2.1.N,a2.1.Value.Sa,a2.1.Value.N,a2.1.Value.S,[],a2.2.Sr.SE,a2.2.Sr.SC,a2.2.Sr.SD,a2.2.Sh.SI,a2.2.Sh.SG,a2.2.Sh.SA,a2.2.Sh.SF,a2.2.Sh.Se,a2.2.Sh.SH,a2.2.Sh.SJ,a2.2.St,a2.2.Sy,a2.2.Sx,a2.2.Sz,a2.2.Sv,a2.2.Su,a2.2.Sb.m_.Se,a2.2.Sb.m_.Sc,a2.2.Sb.Si,a2.2.Sb.Sq,a2.2.Sf.Sf,a2.2.Sf.Ss,a2.2.Sb.So.at_,none,0,0,l3,l4,l5,l6,l7,l8,l9,m0,m1,j6,j7,j8,j9,k0,k1,k2,k3,k4,k5,k6,k7,k9,l0,l1,l2,k8,h,J,J⟩,sA,(bh (eT .i64) 3 _).trans (cS [16,0,15,12,13,14,1,3,4,5,6,2,10,11,9,8,7] 19)⟩
  refine fd h ?_ ?_<;>intro h
  ·refine ab ?_;refine ao (fun s L=> ∃h8 h9 i0 i1,oV N a0 h8=some r/\s=[(0,pV B1 0),(4,pV d0 0),(5,pV c7 0),(7,U h9 i0 i1)]/\L=[aw h9 i0 i1 h8,ce A12 n12 c12 a0.St,gX A13 n13 c13 a0.Sv,ce A14 n14 c14 a0.Su,ac B1 79 (iU a0 B2 B9 A12 n12 c12 A13 n13 c13 A14 n14 c14),ac d0 56 [.bool false,iV 0,.string (⟨#[]⟩),iV 0,iV 0,iV 0,iV 0,.string (⟨#[]⟩),U none 0 0],ac c7 56 [.bool false,iV 0,.string (⟨#[]⟩),iV 0,iV 0,iV 0,iV 0,.string (⟨#[]⟩),U none 0 0],aR A3 n3 c3 a0.Sb.m_.Se,aR A4 n4 c4 a0.Sb.m_.Sc,aw A5 n5 c5 a0.Sb.Si,aw A6 n6 c6 a0.Sb.Sq,ac B2 99 [U A3 n3 c3,U A4 n4 c4,U A5 n5 c5,U A6 n6 c6,pV B7 0],f9 A10 n10 c10 a0.Sf.Sf,aj ap dp M11 a0.Sf.Ss,ac B9 118 [U A10 n10 c10,.map (some M11)],aj bf bI M8 a0.Sb.So.at_,ac B7 147 [.map (some M8)]]) ?_ ?_
   ·refine ab ?_;refine aW (fun m s L=> ∃d6 e2 i2 i8 j0,oU N a0 a1 m d6 e2=some r/\s=[(0,pV B1 0),(3,pV U7 0),(4,pV d0 0),(5,pV c7 0),(7,U i2 i8 j0),(8,iV e2)]/\L=[aw i2 i8 j0 d6,ce A12 n12 c12 a0.St,gX A13 n13 c13 a0.Sv,ce A14 n14 c14 a0.Su,ac B1 79 (iU a0 B2 B9 A12 n12 c12 A13 n13 c13 A14 n14 c14),dK A15 n15 c15 a1.L,ac U7 53 [iV a1.Sa,iV a1.N,iV a1.M,.string a1.S,U A15 n15 c15],ac d0 56 [.bool false,iV 0,.string (⟨#[]⟩),iV 0,iV 0,iV 0,iV 0,.string (⟨#[]⟩),U none 0 0],ac c7 56 [.bool false,iV 0,.string (⟨#[]⟩),iV 0,iV 0,iV 0,iV 0,.string (⟨#[]⟩),U none 0 0],aR A3 n3 c3 a0.Sb.m_.Se,aR A4 n4 c4 a0.Sb.m_.Sc,aw A5 n5 c5 a0.Sb.Si,aw A6 n6 c6 a0.Sb.Sq,ac B2 99 [U A3 n3 c3,U A4 n4 c4,U A5 n5 c5,U A6 n6 c6,pV B7 0],f9 A10 n10 c10 a0.Sf.Sf,aj ap dp M11 a0.Sf.Ss,ac B9 118 [U A10 n10 c10,.map (some M11)],aj bf bI M8 a0.Sb.So.at_,ac B7 147 [.map (some M8)]]) N _ _ ⟨[],0,none,0,0,h,J,J⟩ sA ((bh aF 23 _).trans (cS [0,16,17,18,5,4,3,2,1,7,8,9,10,6,14,15,13,12,11] 19)) ?_;rintro (_|v6) _ _ ⟨d6,e2,i2,i8,j0,h,rfl,rfl⟩
    ·exact am h
    rw [oU.eq_2] at h;refine sZ ?_;refine gH J h ?_ ?_<;>intro h
    ·refine sY ?_;obtain ⟨j1,U8,U9,V0,h⟩:=bG h;refine ab ?_;refine gD (aY (R:=aF) (vss:=[[iV 3,iV j1,.string (⟨#[]⟩)]]) (xs:=[(⟨3,j1,⟨#[]⟩⟩:Ry)]) J (rC _ _ _) J J (fun _ _ hr=> .cons J All2.nil)) ?_;rintro _ _ ⟨Tp,Ts,Tt,rfl,rfl⟩;obtain ⟨v7,h⟩:=ah h
     refine nr (aX 1 0 J J aI J J hU yW J J v7) fun v8 w1 w2=> ?_
     obtain ⟨Tu,h⟩:=ah h;refine ab ?_;exact ⟨v6,_,_,RO _,⟨d6++([(⟨3,j1,⟨#[]⟩⟩:Ry)]:List Ry),e2+1,v8,w1,w2,h,J,J⟩,sA,cS [1,2,3,4,5,6,7,8,9,10,11,12,13,14,15,16,17,18,19] 20⟩
    exact jY
   rintro _ _ ⟨h8,h9,i0,i1,h,rfl,rfl⟩;refine ab ?_;refine nu (bJ 0 J) ?_;refine ab ?_;obtain ⟨a7,k,h⟩:=aa h;refine gD (oC (tw k)) ?_;rintro _ _ ⟨_,⟨w3,w4,w5,w6,w7,w8,w9,x0,x1,x2,x3,x4,x5,x6,x7,x8,x9,y0,y1,y2,y3,y4,y5,y6,y7,y8,rfl,rfl⟩,rfl⟩;refine ab ?_;exact ⟨_,_,⟨false,⟨#[]⟩,0,0,0,0,⟨#[]⟩,[],a7.Sr.SE,a7.Sr.SC,a7.Sr.SD,a7.Sh.SI,a7.Sh.SG,a7.Sh.SA,a7.Sh.SF,a7.Sh.Se,a7.Sh.SH,a7.Sh.SJ,a7.St,a7.Sy,a7.Sx,a7.Sz,a7.Sv,a7.Su,a7.Sb.m_.Se,a7.Sb.m_.Sc,a7.Sb.Si,a7.Sb.Sq,a7.Sf.Sf,a7.Sf.Ss,a7.Sb.So.at_,none,0,0,y0,y1,y2,y3,y4,y5,y6,y7,y8,w3,w4,w5,w6,w7,w8,w9,x0,x1,x2,x3,x4,x6,x7,x8,x9,x5,h,J,J⟩,sA,(bh (eT .i64) 3 _).trans (cS [16,0,17,12,13,14,1,3,4,5,6,2,10,11,9,8,7] 18)⟩
  refine fd h ?_ ?_<;>intro h
  ·refine ab ?_;obtain ⟨a6,k,h⟩:=aa h;refine gD (oC (tx k)) ?_;rintro _ _ ⟨_,⟨b3,b4,b5,e3,e4,e5,e6,e7,e8,e9,f1,f2,f3,f4,g0,g1,g2,g3,g4,g5,g6,g7,g8,g9,h0,h1,h2,h3,h4,rfl,rfl⟩,rfl⟩;refine ab ?_;refine aW (fun m s L=> ∃b6 h5 b7 b8 b9,oT N a6 m b6 h5=some r/\s=[(4,pV d0 0),(5,pV c7 0),(9,U b3 b4 b5),(11,iV b6)]/\L=[aw b3 b4 b5 a6.1,ac d0 56 [.bool false,iV 0,.string (⟨#[]⟩),iV 0,iV 0,iV 0,iV 0,.string (⟨#[]⟩),U none 0 0],eG b7 b8 b9 h5,ac c7 56 [.bool a6.2.1,iV 0,.string (⟨#[]⟩),iV 0,iV 0,iV 0,iV 0,.string (⟨#[]⟩),U b7 b8 b9],ce g6 g7 g8 a6.2.2.St,gX g9 h0 h1 a6.2.2.Sv,ce h2 h3 h4 a6.2.2.Su,ac B1 79 (iU a6.2.2 B2 B9 g6 g7 g8 g9 h0 h1 h2 h3 h4),aR e3 e4 e5 a6.2.2.Sb.m_.Se,aR e6 e7 e8 a6.2.2.Sb.m_.Sc,aw e9 f1 f2 a6.2.2.Sb.Si,aw f3 f4 g0 a6.2.2.Sb.Sq,ac B2 99 [U e3 e4 e5,U e6 e7 e8,U e9 f1 f2,U f3 f4 g0,pV B7 0],f9 g2 g3 g4 a6.2.2.Sf.Sf,aj ap dp g5 a6.2.2.Sf.Ss,ac B9 118 [U g2 g3 g4,.map (some g5)],aj bf bI g1 a6.2.2.Sb.So.at_,ac B7 147 [.map (some g1)]]) N _ _ ⟨0,[],none,0,0,h,J,J⟩ sA ((bh (eT .i64) 3 _).trans (cS [1,17,0,16,13,14,15,2,4,5,6,7,3,11,12,10,9,8] 20)) ?_;rintro (_|Tv) _ _ ⟨b6,h5,b7,b8,b9,h,rfl,rfl⟩
   ·exact am h
   rw [oT.eq_2] at h;refine sZ ?_;refine gH J h ?_ ?_<;>intro h
   ·refine sY ?_;obtain ⟨d1,h6,h7,j2,h⟩:=bG h;refine ic (t:=[(4,pV d0 0),(5,pV c7 0),(9,U b3 b4 b5),(11,iV b6)]) ?_ mw (ae _)
    refine jv I 8 [] [1,7] [96,97,98,99,100,101,102,103] [[],[0],[],[],[2,3],[4],[5],[6]] [aV (pV c7 8),
aV (U b7 b8 b9),
aV (U b3 b4 b5),
aV (iV b6),
aV (d5 (U b3 b4 b5) b6.toNat 3 0),
aV (d5 (U b3 b4 b5) b6.toNat 3 1),
aV (iV d1.N),
aX3 (fun (d2:Option Addr) (d3 d4:Nat)=> U d2 d3 d4) (fun d2 d3 d4=> [eG d2 d3 d4 ([d1.N]:List Int)])] [] (ae _) (mf) I rfl rfl ?_ ?_ ?_
    ·exact me
    ·refine ad J ?_ ?_
     ·refine uz (aY (R:=(eT .i64)) (vss:=[[iV d1.N]]) (xs:=[d1.N]) J (lF _) J J (fun _ _ hr=> .cons J All2.nil)) J ?_;rintro _ _ ⟨y9,z1,z2,rfl,rfl⟩;exact AE y9 z1 z2 (ae _)
     refine ad J ?_ ?_
     ·exact er (iO (u:=iV d1.N) 0 J aI J j2 su (fun _ _ _ h=>by rw [show _=_ from h];rfl)) J (aQ J (ae _))
     refine ad J ?_ ?_
     ·exact er (sT 0 J aI J (bP h6 h7) ww) J (aQ J (ae _))
     refine ad J ?_ ?_
     ·exact er (gn 0 J aI J J hU size23.out h6 h7) J (aQ J (ae _))
     refine ad J ?_ ?_
     ·exact ci (bo J) J (aQ J (ae _))
     refine ad J ?_ ?_
     ·exact ci (bo J) J (aQ J (ae _))
     refine ad J ?_ ?_
     ·exact er (bL 3 J J Aa J) J (aQ J (ae _))
     refine ad J ?_ ?_
     ·exact ci (gk J ED) J (aQ J (ae _))
     exact eJ
    intro d2 d3 d4;refine oe (t:=[(97,U b7 b8 b9),(103,U d2 d3 d4),(4,pV d0 0),(5,pV c7 0),(9,U b3 b4 b5),(11,iV b6)]) (L':=[eG d2 d3 d4 ([d1.N]:List Int),aw b3 b4 b5 a6.1,ac d0 56 [.bool false,iV 0,.string (⟨#[]⟩),iV 0,iV 0,iV 0,iV 0,.string (⟨#[]⟩),U none 0 0],eG b7 b8 b9 h5,ac c7 56 [.bool a6.2.1,iV 0,.string (⟨#[]⟩),iV 0,iV 0,iV 0,iV 0,.string (⟨#[]⟩),U b7 b8 b9],ce g6 g7 g8 a6.2.2.St,gX g9 h0 h1 a6.2.2.Sv,ce h2 h3 h4 a6.2.2.Su,ac B1 79 (iU a6.2.2 B2 B9 g6 g7 g8 g9 h0 h1 h2 h3 h4),aR e3 e4 e5 a6.2.2.Sb.m_.Se,aR e6 e7 e8 a6.2.2.Sb.m_.Sc,aw e9 f1 f2 a6.2.2.Sb.Si,aw f3 f4 g0 a6.2.2.Sb.Sq,ac B2 99 [U e3 e4 e5,U e6 e7 e8,U e9 f1 f2,U f3 f4 g0,pV B7 0],f9 g2 g3 g4 a6.2.2.Sf.Sf,aj ap dp g5 a6.2.2.Sf.Ss,ac B9 118 [U g2 g3 g4,.map (some g5)],aj bf bI g1 a6.2.2.Sb.So.at_,ac B7 147 [.map (some g1)]]) ?_ mw (ae _);obtain ⟨A7,h⟩:=ah h;refine pz 8 J I (aX 3 0 J J aI J J t0 ES J J A7) J J J ?_;rintro _ _ ⟨j3,j4,j5,rfl,rfl⟩;refine yU 9 J I (gk J ED) J J J ?_
    refine yT 10 J I (ax (us:=[U j3 j4 j5]) (cs':=[.bool a6.2.1,iV 0,.string (⟨#[]⟩),iV 0,iV 0,iV 0,iV 0,.string (⟨#[]⟩),U j3 j4 j5]) 4 J J J J size39.out J J J) J J ?_;rintro _ _ rfl;refine ms I ?_;refine ab ?_;obtain ⟨Tw,h⟩:=ah h;exact lY
   exact jY
  refine fd h ?_ ?_<;>intro h
  ·refine ab ?_;obtain ⟨Tx,k,h⟩:=aa h;refine gD (oR (F9 k)) ?_;rintro _ _ ⟨_,⟨Ty,Tz,TA,TB,TC,TD,rfl,rfl⟩,rfl⟩;refine nu (bJ 0 J) ?_;refine ab ?_;refine nu (bJ 1 J) ?_;obtain ⟨a8,k,h⟩:=aa h;refine gD (oC (eM k)) ?_;rintro _ _ ⟨_,⟨B0,B3,B4,B5,B8,L0,L1,L2,L3,L4,L5,L6,L7,L8,L9,M0,M1,M2,M3,M4,M6,M9,Q1,R6,R7,R8,rfl,rfl⟩,rfl⟩;refine ab ?_;exact ⟨_,_,⟨false,⟨#[]⟩,0,0,0,0,⟨#[]⟩,[],a8.2.Sr.SE,a8.2.Sr.SC,a8.2.Sr.SD,a8.2.Sh.SI,a8.2.Sh.SG,a8.2.Sh.SA,a8.2.Sh.SF,a8.2.Sh.Se,a8.2.Sh.SH,a8.2.Sh.SJ,a8.2.St,a8.2.Sy,a8.2.Sx,a8.2.Sz,a8.2.Sv,a8.2.Su,a8.2.Sb.m_.Se,a8.2.Sb.m_.Sc,a8.2.Sb.Si,a8.2.Sb.Sq,a8.2.Sf.Sf,a8.2.Sf.Ss,a8.2.Sb.So.at_,none,0,0,M2,M3,M4,M6,M9,Q1,R6,R7,R8,B0,B3,B4,B5,B8,L0,L1,L2,L3,L4,L5,L6,L8,L9,M0,M1,L7,h,J,J⟩,sA,(bh (eT .i64) 3 _).trans (cS [18,0,17,12,13,14,1,3,4,5,6,2,10,11,9,8,7] 21)⟩
  refine fd h ?_ ?_<;>intro h
  ·refine ab ?_;obtain ⟨b0,k,h⟩:=aa h;refine gD (oC (wI k)) ?_;rintro _ _ ⟨_,⟨R9,S0,S1,S2,S3,S4,S5,S6,S7,S8,S9,T1,T2,T3,T4,T5,T6,T7,T8,T9,U0,U1,U2,U3,U4,U5,rfl,rfl⟩,rfl⟩;refine ab ?_;exact ⟨_,_,⟨false,⟨#[]⟩,0,0,0,0,⟨#[]⟩,[],b0.Sr.SE,b0.Sr.SC,b0.Sr.SD,b0.Sh.SI,b0.Sh.SG,b0.Sh.SA,b0.Sh.SF,b0.Sh.Se,b0.Sh.SH,b0.Sh.SJ,b0.St,b0.Sy,b0.Sx,b0.Sz,b0.Sv,b0.Su,b0.Sb.m_.Se,b0.Sb.m_.Sc,b0.Sb.Si,b0.Sb.Sq,b0.Sf.Sf,b0.Sf.Ss,b0.Sb.So.at_,none,0,0,T7,T8,T9,U0,U1,U2,U3,U4,U5,R9,S0,S1,S2,S3,S4,S5,S6,S7,S8,S9,T1,T3,T4,T5,T6,T2,h,J,J⟩,sA,(bh (eT .i64) 3 _).trans (cS [16,0,15,12,13,14,1,3,4,5,6,2,10,11,9,8,7] 19)⟩
  refine fd h ?_ ?_<;>intro h
  ·refine ab ?_;obtain ⟨U6,k,h⟩:=aa h;refine jQ (oR (rJ k)) ?_;exact ⟨_,_,⟨false,U6,0,0,0,0,⟨#[]⟩,[],a0.Sr.SE,a0.Sr.SC,a0.Sr.SD,a0.Sh.SI,a0.Sh.SG,a0.Sh.SA,a0.Sh.SF,a0.Sh.Se,a0.Sh.SH,a0.Sh.SJ,a0.St,a0.Sy,a0.Sx,a0.Sz,a0.Sv,a0.Su,a0.Sb.m_.Se,a0.Sb.m_.Sc,a0.Sb.Si,a0.Sb.Sq,a0.Sf.Sf,a0.Sf.Ss,a0.Sb.So.at_,none,0,0,A12,n12,c12,A13,n13,c13,A14,n14,c14,A3,n3,c3,A4,n4,c4,A5,n5,c5,A6,n6,c6,A10,n10,c10,M11,M8,h,J,J⟩,sA,(bh (eT .i64) 3 _).trans (cS [2,0,1,16,17,18,5,7,8,9,10,6,14,15,13,12,11] 19)⟩
  refine ab ?_;exact ⟨_,_,⟨false,⟨#[]⟩,0,0,0,0,⟨#[]⟩,[],a0.Sr.SE,a0.Sr.SC,a0.Sr.SD,a0.Sh.SI,a0.Sh.SG,a0.Sh.SA,a0.Sh.SF,a0.Sh.Se,a0.Sh.SH,a0.Sh.SJ,a0.St,a0.Sy,a0.Sx,a0.Sz,a0.Sv,a0.Su,a0.Sb.m_.Se,a0.Sb.m_.Sc,a0.Sb.Si,a0.Sb.Sq,a0.Sf.Sf,a0.Sf.Ss,a0.Sb.So.at_,none,0,0,A12,n12,c12,A13,n13,c13,A14,n14,c14,A3,n3,c3,A4,n4,c4,A5,n5,c5,A6,n6,c6,A10,n10,c10,M11,M8,h,J,J⟩,sA,(bh (eT .i64) 3 _).trans (cS [2,0,1,16,17,18,5,7,8,9,10,6,14,15,13,12,11] 19)⟩
 rintro _ _ ⟨m3,p21,m4,m5,m6,m7,m8,m9,n7,o0,o1,o2,p0,p1,p2,p3,p4,p5,p6,p7,p8,q0,q1,q2,q3,q4,q5,q6,q7,q8,q9,r0,r1,r2,r3,r4,r5,r6,s0,s1,s2,s3,s4,s5,s6,s7,s8,s9,t1,t2,u0,u1,u2,u3,u4,u5,u6,u7,u8,u9,h,rfl,rfl⟩;exact eY
end
section
variable {A1 A10 A12 A13 A14 A15 A16 A2 A3 A4 A5 A6 A8 A9:Option Addr} {B1 B2 B6 B7 B9 M11 M7 M8 c1 c10 c12 c13 c14 c15 c16 c2 c3 c4 c5 c6 c8 c9 n1 n10 n12 n13 n14 n15 n16 n2 n3 n4 n5 n6 n8 n9:Nat}
open Go.RowKit Asn
set_option maxRecDepth 20000
def gN (N:Nat)(a1:Bool)(p21:Int)(a2:Int)(a6:Int)(a7:Int)(a8:Int)(b0:Int)(b1:Int)(b2:Int)(b3:Int)(b4:Int)(b5:Int)(b6:RV)(b7:Int)(b8:Int)(b9:Int)(c0:List RF)(c7:RV)(d0:RS)(d1:RS)(d2:RJ)(d3:RJ)(d4:List RI)(d6:(List (Rx×Int)))(e2:RU):Option (Rj×Rn):=
 some ((⟨a1,p21,⟨#[]⟩,(⟨0,0,(⟨0,0,⟨#[]⟩⟩:Ry)⟩:RH),[]⟩:Rj),(⟨(⟨a2,a6,a7⟩:RD),(⟨a8,b0,b1,b2,b3,b4,b5⟩:Rs),(),(⟨(⟨d0,d1⟩:Rp),d2,d3,(⟨e2⟩:Rr)⟩:RG),(⟨d4,d6⟩:Rl),b6,b7,b8,b9,c0,c7⟩:Rn))
def qy (N:Nat)(a0:Rn)(a1:Rz):Option (Rj×Rn):=
 bif decide (a1.Sa=0) then ((fe N a0).bind fun b1=>gN N b1.1 0 b1.2.Sr.SE b1.2.Sr.SC b1.2.Sr.SD b1.2.Sh.SI b1.2.Sh.SG b1.2.Sh.SA b1.2.Sh.SF b1.2.Sh.Se b1.2.Sh.SH b1.2.Sh.SJ b1.2.St b1.2.Sy b1.2.Sx b1.2.Sz b1.2.Sv b1.2.Su b1.2.Sb.m_.Se b1.2.Sb.m_.Sc b1.2.Sb.Si b1.2.Sb.Sq b1.2.Sf.Sf b1.2.Sf.Ss b1.2.Sb.So.at_) else (bif decide (a1.Sa=1) then ((jn N a0).bind fun b2=>gN N b2.1 0 b2.2.Sr.SE b2.2.Sr.SC b2.2.Sr.SD b2.2.Sh.SI b2.2.Sh.SG b2.2.Sh.SA b2.2.Sh.SF b2.2.Sh.Se b2.2.Sh.SH b2.2.Sh.SJ b2.2.St b2.2.Sy b2.2.Sx b2.2.Sz b2.2.Sv b2.2.Su b2.2.Sb.m_.Se b2.2.Sb.m_.Sc b2.2.Sb.Si b2.2.Sb.Sq b2.2.Sf.Sf b2.2.Sf.Ss b2.2.Sb.So.at_) else (bif decide (a1.Sa=2) then ((jm N a0).bind fun b5=>gN N false 0 b5.Sr.SE b5.Sr.SC b5.Sr.SD b5.Sh.SI b5.Sh.SG b5.Sh.SA b5.Sh.SF b5.Sh.Se b5.Sh.SH b5.Sh.SJ b5.St b5.Sy b5.Sx b5.Sz b5.Sv b5.Su b5.Sb.m_.Se b5.Sb.m_.Sc b5.Sb.Si b5.Sb.Sq b5.Sf.Sf b5.Sf.Ss b5.Sb.So.at_) else (bif decide (a1.Sa=3) then ((uC N).bind fun b7=>(df N a0 b7).bind fun b3=>gN N b3.2.1 0 b3.2.2.Sr.SE b3.2.2.Sr.SC b3.2.2.Sr.SD b3.2.2.Sh.SI b3.2.2.Sh.SG b3.2.2.Sh.SA b3.2.2.Sh.SF b3.2.2.Sh.Se b3.2.2.Sh.SH b3.2.2.Sh.SJ b3.2.2.St b3.2.2.Sy b3.2.2.Sx b3.2.2.Sz b3.2.2.Sv b3.2.2.Su b3.2.2.Sb.m_.Se b3.2.2.Sb.m_.Sc b3.2.2.Sb.Si b3.2.2.Sb.Sq b3.2.2.Sf.Sf b3.2.2.Sf.Ss b3.2.2.Sb.So.at_) else (bif decide (a1.Sa=4) then ((iG N a0 a1.S).bind fun b4=>gN N false b4.1.N b4.2.Sr.SE b4.2.Sr.SC b4.2.Sr.SD b4.2.Sh.SI b4.2.Sh.SG b4.2.Sh.SA b4.2.Sh.SF b4.2.Sh.Se b4.2.Sh.SH b4.2.Sh.SJ b4.2.St b4.2.Sy b4.2.Sx b4.2.Sz b4.2.Sv b4.2.Su b4.2.Sb.m_.Se b4.2.Sb.m_.Sc b4.2.Sb.Si b4.2.Sb.Sq b4.2.Sf.Sf b4.2.Sf.Ss b4.2.Sb.So.at_) else (bif decide (a1.Sa=5) then ((ji N a0).bind fun a7=>gN N false 0 a7.Sr.SE a7.Sr.SC a7.Sr.SD a7.Sh.SI a7.Sh.SG a7.Sh.SA a7.Sh.SF a7.Sh.Se a7.Sh.SH a7.Sh.SJ a7.St a7.Sy a7.Sx a7.Sz a7.Sv a7.Su a7.Sb.m_.Se a7.Sb.m_.Sc a7.Sb.Si a7.Sb.Sq a7.Sf.Sf a7.Sf.Ss a7.Sb.So.at_) else (bif decide (a1.Sa=9) then ((iJ N a0 a1.N).bind fun a8=>gN N false 0 a8.Sr.SE a8.Sr.SC a8.Sr.SD a8.Sh.SI a8.Sh.SG a8.Sh.SA a8.Sh.SF a8.Sh.Se a8.Sh.SH a8.Sh.SJ a8.St a8.Sy a8.Sx a8.Sz a8.Sv a8.Su a8.Sb.m_.Se a8.Sb.m_.Sc a8.Sb.Si a8.Sb.Sq a8.Sf.Sf a8.Sf.Ss a8.Sb.So.at_) else (bif decide (a1.Sa=12) then ((iH N a0).bind fun a2=>gN N false a2.1 a2.2.Sr.SE a2.2.Sr.SC a2.2.Sr.SD a2.2.Sh.SI a2.2.Sh.SG a2.2.Sh.SA a2.2.Sh.SF a2.2.Sh.Se a2.2.Sh.SH a2.2.Sh.SJ a2.2.St a2.2.Sy a2.2.Sx a2.2.Sz a2.2.Sv a2.2.Su a2.2.Sb.m_.Se a2.2.Sb.m_.Sc a2.2.Sb.Si a2.2.Sb.Sq a2.2.Sf.Sf a2.2.Sf.Ss a2.2.Sb.So.at_) else (bif decide (a1.Sa=13) then ((jZ N a0 (⟨3,a1.N,⟨#[]⟩⟩:Ry)).bind fun a6=>gN N false a6.1 a6.2.Sr.SE a6.2.Sr.SC a6.2.Sr.SD a6.2.Sh.SI a6.2.Sh.SG a6.2.Sh.SA a6.2.Sh.SF a6.2.Sh.Se a6.2.Sh.SH a6.2.Sh.SJ a6.2.St a6.2.Sy a6.2.Sx a6.2.Sz a6.2.Sv a6.2.Su a6.2.Sb.m_.Se a6.2.Sb.m_.Sc a6.2.Sb.Si a6.2.Sb.Sq a6.2.Sf.Sf a6.2.Sf.Ss a6.2.Sb.So.at_) else (bif decide (a1.Sa=14) then ((kZ N a0 a1.N).bind fun b0=>gN N false 0 b0.Sr.SE b0.Sr.SC b0.Sr.SD b0.Sh.SI b0.Sh.SG b0.Sh.SA b0.Sh.SF b0.Sh.Se b0.Sh.SH b0.Sh.SJ b0.St b0.Sy b0.Sx b0.Sz b0.Sv b0.Su b0.Sb.m_.Se b0.Sb.m_.Sc b0.Sb.Si b0.Sb.Sq b0.Sf.Sf b0.Sf.Ss b0.Sb.So.at_) else ((tq N a0 a1).bind fun b6=>some (b6.1,b6.2)))))))))))
theorem C1 {N:Nat}{a0:Rn}{a1:Rz}{r:Rj×Rn}(h:qy N a0 a1=some r):Okc RY 24 [pV B1 0,.agg #[iV a1.Sa,iV a1.N,iV a1.M,.string a1.S,U A15 n15 c15]] ([dK A15 n15 c15 a1.L,ac B1 79 (iU a0 B2 B9 A12 n12 c12 A13 n13 c13 A14 n14 c14),ac B2 99 [U A3 n3 c3,U A4 n4 c4,U A5 n5 c5,U A6 n6 c6,pV B7 0],aR A3 n3 c3 a0.Sb.m_.Se,aR A4 n4 c4 a0.Sb.m_.Sc,aw A5 n5 c5 a0.Sb.Si,aw A6 n6 c6 a0.Sb.Sq,ac B7 147 [.map (some M8)],aj bf bI M8 a0.Sb.So.at_,ac B9 118 [U A10 n10 c10,.map (some M11)],f9 A10 n10 c10 a0.Sf.Sf,aj ap dp M11 a0.Sf.Ss,ce A12 n12 c12 a0.St,gX A13 n13 c13 a0.Sv,ce A14 n14 c14 a0.Su]) (fun u post=> ∃A0 n0 c0 A1 n1 c1 A2 n2 c2 A3 n3 c3 A4 n4 c4 M5 A6 n6 c6 M7 A8 n8 c8 A9 n9 c9 A10 n10 c10,u=.agg #[.bool r.1.Ok,iV r.1.N,.string r.1.S,iV r.1.SO.Sa,iV r.1.SO.N,iV r.1.SO.Value.Sa,iV r.1.SO.Value.N,.string r.1.SO.Value.S,U A0 n0 c0]/\post=[eG A0 n0 c0 r.1.L,ac B1 79 (iU r.2 B2 B9 A8 n8 c8 A9 n9 c9 A10 n10 c10),ac B2 99 [U A1 n1 c1,U A2 n2 c2,U A3 n3 c3,U A4 n4 c4,pV B7 0],aR A1 n1 c1 r.2.Sb.m_.Se,aR A2 n2 c2 r.2.Sb.m_.Sc,aw A3 n3 c3 r.2.Sb.Si,aw A4 n4 c4 r.2.Sb.Sq,ac B7 147 [.map (some M5)],aj bf bI M5 r.2.Sb.So.at_,ac B9 118 [U A6 n6 c6,.map (some M7)],f9 A6 n6 c6 r.2.Sf.Sf,aj ap dp M7 r.2.Sf.Ss,ce A8 n8 c8 r.2.St,gX A9 n9 c9 r.2.Sv,ce A10 n10 c10 r.2.Su]):=by
 refine cG Tryz.func24 ?_;intro U5
 refine iD fun h7=> ?_
 intro h8;refine ab ?_;refine ao (fun s L=> ∃a2 p21 a6 a7 a8 b0 b1 b2 b3 b4 b5 b6 b7 b8 b9 c7 d0 d1 d2 d3 d4 d6 e2 e3 e4 e5 e6 e7 e8 e9 f1 f2 f3 f4 g0 g1 g2 g3 g4 g5 g6 g7 g8 g9 h0 h1 h2 h3 h4 h5 h6,gN N a2 p21 a6 a7 a8 b0 b1 b2 b3 b4 b5 b6 b7 b8 b9 c7 d0 d1 d2 d3 d4 d6 e2 e3 e4=some r/\s=[(4,pV h7 0),(5,pV h8 0)]/\L=[ac h7 56 [.bool false,iV 0,.string (⟨#[]⟩),iV 0,iV 0,iV 0,iV 0,.string (⟨#[]⟩),U none 0 0],ac h8 56 [.bool a2,iV p21,.string (⟨#[]⟩),iV 0,iV 0,iV 0,iV 0,.string (⟨#[]⟩),U none 0 0],ce e5 e6 e7 b7,gX e8 e9 f1 d0,ce f2 f3 f4 d1,ac B1 79 [iV a6,iV a7,iV a8,iV b0,iV b1,iV b2,iV b3,iV b4,iV b5,iV b6,.nilIface,pV B2 0,pV B9 0,U e5 e6 e7,iV b8,iV b9,iV c7,U e8 e9 f1,U f2 f3 f4],aR g0 g1 g2 d2,aR g3 g4 g5 d3,aw g6 g7 g8 d4,aw g9 h0 h1 d6,ac B2 99 [U g0 g1 g2,U g3 g4 g5,U g6 g7 g8,U g9 h0 h1,pV B7 0],f9 h2 h3 h4 e2,aj ap dp h5 e3,ac B9 118 [U h2 h3 h4,.map (some h5)],aj bf bI h6 e4,ac B7 147 [.map (some h6)]]) ?_ ?_
 ·refine fd h ?_ ?_<;>intro h
  ·refine ab ?_;obtain ⟨U6,k,h⟩:=aa h;refine gD (oC (ma k)) ?_;rintro _ _ ⟨_,⟨U7,U8,U9,V0,V1,V2,V4,V5,V6,V7,V8,V9,W0,W1,W2,W3,W4,W5,W7,W8,W9,X0,X1,X2,X3,X4,rfl,rfl⟩,rfl⟩;exact jY
  refine fd h ?_ ?_<;>intro h
  ·refine ab ?_;obtain ⟨X5,k,h⟩:=aa h;refine gD (oC (uQ k)) ?_;rintro _ _ ⟨_,⟨X6,X7,X8,X9,Y0,Y1,Y2,Y3,Y4,Y5,Y6,Y7,Y8,Y9,Z0,Z1,Z2,Z3,Z4,Z5,Z6,Z7,Z8,Z9,Th,Ti,rfl,rfl⟩,rfl⟩;exact jY
  refine fd h ?_ ?_<;>intro h
  ·refine ab ?_;obtain ⟨Tj,k,h⟩:=aa h;refine gD (oC (uP k)) ?_;rintro _ _ ⟨_,⟨Tl,Tn,To,Tp,Ts,Tt,Tu,Tv,Tw,Tx,Ty,Tz,TA,TB,TC,TD,TE,TF,TG,TH,TI,TJ,TK,TL,TM,TN,rfl,rfl⟩,rfl⟩;exact jY
  refine fd h ?_ ?_<;>intro h
  ·refine ab ?_;obtain ⟨TO,k,h⟩:=aa h;refine gD (oR (D1 k)) ?_;rintro _ _ ⟨_,⟨TP,TQ,TR,TS,TT,TU,rfl,rfl⟩,rfl⟩;refine nu (bJ 0 J) ?_;refine ab ?_;refine nu (bJ 1 J) ?_;obtain ⟨TV,k,h⟩:=aa h;refine gD (oC (eL k)) ?_;rintro _ _ ⟨_,⟨TW,TX,TY,TZ,Ua,Ub,Uc,Ud,Ue,Uf,Ug,Uh,Ui,Uj,Uk,Ul,Um,Un,Uo,Uq,Ur,Us,Ut,Uu,Uv,Uw,rfl,rfl⟩,rfl⟩;exact jY
  refine fd h ?_ ?_<;>intro h
  ·refine ab ?_;obtain ⟨Ux,k,h⟩:=aa h;refine gD (oC (uw k)) ?_;rintro _ _ ⟨_,⟨Uy,Uz,UA,UB,UC,UD,h9,i0,i1,i2,i8,j0,j1,j2,j3,j4,j5,j6,j7,j8,j9,k0,k1,k2,k3,k4,rfl,rfl⟩,rfl⟩;refine fm (pu J (J3 _ _ _)) ?_;exact jN
  refine fd h ?_ ?_<;>intro h
  ·refine ab ?_;obtain ⟨k5,k,h⟩:=aa h;refine gD (oC (uN k)) ?_;rintro _ _ ⟨_,⟨k6,k7,k8,k9,l0,l1,l2,l3,l4,l5,l6,l7,l8,l9,m0,m1,m2,m3,m4,m5,m6,m7,m8,m9,n7,o0,rfl,rfl⟩,rfl⟩;exact jY
  refine fd h ?_ ?_<;>intro h
  ·refine ab ?_;obtain ⟨o1,k,h⟩:=aa h;refine gD (oC (uy k)) ?_;rintro _ _ ⟨_,⟨o2,p0,p1,p2,p3,p4,p5,p6,p7,p8,q0,q1,q2,q3,q4,q5,q6,q7,q8,q9,r0,r1,r2,r3,r4,r5,rfl,rfl⟩,rfl⟩;exact jY
  refine fd h ?_ ?_<;>intro h
  ·refine ab ?_;obtain ⟨r6,k,h⟩:=aa h;refine gD (oC (ux k)) ?_;rintro _ _ ⟨_,⟨s0,s1,s2,s3,s4,s5,s6,s7,s8,s9,t1,t2,u0,u1,u2,u3,u4,u5,u6,u7,u8,u9,v1,v2,v6,v7,rfl,rfl⟩,rfl⟩;exact jY
  refine fd h ?_ ?_<;>intro h
  ·refine ab ?_;obtain ⟨v8,k,h⟩:=aa h;refine gD (oC (wH k)) ?_;rintro _ _ ⟨_,⟨w1,w2,w3,w4,w5,w6,w7,w8,w9,x0,x1,x2,x3,x4,x5,x6,x7,x8,x9,y0,y1,y2,y3,y4,y5,y6,rfl,rfl⟩,rfl⟩;exact jY
  refine fd h ?_ ?_<;>intro h
  ·refine ab ?_;obtain ⟨y7,k,h⟩:=aa h;refine gD (oC (xo k)) ?_;rintro _ _ ⟨_,⟨y8,y9,z1,z2,A7,B0,B3,B4,B5,B8,L0,L1,L2,L3,L4,L5,L6,L7,L8,L9,M0,M1,M2,M3,M4,M6,rfl,rfl⟩,rfl⟩;exact jY
  refine ab ?_;obtain ⟨M9,k,h⟩:=aa h;refine gD (oC (EX k)) ?_;rintro _ _ ⟨_,⟨Q1,R6,R7,R8,R9,S0,S1,S2,S3,S4,S5,S6,S7,S8,S9,T1,T2,T3,T4,T5,T6,T7,T8,T9,U0,U1,U2,U3,U4,rfl,rfl⟩,rfl⟩;exact eY
 rintro _ _ ⟨a2,p21,a6,a7,a8,b0,b1,b2,b3,b4,b5,b6,b7,b8,b9,c7,d0,d1,d2,d3,d4,d6,e2,e3,e4,e5,e6,e7,e8,e9,f1,f2,f3,f4,g0,g1,g2,g3,g4,g5,g6,g7,g8,g9,h0,h1,h2,h3,h4,h5,h6,h,rfl,rfl⟩;refine ab ?_;obtain rfl:=cB h;exact ox (rs:=[.cell 4 56]) (vs:=[.agg #[.bool a2,iV p21,.string (⟨#[]⟩),iV 0,iV 0,iV 0,iV 0,.string (⟨#[]⟩),U none 0 0]]) J (.cons (ij 0 J J agg56.out) .nil) J ((bh (eT .i64) 3 _).trans (cS [0,6,11,7,8,9,10,16,15,14,12,13,3,4,5] 17)) ⟨_,_,_,_,_,_,_,_,_,_,_,_,_,_,_,_,_,_,_,_,_,_,_,_,_,_,_,_,_,J,J⟩
def zQ (N:Nat):Option Bool:=
 some true
def rO (N:Nat)(a0:RL)(a1:RL):Nat->Int->Option Bool
 |0,_=>none
 |m5+1,p6=>bif decide (p6<(a0.length:Int)) then ((au a0 p6).bind fun x8=>(au a1 p6).bind fun x9=>bif !decide (x8=x9) then (some false) else (bn (in64 (p6+1)) ((rO N a0 a1 m5) (p6+1)))) else (zQ N)
def xh (N:Nat)(a0:RL)(a1:RL):Option Bool:=
 bif !decide ((a0.length:Int)=(a1.length:Int)) then (some false) else (rO N a0 a1 N 0)
theorem EY {N:Nat}{a0:RL}{a1:RL}{r:Bool}(h:xh N a0 a1=some r):Okc RY 58 [U A1 n1 c1,U A2 n2 c2] ([dK A1 n1 c1 a0,dK A2 n2 c2 a1]) (fun u post=>u=.bool r/\post=[]):=by
 refine cG Tryz.func58 ?_;refine sZ ?_;refine gH J h ?_ ?_<;>intro h
 ·exact eY
 refine ab ?_;refine ao (fun s L=>zQ N=some r/\s=[(4,.bool false)]/\L=[]) ?_ ?_
 ·refine ab ?_;refine aW (fun m s L=> ∃p6,rO N a0 a1 m p6=some r/\s=[(0,U A1 n1 c1),(1,U A2 n2 c2),(4,.bool false),(5,iV p6)]/\L=[dK A1 n1 c1 a0,dK A2 n2 c2 a1]) N _ _ ⟨0,h,J,J⟩ sA (cS [0,1] 2) ?_;rintro (_|m5) _ _ ⟨p6,h,rfl,rfl⟩
  ·exact am h
  rw [rO.eq_2] at h;refine sZ ?_;refine gH J h ?_ ?_<;>intro h
  ·refine sY ?_;refine dY [] ?_;refine ab ?_;obtain ⟨x8,a2,a6,a7,h⟩:=bG h;refine ab ?_;obtain ⟨x9,a8,b0,b1,h⟩:=bG h;refine fd h ?_ ?_<;>intro h
   ·exact eY
   refine ab ?_;obtain ⟨b2,h⟩:=ah h;exact lY
  exact jY
 rintro _ _ ⟨h,rfl,rfl⟩;exact eY
def qx (N:Nat)(a0:Rj)(a1:Rj):Option Bool:=
 (bif a0.Ok==a1.Ok then (some (decide (a0.N=a1.N))) else (some false)).bind fun b5=>(bif b5 then (some (a0.S.toList==a1.S.toList)) else (some false)).bind fun b6=>(bif b6 then (some (decide (a0.SO=a1.SO))) else (some false)).bind fun b7=>(bif b7 then ((xh N a0.L a1.L).bind fun y9=>some y9) else (some false)).bind fun b8=>some b8
theorem EW {N:Nat}{a0:Rj}{a1:Rj}{r:Bool}(h:qx N a0 a1=some r):Okc RY 23 [.agg #[.bool a0.Ok,iV a0.N,.string a0.S,iV a0.SO.Sa,iV a0.SO.N,iV a0.SO.Value.Sa,iV a0.SO.Value.N,.string a0.SO.Value.S,U A1 n1 c1],.agg #[.bool a1.Ok,iV a1.N,.string a1.S,iV a1.SO.Sa,iV a1.SO.N,iV a1.SO.Value.Sa,iV a1.SO.Value.N,.string a1.SO.Value.S,U A2 n2 c2]] ([dK A1 n1 c1 a0.L,dK A2 n2 c2 a1.L]) (fun u post=>u=.bool r/\post=[]):=by
 refine cG Tryz.func23 ?_;intro B3
 refine iD fun B4=> ?_
 refine fm (Kl J J Rb) ?_;refine gS 6 16 10 h ?_;intro b5 h;refine ab ?_;obtain ⟨b6,a2,h⟩:=aa h;refine aH 6 23 b6 ?_ ?_
 ·clear h;refine aE 17 J (fun g6=> ?_) (fun g6=> ?_)
  ·have h:=az g6 a2;refine ab ?_;refine pP (vC J J) J (cY g6 J) J ?_;exact gY
  have h:=aA g6 a2;exact gY
 refine ab ?_;obtain ⟨b7,a6,h⟩:=aa h;refine aH 6 30 b7 ?_ ?_
 ·clear h;refine aE 24 J (fun g7=> ?_) (fun g7=> ?_)
  ·have h:=az g7 a6;refine ab ?_;refine pP (Kg (x:=a0.SO) (y:=a1.SO) J J) J (cY g7 J) J ?_;exact gY
  have h:=aA g7 a6;exact gY
 refine ab ?_;obtain ⟨b8,a7,h⟩:=aa h;refine aH 6 37 b8 ?_ ?_
 ·clear h;refine aE 31 J (fun g8=> ?_) (fun g8=> ?_)
  ·have h:=az g8 a7;refine ab ?_;obtain ⟨y9,k,h⟩:=aa h;refine gU (oR (EY k)) (cY g8 J) ?_;exact gY
  have h:=aA g8 a7;exact gY
 exact eY
theorem CK {r:Bool}: ∀v post,((fun (u:Value) (post:List Chunk)=>u=.bool r/\post=[])) v post-> ∀c∈post,jJ c:=by
 rintro _ _ ⟨rfl,rfl⟩;exact ay
def eA (N:Nat)(a0:Rn):Option RV:=
 bn (cc (([]:List ByteArray).length+a0.Su.length)) (some (([]:List ByteArray)++a0.Su))
theorem qM {N:Nat}{a0:Rn}{r:RV}(h:eA N a0=some r):Okc RY 26 [pV B1 0] ([ar B1 79 (iU a0 B2 B9 A12 n12 c12 A13 n13 c13 A14 n14 c14),ar B2 99 [U A3 n3 c3,U A4 n4 c4,U A5 n5 c5,U A6 n6 c6,pV B7 0],bi A3 n3 c3 a0.Sb.m_.Se,bi A4 n4 c4 a0.Sb.m_.Sc,bc A5 n5 c5 a0.Sb.Si,bc A6 n6 c6 a0.Sb.Sq,ar B7 147 [.map (some M8)],eS bf bI M8 a0.Sb.So.at_,ar B9 118 [U A10 n10 c10,.map (some M11)],rK A10 n10 c10 a0.Sf.Sf,eS ap dp M11 a0.Sf.Ss,CI A12 n12 c12 a0.St,BZ A13 n13 c13 a0.Sv,CI A14 n14 c14 a0.Su]) (fun u post=> ∃A0 n0 c0,u=U A0 n0 c0/\post=[ce A0 n0 c0 r]):=by
 refine cG Tryz.func26 ?_;refine sZ ?_;refine fm (bA J Ra) ?_;refine cJ J ?_;refine ab ?_;refine nu (bh Bt 9 _) ?_;obtain ⟨a1,h⟩:=ah h
 refine nr (aX 0 14 J J bj J J z5 O0 J J a1) fun a2 a6 a7=> ?_
 exact eN
theorem pi {r:RV}: ∀v post,((fun (u:Value) (post:List Chunk)=> ∃A0 n0 c0,u=U A0 n0 c0/\post=[ce A0 n0 c0 r])) v post-> ∀c∈post,jJ c:=by
 rintro _ _ ⟨_,_,_,rfl,rfl⟩;exact hJ pt (ay)
def pX (N:Nat)(a0:RD):Option Int:=
 some a0.SE
theorem uL {N:Nat}{a0:RD}{r:Int}(h:pX N a0=some r){bt:TypeId}{cs:List Value}(hc:cs[0]? =some (iV a0.SE)):Okc RY 69 [pV B1 0] ([ar B1 bt cs]) (fun u post=>u=iV r/\post=[]):=by
 refine cG Tryz.func69 ?_;refine Dv (qO 0 J J su hc) ?_;exact eN
def dw (N:Nat)(a0:Rn):Option Int:=
 (pX N a0.Sr).bind fun a1=>some a1
theorem ph {N:Nat}{a0:Rn}{r:Int}(h:dw N a0=some r):Okc RY 27 [pV B1 0] ([ar B1 79 (iU a0 B2 B9 A12 n12 c12 A13 n13 c13 A14 n14 c14),ar B2 99 [U A3 n3 c3,U A4 n4 c4,U A5 n5 c5,U A6 n6 c6,pV B7 0],bi A3 n3 c3 a0.Sb.m_.Se,bi A4 n4 c4 a0.Sb.m_.Sc,bc A5 n5 c5 a0.Sb.Si,bc A6 n6 c6 a0.Sb.Sq,ar B7 147 [.map (some M8)],eS bf bI M8 a0.Sb.So.at_,ar B9 118 [U A10 n10 c10,.map (some M11)],rK A10 n10 c10 a0.Sf.Sf,eS ap dp M11 a0.Sf.Ss,CI A12 n12 c12 a0.St,BZ A13 n13 c13 a0.Sv,CI A14 n14 c14 a0.Su]) (fun u post=>u=iV r/\post=[]):=by
 refine cG Tryz.func27 ?_;refine sZ ?_;refine fm (bA J Ra) ?_;refine cJ J ?_;refine ab ?_;obtain ⟨a1,k,h⟩:=aa h;refine jQ (oR (uL (bt:=79) (cs:=iU a0 B2 B9 A12 n12 c12 A13 n13 c13 A14 n14 c14) k J)) ?_;exact eN
theorem nG {r:Int}: ∀v post,((fun (u:Value) (post:List Chunk)=>u=iV r/\post=[])) v post-> ∀c∈post,jJ c:=by
 rintro _ _ ⟨rfl,rfl⟩;exact ay
def fh (N:Nat)(a0:Rn):Option Unit:=
 some ()
theorem pY {N:Nat}{a0:Rn}{r:Unit}(h:fh N a0=some r):Okc RY 20 [pV B1 0] ([ar B1 79 (iU a0 B2 B9 A12 n12 c12 A13 n13 c13 A14 n14 c14),ar B2 99 [U A3 n3 c3,U A4 n4 c4,U A5 n5 c5,U A6 n6 c6,pV B7 0],bi A3 n3 c3 a0.Sb.m_.Se,bi A4 n4 c4 a0.Sb.m_.Sc,bc A5 n5 c5 a0.Sb.Si,bc A6 n6 c6 a0.Sb.Sq,ar B7 147 [.map (some M8)],eS bf bI M8 a0.Sb.So.at_,ar B9 118 [U A10 n10 c10,.map (some M11)],rK A10 n10 c10 a0.Sf.Sf,eS ap dp M11 a0.Sf.Ss,CI A12 n12 c12 a0.St,BZ A13 n13 c13 a0.Sv,CI A14 n14 c14 a0.Su]) (fun u post=>u=pV B2 0/\post=[]):=by
 refine cG Tryz.func20 ?_;refine sZ ?_;refine fm (bA J Ra) ?_;refine cJ J ?_;exact eY
theorem ov {B2:Nat}: ∀v post,((fun (u:Value) (post:List Chunk)=>u=pV B2 0/\post=[])) v post-> ∀c∈post,jJ c:=by
 rintro _ _ ⟨rfl,rfl⟩;exact ay
def ko (N:Nat)(a0:RG)(a1:Ry):Option Bool:=
 (bif decide (a1.Sa=7) then (some true) else (some (decide (a1.Sa=9)))).bind fun b9=>(bif b9 then ((ga N a0 a1.N).bind fun a2=>some (!a2)) else (some false)).bind fun a6=>some a6
theorem wL {N:Nat}{a0:RG}{a1:Ry}{r:Bool}(h:ko N a0 a1=some r):Okc RY 52 [pV B1 0,(fX a1)] ([ar B1 99 [U A2 n2 c2,U A3 n3 c3,U A4 n4 c4,U A5 n5 c5,pV B6 0],bi A2 n2 c2 a0.m_.Se,bi A3 n3 c3 a0.m_.Sc,bc A4 n4 c4 a0.Si,bc A5 n5 c5 a0.Sq,ar B6 147 [.map (some M7)],eS bf bI M7 a0.So.at_]) (fun u post=>u=.bool r/\post=[]):=by
 refine cG Tryz.func52 ?_;intro B8;refine ab ?_;refine gS 4 12 8 h ?_;intro b9 h;refine ab ?_;obtain ⟨a7,a2,h⟩:=aa h;refine aH 6 19 a7 ?_ ?_
 ·clear h;refine aE 13 J (fun a6=> ?_) (fun a6=> ?_)
  ·have h:=az a6 a2;refine ab ?_;obtain ⟨a8,k,h⟩:=aa h;refine gU (oR (lR k)) (cY a6 J) ?_;exact gY
  have h:=aA a6 a2;exact gY
 exact eY
def mi (N:Nat)(a0:Int)(a1:RG):Option Bool:=
 (ga N a1 a0).bind fun y9=>some (!y9)
theorem vu {N:Nat}{a0:Int}{a1:RG}{r:Bool}(h:mi N a0 a1=some r):Okc RY 99 [iV a0,pV B1 0] ([ar B1 46 [pV B2 0],ar B2 99 [U A3 n3 c3,U A4 n4 c4,U A5 n5 c5,U A6 n6 c6,pV B7 0],bi A3 n3 c3 a1.m_.Se,bi A4 n4 c4 a1.m_.Sc,bc A5 n5 c5 a1.Si,bc A6 n6 c6 a1.Sq,ar B7 147 [.map (some M8)],eS bf bI M8 a1.So.at_]) (fun u post=>u=.bool r/\post=[]):=by
 refine cG Tryz.func99 ?_;obtain ⟨y9,k,h⟩:=aa h;refine jQ (oR (lR k)) ?_;exact eN
def lQ (N:Nat)(a0:RG)(a1:Rk):Option Bool:=
 (fC N a1).bind fun a2=>(ja N a1).bind fun a6=>(kw N a2 a6).bind fun a7=>(bB N a7 (fun x=>mi N x a0)).bind fun a8=>some a8
theorem yv {N:Nat}{a0:RG}{a1:Rk}{r:Bool}(h:lQ N a0 a1=some r):Okc RY 55 [pV B1 0,.agg #[iV a1.Sa,iV a1.Sk,iV a1.Sj,iV a1.Sn,U A8 n8 c8,U A9 n9 c9]] ([ar B1 99 [U A2 n2 c2,U A3 n3 c3,U A4 n4 c4,U A5 n5 c5,pV B6 0],bi A2 n2 c2 a0.m_.Se,bi A3 n3 c3 a0.m_.Sc,bc A4 n4 c4 a0.Si,bc A5 n5 c5 a0.Sq,ar B6 147 [.map (some M7)],eS bf bI M7 a0.So.at_,bc A8 n8 c8 a1.Sg,bc A9 n9 c9 a1.Sd]) (fun u post=>u=.bool r/\post=[]):=by
 refine cG Tryz.func55 ?_;intro a2
 refine iD fun a6=> ?_
 refine dY [0,2] ?_;refine zE 6 J (dR J) ?_;obtain ⟨a7,k,h⟩:=aa h;refine zD 1 J (oR (jb k)) ?_;rintro _ _ ⟨_,⟨A13,n13,c13,rfl,rfl⟩,rfl⟩;refine aJ (cS [1,2,3,4,5,6,7,8,9,10,11] 12) ?_;obtain ⟨a8,k,h⟩:=aa h;refine zD 3 J (oR (ob k)) ?_;rintro _ _ ⟨_,⟨A15,n15,c15,rfl,rfl⟩,rfl⟩;refine aJ (cS [2,3,4,5,6,7,8,9,10,11,12] 13) ?_;refine zD 4 J (eC (cs:=[U A13 n13 c13,U A15 n15 c15]) J (DN _ _ _ _ _ _)) ?_;rintro _ _ ⟨b0,rfl,rfl⟩;refine aJ (cS [3,4,5,6,7,8,9,10,11,12,13] 14) ?_;obtain ⟨b1,k,h⟩:=aa h;refine zD 5 J (oR (sK k)) ?_;rintro _ _ ⟨_,⟨b2,b3,b4,rfl,rfl⟩,rfl⟩;refine aJ (cS [4,5,6,7,8,9,10,11,12,13,14] 15) ?_;obtain ⟨b5,k,h⟩:=aa h;refine zD 7 J (oR (dj k ⟨hJ J (hJ J (hJ J (hJ J (hJ J (hJ J (hJ J (hJ J ay))))))),99, #[], #[pV a2 0],J,call99.out,fun _ _ hh=>vu hh⟩)) ?_;rintro _ _ ⟨_,⟨rfl,rfl⟩,rfl⟩;refine aJ (cS [4,5,6,7,8,9,10,11,12,13,14] 15) ?_;refine zX [8] ?_;exact eY
theorem wK {r:Bool}: ∀v post,((fun (u:Value) (post:List Chunk)=>u=.bool r/\post=[])) v post-> ∀c∈post,jJ c:=by
 rintro _ _ ⟨rfl,rfl⟩;exact ay
def jM (N:Nat):Option Int:=
 some (-1)
def cE (N:Nat)(a0:RS)(a1_0:RG):Nat->Int->Option Int
 |0,_=>none
 |a2+1,a1=>bif decide (a1<(a0.length:Int)) then ((au a0 a1).bind fun a6=>(lQ N a1_0 a6).bind fun a7=>bif a7 then (some a1) else (bn (in64 (a1+1)) ((cE N a0 a1_0 a2) (a1+1)))) else (jM N)
def fZ (N:Nat)(a0:RS)(a1_0:RG):Option Int:=
 cE N a0 a1_0 N 0
theorem pf {N:Nat}{a0:RS}{a1_0:RG}{r:Int}(h:fZ N a0 a1_0=some r):Okc RY 93 [U A1 n1 c1,.func (.func 55) #[pV B2 0] #[]] ([bi A1 n1 c1 a0,ar B2 99 [U A3 n3 c3,U A4 n4 c4,U A5 n5 c5,U A6 n6 c6,pV B7 0],bi A3 n3 c3 a1_0.m_.Se,bi A4 n4 c4 a1_0.m_.Sc,bc A5 n5 c5 a1_0.Si,bc A6 n6 c6 a1_0.Sq,ar B7 147 [.map (some M8)],eS bf bI M8 a1_0.So.at_]) (fun u post=>u=iV r/\post=[]):=by
 refine cG Tryz.func93 ?_;refine ao (fun s L=>jM N=some r/\s=[(4,iV 0)]/\L=[]) ?_ ?_
 ·refine ab ?_;refine aW (fun m s L=> ∃a2,cE N a0 a1_0 m a2=some r/\s=[(0,U A1 n1 c1),(1,.func (.func 55) #[pV B2 0] #[]),(4,iV 0),(7,iV (a0.length:Int)),(8,iV a2)]/\L=[bi A1 n1 c1 a0,bi A3 n3 c3 a1_0.m_.Se,bi A4 n4 c4 a1_0.m_.Sc,bc A5 n5 c5 a1_0.Si,bc A6 n6 c6 a1_0.Sq,ar B2 99 [U A3 n3 c3,U A4 n4 c4,U A5 n5 c5,U A6 n6 c6,pV B7 0],eS bf bI M8 a1_0.So.at_,ar B7 147 [.map (some M8)]]) N _ _ ⟨0,h,J,J⟩ sA (cS [0,2,3,4,5,1,7,6] 8) ?_;rintro (_|b0) _ _ ⟨a2,h,rfl,rfl⟩
  ·exact am h
  rw [cE.eq_2] at h;refine ab ?_;refine aL ?_;refine gH J h ?_ ?_<;>intro h
  ·refine sY ?_;obtain ⟨a1,a7,a8,a6,h⟩:=bG h;refine ab ?_;refine ur 0 J a6 (f0 a1) ?_;rintro _ _ ⟨A14,n14,c14,A15,n15,c15,rfl,rfl⟩;refine gR (la (us:=[iV a1.Sa,iV a1.Sk,iV a1.Sj,iV a1.Sn,U A14 n14 c14,U A15 n15 c15]) 0 J J agg42.out J) ?_;obtain ⟨b1,k,h⟩:=aa h;refine jQ (If (yv k) call55.out J J J (hJ (dX (i:=8) J J) (hJ (dX (i:=4) J J) (hJ (dX (i:=5) J J) (hJ (dX (i:=6) J J) (hJ (dX (i:=7) J J) (hJ (dX (i:=10) J J) (hJ (dX (i:=9) J J) (hJ (dX (i:=1) J J) (hJ (dX (i:=2) J J) ay))))))))) wK) ?_;refine gH J h ?_ ?_<;>intro h
   ·exact eY
   refine ab ?_;obtain ⟨b2,h⟩:=ah h;exact lY
  exact jY
 rintro _ _ ⟨h,rfl,rfl⟩;exact eY
def dc (N:Nat)(a0:RS)(a1_0:RG):Option Bool:=
 (fZ N a0 a1_0).bind fun y9=>some (decide (0<=y9))
theorem nA {N:Nat}{a0:RS}{a1_0:RG}{r:Bool}(h:dc N a0 a1_0=some r):Okc RY 53 [U A1 n1 c1,.func (.func 55) #[pV B2 0] #[]] ([bi A1 n1 c1 a0,ar B2 99 [U A3 n3 c3,U A4 n4 c4,U A5 n5 c5,U A6 n6 c6,pV B7 0],bi A3 n3 c3 a1_0.m_.Se,bi A4 n4 c4 a1_0.m_.Sc,bc A5 n5 c5 a1_0.Si,bc A6 n6 c6 a1_0.Sq,ar B7 147 [.map (some M8)],eS bf bI M8 a1_0.So.at_]) (fun u post=>u=.bool r/\post=[]):=by
 refine cG Tryz.func53 ?_;obtain ⟨y9,k,h⟩:=aa h;refine jQ (oR (pf k)) ?_;exact eN
def nz (N:Nat)(a0:Int):Option Bool:=
 some (!decide (a0=a0))
theorem ue {N:Nat}{a0:Int}{r:Bool}(h:nz N a0=some r):Okc RY 145 [iV a0] ([]) (fun u post=>u=.bool r/\post=[]):=by
 refine cG Tryz.func145 ?_;exact eN
theorem rR {r:Bool}: ∀v post,((fun (u:Value) (post:List Chunk)=>u=.bool r/\post=[])) v post-> ∀c∈post,jJ c:=by
 rintro _ _ ⟨rfl,rfl⟩;exact ay
def jW (N:Nat)(a1:Int)(a0:RL)(p3:Int):Option (Int×Bool):=
 (bif decide (p3<(a0.length:Int)) then ((au a0 p3).bind fun a2=>(bif decide (a2=a1) then (some true) else ((au a0 p3).bind fun a6=>(nz N a6).bind fun a7=>(bif a7 then ((nz N a1).bind fun a8=>some a8) else (some false)).bind fun b0=>some b0)).bind fun b1=>some b1) else (some false)).bind fun b2=>some (p3,b2)
def dk (N:Nat)(a1:Int)(a0:RL):Nat->Int->Int->Option (Int×Bool)
 |0,_,_=>none
 |m4+1,p5,p6=>bif decide (p5<p6) then (bn (in64 (p5+p6)) ((au a0 (IntKind.i64.wrap ((IntKind.u64.wrap (p5+p6)).fdiv (2 ^ 1)))).bind fun x9=>(t7 N x9 a1).bind fun a2=>bif a2 then (bn (in64 ((IntKind.i64.wrap ((IntKind.u64.wrap (p5+p6)).fdiv (2 ^ 1)))+1)) ((dk N a1 a0 m4) ((IntKind.i64.wrap ((IntKind.u64.wrap (p5+p6)).fdiv (2 ^ 1)))+1) p6)) else ((dk N a1 a0 m4) p5 (IntKind.i64.wrap ((IntKind.u64.wrap (p5+p6)).fdiv (2 ^ 1)))))) else (jW N a1 a0 p5)
def ii (N:Nat)(a0:RL)(a1:Int):Option (Int×Bool):=
 dk N a1 a0 N 0 (a0.length:Int)
theorem tu {N:Nat}{a0:RL}{a1:Int}{r:Int×Bool}(h:ii N a0 a1=some r):Okc RY 101 [U A1 n1 c1,iV a1] ([dK A1 n1 c1 a0]) (fun u post=>u=.tuple #[iV r.1,.bool r.2]/\post=[]):=by
 refine Ed Tryz.func101 J J ?_;simp only [sc];refine W ?_;refine gR (lw 0 J bj J t0) ?_;refine W ?_;refine ao (fun s L=> ∃p3,jW N a1 a0 p3=some r/\s=[(0,U A1 n1 c1),(1,iV a1),(4,iV 0),(5,.bool false),(6,iV (a0.length:Int)),(7,iV p3)]/\L=[dK A1 n1 c1 a0]) ?_ ?_
 ·refine uc ?_;refine aW (fun m s L=> ∃p5 p6,dk N a1 a0 m p5 p6=some r/\s=[(0,U A1 n1 c1),(1,iV a1),(4,iV 0),(5,.bool false),(6,iV (a0.length:Int)),(7,iV p5),(8,iV p6)]/\L=[dK A1 n1 c1 a0]) N _ _ ⟨0,(a0.length:Int),h,J,J⟩ sA (cS [0] 1) ?_;rintro (_|m4) _ _ ⟨p5,p6,h,rfl,rfl⟩
  ·exact am h
  rw [dk.eq_2] at h;refine aL ?_;refine W ?_;refine gH J h ?_ ?_<;>intro h
  ·refine W ?_;obtain ⟨q8,h⟩:=ah h;refine gE (ia J J q8.1 q8.2) ?_;refine gE (Kk J J Tryz.underlying194) ?_;refine gE (NE (v:=(IntKind.u64.wrap (p5+p6)).fdiv (2 ^ 1)) J J (fun _=>J)) ?_;refine gE (Kk J J hP) ?_;refine W ?_;obtain ⟨x9,b9,c0,c7,h⟩:=bG h;refine gR (gn 0 J bj J J t0 size3.out b9 c0) ?_;refine gR (iO (u:=iV x9) 0 J bj J c7 su (fun _ _ _ h=>by rw [show _=_ from h];rfl)) ?_;refine W ?_;obtain ⟨d6,k,h⟩:=aa h;refine gV (bV (FU k) call144.out J (ay) CY) ?_;refine W ?_;refine gH J h ?_ ?_<;>intro h
   ·refine W ?_;obtain ⟨b8,h⟩:=ah h;refine gE (ia J J b8.1 b8.2) ?_;refine W ?_;exact ⟨m4,_,_,RO _,⟨(IntKind.i64.wrap ((IntKind.u64.wrap (p5+p6)).fdiv (2 ^ 1)))+1,p6,h,J,J⟩,sA,cS [0] 1⟩
   refine W ?_;exact ⟨m4,_,_,RO _,⟨p5,(IntKind.i64.wrap ((IntKind.u64.wrap (p5+p6)).fdiv (2 ^ 1))),h,J,J⟩,sA,cS [0] 1⟩
  refine W ?_;exact ⟨_,_,⟨p5,h,J,J⟩,sA,cS [0] 1⟩
 rintro _ _ ⟨p3,h,rfl,rfl⟩;refine W ?_;obtain ⟨d0,a6,h⟩:=aa h;refine aH 18 53 d0 ?_ ?_
 ·clear h;refine aE 35 J (fun a7=> ?_) (fun a7=> ?_)
  ·have h:=az a7 a6;refine W ?_;obtain ⟨d1,b2,b3,b4,h⟩:=bG h;refine tg (gn 0 J bj J J t0 size3.out b2 b3) J (cY a7 J) J ?_;refine tg (iO (u:=iV d1) 0 J bj J b4 su (fun _ _ _ h=>by rw [show _=_ from h];rfl)) J (cY a7 J) J ?_;refine W ?_;obtain ⟨d2,a8,h⟩:=aa h;refine aH 10 52 d2 ?_ ?_
   ·clear h;refine aE 42 J (fun a2=> ?_) (fun a2=> ?_)
    ·have h:=az a2 a8;refine W ?_;obtain rfl:=cB h;exact bp sA (cS [0] 1)
    have h:=aA a2 a8;refine W ?_;obtain ⟨d3,b5,b6,b7,h⟩:=bG h;refine tg (gn 0 J bj J J t0 size3.out b5 b6) J (jK a2 J) J ?_;refine tg (iO (u:=iV d3) 0 J bj J b7 su (fun _ _ _ h=>by rw [show _=_ from h];rfl)) J (jK a2 J) J ?_;obtain ⟨e2,k,h⟩:=aa h;refine gU (bV (ue k) call145.out J (ay) rR) (jK a2 J) ?_;refine W ?_;obtain ⟨d4,b0,h⟩:=aa h;refine aH 3 51 d4 ?_ ?_
    ·clear h;refine aE 48 J (fun b1=> ?_) (fun b1=> ?_)
     ·have h:=az b1 b0;refine W ?_;obtain ⟨e3,k,h⟩:=aa h;refine gU (bV (ue k) call145.out J (ay) rR) (cY b1 J) ?_;refine W ?_;obtain rfl:=cB h;exact bp sA (cS [0] 1)
     have h:=aA b1 b0;refine W ?_;obtain rfl:=cB h;exact bp sA (cS [0] 1)
    refine W ?_;obtain rfl:=cB h;exact bp sA (cS [0] 1)
   refine W ?_;obtain rfl:=cB h;exact bp sA (cS [0] 1)
  have h:=aA a7 a6;refine W ?_;obtain rfl:=cB h;exact bp sA (cS [0] 1)
 refine W ?_;obtain rfl:=cB h;exact MN J J J (cS [] 1) ⟨J,J⟩
def sR (N:Nat):Option Bool:=
 some true
def gF (N:Nat)(a0:Rp)(a1:RL):Nat->Int->Option Bool
 |0,_=>none
 |a2+1,p21=>bif decide (p21<(a0.Sc.length:Int)) then ((au a0.Sc p21).bind fun a6=>bn (in64 (2*p21)) (bn (in64 ((2*p21)+2)) ((ii N a1 ((2*p21)+2)).bind fun a7=>(bif !a7.2 then ((ls N a6).bind fun a8=>some a8) else (some false)).bind fun b0=>bif b0 then (some false) else (bn (in64 (p21+1)) ((gF N a0 a1 a2) (p21+1)))))) else (sR N)
def ui (N:Nat)(a1:RL)(a0:Rp):Option Bool:=
 gF N a0 a1 N 0
def mK (N:Nat)(a1:RL)(a0:Rp):Nat->Int->Option Bool
 |0,_=>none
 |m6+1,p7=>bif decide (p7<(a1.length:Int)) then ((au a1 p7).bind fun x9=>(lK N x9).bind fun a2=>(bif !a2 then (some true) else (bn (in64 (x9.tdiv 2)) (some (decide ((a0.Sc.length:Int)<x9.tdiv 2))))).bind fun a6=>(bif a6 then (some true) else ((bif decide (0<p7) then (bn (in64 (p7 - 1)) ((au a1 (p7 - 1)).bind fun a7=>some (decide (x9<=a7)))) else (some false)).bind fun a8=>some a8)).bind fun b0=>bif b0 then (some false) else (bn (in64 (p7+1)) ((mK N a1 a0 m6) (p7+1)))) else (ui N a1 a0)
def nE (N:Nat)(a0:Rp)(a1:RL):Option Bool:=
 mK N a1 a0 N 0
theorem AC {N:Nat}{a0:Rp}{a1:RL}{r:Bool}(h:nE N a0 a1=some r):Okc RY 56 [.agg #[U A1 n1 c1,U A2 n2 c2],U A3 n3 c3] ([bi A1 n1 c1 a0.Se,bi A2 n2 c2 a0.Sc,dK A3 n3 c3 a1]) (fun u post=>u=.bool r/\post=[]):=by
 refine cG Tryz.func56 ?_;intro B4;refine ab ?_;refine ao (fun s L=>ui N a1 a0=some r/\s=[(1,U A3 n3 c3),(2,pV B4 0),(4,.bool false)]/\L=[dK A3 n3 c3 a1,bi A1 n1 c1 a0.Se,bi A2 n2 c2 a0.Sc,ac B4 96 [U A1 n1 c1,U A2 n2 c2]]) ?_ ?_
 ·refine ab ?_;refine aW (fun m s L=> ∃p7,mK N a1 a0 m p7=some r/\s=[(1,U A3 n3 c3),(2,pV B4 0),(4,.bool false),(11,U A3 n3 c3),(12,iV (a1.length:Int)),(13,iV p7)]/\L=[dK A3 n3 c3 a1,bi A1 n1 c1 a0.Se,bi A2 n2 c2 a0.Sc,ac B4 96 [U A1 n1 c1,U A2 n2 c2]]) N _ _ ⟨0,h,J,J⟩ sA (cS [3,1,2,0] 4) ?_;rintro (_|m6) _ _ ⟨p7,h,rfl,rfl⟩
  ·exact am h
  rw [mK.eq_2] at h;refine ab ?_;refine aL ?_;refine gH J h ?_ ?_<;>intro h
  ·refine sY ?_;obtain ⟨x9,e7,e8,e9,h⟩:=bG h;refine ab ?_;obtain ⟨f1,k,h⟩:=aa h;refine jQ (oR (wS k)) ?_;obtain ⟨b8,a2,h⟩:=aa h;refine aH 7 28 b8 ?_ ?_
   ·clear h;refine aE 21 J (fun b1=> ?_) (fun b1=> ?_)
    ·have h:=az b1 a2;exact gY
    have h:=aA b1 a2;refine ab ?_;obtain ⟨b6,h⟩:=ah h;refine pP (xB J J (by decide) b6.1 b6.2) J (jK b1 J) J ?_;exact gY
   refine ab ?_;obtain ⟨b9,a6,h⟩:=aa h;refine aH 12 41 b9 ?_ ?_
   ·clear h;refine aE 29 J (fun b3=> ?_) (fun b3=> ?_)
    ·have h:=az b3 a6;exact gY
    have h:=aA b3 a6;refine ab ?_;obtain ⟨c0,a7,h⟩:=aa h;refine aH 8 40 c0 ?_ ?_
    ·clear h;refine aE 32 J (fun b4=> ?_) (fun b4=> ?_)
     ·have h:=az b4 a7;refine ab ?_;obtain ⟨f2,h⟩:=ah h;refine ab ?_;obtain ⟨f3,c7,d0,d1,h⟩:=bG h;exact gY
     have h:=aA b4 a7;exact gY
    exact gY
   refine fd h ?_ ?_<;>intro h
   ·exact eY
   refine ab ?_;obtain ⟨f4,h⟩:=ah h;exact lY
  exact jY
 rintro _ _ ⟨h,rfl,rfl⟩;refine ao (fun s L=>sR N=some r/\s=[(4,.bool false)]/\L=[]) ?_ ?_
 ·refine ab ?_;refine aW (fun m s L=> ∃p21,gF N a0 a1 m p21=some r/\s=[(1,U A3 n3 c3),(4,.bool false),(44,U A2 n2 c2),(45,iV (a0.Sc.length:Int)),(46,iV p21)]/\L=[dK A3 n3 c3 a1,bi A2 n2 c2 a0.Sc]) N _ _ ⟨0,h,J,J⟩ sA (cS [0,2] 4) ?_;rintro (_|g0) _ _ ⟨p21,h,rfl,rfl⟩
  ·exact am h
  rw [gF.eq_2] at h;refine ab ?_;refine aL ?_;refine gH J h ?_ ?_<;>intro h
  ·refine sY ?_;obtain ⟨a8,d2,d3,b5,h⟩:=bG h;refine ab ?_;refine ur 1 J b5 (f0 a8) ?_;rintro _ _ ⟨d4,d6,e2,e3,e4,e5,rfl,rfl⟩;refine Dv (la (us:=[iV a8.Sa,iV a8.Sk,iV a8.Sj,iV a8.Sn,U d4 d6 e2,U e3 e4 e5]) 0 J J agg42.out J) ?_;intro g1;refine ab ?_;obtain ⟨b7,h⟩:=ah h;refine gE (sC J J b7.1 b7.2) ?_;obtain ⟨g2,h⟩:=ah h;refine ab ?_;obtain ⟨g3,k,h⟩:=aa h;refine jQ (oR (tu k)) ?_;obtain ⟨e6,b0,h⟩:=aa h;refine aH 3 64 e6 ?_ ?_
   ·clear h;refine aE 61 J (fun b2=> ?_) (fun b2=> ?_)
    ·have h:=az b2 b0;refine ab ?_;obtain ⟨g4,k,h⟩:=aa h;refine gU (oR (uh k)) (cY b2 J) ?_;exact gY
    have h:=aA b2 b0;exact gY
   refine fd h ?_ ?_<;>intro h
   ·exact eY
   refine ab ?_;obtain ⟨g5,h⟩:=ah h;exact lY
  exact jY
 rintro _ _ ⟨h,rfl,rfl⟩;exact eY
def gj (N:Nat)(a0:RG)(a1:Bool):Option Int:=
 bif a1 then (some 50) else ((iE N a0.So).bind fun a2=>(nE N a0.m_ a2).bind fun a6=>bif !a6 then (some 6) else (some 0))
def dQ (N:Nat)(a0:RG):Option Int:=
 (aG N a0).bind fun y8=>bif y8 then (some 1) else ((bX N a0.Si a0.Sq).bind fun a2=>(cx N a2 (fun x=>ko N a0 x)).bind fun a1=>bif a1 then (gj N a0 a1) else ((fD N a0.m_.Se a0.m_.Sc).bind fun a6=>(dc N a6 a0).bind fun a7=>gj N a0 a7))
theorem rh {N:Nat}{a0:RG}{r:Int}(h:dQ N a0=some r):Okc RY 21 [pV B1 0] ([ar B1 99 [U A2 n2 c2,U A3 n3 c3,U A4 n4 c4,U A5 n5 c5,pV B6 0],bi A2 n2 c2 a0.m_.Se,bi A3 n3 c3 a0.m_.Sc,bc A4 n4 c4 a0.Si,bc A5 n5 c5 a0.Sq,ar B6 147 [.map (some M7)],eS bf bI M7 a0.So.at_]) (fun u post=>u=iV r/\post=[]):=by
 refine cG Tryz.func21 ?_;refine sZ ?_;obtain ⟨y8,k,h⟩:=aa h;refine jQ (oR (ca k)) ?_;refine gH J h ?_ ?_<;>intro h
 ·exact eY
 refine ao (fun s L=> ∃a8,gj N a0 a8=some r/\s=[(0,pV B1 0),(2,iV 0),(6,.bool a8)]/\L=[bi A2 n2 c2 a0.m_.Se,bi A3 n3 c3 a0.m_.Sc,bc A4 n4 c4 a0.Si,bc A5 n5 c5 a0.Sq,ar B1 99 [U A2 n2 c2,U A3 n3 c3,U A4 n4 c4,U A5 n5 c5,pV B6 0],eS bf bI M7 a0.So.at_,ar B6 147 [.map (some M7)]]) ?_ ?_
 ·refine dY [0,1,2,3,4,5,6,7,10] ?_;refine zE 11 J (qj (caps:=[]) J J) ?_;refine zD 8 J (eC (cs:=[U A4 n4 c4,U A5 n5 c5]) J (mJ _ _ _ _ _ _)) ?_;rintro _ _ ⟨b3,rfl,rfl⟩;refine aJ (cS [1,2,3,4,5,6,7] 8) ?_;obtain ⟨b4,k,h⟩:=aa h;refine zD 9 J (oR (bv k)) ?_;rintro _ _ ⟨_,⟨A14,n14,c14,rfl,rfl⟩,rfl⟩;refine aJ (cS [2,3,4,5,6,7,8] 9) ?_;obtain ⟨b1,k,h⟩:=aa h;refine zD 12 J (oR (ku k ⟨hJ J (hJ J (hJ J (hJ J (hJ J (hJ J (hJ J ay)))))),52, #[pV B1 0], #[],J,call52.out,fun _ _ hh=>wL hh⟩)) ?_;rintro _ _ ⟨_,⟨rfl,rfl⟩,rfl⟩;refine aJ (cS [2,3,4,5,6,7,8] 9) ?_;refine zX [13] ?_;refine fd h ?_ ?_<;>intro h
  ·exact jY
  obtain ⟨b2,b0,h⟩:=aa h;refine ic (t:=[(0,pV B1 0),(2,iV 0),(6,.bool b1)]) ?_ mw (ae _)
  refine jv I 14 [] [11,13] [20,21,22,23,24,25,26,27,28,29,30,31,32,33] [[],[0],[1],[2],[3],[],[5],[6],[7],[8],[4,9],[10],[],[12]] [aV (pV B1 0),
aV (pV B1 0),
aV (pV B1 0),
aV (pV B1 0),
aV (U A2 n2 c2),
aV (pV B1 0),
aV (pV B1 0),
aV (pV B1 0),
aV (pV B1 1),
aV (U A3 n3 c3),
aX1 (fun (a7:Nat)=> .slice (some ⟨a7,0,none⟩) 2 2) (fun a7=> [ar a7 94 [U A2 n2 c2,U A3 n3 c3]]),
aX3 (fun (a1:Option Addr) (a2 a6:Nat)=> U a1 a2 a6) (fun a1 a2 a6=> [aR a1 a2 a6 b2]),
aV (pV B1 0),
aV (.func (.func 55) #[pV B1 0] #[])] [] (ae _) (mf) I rfl rfl ?_ ?_ ?_
  ·exact me
  ·refine ad J ?_ ?_
   ·exact ci (qj (caps:=[]) J J) J (aQ J (ae _))
   refine ad J ?_ ?_
   ·exact ci (bo J) J (aQ J (ae _))
   refine ad J ?_ ?_
   ·intro a7;refine uz (oC (oh b0)) J ?_;rintro _ _ ⟨_,⟨b5,b6,b7,rfl,rfl⟩,rfl⟩;exact AE b5 b6 b7 (ae _)
   refine ad J ?_ ?_
   ·refine uz (eC (cs:=[U A2 n2 c2,U A3 n3 c3]) J (zK _ _ _ _ _ _)) J ?_;rintro _ _ ⟨b8,rfl,rfl⟩;exact OH b8 ((gL 0 J).trans (ae _))
   refine ad J ?_ ?_
   ·exact er (qO 2 J J Dl J) J (aQ J (ae _))
   refine ad J ?_ ?_
   ·exact ci (gk J AO) J (aQ J (ae _))
   refine ad J ?_ ?_
   ·exact ci (ml J yD) J (aQ J (ae _))
   refine ad J ?_ ?_
   ·exact ci (bz J) J (aQ J (ae _))
   refine ad J ?_ ?_
   ·exact ci (bo J) J (aQ J (ae _))
   refine ad J ?_ ?_
   ·exact er (qO 2 J J Dl J) J (aQ J (ae _))
   refine ad J ?_ ?_
   ·exact ci (ml J AP) J (aQ J (ae _))
   refine ad J ?_ ?_
   ·exact ci (ml J yD) J (aQ J (ae _))
   refine ad J ?_ ?_
   ·exact ci (bz J) J (aQ J (ae _))
   refine ad J ?_ ?_
   ·exact ci (bo J) J (aQ J (ae _))
   exact eJ
  intro a1 a2 a6;refine oe (t:=[(31,U a1 a2 a6),(33,.func (.func 55) #[pV B1 0] #[]),(0,pV B1 0),(2,iV 0),(6,.bool b1)]) (L':=[aR a1 a2 a6 b2,aw A14 n14 c14 b4,ac b3 30 [U A4 n4 c4,U A5 n5 c5],ar B1 99 [U A2 n2 c2,U A3 n3 c3,U A4 n4 c4,U A5 n5 c5,pV B6 0],bi A2 n2 c2 a0.m_.Se,bi A3 n3 c3 a0.m_.Sc,bc A4 n4 c4 a0.Si,bc A5 n5 c5 a0.Sq,ar B6 147 [.map (some M7)],eS bf bI M7 a0.So.at_]) ?_ mw (ae _);obtain ⟨b9,k,h⟩:=aa h;refine pz 14 J I (oR (nA k)) J J J ?_;rintro _ _ ⟨_,⟨rfl,rfl⟩,rfl⟩;refine yU 15 J I (DC J) J J J ?_;refine ms I ?_;exact jY
 rintro _ _ ⟨a8,h,rfl,rfl⟩;refine gH J h ?_ ?_<;>intro h
 ·exact eY
 refine dY [] ?_;refine ab ?_;obtain ⟨c0,k,h⟩:=aa h;refine zD 8 J (oR (qK k)) ?_;rintro _ _ ⟨_,⟨c7,d0,d1,rfl,rfl⟩,rfl⟩;refine aJ (cS [1,2,3,4,5,6,7] 8) ?_;obtain ⟨d2,k,h⟩:=aa h;refine zD 9 J (oR (AC k)) ?_;rintro _ _ ⟨_,⟨rfl,rfl⟩,rfl⟩;refine aJ (cS [1,2,3,4,5,6,7] 8) ?_;refine fd h ?_ ?_<;>intro h
 ·exact eY
 exact eY
theorem pp {r:Int}: ∀v post,((fun (u:Value) (post:List Chunk)=>u=iV r/\post=[])) v post-> ∀c∈post,jJ c:=by
 rintro _ _ ⟨rfl,rfl⟩;exact ay
end
section
variable {A1 A10 A12 A13 A14 A15 A16 A2 A3 A4 A5 A6 A8 A9:Option Addr} {B1 B2 B6 B7 B9 M11 M7 M8 c1 c10 c12 c13 c14 c15 c16 c2 c3 c4 c5 c6 c8 c9 n1 n10 n12 n13 n14 n15 n16 n2 n3 n4 n5 n6 n8 n9:Nat}
open Go.RowKit Asn
set_option maxRecDepth 20000
end
section
variable {A1 A10 A12 A13 A14 A15 A16 A2 A3 A4 A5 A6 A8 A9:Option Addr} {B1 B2 B6 B7 B9 M11 M7 M8 c1 c10 c12 c13 c14 c15 c16 c2 c3 c4 c5 c6 c8 c9 n1 n10 n12 n13 n14 n15 n16 n2 n3 n4 n5 n6 n8 n9:Nat}
open Go.RowKit Asn
set_option maxRecDepth 20000
end
section
variable {A1 A10 A12 A13 A14 A15 A16 A2 A3 A4 A5 A6 A8 A9:Option Addr} {B1 B2 B6 B7 B9 M11 M7 M8 c1 c10 c12 c13 c14 c15 c16 c2 c3 c4 c5 c6 c8 c9 n1 n10 n12 n13 n14 n15 n16 n2 n3 n4 n5 n6 n8 n9:Nat}
open Go.RowKit
set_option maxRecDepth 20000
structure Ri where
 a_:Rp
 b_:Rp
 x_:RL
 y_:RL
 Te:RX
 Tf:RX
 deriving DecidableEq,Inhabited
structure Rv where
 M:Rp
 Tg:RL
 deriving DecidableEq,Inhabited
structure RE where
 e0:RJ
 e1:RJ
 deriving DecidableEq,Inhabited
def wc (N:Nat)(a0:Rp)(a1:Int):Option Bool:=
 bif decide (a1<1) then (some false) else (bif decide (a1.tmod 2=1) then (bn (in64 (a1 - 1)) (bn (in64 ((a1 - 1).tdiv 2)) (some (decide ((a1 - 1).tdiv 2<(a0.Se.length:Int)))))) else (bn (in64 (a1 - 2)) (bn (in64 ((a1 - 2).tdiv 2)) (some (decide ((a1 - 2).tdiv 2<(a0.Sc.length:Int)))))))
def xW (N:Nat)(a0:Rp)(a1:Int):Option Rk:=
 (wc N a0 a1).bind fun y5=>bif !y5 then (some (⟨0,0,0,0,[],[]⟩:Rk)) else (bif decide (a1.tmod 2=1) then (bn (in64 (a1 - 1)) (bn (in64 ((a1 - 1).tdiv 2)) ((au a0.Se ((a1 - 1).tdiv 2)).bind fun a2=>some a2))) else (bn (in64 (a1 - 2)) (bn (in64 ((a1 - 2).tdiv 2)) ((au a0.Sc ((a1 - 2).tdiv 2)).bind fun a6=>some a6))))
def db (N:Nat)(a0:Ry):Option Bool:=
 (bif decide (a0.Sa<0) then (some true) else (some (decide (9<a0.Sa)))).bind fun b2=>bif b2 then (some false) else (bif decide (a0.Sa=5) then ((bif decide (a0.N=0) then (some (decide ((a0.S.size:Int)<=65536))) else (some false)).bind fun b5=>some b5) else (bif !(a0.S.toList==(⟨#[]⟩:ByteArray).toList) then (some false) else (bif decide (a0.Sa=2) then ((bif decide (a0.N=0) then (some true) else (some (decide (a0.N=1)))).bind fun b8=>some b8) else (bif decide (a0.Sa=3) then ((bif decide ((-9007199254740992)<=a0.N) then (some (decide (a0.N<=9007199254740992))) else (some false)).bind fun a1=>some a1) else ((bif decide (a0.Sa=6) then (some true) else (some (decide (a0.Sa=7)))).bind fun a2=>(bif a2 then (some true) else (some (decide (a0.Sa=9)))).bind fun a6=>bif a6 then (some (decide (1<=a0.N))) else (some (decide (a0.N=0))))))))
def jP (N:Nat)(a0:Int):Option Bool:=
 (bif decide (a0=1) then (some true) else (some (decide (a0=2)))).bind fun b1=>(bif b1 then (some true) else (some (decide (a0=3)))).bind fun b2=>(bif b2 then (some true) else (some (decide (a0=6)))).bind fun b3=>(bif b3 then (some true) else (some (decide (a0=8)))).bind fun b4=>(bif b4 then (some true) else (some (decide (a0=9)))).bind fun b5=>(bif b5 then (some true) else (some (decide (a0=10)))).bind fun b6=>some b6
def dx (N:Nat)(a0:Ry)(a1:Int):Option Bool:=
 (bif decide (a0.Sa=0) then (some true) else (some (decide (a0.Sa=a1)))).bind fun b2=>some b2
def iP (N:Nat)(a0:Rk):Option Bool:=
 (jP N a0.Sa).bind fun y4=>(bif y4 then (some true) else ((bif decide (a0.Sa=7) then (some (decide (0<(a0.Sg.length:Int)))) else (some false)).bind fun b6=>some b6)).bind fun b5=>bif b5 then ((bif decide (1<=(a0.Sg.length:Int)) then (some (decide ((a0.Sg.length:Int)<=1025))) else (some false)).bind fun b8=>(bif b8 then ((au a0.Sg 0).bind fun a1=>(bif decide (a1.Sa=1) then (some true) else ((au a0.Sg 0).bind fun a2=>some (decide (a2.Sa=7)))).bind fun a6=>some a6) else (some false)).bind fun b9=>some b9) else (bif decide (a0.Sa=7) then (some (decide (a0.Sk=0))) else ((bif !decide (a0.Sk=0) then (some true) else (some (!decide (a0.Sj=0)))).bind fun a7=>bif a7 then (some false) else (bif decide (a0.Sa=5) then ((bif decide ((a0.Sg.length:Int)=2) then ((au a0.Sg 0).bind fun a8=>(dx N a8 7).bind fun b0=>some b0) else (some false)).bind fun b1=>(bif b1 then ((au a0.Sg 1).bind fun b2=>(dx N b2 7).bind fun b3=>some b3) else (some false)).bind fun b4=>some b4) else (some (decide ((a0.Sg.length:Int)=0))))))
def fV (N:Nat)(a0:Ry)(a1:Int)(a2:Int):Option Bool:=
 (bif decide (a0.Sa=3) then (some (decide (a1<=a0.N))) else (some false)).bind fun b2=>(bif b2 then (some (decide (a0.N<=a2))) else (some false)).bind fun b3=>some b3
def Bz (N:Nat):Option Bool:=
 some true
def fI (N:Nat)(a1:Int)(a0:RJ):Nat->Int->Option Bool
 |0,_=>none
 |m5+1,p6=>bif decide (p6<(a0.length:Int)) then ((au a0 p6).bind fun x8=>(bif !decide (x8.Sa=7) then (some true) else (bn (in64 (p6+1)) ((au a0 (p6+1)).bind fun a2=>some (decide (a2.Sa=8))))).bind fun b9=>bif b9 then (some false) else ((bif decide (a1=4) then (bn (in64 (p6+2)) ((au a0 (p6+2)).bind fun a6=>(dx N a6 7).bind fun a7=>(bif !a7 then (some true) else (bn (in64 (p6+3)) ((au a0 (p6+3)).bind fun a8=>(fV N a8 0 9007199254740992).bind fun b0=>some (!b0)))).bind fun b1=>some b1)) else (some false)).bind fun b2=>bif b2 then (some false) else (bn (in64 (p6+a1)) ((fI N a1 a0 m5) (p6+a1))))) else (Bz N)
def cT (N:Nat)(a0:RJ)(a1:Int):Option Bool:=
 bn (a1≠0) (bif !decide ((a0.length:Int).tmod a1=0) then (some false) else (fI N a1 a0 N 0))
def jO (N:Nat)(a0:Rk)(p7:Bool):Option Bool:=
 bif p7 then (some (decide ((a0.Sd.length:Int)=0))) else (bif decide (a0.Sa=3) then ((bif decide ((a0.Sd.length:Int)=3) then ((au a0.Sd 0).bind fun a1=>(fV N a1 0 9007199254740992).bind fun a2=>some a2) else (some false)).bind fun a6=>(bif a6 then ((au a0.Sd 1).bind fun a7=>(dx N a7 9).bind fun a8=>some a8) else (some false)).bind fun b0=>some b0) else (bif decide (a0.Sa=4) then ((bif decide (1<=(a0.Sd.length:Int)) then (some (decide ((a0.Sd.length:Int)<=4097))) else (some false)).bind fun b1=>(bif b1 then ((au a0.Sd 0).bind fun b2=>(dx N b2 9).bind fun b3=>some b3) else (some false)).bind fun b4=>some b4) else (bif decide (a0.Sa=6) then ((bif decide ((a0.Sd.length:Int)=2) then ((au a0.Sd 0).bind fun b5=>(fV N b5 0 3).bind fun b6=>some b6) else (some false)).bind fun b7=>(bif b7 then ((au a0.Sd 1).bind fun b8=>(dx N b8 9).bind fun b9=>some b9) else (some false)).bind fun c0=>some c0) else (bif decide (a0.Sa=7) then ((bif decide (4<=(a0.Sd.length:Int)) then ((au a0.Sd 2).bind fun c7=>(fV N c7 0 1).bind fun d0=>some d0) else (some false)).bind fun d1=>(bif d1 then ((au a0.Sd 3).bind fun d2=>(fV N d2 0 9007199254740992).bind fun d3=>some d3) else (some false)).bind fun d4=>some d4) else (bif decide (a0.Sa=8) then ((cT N a0.Sd 2).bind fun d6=>some d6) else (bif decide (a0.Sa=10) then ((bif decide (1<=(a0.Sd.length:Int)) then ((au a0.Sd 0).bind fun e2=>some (decide (e2.Sa=7))) else (some false)).bind fun e3=>(bif e3 then (bn ((0:Int)<=1/\(1:Int).toNat<=a0.Sd.length/\a0.Sd.length<=a0.Sd.length) ((cT N ((a0.Sd.drop ((1:Int).toNat)).take (a0.Sd.length - (1:Int).toNat)) 4).bind fun e4=>some e4)) else (some false)).bind fun e5=>some e5) else (bif decide (a0.Sa=9) then ((bif decide (2<=(a0.Sd.length:Int)) then ((au a0.Sd 0).bind fun e6=>(fV N e6 0 2).bind fun e7=>some e7) else (some false)).bind fun e8=>some e8) else (some true))))))))
def kh (N:Nat)(a0:Rk):Option Bool:=
 bif decide (1048576<(a0.Sd.length:Int)) then (some false) else (bif decide (a0.Sa=2) then (some (decide ((a0.Sd.length:Int)<=4096))) else (bif decide (a0.Sa=1) then (jO N a0 (decide (a0.Sa=1))) else (jO N a0 (decide (a0.Sa=5)))))
def cU (N:Nat)(a0:Rk):Option Bool:=
 (iP N a0).bind fun a1=>(bif a1 then ((kh N a0).bind fun a2=>some a2) else (some false)).bind fun a6=>some a6
def mF (N:Nat)(a0:Rk):Nat->Int->Option Bool
 |0,_=>none
 |a1+1,p21=>bif decide (p21<(a0.Sd.length:Int)) then ((au a0.Sd p21).bind fun a2=>(db N a2).bind fun a6=>bif !a6 then (some false) else (bn (in64 (p21+1)) ((mF N a0 a1) (p21+1)))) else (cU N a0)
def wX (N:Nat)(a0:Rk):Option Bool:=
 mF N a0 N 0
def gx (N:Nat)(a0:Rk):Nat->Int->Option Bool
 |0,_=>none
 |a1+1,p13=>bif decide (p13<(a0.Sg.length:Int)) then ((au a0.Sg p13).bind fun a2=>(db N a2).bind fun a6=>bif !a6 then (some false) else (bn (in64 (p13+1)) ((gx N a0 a1) (p13+1)))) else (wX N a0)
def d8 (N:Nat)(a0:Rk):Option Bool:=
 (bif decide (a0.Sa<1) then (some true) else (some (decide (11<a0.Sa)))).bind fun b4=>(bif b4 then (some true) else (some (decide (a0.Sk<0)))).bind fun b5=>(bif b5 then (some true) else (some (decide (a0.Sj<0)))).bind fun b6=>(bif b6 then (some true) else (some (decide (63<a0.Sj)))).bind fun b7=>(bif b7 then (some true) else (some (decide (a0.Sn<0)))).bind fun b8=>(bif b8 then (some true) else (some (decide (1<a0.Sn)))).bind fun b9=>bif b9 then (some false) else (gx N a0 N 0)
def wd (N:Nat)(a0:Ry):Option Bool:=
 (bif decide (a0.Sa=7) then (some true) else (some (decide (a0.Sa=9)))).bind fun b2=>some b2
def xr (N:Nat)(a0:Int)(a1:Int):Option Bool:=
 (bif decide (a0=8) then (some true) else ((bif decide (a0=10) then (some (decide (0<a1))) else (some false)).bind fun b2=>(bif b2 then (bn (in64 (a1 - 1)) (some (decide (((a1 - 1).tmod 4).tmod 2=0)))) else (some false)).bind fun b3=>some b3)).bind fun b1=>some b1
def CQ (N:Nat)(a1:RL):Option RL:=
 some a1
def oY (N:Nat)(a1:RL->Int->Option RL)(a2:Int)(a0:Rk)(a6:RL):Option RL:=
 bn (in64 (a2+1)) (a1 a6 (a2+1))
def kI (N:Nat)(a0:Rk):Nat->RL->Int->Option RL
 |0,_,_=>none
 |a6+1,a2,a1=>bif decide (a1<(a0.Sd.length:Int)) then ((au a0.Sd a1).bind fun a8=>(wd N a8).bind fun b0=>(bif b0 then ((xr N a0.Sa a1).bind fun b1=>some (!b1)) else (some false)).bind fun b2=>bif b2 then ((au a0.Sd a1).bind fun a7=>bn (cc (a2.length+([a7.N]:List Int).length)) (oY N (kI N a0 a6) a1 a0 (a2++([a7.N]:List Int)))) else (oY N (kI N a0 a6) a1 a0 a2)) else (CQ N a2)
def xY (N:Nat)(a0:Rk)(p5:RL):Option RL:=
 kI N a0 N p5 0
def oZ (N:Nat)(a1:RL->Int->Option RL)(p8:Int)(a0:Rk)(a2:RL):Option RL:=
 bn (in64 (p8+1)) (a1 a2 (p8+1))
def lM (N:Nat)(a0:Rk):Nat->RL->Int->Option RL
 |0,_,_=>none
 |m6+1,p7,p8=>bif decide (p8<(a0.Sg.length:Int)) then ((au a0.Sg p8).bind fun a2=>(wd N a2).bind fun a6=>bif a6 then ((au a0.Sg p8).bind fun a1=>bn (cc (p7.length+([a1.N]:List Int).length)) (oZ N (lM N a0 m6) p8 a0 (p7++([a1.N]:List Int)))) else (oZ N (lM N a0 m6) p8 a0 p7)) else (xY N a0 p7)
def rZ (N:Nat)(a0:Rk):Option RL:=
 lM N a0 N [] 0
def zk (N:Nat)(p4:RL):Option RL:=
 some p4
def oG (N:Nat)(a1:RL->Int->Option RL)(p7:Int)(a0:RJ)(a2:RL):Option RL:=
 bn (in64 (p7+1)) (a1 a2 (p7+1))
def gG (N:Nat)(a0:RJ):Nat->RL->Int->Option RL
 |0,_,_=>none
 |m5+1,p6,p7=>bif decide (p7<(a0.length:Int)) then ((au a0 p7).bind fun a2=>(bif decide (a2.Sa=7) then (some true) else ((au a0 p7).bind fun a6=>some (decide (a6.Sa=9)))).bind fun a7=>bif a7 then ((au a0 p7).bind fun a1=>bn (cc (p6.length+([a1.N]:List Int).length)) (oG N (gG N a0 m5) p7 a0 (p6++([a1.N]:List Int)))) else (oG N (gG N a0 m5) p7 a0 p6)) else (zk N p6)
def mN (N:Nat)(a0:RJ):Option RL:=
 gG N a0 N ([]:List Int) 0
def H7 (N:Nat):Option Bool:=
 some false
def zl (N:Nat)(a1:Int)(a0:RL):Nat->Int->Option Bool
 |0,_=>none
 |m3+1,p4=>bif decide (p4<(a0.length:Int)) then ((au a0 p4).bind fun x6=>bif decide (x6=a1) then (some true) else (bn (in64 (p4+1)) ((zl N a1 a0 m3) (p4+1)))) else (H7 N)
def Bw (N:Nat)(a0:RL)(a1:Int):Option Bool:=
 zl N a1 a0 N 0
def Gm (N:Nat)(p7:RL):Option RL:=
 some p7
def uW (N:Nat)(a6:RL->Int->Option RL)(a1:Int)(a2:RL)(a0:Rp)(p13:RL):Option RL:=
 bn (in64 (a1+1)) (a6 p13 (a1+1))
def oF (N:Nat)(a2:RL)(a0:Rp):Nat->RL->Int->Option RL
 |0,_,_=>none
 |m8+1,p9,a1=>bif decide (a1<(a2.length:Int)) then ((au a2 a1).bind fun a7=>(wc N a0 a7).bind fun a8=>(bif a8 then ((au a2 a1).bind fun b0=>(Bw N p9 b0).bind fun b1=>some (!b1)) else (some false)).bind fun b2=>bif b2 then ((au a2 a1).bind fun a6=>bn (cc (p9.length+([a6]:List Int).length)) (uW N (oF N a2 a0 m8) a1 a2 a0 (p9++([a6]:List Int)))) else (uW N (oF N a2 a0 m8) a1 a2 a0 p9)) else (Gm N p9)
def qr (N:Nat)(a0:Rp)(a1:RL)(a2:RL):Option RL:=
 oF N a2 a0 N a1 0
def Bu (N:Nat)(p6:RL):Option RL:=
 some p6
def nI (N:Nat)(a0:Rp):Nat->RL->Int->Option RL
 |0,_,_=>none
 |m7+1,p8,p9=>bif decide (p9<(p8.length:Int)) then ((au p8 p9).bind fun a1=>(xW N a0 a1).bind fun a2=>(rZ N a2).bind fun a6=>(qr N a0 p8 a6).bind fun a7=>bn (in64 (p9+1)) ((nI N a0 m7) a7 (p9+1))) else (Bu N p8)
def kH (N:Nat)(a0:Rp)(a1:RL)(a2:Int):Option RL:=
 nI N a0 N a1 a2
def wV (N:Nat)(p6:RL):Option RL:=
 some p6
def qQ (N:Nat)(a1:RL->Int->Option RL)(p9:Int)(a2:RL):Option RL:=
 bn (in64 (p9+1)) (a1 a2 (p9+1))
def nJ (N:Nat)(a6:RL->Int->Option RL)(p9:Int):Nat->RL->Int->Option RL
 |0,_,_=>none
 |a8+1,a2,a1=>(bif decide (0<a1) then (bn (in64 (a1 - 1)) ((au a2 (a1 - 1)).bind fun b0=>(au a2 a1).bind fun b1=>some (decide (b1<b0)))) else (some false)).bind fun b2=>bif b2 then ((au a2 a1).bind fun b3=>bn (in64 (a1 - 1)) ((au a2 (a1 - 1)).bind fun a7=>(au a2 a1).bind fun b4=>bn (in64 (a1 - 1)) ((au (List.set a2 a1.toNat a7) (a1 - 1)).bind fun b5=>bn (in64 (a1 - 1)) ((nJ N a6 p9 a8) (List.set (List.set a2 a1.toNat a7) ((a1 - 1).toNat) b3) (a1 - 1))))) else (qQ N a6 p9 a2)
def gw (N:Nat):Nat->RL->Int->Option RL
 |0,_,_=>none
 |m7+1,p8,p9=>bif decide (p9<(p8.length:Int)) then (nJ N (gw N m7) p9 N p8 p9) else (wV N p8)
def tC (N:Nat)(a0:RL):Option RL:=
 bn (cc (([]:List Int).length+a0.length)) (gw N N (([]:List Int)++a0) 1)
def Bx (N:Nat)(a0:Rk):Option Bool:=
 (bif decide (a0.Sa=8) then ((d8 N a0).bind fun y5=>some y5) else (some false)).bind fun b4=>some b4
def H8 (N:Nat):Option Bool:=
 some false
def zm (N:Nat)(a0:Int)(a1:RL):Nat->Int->Option Bool
 |0,_=>none
 |m3+1,p4=>bif decide (p4<(a1.length:Int)) then ((au a1 p4).bind fun x6=>bif decide (x6=a0) then (some true) else (bn (in64 (p4+1)) ((zm N a0 a1 m3) (p4+1)))) else (H8 N)
def By (N:Nat)(a0:Int)(a1:RL):Option Bool:=
 zm N a0 a1 N 0
def xX (N:Nat)(p6:RL):Option RL:=
 some p6
def sr (N:Nat)(a2:RL->Int->Option RL)(p9:Int)(a1:RL)(a0:Rk)(a6:RL):Option RL:=
 bn (in64 (p9+2)) (a2 a6 (p9+2))
def qh (N:Nat)(a1:RL)(a0:Rk):Nat->RL->Int->Option RL
 |0,_,_=>none
 |m7+1,p8,p9=>(Bx N a0).bind fun a6=>(bif a6 then (some (decide (p9<(a0.Sd.length:Int)))) else (some false)).bind fun a7=>bif a7 then (bn (in64 (p9+1)) ((au a0.Sd (p9+1)).bind fun a2=>(au a0.Sd p9).bind fun a8=>(By N a8.N a1).bind fun b0=>(bif b0 then ((bif decide (a2.Sa=7) then (some true) else (some (decide (a2.Sa=9)))).bind fun b1=>some b1) else (some false)).bind fun b2=>bif b2 then (bn (cc (p8.length+([a2.N]:List Int).length)) (sr N (qh N a1 a0 m7) p9 a1 a0 (p8++([a2.N]:List Int)))) else (sr N (qh N a1 a0 m7) p9 a1 a0 p8))) else (xX N p8)
def uX (N:Nat)(a0:Rk)(a1:RL):Option RL:=
 qh N a1 a0 N [] 0
def wW (N:Nat)(a1:RL->Option RL)(p13:RL)(a0:Rp)(a2:RL):Option RL:=
 bif decide ((a2.length:Int)=(p13.length:Int)) then (some a2) else ((kH N a0 a2 (p13.length:Int)).bind fun a6=>a1 a6)
def mE (N:Nat)(a1:RL->Option RL)(p13:RL)(a0:Rp):Nat->RL->Int->Option RL
 |0,_,_=>none
 |a7+1,a2,a6=>bif decide (a6<(p13.length:Int)) then ((au a2 a6).bind fun a8=>(xW N a0 a8).bind fun b0=>(uX N b0 a2).bind fun b1=>(qr N a0 a2 b1).bind fun b2=>bn (in64 (a6+1)) ((mE N a1 p13 a0 a7) b2 (a6+1))) else (wW N a1 p13 a0 a2)
def i6 (N:Nat)(a0:Rp):Nat->RL->Option RL
 |0,_=>none
 |a1+1,p13=>mE N (i6 N a0 a1) p13 a0 N p13 0
def rY (N:Nat)(a0:Rp)(a1:RJ):Option RL:=
 (mN N a1).bind fun y5=>(qr N a0 ([]:List Int) y5).bind fun y8=>(kH N a0 y8 0).bind fun a2=>i6 N a0 N a2
def Bv (N:Nat)(a0:Rp)(a1:RJ):Option RL:=
 (rY N a0 a1).bind fun y5=>(tC N y5).bind fun y7=>some y7
end
section
variable {A1 A10 A12 A13 A14 A15 A16 A2 A3 A4 A5 A6 A8 A9:Option Addr} {B1 B2 B6 B7 B9 M11 M7 M8 c1 c10 c12 c13 c14 c15 c16 c2 c3 c4 c5 c6 c8 c9 n1 n10 n12 n13 n14 n15 n16 n2 n3 n4 n5 n6 n8 n9:Nat}
open Go.RowKit Go.ChangeShapes Go.WideShapes Go.Deep
def DY (x:Rz):Prop:=(in64 x.Sa)/\(in64 x.N)/\(in64 x.M)/\(x.S.size<=reachBytes)/\(OK (fun a1=>in64 a1) x.L)
set_option maxRecDepth 100000 in
theorem Je:KM RY 53 H6 DY:=fun {_ enc w base spare held _ cs y} h hw=>by
 obtain ⟨xs,m, -,hy,hl,hx,hf⟩:=DataW.trod_struct Rh h
 have hc:Tryz.prog.cellsOf 53=5:=by kernel_rfl
 rw [hc] at hl
 match cs,hl,hf with
 | [c0,c1,c2,c3,c4],_,hf=>
  have k0:DataW.trod enc RY w base spare held m 3 (List.take (Tryz.prog.cellsOf 3) (List.drop 0 [c0,c1,c2,c3,c4]))=xs[0]? :=hf 0 _ rfl
  have z0:Tryz.prog.cellsOf 3=1:=by kernel_rfl
  simp only [z0,List.drop_succ_cons,List.drop_zero,List.take_succ_cons,List.take_zero] at k0
  have l0:0<xs.length:=by rw [hx];decide
  obtain ⟨a0,r0,w0⟩:=(Rdr.w (AK hP)) (k0.trans (List.getElem?_eq_getElem l0)) (sH Rh hy hw (i:=0) rfl (List.getElem?_eq_getElem l0));have k1:DataW.trod enc RY w base spare held m 3 (List.take (Tryz.prog.cellsOf 3) (List.drop 1 [c0,c1,c2,c3,c4]))=xs[1]? :=hf 1 _ rfl
  have z1:Tryz.prog.cellsOf 3=1:=by kernel_rfl
  simp only [z1,List.drop_succ_cons,List.drop_zero,List.take_succ_cons,List.take_zero] at k1
  have l1:1<xs.length:=by rw [hx];decide
  obtain ⟨a1,r1,w1⟩:=(Rdr.w (AK hP)) (k1.trans (List.getElem?_eq_getElem l1)) (sH Rh hy hw (i:=1) rfl (List.getElem?_eq_getElem l1));have k2:DataW.trod enc RY w base spare held m 3 (List.take (Tryz.prog.cellsOf 3) (List.drop 2 [c0,c1,c2,c3,c4]))=xs[2]? :=hf 2 _ rfl
  have z2:Tryz.prog.cellsOf 3=1:=by kernel_rfl
  simp only [z2,List.drop_succ_cons,List.drop_zero,List.take_succ_cons,List.take_zero] at k2
  have l2:2<xs.length:=by rw [hx];decide
  obtain ⟨a2,r2,w2⟩:=(Rdr.w (AK hP)) (k2.trans (List.getElem?_eq_getElem l2)) (sH Rh hy hw (i:=2) rfl (List.getElem?_eq_getElem l2));have k3:DataW.trod enc RY w base spare held m 9 (List.take (Tryz.prog.cellsOf 9) (List.drop 3 [c0,c1,c2,c3,c4]))=xs[3]? :=hf 3 _ rfl
  have z3:Tryz.prog.cellsOf 9=1:=by kernel_rfl
  simp only [z3,List.drop_succ_cons,List.drop_zero,List.take_succ_cons,List.take_zero] at k3
  have l3:3<xs.length:=by rw [hx];decide
  obtain ⟨a3,r3,w3⟩:=(Jd Q9) (k3.trans (List.getElem?_eq_getElem l3)) (sH Rh hy hw (i:=3) rfl (List.getElem?_eq_getElem l3));have k4:DataW.trod enc RY w base spare held m 39 (List.take (Tryz.prog.cellsOf 39) (List.drop 4 [c0,c1,c2,c3,c4]))=xs[4]? :=hf 4 _ rfl
  have z4:Tryz.prog.cellsOf 39=1:=by kernel_rfl
  simp only [z4,List.drop_succ_cons,List.drop_zero,List.take_succ_cons,List.take_zero] at k4
  have l4:4<xs.length:=by rw [hx];decide
  obtain ⟨a4,r4,w4⟩:=(Hf t0 I (by decide) (of_decide_eq_true I) (Rdr.w (AK hP))) (k4.trans (List.getElem?_eq_getElem l4)) (sH Rh hy hw (i:=4) rfl (List.getElem?_eq_getElem l4));obtain ⟨rfl, -⟩:=List.cons.inj (show [c0]=[_] from r0);obtain ⟨rfl, -⟩:=List.cons.inj (show [c1]=[_] from r1);obtain ⟨rfl, -⟩:=List.cons.inj (show [c2]=[_] from r2);obtain ⟨rfl, -⟩:=List.cons.inj (show [c3]=[_] from r3);obtain ⟨v4,e4,b4⟩:=r4;obtain ⟨rfl, -⟩:=List.cons.inj e4;obtain ⟨A4,q4,rfl,d4⟩:=b4;have b4:SlR (eT .i64) _ _ (.slice A4 a4.length q4) a4:=⟨_,_,rfl,d4⟩;exact ⟨⟨a0,a1,a2,a3,a4⟩,⟨_,_,_,J,b4⟩,⟨w0,w1,w2,w3,w4⟩⟩
def MW (x:Rs):Prop:=(in64 x.SI)/\(in64 x.SG)/\(in64 x.SA)/\(in64 x.SF)/\(in64 x.Se)/\(in64 x.SH)/\(in64 x.SJ)
set_option maxRecDepth 100000 in
theorem NM {H:Type}{enc:TypeId×Value->H}{hE:World}{r:Reach}{b0:Nat}{base:Nat}{spare:Nat->Bool}{held:Bool}{v:Value}{d:DataW H}{p:List MemPlace}
  (hv:Value.okWide RY hE r b0 50 v) (h:DataW.Trod enc RY hE base spare held 50 v d p) (hz:Light RY 50 d): ∃(m:List Rz) (Aq_0:Option Addr) (nq_0 cq_0:Nat),v=U Aq_0 nq_0 cq_0/\(OK (fun a1=>DY a1) m)/\(qq H6 (U Aq_0 nq_0 cq_0) m).ok (fun _=>False) (fun q=>q<hE.heap.size) hE:=by
 obtain ⟨A,n,c,rfl⟩:=okWide_slice t5 hv;obtain ⟨fuel,hf⟩:=h;obtain ⟨m,⟨u,e,h1⟩,hw⟩:=(Hf t5 I (by decide) (of_decide_eq_true I) Je) hf hz;obtain ⟨rfl, -⟩:=List.cons.inj (show [_]=[_] from e);exact ⟨m,A,n,c,J,hw,h1⟩
end
section
variable {A1 A10 A12 A13 A14 A15 A16 A2 A3 A4 A5 A6 A8 A9:Option Addr} {B1 B2 B6 B7 B9 M11 M7 M8 c1 c10 c12 c13 c14 c15 c16 c2 c3 c4 c5 c6 c8 c9 n1 n10 n12 n13 n14 n15 n16 n2 n3 n4 n5 n6 n8 n9:Nat}
open Go.RowKit
def Sat {ρ:Type}(m:Option ρ)(R:ρ->Prop):Prop:= ∃r,m=some r/\R r
theorem av {ρ:Type}{x:ρ}{R:ρ->Prop}(h:R x):Sat (some x) R:=⟨x,rfl,h⟩
theorem Sat.eq {ρ:Type}{m:Option ρ}{x:ρ}(h:Sat m (· =x)):m=some x:=by obtain ⟨r,h1,rfl⟩:=h;exact h1
theorem Sat.mono {ρ:Type}{m:Option ρ}{R Q:ρ->Prop}(h:Sat m R)(k: ∀x,R x->Q x):Sat m Q:=by obtain ⟨r,h1,h2⟩:=h;exact ⟨r,h1,k _ h2⟩
theorem Sat.bind {ρ σ:Type}{m:Option σ}{f:σ->Option ρ}{P:σ->Prop}{R:ρ->Prop}(h:Sat m P)(k: ∀x,P x->Sat (f x) R):Sat (m.bind f) R:=by obtain ⟨x,rfl,h2⟩:=h;exact k x h2
theorem qI {ρ:Type}{b:Bool}{x y:Option ρ}{R:ρ->Prop}(h1:b=true->Sat x R)(h2:b=false->Sat y R):Sat (bif b then x else y) R:=by cases b with|true=>exact h1 rfl|false=>exact h2 rfl
theorem dB {ρ:Type}{p:Prop}[Decidable p]{x y:Option ρ}{R:ρ->Prop}(h1:p->Sat x R)(h2: ¬p->Sat y R):Sat (bif decide p then x else y) R:=by
 by_cases h:p
 ·rw [RM h];exact h1 h
 rw [RN h];exact h2 h
theorem bs {ρ σ:Type}{x:σ}{f:σ->Option ρ}:(some x).bind f=f x:=Eq.trans rfl rfl
theorem ct {ρ:Type}{x y:ρ}:(bif true then x else y)=x:=Eq.trans rfl rfl
theorem cf {ρ:Type}{x y:ρ}:(bif false then x else y)=y:=Eq.trans rfl rfl
theorem nt:(!true)=false:=Eq.trans rfl rfl
theorem nf:(!false)=true:=Eq.trans rfl rfl
theorem cn {a b:Int}(h:a<b):decide (a<b)=true:=RM h
theorem cu {a b:Int}(h:b<=a):decide (a<b)=false:=RN V
theorem JT {a b:Int}(h:a<=b):decide (a<=b)=true:=RM h
theorem JU {a b:Int}(h:b<a):decide (a<=b)=false:=RN V
theorem og {a b:Int}(h:a=b):decide (a=b)=true:=RM h
theorem gu {a b:Int}(h:a≠b):decide (a=b)=false:=RN h
theorem iq {ρ:Type}{b:Prop}[Decidable b]{m:Option ρ}(h:b):bn b m=m:=if_pos h
theorem r64 {ρ:Type}{a:Int}{m:Option ρ}(h1: -9000000000000000000<=a)(h2:a<=9000000000000000000):bn (in64 a) m=m:=if_pos ⟨by omega,by omega⟩
theorem rF {ρ:Type}{n:Nat}{m:Option ρ}(h:n<=1000000):bn (cc n) m=m:=if_pos (by unfold cc;omega)
theorem Eu {α:Type}{xs:List α}{i:Int}(h0:0<=i)(h1:i.toNat<xs.length):au xs i=some xs[i.toNat]:=by
 unfold au;rw [if_neg V,List.getElem?_eq_getElem h1]
theorem aK {α:Type}{xs:List α}{i:Nat}(h1:i<xs.length):au xs (i:Int)=some xs[i]:=by
 unfold au;rw [if_neg V,Int.toNat_natCast,List.getElem?_eq_getElem h1]
theorem cI {σ ρ:Type}(L:Nat->Nat->σ->Option ρ)(n:Nat)(Inv:Nat->σ->Prop)(R:ρ->Prop)
  (round: ∀m i s,i<n->Inv i s->(∀s',Inv (i+1) s'->Sat (L m (i+1) s') R)->Sat (L (m+1) i s) R)
  (fin: ∀m s,Inv n s->Sat (L (m+1) n s) R): ∀m i s,n<m+i->i<=n->Inv i s->Sat (L m i s) R
 |0,i,s,h,h2,_=>by omega
 |m+1,i,s,h,h2,hi=>by
  by_cases e:i=n
  ·subst e;exact fin m s hi
  exact round m i s V hi fun s' h'=>cI L n Inv R round fin m (i+1) s' V V h'
theorem nU {σ ρ:Type}(L:Nat->σ->Option ρ)(v:σ->Nat)(Inv:σ->Prop)(R:ρ->Prop)
  (round: ∀m s,Inv s->(∀s',v s'<v s->Inv s'->Sat (L m s') R)->Sat (L (m+1) s) R): ∀m s,v s<m->Inv s->Sat (L m s) R
 |0,_,h,_=>by omega
 |m+1,s,h,hi=>round m s hi fun s' h1 h2=>nU L v Inv R round m s' V h2
theorem aM {α:Type}{l:List α}{i:Nat}(h:i<l.length):l.take (i+1)=l.take i++ [l[i]]:=by
 rw [List.take_add_one,List.getElem?_eq_getElem h];rfl
theorem HK: ∀{a b:List Int},a.Pairwise (· < ·)->b.Pairwise (· < ·)->(∀x,x∈a↔x∈b)->a=b
 | [],[],_,_,_=>rfl
 | [],y::b,_,_,h=>by have:=(h y).2 (by simp);cases this
 |x::a,[],_,_,h=>by have:=(h x).1 (by simp);cases this
 | x::a,y::b,ha,hb,h=>by
  obtain ⟨ha1,ha2⟩:=List.pairwise_cons.1 ha;obtain ⟨a1,a2⟩:=List.pairwise_cons.1 hb
  have e:x=y:=by
   rcases List.mem_cons.1 ((h x).1 (by simp)) with e|h1
   ·exact e
   rcases List.mem_cons.1 ((h y).2 (by simp)) with e|h2
   ·exact e.symm
   have:=a1 x h1;have:=ha1 y h2;omega
  subst e;rw [HK ha2 a2 fun z=> ?_];constructor
  ·intro hz;rcases List.mem_cons.1 ((h z).1 (by simp [hz])) with e|h1
   ·subst e;exact absurd (ha1 z hz) V
   exact h1
  intro hz;rcases List.mem_cons.1 ((h z).2 (by simp [hz])) with e|h1
  ·subst e;exact absurd (a1 z hz) V
  exact h1
theorem GK {α β:Type}[DecidableEq α](a:α)(L:List (α×β)):(∃i b,fp a L 0=some (i,b)/\L[i]? =some (a,b))\/(fp a L 0=none/\a∉L.map (·.1)):=by
 cases h:fp a L 0 with
 | none=>exact .inr ⟨rfl,fun h1=>by
   obtain ⟨p,h2,h3⟩:=List.mem_map.1 h1
   exact (Lx a L).1 h p h2 h3⟩
 |some q=>obtain ⟨i,b⟩:=q;exact .inl ⟨i,b,J,(Hz a L 0 i b h).2⟩
theorem xL {α β:Type}[DecidableEq α](L:List (α×β))(a:α)(b:β):(xi L a b).map (·.1)=if a∈L.map (·.1) then L.map (·.1) else L.map (·.1)++ [a]:=by
 unfold xi;rcases GK a L with ⟨i,c,h1,h2⟩|⟨h1,h2⟩
 ·have hm:a∈L.map (·.1):=List.mem_map.2 ⟨_,List.mem_of_getElem? h2,rfl⟩;rw [h1,if_pos hm];show (L.set i (a,b)).map (·.1)=_;rw [List.map_set];apply List.ext_getElem?;intro j;by_cases e:i=j
  ·subst e;have hlt:=(List.getElem?_eq_some_iff.1 h2).1;rw [List.getElem?_set_self (by simpa using hlt),List.getElem?_map,h2];rfl
  rw [List.getElem?_set_ne e]
 rw [h1,if_neg h2];show (L++ [(a,b)]).map (·.1)=_;rw [List.map_append];rfl
theorem KY {α β:Type}[DecidableEq α](L:List (α×β))(a:α)(b:β)(x:α):x∈(xi L a b).map (·.1)↔x=a\/x∈L.map (·.1):=by
 rw [xL];split
 ·constructor
  ·exact .inr
  rintro (rfl|h)<;>assumption
 rw [List.mem_append,List.mem_singleton];exact Or.comm
theorem uj {α:Type}: ∀{l:List α} {i:Nat} {a:α},l.Nodup->l[i]? =some a-> ∀x,x∈l.eraseIdx i↔x∈l/\x≠a
 | [],_,_,_,h,_=>by simp at h
 |y::l,0,a,hn,h,x=>by
  simp only [List.getElem?_cons_zero,Option.some.injEq] at h;subst h;rw [List.eraseIdx_cons_zero];obtain ⟨h1, -⟩:=List.nodup_cons.1 hn;constructor
  ·intro hx;exact ⟨by simp [hx],fun e=>h1 (e▸hx)⟩
  rintro ⟨hx,hne⟩;rcases List.mem_cons.1 hx with e|hx
  ·exact absurd e hne
  exact hx
 | y::l,i+1,a,hn,h,x=>by
  simp only [List.getElem?_cons_succ] at h;obtain ⟨h1,h2⟩:=List.nodup_cons.1 hn;rw [List.eraseIdx_cons_succ,List.mem_cons,List.mem_cons,uj h2 h x];have ha:a∈l:=List.mem_of_getElem? h;constructor
  ·rintro (rfl|⟨h3,h4⟩)
   ·exact ⟨.inl J,fun e=>h1 (e▸ha)⟩
   exact ⟨.inr h3,h4⟩
  rintro ⟨rfl|h3,h4⟩
  ·exact .inl J
  exact .inr ⟨h3,h4⟩
theorem DJ {α β:Type}[DecidableEq α]{L:List (α×β)}(h:(L.map (·.1)).Nodup)(a:α):(∀x,x∈(zI L a).map (·.1)↔x∈L.map (·.1)/\x≠a)/\((zI L a).map (·.1)).Nodup/\(zI L a).length<=L.length:=by
 unfold zI;rcases GK a L with ⟨i,c,h1,h2⟩|⟨h1,h2⟩
 ·rw [h1]
  have h3:(L.map (·.1))[i]? =some a:=by rw [List.getElem?_map,h2];rfl
  show (∀x,x∈(L.eraseIdx i).map (·.1)↔_)/\((L.eraseIdx i).map (·.1)).Nodup/\(L.eraseIdx i).length<=_;rw [<-zH];exact ⟨uj h h3,h.sublist (List.eraseIdx_sublist _ _),(List.eraseIdx_sublist _ _).length_le⟩
 rw [h1];exact ⟨fun x=>⟨fun hx=>⟨hx,fun e=>h2 (e▸hx)⟩,fun hx=>hx.1⟩,h,Nat.le_refl _⟩
end
section
variable {A1 A10 A12 A13 A14 A15 A16 A2 A3 A4 A5 A6 A8 A9:Option Addr} {B1 B2 B6 B7 B9 M11 M7 M8 c1 c10 c12 c13 c14 c15 c16 c2 c3 c4 c5 c6 c8 c9 n1 n10 n12 n13 n14 n15 n16 n2 n3 n4 n5 n6 n8 n9:Nat}
open Go.RowKit
end
section
variable {A1 A10 A12 A13 A14 A15 A16 A2 A3 A4 A5 A6 A8 A9:Option Addr} {B1 B2 B6 B7 B9 M11 M7 M8 c1 c10 c12 c13 c14 c15 c16 c2 c3 c4 c5 c6 c8 c9 n1 n10 n12 n13 n14 n15 n16 n2 n3 n4 n5 n6 n8 n9:Nat}
open Go.RowKit
theorem mH {α:Type}(xs:List α)(i:Nat):au xs (i:Int)=xs[i]? :=by
 unfold au;rw [if_neg V];simp
theorem AJ {ρ:Type}{b:Prop}[Decidable b]{m:Option ρ}(h:b):bn b m=m:=if_pos h
def ba (v:Ry):Bool:=decide (v.Sa=7)||decide (v.Sa=9)
def kW (k:Int)(i:Nat):Bool:=!decide (k=8)&&(!decide (k=10)||decide ((i:Int).tmod 2=0))
def pick (f:Nat->Ry->Bool):Nat->List Ry->List Int
 |_,[]=> []
 |i,v::l=>(bif f i v then [v.N] else [])++pick f (i+1) l
theorem nm (f:Nat->Ry->Bool)(i:Nat)(v:Ry)(l:List Ry):pick f i (v::l)=(bif f i v then [v.N] else [])++pick f (i+1) l:=rfl
theorem yc (f:Nat->Ry->Bool): ∀(i:Nat) (l:List Ry),(pick f i l).length<=l.length
 |_,[]=>Nat.le_refl _
 |i,v::l=>by
  have:=yc f (i+1) l;unfold pick;cases f i v<;>simp<;>omega
theorem Dc: ∀(i:Nat) (l:List Ry),pick (fun _ _=>false) i l=[]
 |_,[]=>rfl
 |i,v::l=>by unfold pick;simp [Dc (i+1) l]
theorem pN (N:Nat)(v:Ry):lT N v=some (ba v):=by
 unfold lT ba;cases decide (v.Sa=7)<;>rfl
theorem xT (N:Nat)(v:Ry):wd N v=some (ba v):=by
 unfold wd ba;cases decide (v.Sa=7)<;>rfl
theorem DO (N:Nat)(a b:Bool)(x:Ry)(p:List Int)(h:p.length<=5000):cQ (fun x st=>eH N a x st) (b,x) (none,p)=some (true,(none,p++(bif (b==a)&&ba x then [x.N] else []))):=by
 unfold cQ eH;simp only [pN,Option.bind_some];cases b==a
 ·simp
 cases ba x
 ·simp
 have:cc (p.length+ [x.N].length):=by unfold cc;simp only [List.length_cons,List.length_nil];omega
 simp only [cond_true,Option.bind_some,Bool.and_self];rw [AJ this];rfl
theorem HM (N:Nat)(a:Bool)(c:Rk)(hc:c.Sd.length<=1000)(K:Nat)(hK:K<=1000): ∀(m i:Nat) (p:List Int),c.Sd.length<m+i->i<=c.Sd.length->p.length<=K+i->kE N (cQ (fun x st=>eH N a x st)) c m (i:Int) (none,p)=some (none,p++pick (fun i v=>(kW c.Sa i==a)&&ba v) i (c.Sd.drop i))
 |0,i,p,h,h2,_=>by omega
 | m+1,i,p,h,h2,h3=>by
  rw [kE.eq_2];by_cases hi:i<c.Sd.length
  ·rw [show (decide ((i:Int)<(c.Sd.length:Int)))=true from RM V,mH,List.getElem?_eq_getElem hi,List.drop_eq_getElem_cons hi];simp only [cond_true,Option.bind_some]
   have hs:(bif !decide (c.Sa=8) then ((bif !decide (c.Sa=10) then (some true) else (some (decide ((i:Int).tmod 2=0)))).bind fun a1=>some a1) else (some false))=some (kW c.Sa i):=by
    unfold kW;cases decide (c.Sa=8)<;>cases decide (c.Sa=10)<;>rfl
   rw [hs];simp only [Option.bind_some];rw [DO N a _ _ _ V];rw [Option.bind_some]
   dsimp only
   rw [Bool.not_true,cond_false];rw [AJ (by unfold in64;omega)]
   have hlen:(p++(bif (kW c.Sa i==a)&&ba c.Sd[i] then [c.Sd[i].N] else [])).length<=K+(i+1):=by
    cases (kW c.Sa i==a)&&ba c.Sd[i]<;>simp<;>omega
   have:=HM N a c hc K hK m (i+1) _ V hi hlen;simp only [Int.natCast_add,Int.cast_ofNat_Int] at this;rw [this];rw [nm,RP]
  rw [show (decide ((i:Int)<(c.Sd.length:Int)))=false from RN V,List.drop_eq_nil_of_le V];simp [pick]
theorem KK (N:Nat)(hN:2000<N)(a:Bool)(c:Rk)(hS:c.Sg.length<=1000)(hc:c.Sd.length<=1000): ∀(m i:Nat) (p:List Int),c.Sg.length<m+i->i<=c.Sg.length->p.length<=i->jH N (cQ (fun x st=>eH N a x st)) c m (i:Int) (none,p)=some (none,(p++pick (fun _ v=>(true==a)&&ba v) i (c.Sg.drop i))++pick (fun i v=>(kW c.Sa i==a)&&ba v) 0 c.Sd)
 |0,i,p,h,h2,_=>by omega
 | m+1,i,p,h,h2,h3=>by
  rw [jH.eq_2];by_cases hi:i<c.Sg.length
  ·rw [show (decide ((i:Int)<(c.Sg.length:Int)))=true from RM V,mH,List.getElem?_eq_getElem hi,List.drop_eq_getElem_cons hi];simp only [cond_true,Option.bind_some];rw [DO N a _ _ _ V];rw [Option.bind_some]
   dsimp only
   rw [Bool.not_true,cond_false];rw [AJ (by unfold in64;omega)]
   have hlen:(p++(bif (true==a)&&ba c.Sg[i] then [c.Sg[i].N] else [])).length<=(i+1):=by
    cases (true==a)&&ba c.Sg[i]<;>simp<;>omega
   have:=KK N hN a c hS hc m (i+1) _ V hi hlen;simp only [Int.natCast_add,Int.cast_ofNat_Int] at this;rw [this];rw [nm,RP p]
  rw [show (decide ((i:Int)<(c.Sg.length:Int)))=false from RN V,List.drop_eq_nil_of_le V];simp only [cond_false,rv];have:=HM N a c hc p.length V N 0 p V V V;simp only [Int.natCast_zero,Int.cast_ofNat_Int] at this;rw [this];simp [pick]
theorem vL (N:Nat)(hN:2000<N)(a:Bool)(c:Rk)(hS:c.Sg.length<=1000)(hc:c.Sd.length<=1000):jI N c a=some (pick (fun _ v=>(true==a)&&ba v) 0 c.Sg++pick (fun i v=>(kW c.Sa i==a)&&ba v) 0 c.Sd):=by
 unfold jI rx mI;have:=KK N hN a c hS hc N 0 [] V V (by simp);simp only [Int.natCast_zero,Int.cast_ofNat_Int] at this;rw [Option.bind_some,this,Option.bind_some];show some _=some _;simp
def mu (k:Int)(i:Nat):Bool:=decide (k=8)||(decide (k=10)&&(decide (0<(i:Int))&&decide ((((i:Int) - 1).tmod 4).tmod 2=0)))
theorem HP (N:Nat)(k:Int)(i:Nat)(hi:i<=5000):xr N k (i:Int)=some (mu k i):=by
 unfold xr mu;by_cases h1:k=8
 ·simp [h1]
 by_cases h2:k=10
 ·by_cases h3:(0:Int)<i
  ·subst h2;simp only [h3,decide_true,ct,bs,r64 (a:=(i:Int) - 1) V V,show decide ((10:Int)=8)=false from rfl,cf,Bool.false_or,Bool.true_and]
  subst h2;simp only [h3,decide_true,decide_false,ct,bs,show decide ((10:Int)=8)=false from rfl,cf,Bool.false_or,Bool.true_and,Bool.false_and]
 simp [h1,h2]
theorem Bm (N:Nat)(hN:2000<N)(c:Rk)(hS:c.Sg.length<=1000)(hc:c.Sd.length<=1000):rZ N c=some (pick (fun _ v=>ba v) 0 c.Sg++pick (fun i v=> !mu c.Sa i&&ba v) 0 c.Sd):=by
 apply Sat.eq;unfold rZ;refine cI (fun m i s=>lM N c m s (i:Int)) c.Sg.length (fun i s=>s++pick (fun _ v=>ba v) i (c.Sg.drop i)=pick (fun _ v=>ba v) 0 c.Sg/\s.length<=i) _ ?_ ?_ N 0 [] V V ⟨by simp,by simp⟩
 ·rintro m i s hi ⟨h1,h2⟩ k;show Sat (lM N c (m+1) s i) _;rw [List.drop_eq_getElem_cons hi,nm] at h1;rw [lM.eq_2,cn V,cond_true,aK hi,bs,xT,bs];simp only [bs];cases hh:ba c.Sg[i]
  all_goals
   simp only [hh,ct,cf,bs,R4] at h1⊢
   first
   |(unfold oZ
     rw [r64 V V]
     exact k s ⟨h1,by omega⟩)
   |(rw [rF (by simp;omega)]
     unfold oZ;rw [r64 V V]
     exact k _ ⟨by rw [RP];exact h1,by simp;omega⟩)
 rintro m s ⟨h1,h2⟩;show Sat (lM N c (m+1) s _) _;rw [List.drop_length] at h1
 have h1:s=pick (fun _ v=>ba v) 0 c.Sg:=by rw [<-h1];simp [pick]
 rw [lM.eq_2,cu V,cond_false, <-h1];unfold xY;clear h1;refine cI (fun m i s=>kI N c m s (i:Int)) c.Sd.length (fun i t=>t++pick (fun i v=> !mu c.Sa i&&ba v) i (c.Sd.drop i)=s++pick (fun i v=> !mu c.Sa i&&ba v) 0 c.Sd/\t.length<=1000+i) _ ?_ ?_ N 0 s V V ⟨by simp,by omega⟩
 ·rintro m i s hi ⟨h1,h2⟩ k;show Sat (kI N c (m+1) s i) _;rw [List.drop_eq_getElem_cons hi,nm] at h1;rw [kI.eq_2,cn V,cond_true,aK hi,bs,xT,bs,HP _ _ _ V];simp only [bs];cases hh:ba c.Sd[i]<;>cases hw:mu c.Sa i
  all_goals
   simp only [hh,hw,Bool.and_true,Bool.and_false,nt,nf,ct,cf,bs,R4] at h1⊢
   first
   |(unfold oY
     rw [r64 V V]
     exact k s ⟨h1,by omega⟩)
   |(rw [rF (by simp;omega)]
     unfold oY;rw [r64 V V]
     exact k _ ⟨by rw [RP];exact h1,by simp;omega⟩)
 rintro m s ⟨h1,h2⟩;show Sat (kI N c (m+1) s _) _;rw [List.drop_length] at h1;rw [kI.eq_2,cu V,cond_false];exact av (by rw [<-h1];simp [pick])
theorem zU (k:Int)(i:Nat):kW k i=!mu k i:=by
 unfold kW mu;by_cases h8:k=8
 ·subst h8;rfl
 by_cases h10:k=10
 ·subst h10;have e0:(i:Int).tmod 2=(i:Int)%2:=Int.tmod_eq_emod_of_nonneg V;by_cases hi:(0:Int)<i
  ·have e1:((i:Int) - 1).tmod 4=((i:Int) - 1)%4:=Int.tmod_eq_emod_of_nonneg V;have e2:(((i:Int) - 1)%4).tmod 2=(((i:Int) - 1)%4)%2:=Int.tmod_eq_emod_of_nonneg V;rw [e0,e1,e2];by_cases h:(i:Int)%2=0
   ·have h2: ¬(((i:Int) - 1)%4)%2=0:=by omega
    rw [RM h,RN h2,RM hi];rfl
   have h2:(((i:Int) - 1)%4)%2=0:=by omega
   rw [RN h,RM h2,RM hi];rfl
  have:i=0:=by omega
  subst this;rfl
 simp [h8,h10]
def cg (c:Rk):List Int:=pick (fun _ v=>ba v) 0 c.Sg++pick (fun i v=> !mu c.Sa i&&ba v) 0 c.Sd
theorem nb (N:Nat)(hN:2000<N)(c:Rk)(hS:c.Sg.length<=1000)(hc:c.Sd.length<=1000):fC N c=some (cg c):=by
 unfold fC cg;rw [vL N hN true c hS hc,bs]
 have e1:(fun (_:Nat) (v:Ry)=>(true==true)&&ba v)=fun _ v=>ba v:=by funext i v;rfl
 have e2:(fun (i:Nat) (v:Ry)=>(kW c.Sa i==true)&&ba v)=fun i v=> !mu c.Sa i&&ba v:=by funext i v;rw [zU];cases mu c.Sa i<;>rfl
 rw [e1,e2]
theorem It (N:Nat)(hN:2000<N)(c:Rk)(hS:c.Sg.length<=1000)(hc:c.Sd.length<=1000):rZ N c=some (cg c):=Bm N hN c hS hc
theorem kk (c:Rk):(cg c).length<=c.Sg.length+c.Sd.length:=by
 unfold cg;have h1:=yc (fun _ v=>ba v) 0 c.Sg;have h2:=yc (fun i v=> !mu c.Sa i&&ba v) 0 c.Sd;rw [RZ];omega
theorem yb {f:Nat->Ry->Bool}{x:Int}: ∀{i:Nat} {l:List Ry},x∈pick f i l-> ∃v∈l,v.N=x
 |_,[],h=>by cases h
 | i,v::l,h=>by
  rw [nm,List.mem_append] at h;rcases h with h|h
  ·cases hf:f i v
   ·rw [hf] at h;cases h
   rw [hf] at h;exact ⟨v,by simp,(List.mem_singleton.1 h).symm⟩
  obtain ⟨w,h1,h2⟩:=yb h;exact ⟨w,by simp [h1],h2⟩
theorem BV {c:Rk}{x:Int}(h:x∈cg c): ∃v∈c.Sg++c.Sd,v.N=x:=by
 unfold cg at h;rcases List.mem_append.1 h with h|h
 ·obtain ⟨v,h1,h2⟩:=yb h;exact ⟨v,by simp [h1],h2⟩
 obtain ⟨v,h1,h2⟩:=yb h;exact ⟨v,by simp [h1],h2⟩
end
section
variable {A1 A10 A12 A13 A14 A15 A16 A2 A3 A4 A5 A6 A8 A9:Option Addr} {B1 B2 B6 B7 B9 M11 M7 M8 c1 c10 c12 c13 c14 c15 c16 c2 c3 c4 c5 c6 c8 c9 n1 n10 n12 n13 n14 n15 n16 n2 n3 n4 n5 n6 n8 n9:Nat}
open Go.RowKit
def C0:Rk:=⟨0,0,0,0,[],[]⟩
def iv (m:Rp)(a:Int):Option Rk:=if a<1 then none else if a%2=1 then m.Se[((a - 1) / 2).toNat]? else m.Sc[((a - 2) / 2).toNat]?
def aD (m:Rp)(a:Int):Bool:=(iv m a).isSome
def bq (m:Rp)(a:Int):Rk:=(iv m a).getD C0
structure Small (m:Rp) (roots:List Ry):Prop where
 young:m.Se.length<=600
 old:m.Sc.length<=600
 roots:roots.length<=600
 cells: ∀c∈m.Se++m.Sc,c.Sg.length<=600/\c.Sd.length<=600
theorem rB {m:Rp}{a:Int}{c:Rk}(h:iv m a=some c):c∈m.Se++m.Sc:=by
 unfold iv at h;split at h
 ·cases h
 split at h
 ·exact RQ _ (List.mem_of_getElem? h)
 exact RR _ (List.mem_of_getElem? h)
theorem Small.at_ {m:Rp}{roots:List Ry}(h:Small m roots)(a:Int):(bq m a).Sg.length<=600/\(bq m a).Sd.length<=600:=by
 unfold bq
 cases hc:iv m a with
 |none=>exact ⟨by simp [C0],by simp [C0]⟩
 |some c=>exact h.cells c (rB hc)
theorem pq {m:Rp}{a:Int}(h:aD m a=true):0<a:=by
 unfold aD iv at h;split at h
 ·cases h
 omega
theorem wq {m:Rp}{roots:List Ry}(hs:Small m roots){a:Int}(h:aD m a=true):a<=1200:=by
 have h1:=hs.young;have h2:=hs.old;unfold aD iv at h;split at h
 ·cases h
 split at h
 ·have:=(List.getElem?_eq_some_iff.1 (Option.isSome_iff_exists.1 h).choose_spec).1;omega
 have:=(List.getElem?_eq_some_iff.1 (Option.isSome_iff_exists.1 h).choose_spec).1;omega
theorem wQ {a:Int}(h:0<=a):a.tdiv 2=a / 2:=Int.tdiv_eq_ediv_of_nonneg h
theorem pQ {a:Int}(h:0<=a):a.tmod 2=a%2:=Int.tmod_eq_emod_of_nonneg h
theorem wo {α:Type}(l:List α)(i:Nat):(l[i]?).isSome=decide ((i:Int)<(l.length:Int)):=by
 by_cases h:i<l.length
 ·rw [List.getElem?_eq_getElem h,RM V];rfl
 rw [List.getElem?_eq_none V,RN V];rfl
theorem ub (m:Rp)(a:Int):(a<1/\iv m a=none)\/(∃k:Nat,a=2*(k:Int)+1/\iv m a=m.Se[k]?)\/(∃k:Nat,a=2*(k:Int)+2/\iv m a=m.Sc[k]?):=by
 by_cases h:a<1
 ·exact .inl ⟨h,by unfold iv;rw [if_pos h]⟩
 by_cases h2:a%2=1
 ·refine .inr (.inl ⟨((a - 1) / 2).toNat,by omega,?_⟩);unfold iv;rw [if_neg h,if_pos h2]
 refine .inr (.inr ⟨((a - 2) / 2).toNat,by omega,?_⟩);unfold iv;rw [if_neg h,if_neg h2]
theorem HQ {a:Int}(h:in64 a): -4611686018427387904<=a.tdiv 2/\a.tdiv 2<=4611686018427387904:=by
 unfold in64 at h;by_cases h0:0<=a
 ·rw [wQ h0];omega
 have h1:(-a).tdiv 2= -(a.tdiv 2):=Int.neg_tdiv a 2;rw [wQ V] at h1;omega
theorem BB (N:Nat)(m:Rp)(a:Int)(h:in64 a):Sat (mC N m a) fun r=>r.2.2=aD m a/\(aD m a=true->au r.1 r.2.1=iv m a):=by
 have hd:=HQ h;unfold mC;rw [r64 V V];unfold nH aD;rcases ub m a with ⟨h1,h2⟩|⟨k,h1,h2⟩|⟨k,h1,h2⟩
 ·rw [h2]
  refine dB (fun _=> ?_) fun _=> ?_
  ·rw [r64 V V,r64 V V,cu (a:=0) (b:=a) V,cf,bs];exact av ⟨J,fun h=>by cases h⟩
  rw [cu (a:=0) (b:=a) V,cf,bs];exact av ⟨J,fun h=>by cases h⟩
 ·subst h1;rw [h2,pQ V,wQ V,gu V,cf,cn V,ct,bs,show (2*(k:Int)+1) / 2=k by omega];exact av ⟨(wo _ _).symm,fun _=>mH _ _⟩
 subst h1;rw [h2,pQ V,wQ V,og V,ct,cn V,ct,bs,show (2*(k:Int)+2) / 2 - 1=k by omega];rw [r64 V V,r64 V V];exact av ⟨(wo _ _).symm,fun _=>mH _ _⟩
theorem td (N:Nat)(m:Rp)(a:Int)(h:in64 a):iN N m a=some (aD m a):=by
 obtain ⟨r,h1,h2, -⟩:=BB N m a h;unfold iN;rw [h1,bs,h2]
theorem oQ (N:Nat)(c:Rk)(h:c.Sg.length<=600/\c.Sd.length<=600):eg N c=some c:=by
 unfold eg cF;rw [rF (by simp;omega),bs,rF (by simp;omega),bs];rfl
theorem EO (N:Nat){m:Rp}{roots:List Ry}(hs:Small m roots)(a:Int)(h:in64 a):kg N m a=some (bq m a):=by
 obtain ⟨r,h1,h2,h3⟩:=BB N m a h;unfold kg bq;rw [h1,bs,h2];unfold aD at*
 cases hc:iv m a with
 |none=>rfl
 |some c=>
  have h4:=h3 (by rw [hc];rfl);rw [hc] at h4;have h5:=oQ N c (hs.cells c (rB hc));simp only [Option.isSome_some,nt,cf,h4,bs,h5];rfl
theorem Hv (N:Nat)(m:Rp)(a:Int)(h:in64 a):wc N m a=some (aD m a):=by
 unfold in64 at h;unfold wc aD;rcases ub m a with ⟨h1,h2⟩|⟨k,h1,h2⟩|⟨k,h1,h2⟩
 ·rw [h2,cn h1];rfl
 ·subst h1;rw [h2,cu V,cf,pQ V,og V,ct,wQ V,show (2*(k:Int)+1 - 1) / 2=k by omega,wo];rw [iq (by unfold in64;omega),iq (by unfold in64;omega)]
 subst h1;rw [h2,cu V,cf,pQ V,gu V,cf,wQ V,show (2*(k:Int)+2 - 2) / 2=k by omega,wo];rw [iq (by unfold in64;omega),iq (by unfold in64;omega)]
theorem KF (N:Nat)(m:Rp)(a:Int)(h:in64 a):xW N m a=some (bq m a):=by
 have hh:=Hv N m a h;unfold in64 at h;unfold xW bq;rw [hh,bs];unfold aD;rcases ub m a with ⟨h1,h2⟩|⟨k,h1,h2⟩|⟨k,h1,h2⟩
 ·rw [h2];rfl
 ·cases hc:m.Se[k]? with
  |none=>rw [h2,hc];rfl
  |some c=>
   rw [h2,hc];subst h1;simp only [Option.isSome_some,nt,cf];rw [pQ V,og V,ct,wQ V,show (2*(k:Int)+1 - 1) / 2=k by omega,mH,hc,bs];rw [iq (by unfold in64;omega),iq (by unfold in64;omega)];rfl
 cases hc:m.Sc[k]? with
 |none=>rw [h2,hc];rfl
 |some c=>
  rw [h2,hc];subst h1;simp only [Option.isSome_some,nt,cf];rw [pQ V,gu V,cf,wQ V,show (2*(k:Int)+2 - 2) / 2=k by omega,mH,hc,bs];rw [iq (by unfold in64;omega),iq (by unfold in64;omega)];rfl
end
section
variable {A1 A10 A12 A13 A14 A15 A16 A2 A3 A4 A5 A6 A8 A9:Option Addr} {B1 B2 B6 B7 B9 M11 M7 M8 c1 c10 c12 c13 c14 c15 c16 c2 c3 c4 c5 c6 c8 c9 n1 n10 n12 n13 n14 n15 n16 n2 n3 n4 n5 n6 n8 n9:Nat}
open Go.RowKit
theorem Iy (N:Nat)(k:Int):ua N k=jP N k:=by
 unfold ua jP iZ;by_cases h1:k=1
 ·subst h1;rfl
 by_cases h2:k=2
 ·subst h2;rfl
 by_cases h3:k=3
 ·subst h3;rfl
 by_cases h6:k=6
 ·subst h6;rfl
 by_cases h8:k=8
 ·subst h8;rfl
 by_cases h9:k=9
 ·subst h9;rfl
 by_cases h10:k=10
 ·subst h10;rfl
 rw [gu h1,gu h2,gu h3,gu h6,gu h8,gu h9,gu h10];rfl
theorem I9 (N:Nat)(c:Rk):iY N c=iP N c:=by
 unfold iY iP;rw [Iy];rfl
theorem Nu (N:Nat)(v:Ry):t8 N v=db N v:=by
 unfold t8 db pv;by_cases h5:v.Sa=5
 ·rw [h5];rfl
 rw [gu h5];simp only [cf];by_cases hr:v.Sa<0\/9<v.Sa
 ·have h2:v.Sa≠2:=by omega
  have h3:v.Sa≠3:=by omega
  have h6:v.Sa≠6:=by omega
  have h7:v.Sa≠7:=by omega
  have h9:v.Sa≠9:=by omega
  have e1:((bif decide (v.Sa<0) then (some true) else (some (decide (9<v.Sa)))):Option Bool)=some true:=by
   rcases hr with h|h
   ·rw [cn h];rfl
   rw [cn (a:=9) h];cases decide (v.Sa<0)<;>rfl
  rw [e1,bs,ct,gu h2,gu h3,gu h6,gu h7,gu h9];simp only [cf]
  have e2:(((bif decide (v.N=0) then (some (decide (0<=v.Sa))) else (some false)).bind fun a1=>(bif a1 then (some (decide (v.Sa<=9))) else (some false)).bind fun a2=>some a2):Option Bool)=some false:=by
   cases decide (v.N=0)
   ·rfl
   rcases hr with h|h
   ·rw [JU (a:=0) (b:=v.Sa) V];rfl
   rw [JU (a:=v.Sa) (b:=9) V];cases decide (0<=v.Sa)<;>rfl
  rw [e2];cases s:(v.S.toList==(⟨#[]⟩:ByteArray).toList)<;>rfl
 have e1:((bif decide (v.Sa<0) then (some true) else (some (decide (9<v.Sa)))):Option Bool)=some false:=by
  rw [cu (a:=v.Sa) (b:=0) V,cu (a:=9) (b:=v.Sa) V];rfl
 rw [e1,bs,cf];cases hs:(v.S.toList==(⟨#[]⟩:ByteArray).toList)
 ·rfl
 simp only [nt,cf];by_cases h2:v.Sa=2
 ·rw [h2];rfl
 rw [gu h2];simp only [cf];by_cases h3:v.Sa=3
 ·rw [h3];rfl
 rw [gu h3];simp only [cf];by_cases h6:v.Sa=6
 ·rw [h6];rfl
 rw [gu h6];simp only [cf];by_cases h7:v.Sa=7
 ·rw [h7];rfl
 rw [gu h7];simp only [cf];by_cases h9:v.Sa=9
 ·rw [h9];rfl
 rw [gu h9,JT (a:=0) V,JT (a:=v.Sa) V];cases decide (v.N=0)<;>rfl
theorem Fl (N:Nat)(v:Ry): ∃b,db N v=some b:=by
 unfold db;cases decide (v.Sa<0)<;>cases decide (9<v.Sa)<;>cases decide (v.Sa=5)<;>cases decide (v.N=0)<;>cases (v.S.toList==(⟨#[]⟩:ByteArray).toList)<;>cases decide (v.Sa=2)<;>cases decide (v.Sa=3)<;>cases decide ((-9007199254740992)<=v.N)<;>cases decide (v.Sa=6)<;>cases decide (v.Sa=7)<;>cases decide (v.Sa=9)<;>exact ⟨_,rfl⟩
theorem yL (N:Nat)(k:Nat)(hk:k=2\/k=4)(l:List Ry)(hl:l.length<=1000): ∀(m i:Nat),l.length<m+i->i<=l.length->(l.length - i)%k=0-> ∃b,fI N (k:Int) l m (i:Int)=some b/\
  iz N (cQ (fun x st=>bS N (k:Int) x st)) l (k:Int) m (i:Int) (none,())=some (bif b then (none,()) else (some .ret,()))
 |0,i,h,h2,_=>by omega
 | m + 1,i,h,h2,h3=>by
  by_cases hi:i<l.length
  ·have hik:i+k<=l.length:=by
    rcases hk with rfl|rfl<;>omega
   have hmin:(min (k:Int) (((l.drop (i:Int).toNat).take (l.length - (i:Int).toNat)).length:Int))=k:=by
    rw [R0,List.length_drop,Int.toNat_natCast];omega
   have hto:((i:Int)+(k:Int)).toNat=i+k:=by omega
   have hx: ∀j,j<k->au ((l.drop i).take k) (j:Int)=l[i+j]? :=fun j hj=>by
    rw [mH,List.getElem?_take,if_pos hj,List.getElem?_drop]
   have a1:=hx 0 V;have a2:=hx 1 V;rw [List.getElem?_eq_getElem V] at a1 a2;have b4:au l (i:Int)=some l[i]:=aK hi
   have b5:au l ((i:Int)+1)=some (l[i+1]'V):=by
    have:=aK (xs:=l) (i:=i+1) V;simpa using this
   obtain ⟨b,a7,a8⟩:=yL N k hk l hl m (i+k) V hik (by rcases hk with rfl|rfl<;>omega);simp only [Int.natCast_add] at a7 a8
   have fin: ∀b',(bif b' then some false else bn (in64 ((i:Int)+(k:Int))) (fI N (k:Int) l m ((i:Int)+(k:Int))))=some (bif b' then false else b):=fun b'=>by
    cases b'
    ·rw [cf,r64 V V,a7];rfl
    rfl
   have fin2: ∀b':Bool,((bif b' then (some (some Exit.ret,())) else (some (none,())):Option (Option Exit×Unit)).map fun r=>(r.1.isNone,r))=some (!b',(bif b' then some Exit.ret else none,())):=fun b'=>by cases b'<;>rfl
   have goal: ∀b',((some (!b',((bif b' then some Exit.ret else none:Option Exit),())):Option (Bool×(Option Exit×Unit))).bind fun a6=>bif !a6.1 then (some a6.2) else (bn (in64 ((i:Int)+(k:Int))) ((iz N (cQ (fun x st=>bS N (k:Int) x st)) l (k:Int) m) ((i:Int)+(k:Int)) a6.2)))=some (bif (bif b' then false else b) then (none,()) else (some .ret,())):=fun b'=>by
    cases b'
    ·rw [bs];simp only [nf,nt,cf];rw [r64 V V];exact a8
    rfl
   have lift: ∀(x:List Ry) (b':Bool),bS N (k:Int) x ()=(bif b' then (some (some Exit.ret,())) else (some (none,())))->cQ (fun x st=>bS N (k:Int) x st) x (none,())=some (!b',(bif b' then some Exit.ret else none,())):=fun x b' hb=>by
    unfold cQ;simp only [hb];exact fin2 b'
   have key: ∃b',((au l (i:Int)).bind fun x8=>(bif !decide (x8.Sa=7) then (some true) else (bn (in64 ((i:Int)+1)) ((au l ((i:Int)+1)).bind fun b6=>some (decide (b6.Sa=8))))).bind fun b9=>bif b9 then (some false) else ((bif decide ((k:Int)=4) then (bn (in64 ((i:Int)+2)) ((au l ((i:Int)+2)).bind fun b7=>(dx N b7 7).bind fun b8=>(bif !b8 then (some true) else (bn (in64 ((i:Int)+3)) ((au l ((i:Int)+3)).bind fun c0=>(fV N c0 0 9007199254740992).bind fun c7=>some (!c7)))).bind fun d0=>some d0)) else (some false)).bind fun d1=>bif d1 then (some false) else (bn (in64 ((i:Int)+(k:Int))) ((fI N (k:Int) l m) ((i:Int)+(k:Int))))))=some (bif b' then false else b)/\bS N (k:Int) ((l.drop i).take k) ()=(bif b' then (some (some Exit.ret,())) else (some (none,()))):=by
    unfold bS;simp only [Int.cast_ofNat_Int,Int.natCast_zero,Int.natCast_one] at a1 a2;rw [b4,bs,r64 (a:=(i:Int)+1) V V,b5,bs];have hk0':au ((l.drop i).take k) 0=some l[i]:=a1;have hk1':au ((l.drop i).take k) 1=some (l[i+1]'V):=a2;simp only [hk0',bs,hk1'];cases h7:(!decide (l[i].Sa=7))
    ·simp only [cf,bs];cases h8:decide ((l[i+1]'V).Sa=8)
     ·simp only [cf];rcases hk with rfl|rfl
      ·simp only [show decide (((2:Nat):Int)=4)=false from rfl,cf,bs];have f:=fin false;rw [cf] at f;refine ⟨false,?_,J⟩;exact f
      have b0:=hx 2 V;have b3:=hx 3 V;rw [List.getElem?_eq_getElem V] at b0 b3;have hk2':au ((l.drop i).take 4) 2=some (l[i+2]'V):=b0;have hk3':au ((l.drop i).take 4) 3=some (l[i+3]'V):=b3
      have d2:au l ((i:Int)+2)=some (l[i+2]'V):=by
       have:=aK (xs:=l) (i:=i+2) V;simpa using this
      have d3:au l ((i:Int)+3)=some (l[i+3]'V):=by
       have:=aK (xs:=l) (i:=i+3) V;simpa using this
      simp only [show decide (((4:Nat):Int)=4)=true from rfl,ct];rw [r64 (a:=(i:Int)+2) V V,d2,bs,hk2',bs,r64 (a:=(i:Int)+3) V V,d3,bs,hk3']
      have en: ∀v,gA N v 7=dx N v 7:=fun v=>rfl
      have em: ∀v,gC N v 0 9007199254740992=fV N v 0 9007199254740992:=fun v=>rfl
      have hn: ∃b1,dx N (l[i+2]'V) 7=some b1:=by unfold dx;cases decide ((l[i+2]'V).Sa=0)<;>exact ⟨_,rfl⟩
      have hm: ∃b1,fV N (l[i+3]'V) 0 9007199254740992=some b1:=by unfold fV;cases decide ((l[i+3]'V).Sa=3)<;>cases decide (0<=(l[i+3]'V).N)<;>exact ⟨_,rfl⟩
      obtain ⟨b1,hn⟩:=hn;obtain ⟨b2,hm⟩:=hm;simp only [bs,en,em,hn,hm];cases b1
      ·simp only [nf,ct,bs];exact ⟨true,J,J⟩
      simp only [nt,cf,bs];exact ⟨!b2,fin (!b2),by cases b2<;>rfl⟩
     exact ⟨true,J,J⟩
    exact ⟨true,J,J⟩
   obtain ⟨b',e1,e2⟩:=key;refine ⟨bif b' then false else b,?_,?_⟩
   ·rw [fI.eq_2,cn V,ct];exact e1
   rw [iz.eq_2,cn V,ct,hmin,iq (show (0:Int)<=(i:Int)/\(i:Int).toNat<=l.length/\l.length<=l.length from ⟨by omega,by omega,Nat.le_refl _⟩),r64 (a:=(i:Int)+(k:Int)) V V,r64 (a:=(i:Int)+(k:Int)) V V];rw [iq (show (0:Int)<=(i:Int)/\(0:Int)<=(i:Int)+(k:Int)/\(i:Int).toNat<=((i:Int)+(k:Int)).toNat/\((i:Int)+(k:Int)).toNat<=l.length from ⟨by omega,by omega,by omega,by omega⟩),hto,Int.toNat_natCast,show i+k - i=k by omega,lift _ b' e2];exact goal b'
  rw [fI.eq_2,iz.eq_2,cu V,cf,cf];exact ⟨true,J,J⟩
theorem rq (N:Nat)(hN:2000<N)(k:Nat)(hk:k=2\/k=4)(l:List Ry)(hl:l.length<=1000): ∃b,dz N l (k:Int)=some b/\cT N l (k:Int)=some b/\(b=true->l.length%k=0):=by
 unfold dz cT
 have a1:(k:Int)≠0:=by rcases hk with rfl|rfl<;>decide
 rw [iq a1,iq a1]
 have ht:(l.length:Int).tmod (k:Int)=((l.length%k:Nat):Int):=by
  rw [Int.tmod_eq_emod_of_nonneg V];rfl
 rw [ht];by_cases h:l.length%k=0
 ·rw [og V];obtain ⟨b,h1,h2⟩:=yL N k hk l hl N 0 V V (by simpa using h)
  have e:jV N l (k:Int)=some ():=by
   unfold jV;rw [cu (by rcases hk with rfl|rfl<;>omega),cf]
  unfold qF;simp only [nt,cf,e,bs];have h1':fI N (k:Int) l N 0=some b:=h1;have h2':iz N (cQ (fun x st=>bS N (k:Int) x st)) l (k:Int) N 0 (none,())=some (bif b then (none,()) else (some .ret,())):=h2;rw [h1',h2',bs];exact ⟨b,by cases b<;>rfl,rfl,fun _=>h⟩
 rw [gu V];exact ⟨false,J,J,fun h=>by cases h⟩
end
section
variable {A1 A10 A12 A13 A14 A15 A16 A2 A3 A4 A5 A6 A8 A9:Option Addr} {B1 B2 B6 B7 B9 M11 M7 M8 c1 c10 c12 c13 c14 c15 c16 c2 c3 c4 c5 c6 c8 c9 n1 n10 n12 n13 n14 n15 n16 n2 n3 n4 n5 n6 n8 n9:Nat}
open Go.RowKit
theorem Li (N:Nat)(hN:2000<N)(c:Rk)(hc:c.Sd.length<=1000):jG N c.Sa c.Sd=kh N c:=by
 obtain ⟨b2,h2,h2', -⟩:=rq N hN 2 (.inl rfl) c.Sd hc;obtain ⟨b4,h4,h4', -⟩:=rq N hN 4 (.inr rfl) ((c.Sd.drop ((1:Int).toNat)).take (c.Sd.length - (1:Int).toNat)) (by rw [R0,List.length_drop];omega);have e2:dz N c.Sd 2=cT N c.Sd 2:=h2.trans h2'.symm;have e4:dz N ((c.Sd.drop ((1:Int).toNat)).take (c.Sd.length - (1:Int).toNat)) 4=cT N ((c.Sd.drop ((1:Int).toNat)).take (c.Sd.length - (1:Int).toNat)) 4:=h4.trans h4'.symm;unfold jG kh lj jO;rw [e2,e4];rfl
theorem Fm (N:Nat)(c:Rk)(b:Bool)(v:Ry): ∃y,db N v=some y/\cQ (fun x st=>fR N c x st) (b,v) (none,())=some (y,(bif y then none else some Exit.ret,())):=by
 obtain ⟨y,hy⟩:=Fl N v;refine ⟨y,hy,?_⟩;unfold cQ fR;simp only [Nu,hy,bs];cases y<;>rfl
theorem Bj (N:Nat)(c:Rk)(hc:c.Sd.length<=1000): ∀(m i:Nat),c.Sd.length<m+i->i<=c.Sd.length-> ∃b,mF N c m (i:Int)=(bif b then cU N c else some false)/\
  kE N (cQ (fun x st=>fR N c x st)) c m (i:Int) (none,())=some (bif b then none else some Exit.ret,())
 |0,i,h,h2=>by omega
 | m+1,i,h,h2=>by
  rw [mF.eq_2,kE.eq_2];by_cases hi:i<c.Sd.length
  ·rw [cn V,ct,ct,aK hi,bs,bs]
   have hs:(bif !decide (c.Sa=8) then ((bif !decide (c.Sa=10) then (some true) else (some (decide ((i:Int).tmod 2=0)))).bind fun a1=>some a1) else (some false))=some (kW c.Sa i):=by
    unfold kW;cases decide (c.Sa=8)<;>cases decide (c.Sa=10)<;>rfl
   obtain ⟨y,h3,h4⟩:=Fm N c (kW c.Sa i) c.Sd[i];rw [hs,bs,h3,h4,bs,bs];cases y
   ·simp only [nf,nt,ct,cf];exact ⟨false,cf.symm,by rw [cf]⟩
   obtain ⟨b,h5,h6⟩:=Bj N c hc m (i+1) V hi;simp only [Int.natCast_add,Int.cast_ofNat_Int] at h5 h6;simp only [nt,cf,ct];rw [r64 V V,r64 V V];exact ⟨b,h5,h6⟩
  rw [cu V,cf,cf];exact ⟨true,ct.symm,by rw [ct]⟩
theorem rU (N:Nat)(hN:2000<N)(c:Rk)(hS:c.Sg.length<=1000)(hc:c.Sd.length<=1000): ∀(m i:Nat),c.Sg.length<m+i->i<=c.Sg.length-> ∃b,gx N c m (i:Int)=(bif b then cU N c else some false)/\
  jH N (cQ (fun x st=>fR N c x st)) c m (i:Int) (none,())=some (bif b then none else some Exit.ret,())
 |0,i,h,h2=>by omega
 | m+1,i,h,h2=>by
  rw [gx.eq_2,jH.eq_2];by_cases hi:i<c.Sg.length
  ·rw [cn V,ct,ct,aK hi,bs,bs];obtain ⟨y,h3,h4⟩:=Fm N c true c.Sg[i];rw [h3,h4,bs,bs];cases y
   ·simp only [nf,nt,ct,cf];exact ⟨false,cf.symm,by rw [cf]⟩
   obtain ⟨b,h5,h6⟩:=rU N hN c hS hc m (i+1) V hi;simp only [Int.natCast_add,Int.cast_ofNat_Int] at h5 h6;simp only [nt,cf,ct];rw [r64 V V,r64 V V];exact ⟨b,h5,h6⟩
  rw [cu V,cf,cf];exact Bj N c hc N 0 V V
theorem uK (N:Nat)(hN:2000<N)(c:Rk)(hS:c.Sg.length<=1000)(hc:c.Sd.length<=1000):fA N c=d8 N c:=by
 unfold fA d8 mI
 have hAge:((bif !decide (c.Sn=0) then (some (!decide (c.Sn=1))) else (some false)).bind fun a1=>some a1)=(some (decide (c.Sn<0)||decide (1<c.Sn)):Option Bool):=by
  by_cases h0:c.Sn=0
  ·rw [h0];rfl
  by_cases h1:c.Sn=1
  ·rw [h1];rfl
  rw [gu h0,gu h1];by_cases h2:c.Sn<0
  ·rw [cn h2];rfl
  rw [cn (a:=1) (b:=c.Sn) V,cu (a:=c.Sn) V];rfl
 obtain ⟨b,h1,h2⟩:=rU N hN c hS hc N 0 V V;have h1':gx N c N 0=(bif b then cU N c else some false):=h1;have h2':jH N (cQ (fun x st=>fR N c x st)) c N 0 (none,())=some (bif b then none else some Exit.ret,()):=h2;have e:rx N c=some ():=rfl;rw [hAge,h1',h2',e]
 have tail:((some ()).bind fun (b0:Unit)=>(some ((bif b then none else some Exit.ret:Option Exit),())).bind fun a2=>qc a2.1 ((iY N c).bind fun a6=>(bif a6 then ((jG N c.Sa c.Sd).bind fun a7=>some a7) else (some false)).bind fun a8=>some a8) (some false) (fun _=>none))=(bif b then cU N c else some false):=by
  cases b
  ·rfl
  rw [I9,Li N hN c hc];rfl
 rw [tail];cases decide (c.Sa<1)<;>cases decide (11<c.Sa)<;>cases decide (c.Sk<0)<;>cases decide (c.Sj<0)<;>cases decide (63<c.Sj)<;>cases decide (c.Sn<0)<;>cases decide (1<c.Sn)<;>rfl
theorem Jq {m:Option Bool}{x:Bool}:m=some x->(m.bind fun b=>some b)=some x:=fun h=>by rw [h];rfl
theorem Gk (N:Nat)(hN:2000<N)(c:Rk)(hS:c.Sg.length<=1000)(hc:c.Sd.length<=1000)(h8:c.Sa=8): ∃b,d8 N c=some b/\(b=true->c.Sd.length%2=0):=by
 obtain ⟨b1,g1, -⟩:=rU N hN c hS hc N 0 V V;have g1':gx N c N 0=(bif b1 then cU N c else some false):=g1;obtain ⟨b2, -,h2,h3⟩:=rq N hN 2 (.inl rfl) c.Sd hc
 have hm:kh N c=some b2:=by
  unfold kh jO;rw [h8,cu V];show ((cT N c.Sd 2).bind fun a1=>some a1)=_;exact Jq h2
 have hs: ∃b3,iP N c=some b3:=by
  unfold iP;rw [h8];have:jP N 8=some true:=rfl;rw [this,bs,ct,bs,ct];by_cases hl:1<=(c.Sg.length:Int)
  ·rw [JT hl,ct,bs,Eu (xs:=c.Sg) (i:=0) V V,bs];cases decide ((c.Sg.length:Int)<=1025)
   ·exact ⟨_,J⟩
   cases decide (c.Sg[(0:Int).toNat].Sa=1)<;>exact ⟨_,rfl⟩
  rw [JU V];exact ⟨_,J⟩
 obtain ⟨b3,hs⟩:=hs
 have hj:cU N c=some (b3&&b2):=by
  unfold cU;rw [hs,hm];cases b3<;>rfl
 unfold d8;rw [g1',hj]
 have fin: ∃b,((bif b1 then some (b3&&b2) else some false):Option Bool)=some b/\(b=true->c.Sd.length%2=0):=by
  cases b1
  ·exact ⟨false,J,fun h=>by cases h⟩
  exact ⟨b3&&b2,J,fun h=>h3 (by cases b3<;>cases b2<;>first|rfl|cases h)⟩
 obtain ⟨b,e1,e2⟩:=fin;rw [e1];have ff: ∃b',(some false:Option Bool)=some b'/\(b'=true->c.Sd.length%2=0):=⟨false,rfl,fun h=>by cases h⟩
 cases decide (c.Sa<1)<;>cases decide (11<c.Sa)<;>cases decide (c.Sk<0)<;>cases decide (c.Sj<0)<;>cases decide (63<c.Sj)<;>cases decide (c.Sn<0)<;>cases decide (1<c.Sn)<;>first|exact ff|exact ⟨b,rfl,e2⟩
def pK (N:Nat)(c:Rk):Bool:=decide (c.Sa=8)&&(d8 N c).getD false
theorem GE (N:Nat)(hN:2000<N)(c:Rk)(hS:c.Sg.length<=1000)(hc:c.Sd.length<=1000):Bx N c=some (pK N c)/\sI N c=some (pK N c)/\(pK N c=true->c.Sd.length%2=0):=by
 unfold Bx sI pK;rw [uK N hN c hS hc];by_cases h8:c.Sa=8
 ·obtain ⟨b,h1,h2⟩:=Gk N hN c hS hc h8;rw [h1,h8];exact ⟨J,J,h2⟩
 rw [gu h8];exact ⟨J,J,fun h=>by cases h⟩
end
end Go.Proofs.YtjmonlcchlkdhaaGreat