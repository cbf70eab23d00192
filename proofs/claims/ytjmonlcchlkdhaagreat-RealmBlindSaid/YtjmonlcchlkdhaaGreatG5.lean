/- Merged texts: part 5. No conditions of their own. -/
import Derived.Test.YtjmonlcchlkdhaaGreatG4
set_option maxHeartbeats 4000000
namespace Go.Proofs.YtjmonlcchlkdhaaGreat
theorem Rg:type_of% Tryz.underlying191:=Tryz.underlying191
variable {A1 A2 A3 A4 A5 A6 A7:Option Addr} {B1 B2 B3 B6 B8 M2 M6 M7 M9 c1 c2 c3 c4 c5 c6 c7 n1 n2 n3 n4 n5 n6 n7:Nat}
open Go.RowKit Asn
set_option maxRecDepth 20000
def fz (N:Nat)(a1:RS->RS->RL->RL->RU->Int->Option RC)(a2:RS)(a6:RS)(a7:RL)(a8:RL)(b0:RU)(p21:Int):Option RC:=
 bn (in64 (p21+1)) (a1 a2 a6 a7 a8 b0 (p21+1))
def fx (N:Nat)(a7:RS->RS->RL->RL->RU->Int->Option RC)(a6:RL):Nat->Int->RS->RS->RL->RL->RU->Int->Option RC
 |0,_,_,_,_,_,_,_=>none
 |b5+1,a2,a8,b0,b1,b2,b3,b4=>bif decide (a2<(a6.length:Int)) then ((au a6 a2).bind fun b6=>(bZ N (⟨(⟨a8,b0⟩:Rp),b1,b2,b3,b4⟩:RC) b6).bind fun a1=>bn (in64 (a2+1)) ((fx N a7 a6 b5) (a2+1) a1.m_.Se a1.m_.Sc a1.SM a1.Sw a1.SL a1.Ss)) else (fz N a7 a8 b0 b1 b2 b3 b4)
def bM (N:Nat):Nat->RS->RS->RL->RL->RU->Int->Option RC
 |0,_,_,_,_,_,_=>none
 |m7+1,p8,p9,a2,a1,a6,p13=>bif decide (p13<(a1.length:Int)) then ((au a1 p13).bind fun a7=>(bD N (⟨(⟨p8,p9⟩:Rp),a2,a1,a6,p13⟩:RC) a7).bind fun a8=>(fC N a8).bind fun b0=>fx N (bM N m7) b0 N 0 p8 p9 a2 a1 a6 p13) else (some (⟨(⟨p8,p9⟩:Rp),a2,a1,a6,p13⟩:RC))
def eD (N:Nat)(a0:RC):Option RC:=
 bM N N a0.m_.Se a0.m_.Sc a0.SM a0.Sw a0.SL a0.Ss
theorem np {N:Nat}{a0:RC}{r:RC}(h:eD N a0=some r):Okc RY 178 [pV B1 0] ([bi A2 n2 c2 a0.m_.Se,bi A3 n3 c3 a0.m_.Sc,dK A4 n4 c4 a0.SM,ac B1 186 [U A2 n2 c2,U A3 n3 c3,U A4 n4 c4,U A5 n5 c5,.map (some M6),iV a0.Ss],eG A5 n5 c5 a0.Sw,aj bf bI M6 a0.SL]) (fun u post=> ∃A0 n0 c0 A1 n1 c1 A2 n2 c2 A3 n3 c3 M4,u=.tuple #[]/\post=[ac B1 186 [U A0 n0 c0,U A1 n1 c1,U A2 n2 c2,U A3 n3 c3,.map (some M4),iV r.Ss],bi A0 n0 c0 r.m_.Se,bi A1 n1 c1 r.m_.Sc,dK A2 n2 c2 r.SM,eG A3 n3 c3 r.Sw,aj bf bI M4 r.SL]):=by
 refine cG Tryz.func178 ?_;refine aW (fun m s L=> ∃p8 p9 b7 b8 b9 p13 A8 n8 c8 A9 n9 c9 b2 b3 b4 a7 a8 b0 b5,bM N m p8 p9 b7 b8 b9 p13=some r/\s=[(0,pV B1 0)]/\L=[bi A8 n8 c8 p8,bi A9 n9 c9 p9,dK b2 b3 b4 b7,eG a7 a8 b0 b8,aj bf bI b5 b9,ac B1 186 [U A8 n8 c8,U A9 n9 c9,U b2 b3 b4,U a7 a8 b0,.map (some b5),iV p13]]) N _ _ ⟨a0.m_.Se,a0.m_.Sc,a0.SM,a0.Sw,a0.SL,a0.Ss,A2,n2,c2,A3,n3,c3,A4,n4,c4,A5,n5,c5,M6,h,J,J⟩ sA (cS [0,1,2,4,5,3] 6) ?_;rintro (_|m7) _ _ ⟨p8,p9,b7,b8,b9,p13,A8,n8,c8,A9,n9,c9,b2,b3,b4,a7,a8,b0,b5,h,rfl,rfl⟩
 ·exact am h
 rw [bM.eq_2] at h;refine aL ?_;refine dY [] ?_;refine fd h ?_ ?_<;>intro h
 ·refine ab ?_;refine ao (fun s L=> ∃e2 e3 e4 e5 e6 p21 e7 e8 e9 f1 f2 f3 f4 g0 g1 g2 g3 g4 g5,fz N (bM N m7) e2 e3 e4 e5 e6 p21=some r/\s=[(0,pV B1 0)]/\L=[bi e7 e8 e9 e2,bi f1 f2 f3 e3,dK f4 g0 g1 e4,eG g2 g3 g4 e5,aj bf bI g5 e6,ac B1 186 [U e7 e8 e9,U f1 f2 f3,U f4 g0 g1,U g2 g3 g4,.map (some g5),iV p21]]) ?_ ?_
  ·refine ab ?_;refine aL ?_;obtain ⟨j7,g6,g7,g8,h⟩:=bG h;obtain ⟨b6,g9,h⟩:=aa h;obtain ⟨b1,h0,h⟩:=aa h;refine ic (t:=[(0,pV B1 0)]) ?_ mw (ae _)
   refine jv I 15 [] [12,13,14] [21,22,23,24,25,26,27,28,29,30,31,32,33,34,35] [[],[],[1],[2],[3],[],[5],[6],[7],[4,8],[9],[0,10],[11],[12],[]] [aV (pV B1 0),
 aV (pV B1 0),
 aV (pV B1 0),
 aV (pV B1 3),
 aV (U a7 a8 b0),
 aV (pV B1 0),
 aV (pV B1 0),
 aV (pV B1 5),
 aV (iV p13),
 aV (d5 (U a7 a8 b0) p13.toNat 1 0),
 aV (iV j7),
 aX6 (fun (d0:Option Addr) (d1 d2:Nat) (d3:Option Addr) (d4 d6:Nat)=> .agg #[iV b6.Sa,iV b6.Sk,iV b6.Sj,iV b6.Sn,U d0 d1 d2,U d3 d4 d6]) (fun d0 d1 d2 d3 d4 d6=> [bc d0 d1 d2 b6.Sg,bc d3 d4 d6 b6.Sd]),
 aX3 (fun (a1:Option Addr) (a2 a6:Nat)=> U a1 a2 a6) (fun a1 a2 a6=> [eG a1 a2 a6 b1]),
 aV (iV (b1.length:Int)),
 aV (iV 0)] [] (ae _) (mf) I rfl rfl ?_ ?_ ?_
   ·exact me
   ·refine ad J ?_ ?_
    ·exact ci (bo J) J (aQ J (ae _))
    refine ad J ?_ ?_
    ·intro a1 a2 a6;exact er (lw 0 J aI J t0) J (aQ J (ae _))
    refine ad J ?_ ?_
    ·intro d0 d1 d2 d3 d4 d6;refine uz (oR (jb h0)) J ?_;rintro _ _ ⟨_,⟨j8,j9,k0,rfl,rfl⟩,rfl⟩;exact AE j8 j9 k0 (ae _)
    refine ad J ?_ ?_
    ·refine uz (oC (fK g9)) J ?_;rintro _ _ ⟨_,⟨k1,k2,k3,k4,k5,k6,rfl,rfl⟩,rfl⟩;exact OG k1 k2 k3 k4 k5 k6 (cS [0,1,5,6,7,3,4,2] 8)
    refine ad J ?_ ?_
    ·exact er (iO (u:=iV j7) 3 J aI J g8 su (fun _ _ _ h=>by rw [show _=_ from h];rfl)) J (aQ J (ae _))
    refine ad J ?_ ?_
    ·exact er (gn 3 J aI J J t0 size3.out g6 g7) J (aQ J (ae _))
    refine ad J ?_ ?_
    ·exact er (bL 5 J J su J) J (aQ J (ae _))
    refine ad J ?_ ?_
    ·exact ci (gk J FJ) J (aQ J (ae _))
    refine ad J ?_ ?_
    ·exact ci (bz J) J (aQ J (ae _))
    refine ad J ?_ ?_
    ·exact ci (bo J) J (aQ J (ae _))
    refine ad J ?_ ?_
    ·exact er (bL 5 J J Aa J) J (aQ J (ae _))
    refine ad J ?_ ?_
    ·exact ci (gk J yF) J (aQ J (ae _))
    refine ad J ?_ ?_
    ·exact ci (bz J) J (aQ J (ae _))
    refine ad J ?_ ?_
    ·exact ci (bo J) J (aQ J (ae _))
    refine ad J ?_ ?_
    ·exact ci (bo J) J (aQ J (ae _))
    exact eJ
   intro a1 a2 a6;refine oe (t:=[(33,U a1 a2 a6),(34,iV (b1.length:Int)),(35,iV 0),(0,pV B1 0)]) (L':=[eG a1 a2 a6 b1,bi A8 n8 c8 p8,bi A9 n9 c9 p9,dK b2 b3 b4 b7,eG a7 a8 b0 b8,aj bf bI b5 b9,ac B1 186 [U A8 n8 c8,U A9 n9 c9,U b2 b3 b4,U a7 a8 b0,.map (some b5),iV p13]]) ?_ mw (ae _);refine ms I ?_;refine ab ?_;refine aW (fun m s L=> ∃h1 h2 h3 h4 h5 h6 h7 h8 h9 i0 i1 i2 i8 j0 j1 j2 j3 j4 j5 j6,fx N (bM N m7) b1 m h1 h2 h3 h4 h5 h6 h7=some r/\s=[(0,pV B1 0),(33,U a1 a2 a6),(34,iV (b1.length:Int)),(35,iV h1)]/\L=[eG a1 a2 a6 b1,bi h8 h9 i0 h2,bi i1 i2 i8 h3,dK j0 j1 j2 h4,eG j3 j4 j5 h5,aj bf bI j6 h6,ac B1 186 [U h8 h9 i0,U i1 i2 i8,U j0 j1 j2,U j3 j4 j5,.map (some j6),iV h7]]) N _ _ ⟨0,p8,p9,b7,b8,b9,p13,A8,n8,c8,A9,n9,c9,b2,b3,b4,a7,a8,b0,b5,h,J,J⟩ sA (cS [0,1,2,3,4,5,6] 7) ?_;rintro (_|l0) _ _ ⟨h1,h2,h3,h4,h5,h6,h7,h8,h9,i0,i1,i2,i8,j0,j1,j2,j3,j4,j5,j6,h,rfl,rfl⟩
   ·exact am h
   rw [fx.eq_2] at h;refine ab ?_;refine aL ?_;refine gH J h ?_ ?_<;>intro h
   ·refine sY ?_;obtain ⟨l1,k7,k8,k9,h⟩:=bG h;refine ab ?_;obtain ⟨l2,k,h⟩:=aa h;refine gD (oC (iQ k)) ?_;rintro _ _ ⟨_,⟨l3,l4,l5,l6,l7,l8,l9,m0,m1,m2,m3,m4,m5,rfl,rfl⟩,rfl⟩;refine ab ?_;obtain ⟨m6,h⟩:=ah h;exact lY
   exact jY
  rintro _ _ ⟨e2,e3,e4,e5,e6,p21,e7,e8,e9,f1,f2,f3,f4,g0,g1,g2,g3,g4,g5,h,rfl,rfl⟩;refine ab ?_;obtain ⟨m8,h⟩:=ah h;exact lY
 exact eY
def lz (N:Nat)(a0:RC)(p8:RL):Option RL:=
 bn (cc (p8.length+a0.Sw.length)) (some (p8++a0.Sw))
def d9 (N:Nat)(a0:RC):Nat->RL->Int->Option RL
 |0,_,_=>none
 |m9+1,a2,a1=>bif decide (a1<(a0.m_.Sc.length:Int)) then (bn (in64 (2*a1)) (bn (in64 ((2*a1)+2)) (bn (cc (a2.length+([(2*a1)+2]:List Int).length)) (bn (in64 (a1+1)) ((d9 N a0 m9) (a2++([(2*a1)+2]:List Int)) (a1+1)))))) else (lz N a0 a2)
def eO (N:Nat)(a0:RC):Option RL:=
 d9 N a0 N [] 0
theorem pn {N:Nat}{a0:RC}{r:RL}(h:eO N a0=some r):Okc RY 133 [pV B1 0] ([ar B1 186 [U A2 n2 c2,U A3 n3 c3,U A4 n4 c4,U A5 n5 c5,.map (some M6),iV a0.Ss],bi A2 n2 c2 a0.m_.Se,bi A3 n3 c3 a0.m_.Sc,dK A4 n4 c4 a0.SM,dK A5 n5 c5 a0.Sw,eS bf bI M6 a0.SL]) (fun u post=> ∃A0 n0 c0,u=U A0 n0 c0/\post=[eG A0 n0 c0 r]):=by
 refine cG Tryz.func133 ?_;refine ao (fun s L=> ∃p8 A8 n8 c8,lz N a0 p8=some r/\s=[(0,pV B1 0),(2,U none 0 0),(3,U A8 n8 c8)]/\L=[eG A8 n8 c8 p8,bi A2 n2 c2 a0.m_.Se,bi A3 n3 c3 a0.m_.Sc,dK A4 n4 c4 a0.SM,dK A5 n5 c5 a0.Sw,eS bf bI M6 a0.SL,ar B1 186 [U A2 n2 c2,U A3 n3 c3,U A4 n4 c4,U A5 n5 c5,.map (some M6),iV a0.Ss]]) ?_ ?_
 ·refine ab ?_;refine aW (fun m s L=> ∃a2 a1 a6 a7 a8,d9 N a0 m a2 a1=some r/\s=[(0,pV B1 0),(2,U none 0 0),(3,U a6 a7 a8),(10,iV (a0.m_.Sc.length:Int)),(11,iV a1)]/\L=[eG a6 a7 a8 a2,bi A2 n2 c2 a0.m_.Se,bi A3 n3 c3 a0.m_.Sc,dK A4 n4 c4 a0.SM,dK A5 n5 c5 a0.Sw,eS bf bI M6 a0.SL,ar B1 186 [U A2 n2 c2,U A3 n3 c3,U A4 n4 c4,U A5 n5 c5,.map (some M6),iV a0.Ss]]) N _ _ ⟨[],0,none,0,0,h,J,J⟩ sA ((bh (eT .i64) 3 _).trans (cS [0,2,3,4,5,6,1] 7)) ?_;rintro (_|m9) _ _ ⟨a2,a1,a6,a7,a8,h,rfl,rfl⟩
  ·exact am h
  rw [d9.eq_2] at h;refine ab ?_;refine aL ?_;refine gH J h ?_ ?_<;>intro h
  ·refine sY ?_;obtain ⟨b0,h⟩:=ah h;refine gE (sC J J b0.1 b0.2) ?_;obtain ⟨b3,h⟩:=ah h;refine ab ?_;refine gD (aY (R:=(eT .i64)) (vss:=[[iV ((2*a1)+2)]]) (xs:=[(2*a1)+2]) J (lF _) J J (fun _ _ hr=> .cons J All2.nil)) ?_;rintro _ _ ⟨b4,b5,b6,rfl,rfl⟩;obtain ⟨b1,h⟩:=ah h
   refine nr (aX 1 0 J J aI J J t0 ES J J b1) fun b7 b8 b9=> ?_
   obtain ⟨c9,h⟩:=ah h;exact lY
  exact jY
 rintro _ _ ⟨p8,A8,n8,c8,h,rfl,rfl⟩;refine ab ?_;obtain ⟨b2,h⟩:=ah h
 refine nr (aX 0 4 J J bj J J t0 ES J J b2) fun d0 d1 d2=> ?_
 exact eN
def lJ (N:Nat)(p3:RL):Option RL:=
 some p3
def pC (N:Nat)(a1:Int):Option RL:=
 bif decide (a1<0) then none else (bn (in64 (0 - 0)) (bn (in64 (a1 - (0 - 0))) (bif decide (0<a1 - (0 - 0)) then (bn ((0:Int)<(a1 - (0 - 0))/\(a1 - (0 - 0))<=1099511627776) (lJ N ([]:List Int))) else (lJ N []))))
theorem zf {N:Nat}{a1:Int}{r:RL}(h:pC N a1=some r):Okc RY 142 [U none 0 0,iV a1] ([]) (fun u post=> ∃A0 n0 c0,u=U A0 n0 c0/\post=[eG A0 n0 c0 r]):=by
 refine cG Tryz.func142 ?_;refine sZ ?_;refine gH J h ?_ ?_<;>intro h
 ·exact am h
 refine ab ?_;refine ao (fun s L=> ∃p3 A3 n3 c3,lJ N p3=some r/\s=[(0,U A3 n3 c3),(4,U none 0 0)]/\L=[eG A3 n3 c3 p3]) ?_ ?_
 ·refine ab ?_;refine fm (wy J t0) ?_;refine gE (nX J t0) ?_;obtain ⟨q4,h⟩:=ah h;refine ab ?_;obtain ⟨q5,h⟩:=ah h;refine fd h ?_ ?_<;>intro h
  ·refine ab ?_;refine gE (wy J t0) ?_;refine fm (zF J t0 size3.out J) ?_;obtain ⟨q7,h⟩:=ah h
   refine nr (xu J J t0 hP ES J q7.1 q7.2) fun A8 n8 c8=> ?_
   refine gE (nX J t0) ?_
   refine nr (Ec (R:=(eT .i64)) 0 J J t0 size3.out J J) fun A9 n9 c9=> ?_
   exact jN
  refine ab ?_;exact ⟨_,_,⟨[],none,0,0,h,J,J⟩,sA,(bh (eT .i64) 3 _).trans (cS [0] 1)⟩
 rintro _ _ ⟨p3,A3,n3,c3,h,rfl,rfl⟩;exact eY
def nB (N:Nat)(a1:RL):Option RL:=
 some a1
def oA (N:Nat)(a0_0:RL)(a0_1:RL):Option RL:=
 (pC N ((0+(a0_0.length:Int))+(a0_1.length:Int))).bind fun y9=>bn (cc (y9.length+a0_0.length)) (bn (cc ((y9++a0_0).length+a0_1.length)) (nB N ((y9++a0_0)++a0_1)))
def kw (N:Nat)(a0_0:RL)(a0_1:RL):Option RL:=
 bn (in64 (0+(a0_0.length:Int))) (bif decide (0+(a0_0.length:Int)<0) then none else (bn (in64 ((0+(a0_0.length:Int))+(a0_1.length:Int))) (bif decide ((0+(a0_0.length:Int))+(a0_1.length:Int)<0) then none else (oA N a0_0 a0_1))))
theorem sK {N:Nat}{a0_0:RL}{a0_1:RL}{r:RL}(h:kw N a0_0 a0_1=some r):Okc RY 96 [.slice (some ⟨B1,0,none⟩) 2 2] ([ar B1 39 [U A2 n2 c2,U A3 n3 c3],dK A2 n2 c2 a0_0,dK A3 n3 c3 a0_1]) (fun u post=> ∃A0 n0 c0,u=U A0 n0 c0/\post=[eG A0 n0 c0 r]):=by
 refine cG Tryz.func96 ?_;refine ao (fun s L=>oA N a0_0 a0_1=some r/\s=[(0,.slice (some ⟨B1,0,none⟩) 2 2),(2,U none 0 0),(3,iV ((0+(a0_0.length:Int))+(a0_1.length:Int)))]/\L=[dK A2 n2 c2 a0_0,dK A3 n3 c3 a0_1,ar B1 39 [U A2 n2 c2,U A3 n3 c3]]) ?_ ?_
 ·refine ab ?_;refine fm (nX J Rg) ?_;refine rG 3 ?_;refine sF ?_;refine ab ?_;refine aL ?_;refine cq J ?_;refine sY ?_;refine fm (nc J J Rg size39.out (by decide) (by decide)) ?_;obtain ⟨q5,h⟩:=ah h;refine fd h ?_ ?_<;>intro h
  ·exact am h
  refine ab ?_;refine fm (ia J J (by decide) (by decide)) ?_;refine sF ?_;refine ab ?_;refine aL ?_;refine cq J ?_;refine sY ?_;refine fm (nc J J Rg size39.out (by decide) (by decide)) ?_;obtain ⟨q7,h⟩:=ah h;refine fd h ?_ ?_<;>intro h
  ·exact am h
  refine ab ?_;refine fm (ia J J (by decide) (by decide)) ?_;refine sF ?_;refine ab ?_;refine aL ?_;refine cJ J ?_;exact jY
 rintro _ _ ⟨h,rfl,rfl⟩;refine ab ?_;obtain ⟨y9,k,h⟩:=aa h
 refine nr (oR (zf k)) fun b1 b2 b3=> ?_
 refine ao (fun s L=> ∃a1 a2 a6 a7,nB N a1=some r/\s=[(2,U none 0 0),(6,U a2 a6 a7)]/\L=[eG a2 a6 a7 a1]) ?_ ?_
 ·refine ab ?_;refine fm (nX J Rg) ?_;refine rG 3 ?_;refine sF ?_;refine ab ?_;refine aL ?_;refine cq J ?_;refine sY ?_;refine fm (nc J J Rg size39.out (by decide) (by decide)) ?_;obtain ⟨a8,h⟩:=ah h
  refine nr (aX 0 1 J J bj J J t0 ES J J a8) fun b4 b5 b6=> ?_
  refine fm (ia J J (by decide) (by decide)) ?_;refine sF ?_;refine ab ?_;refine aL ?_;refine cq J ?_;refine sY ?_;refine fm (nc J J Rg size39.out (by decide) (by decide)) ?_;obtain ⟨b0,h⟩:=ah h
  refine nr (aX 0 2 J J bj J J t0 ES J J b0) fun b7 b8 b9=> ?_
  refine fm (ia J J (by decide) (by decide)) ?_;refine sF ?_;refine ab ?_;refine aL ?_;refine cJ J ?_;exact jY
 rintro _ _ ⟨a1,a2,a6,a7,h,rfl,rfl⟩;exact eY
def ly (N:Nat)(a0:RC)(a1:RS)(a2:RS)(a6:RL)(p13:RL)(a7:RU)(a8:Int):Option (Bool×RC):=
 some (decide ((a0.Sw.length:Int)<(p13.length:Int)),(⟨(⟨a1,a2⟩:Rp),a6,p13,a7,a8⟩:RC))
def im (N:Nat)(a1:Int->RS->RS->RL->RL->RU->Int->Option (Bool×RC))(a0:RC)(b3:RL)(a2:Int)(y7:RL)(a6:RS)(a7:RS)(a8:RL)(b0:RL)(b1:RU)(b2:Int):Option (Bool×RC):=
 bn (in64 (a2+1)) (a1 (a2+1) a6 a7 a8 b0 b1 b2)
def il (N:Nat)(a2:Int->RS->RS->RL->RL->RU->Int->Option (Bool×RC))(a0:RC)(a8:RL)(b0:Int)(a7:RL)(y7:RL):Nat->Int->RS->RS->RL->RL->RU->Int->Option (Bool×RC)
 |0,_,_,_,_,_,_,_=>none
 |b7+1,a6,b1,b2,b3,b4,b5,b6=>bif decide (a6<(a7.length:Int)) then ((au a7 a6).bind fun b8=>(bZ N (⟨(⟨b1,b2⟩:Rp),b3,b4,b5,b6⟩:RC) b8).bind fun a1=>bn (in64 (a6+1)) ((il N a2 a0 a8 b0 a7 y7 b7) (a6+1) a1.m_.Se a1.m_.Sc a1.SM a1.Sw a1.SL a1.Ss)) else (im N a2 a0 a8 b0 y7 b1 b2 b3 b4 b5 b6)
def bN (N:Nat)(a0:RC)(a1:RL)(y7:RL):Nat->Int->RS->RS->RL->RL->RU->Int->Option (Bool×RC)
 |0,_,_,_,_,_,_,_=>none
 |b3+1,a2,a6,a7,a8,b0,b1,b2=>bif decide (a2<(a1.length:Int)) then ((au a1 a2).bind fun b4=>(bD N (⟨(⟨a6,a7⟩:Rp),a8,b0,b1,b2⟩:RC) b4).bind fun b5=>(nv N b5 y7).bind fun b6=>il N (bN N a0 a1 y7 b3) a0 a1 a2 b6 y7 N 0 a6 a7 a8 b0 b1 b2) else (ly N a0 a6 a7 a8 b0 b1 b2)
def gi (N:Nat)(a0:RC):Option (Bool×RC):=
 (eO N a0).bind fun y7=>(kw N a0.SM a0.Sw).bind fun a1=>bN N a0 a1 y7 N 0 a0.m_.Se a0.m_.Sc a0.SM a0.Sw a0.SL a0.Ss
theorem vh {N:Nat}{a0:RC}{r:Bool×RC}(h:gi N a0=some r):Okc RY 179 [pV B1 0] ([bi A2 n2 c2 a0.m_.Se,bi A3 n3 c3 a0.m_.Sc,dK A4 n4 c4 a0.SM,ac B1 186 [U A2 n2 c2,U A3 n3 c3,U A4 n4 c4,U A5 n5 c5,.map (some M6),iV a0.Ss],eG A5 n5 c5 a0.Sw,aj bf bI M6 a0.SL]) (fun u post=> ∃A0 n0 c0 A1 n1 c1 A2 n2 c2 A3 n3 c3 M4,u=.bool r.1/\post=[ac B1 186 [U A0 n0 c0,U A1 n1 c1,U A2 n2 c2,U A3 n3 c3,.map (some M4),iV r.2.Ss],bi A0 n0 c0 r.2.m_.Se,bi A1 n1 c1 r.2.m_.Sc,dK A2 n2 c2 r.2.SM,eG A3 n3 c3 r.2.Sw,aj bf bI M4 r.2.SL]):=by
 refine cG Tryz.func179 ?_;obtain ⟨y7,k,h⟩:=aa h
 refine nr (oR (pn k)) fun A8 n8 c8=> ?_
 refine ao (fun s L=> ∃e5 e6 e7 p13 e8 e9 f1 f2 f3 f4 g0 g1 g2 g3 g4 g5 g6 g7 g8,ly N a0 e5 e6 e7 p13 e8 e9=some r/\s=[(0,pV B1 0),(2,.bool false),(3,iV (a0.Sw.length:Int))]/\L=[bi f1 f2 f3 e5,bi f4 g0 g1 e6,dK g2 g3 g4 e7,eG g5 g6 g7 p13,aj bf bI g8 e8,ac B1 186 [U f1 f2 f3,U f4 g0 g1,U g2 g3 g4,U g5 g6 g7,.map (some g8),iV e9]]) ?_ ?_
 ·refine aL ?_;obtain ⟨a1,g9,h⟩:=aa h;refine ic (t:=[(0,pV B1 0),(2,.bool false),(3,iV (a0.Sw.length:Int)),(4,U A8 n8 c8)]) ?_ mw (ae _)
  refine jv I 12 [] [9,10,11] [16,17,18,19,20,21,22,23,24,25,26,27] [[],[0],[1],[2],[],[4],[5],[6],[3,7],[8],[9],[]] [aV (pV B1 0),
 aV (pV B1 0),
 aV (pV B1 2),
 aV (U A4 n4 c4),
 aV (pV B1 0),
 aV (pV B1 0),
 aV (pV B1 3),
 aV (U A5 n5 c5),
 aX1 (fun (b0:Nat)=> .slice (some ⟨b0,0,none⟩) 2 2) (fun b0=> [ac b0 39 [U A4 n4 c4,U A5 n5 c5]]),
 aX3 (fun (a2:Option Addr) (a6 a7:Nat)=> U a2 a6 a7) (fun a2 a6 a7=> [eG a2 a6 a7 a1]),
 aV (iV (a1.length:Int)),
 aV (iV 0)] [] (ae _) (mf) I rfl rfl ?_ ?_ ?_
  ·exact me
  ·refine ad J ?_ ?_
   ·exact ci (bo J) J (aQ J (ae _))
   refine ad J ?_ ?_
   ·intro a2 a6 a7;exact er (lw 0 J aI J t0) J (aQ J (ae _))
   refine ad J ?_ ?_
   ·intro b0;refine uz (oR (sK g9)) J ?_;rintro _ _ ⟨_,⟨m0,m1,m2,rfl,rfl⟩,rfl⟩;exact AE m0 m1 m2 (ae _)
   refine ad J ?_ ?_
   ·refine uz (eC (cs:=[U A4 n4 c4,U A5 n5 c5]) J (DN _ _ _ _ _ _)) J ?_;rintro _ _ ⟨m3,rfl,rfl⟩;exact OH m3 (ae _)
   refine ad J ?_ ?_
   ·exact er (bL 4 J J Aa J) J (aQ J (ae _))
   refine ad J ?_ ?_
   ·exact ci (gk J yF) J (aQ J (ae _))
   refine ad J ?_ ?_
   ·exact ci (bz J) J (aQ J (ae _))
   refine ad J ?_ ?_
   ·exact ci (bo J) J (aQ J (ae _))
   refine ad J ?_ ?_
   ·exact er (bL 4 J J Aa J) J (aQ J (ae _))
   refine ad J ?_ ?_
   ·exact ci (gk J FK) J (aQ J (ae _))
   refine ad J ?_ ?_
   ·exact ci (bz J) J (aQ J (ae _))
   refine ad J ?_ ?_
   ·exact ci (bo J) J (aQ J (ae _))
   exact eJ
  intro a2 a6 a7;refine oe (t:=[(25,U a2 a6 a7),(26,iV (a1.length:Int)),(27,iV 0),(0,pV B1 0),(2,.bool false),(3,iV (a0.Sw.length:Int)),(4,U A8 n8 c8)]) (L':=[eG a2 a6 a7 a1,eG A8 n8 c8 y7,bi A2 n2 c2 a0.m_.Se,bi A3 n3 c3 a0.m_.Sc,dK A4 n4 c4 a0.SM,ac B1 186 [U A2 n2 c2,U A3 n3 c3,U A4 n4 c4,U A5 n5 c5,.map (some M6),iV a0.Ss],eG A5 n5 c5 a0.Sw,aj bf bI M6 a0.SL]) ?_ mw (ae _);refine ms I ?_;refine ab ?_;refine aW (fun m s L=> ∃a8 b1 b2 b3 b4 b5 b6 b7 b8 b9 c9 d0 d1 d2 d3 d4 d6 e2 e3 e4,bN N a0 a1 y7 m a8 b1 b2 b3 b4 b5 b6=some r/\s=[(0,pV B1 0),(2,.bool false),(3,iV (a0.Sw.length:Int)),(4,U A8 n8 c8),(25,U a2 a6 a7),(26,iV (a1.length:Int)),(27,iV a8)]/\L=[eG A8 n8 c8 y7,eG a2 a6 a7 a1,bi b7 b8 b9 b1,bi c9 d0 d1 b2,dK d2 d3 d4 b3,eG d6 e2 e3 b4,aj bf bI e4 b5,ac B1 186 [U b7 b8 b9,U c9 d0 d1,U d2 d3 d4,U d6 e2 e3,.map (some e4),iV b6]]) N _ _ ⟨0,a0.m_.Se,a0.m_.Sc,a0.SM,a0.Sw,a0.SL,a0.Ss,A2,n2,c2,A3,n3,c3,A4,n4,c4,A5,n5,c5,M6,h,J,J⟩ sA (cS [1,0,2,3,4,6,7,5] 8) ?_;rintro (_|l6) _ _ ⟨a8,b1,b2,b3,b4,b5,b6,b7,b8,b9,c9,d0,d1,d2,d3,d4,d6,e2,e3,e4,h,rfl,rfl⟩
  ·exact am h
  rw [bN.eq_2] at h;refine ab ?_;refine aL ?_;refine gH J h ?_ ?_<;>intro h
  ·refine ab ?_;refine ao (fun s L=> ∃h0 h1 h2 h3 h4 h5 h6 h7 h8 h9 i0 i1 i2 i8 j0 j1 j2 j3 j4,im N (bN N a0 a1 y7 l6) a0 a1 a8 y7 h0 h1 h2 h3 h4 h5=some r/\s=[(0,pV B1 0),(2,.bool false),(3,iV (a0.Sw.length:Int)),(4,U A8 n8 c8),(25,U a2 a6 a7),(26,iV (a1.length:Int)),(27,iV a8)]/\L=[eG A8 n8 c8 y7,eG a2 a6 a7 a1,bi h6 h7 h8 h0,bi h9 i0 i1 h1,dK i2 i8 j0 h2,eG j1 j2 j3 h3,aj bf bI j4 h4,ac B1 186 [U h6 h7 h8,U h9 i0 i1,U i2 i8 j0,U j1 j2 j3,.map (some j4),iV h5]]) ?_ ?_
   ·refine ab ?_;obtain ⟨n9,m4,m5,m6,h⟩:=bG h;refine ab ?_;obtain ⟨o0,k,h⟩:=aa h
    refine Ew (oC (fK k)) fun o1 o2 p0 p1 p2 p3=> ?_
    obtain ⟨j5,k,h⟩:=aa h
    refine nr (oR (wO k)) fun l7 l8 l9=> ?_
    refine aW (fun m s L=> ∃j6 j7 j8 j9 k0 k1 k2 k3 k4 k5 k6 k7 k8 k9 l0 l1 l2 l3 l4 l5,il N (bN N a0 a1 y7 l6) a0 a1 a8 j5 y7 m j6 j7 j8 j9 k0 k1 k2=some r/\s=[(0,pV B1 0),(2,.bool false),(3,iV (a0.Sw.length:Int)),(4,U A8 n8 c8),(25,U a2 a6 a7),(26,iV (a1.length:Int)),(27,iV a8),(35,U l7 l8 l9),(36,iV (j5.length:Int)),(37,iV j6)]/\L=[eG A8 n8 c8 y7,eG a2 a6 a7 a1,eG l7 l8 l9 j5,bi k3 k4 k5 j7,bi k6 k7 k8 j8,dK k9 l0 l1 j9,eG l2 l3 l4 k0,aj bf bI l5 k1,ac B1 186 [U k3 k4 k5,U k6 k7 k8,U k9 l0 l1,U l2 l3 l4,.map (some l5),iV k2]]) N _ _ ⟨0,b1,b2,b3,b4,b5,b6,b7,b8,b9,c9,d0,d1,d2,d3,d4,d6,e2,e3,e4,h,J,J⟩ sA (cS [6,7,0,8,9,10,4,5,3] 11) ?_;rintro (_|p4) _ _ ⟨j6,j7,j8,j9,k0,k1,k2,k3,k4,k5,k6,k7,k8,k9,l0,l1,l2,l3,l4,l5,h,rfl,rfl⟩
    ·exact am h
    rw [il.eq_2] at h;refine ab ?_;refine aL ?_;refine gH J h ?_ ?_<;>intro h
    ·refine sY ?_;obtain ⟨p5,m7,m8,m9,h⟩:=bG h;refine ab ?_;obtain ⟨p6,k,h⟩:=aa h;refine gD (oC (iQ k)) ?_;rintro _ _ ⟨_,⟨p7,p8,q0,q1,q2,q3,q4,q5,q6,q7,q8,q9,r0,rfl,rfl⟩,rfl⟩;refine ab ?_;obtain ⟨r1,h⟩:=ah h;exact lY
    exact jY
   rintro _ _ ⟨h0,h1,h2,h3,h4,h5,h6,h7,h8,h9,i0,i1,i2,i8,j0,j1,j2,j3,j4,h,rfl,rfl⟩;refine ab ?_;obtain ⟨r2,h⟩:=ah h;exact lY
  exact jY
 rintro _ _ ⟨e5,e6,e7,p13,e8,e9,f1,f2,f3,f4,g0,g1,g2,g3,g4,g5,g6,g7,g8,h,rfl,rfl⟩;exact eY
def sv (N:Nat)(a8:RS)(b0:RS)(a1:RL)(a2:RL)(a6:RU)(a7:Int):Option RC:=
 some (⟨(⟨a8,b0⟩:Rp),a1,a2,a6,a7⟩:RC)
def jz (N:Nat):Nat->RS->RS->RL->RL->RU->Int->Option RC
 |0,_,_,_,_,_,_=>none
 |a6+1,a7,a8,b0,b1,b2,b3=>(gi N (⟨(⟨a7,a8⟩:Rp),b0,b1,b2,b3⟩:RC)).bind fun a1=>bif a1.1 then ((eD N a1.2).bind fun a2=>(jz N a6) a2.m_.Se a2.m_.Sc a2.SM a2.Sw a2.SL a2.Ss) else (sv N a1.2.m_.Se a1.2.m_.Sc a1.2.SM a1.2.Sw a1.2.SL a1.2.Ss)
def sw (N:Nat)(a2:RS)(a6:RS)(a7:RL)(a8:RL)(b0:RU)(b1:Int):Option RC:=
 (eD N (⟨(⟨a2,a6⟩:Rp),a7,a8,b0,b1⟩:RC)).bind fun a1=>jz N N a1.m_.Se a1.m_.Sc a1.SM a1.Sw a1.SL a1.Ss
def o6 (N:Nat)(a1:Int->RS->RS->RL->RL->RU->Int->Option RC)(a2:RL)(a6:Int)(a7:RS)(a8:RS)(b0:RL)(b1:RL)(b2:RU)(b3:Int):Option RC:=
 bn (in64 (a6+1)) (a1 (a6+1) a7 a8 b0 b1 b2 b3)
def o5 (N:Nat)(a6:Int->RS->RS->RL->RL->RU->Int->Option RC)(a2:RL)(b0:Int)(a8:RL):Nat->Int->RS->RS->RL->RL->RU->Int->Option RC
 |0,_,_,_,_,_,_,_=>none
 |b7+1,a7,b1,b2,b3,b4,b5,b6=>bif decide (a7<(a8.length:Int)) then ((au a8 a7).bind fun b8=>(bZ N (⟨(⟨b1,b2⟩:Rp),b3,b4,b5,b6⟩:RC) b8).bind fun a1=>bn (in64 (a7+1)) ((o5 N a6 a2 b0 a8 b7) (a7+1) a1.m_.Se a1.m_.Sc a1.SM a1.Sw a1.SL a1.Ss)) else (o6 N a6 a2 b0 b1 b2 b3 b4 b5 b6)
def dU (N:Nat)(a2:RL):Nat->Int->RS->RS->RL->RL->RU->Int->Option RC
 |0,_,_,_,_,_,_,_=>none
 |b3+1,a1,a6,a7,a8,b0,b1,b2=>bif decide (a1<(a2.length:Int)) then ((au a2 a1).bind fun b4=>(bD N (⟨(⟨a6,a7⟩:Rp),a8,b0,b1,b2⟩:RC) b4).bind fun b5=>(fC N b5).bind fun b6=>o5 N (dU N a2 b3) a2 a1 b6 N 0 a6 a7 a8 b0 b1 b2) else (sw N a6 a7 a8 b0 b1 b2)
def tI (N:Nat)(a2:RL)(p9:RS)(a1:RS)(a6:RL)(a7:RL)(p13:RU)(a8:Int):Option RC:=
 dU N a2 N 0 p9 a1 a6 a7 p13 a8
def o7 (N:Nat)(a6:Int->RS->RS->RL->RL->RU->Int->Option RC)(a1:RJ)(a7:Int)(a2:RL)(a8:RS)(b0:RS)(b1:RL)(b2:RL)(b3:RU)(b4:Int):Option RC:=
 bn (in64 (a7+1)) (a6 (a7+1) a8 b0 b1 b2 b3 b4)
def gy (N:Nat)(a1:RJ)(a2:RL):Nat->Int->RS->RS->RL->RL->RU->Int->Option RC
 |0,_,_,_,_,_,_,_=>none
 |b4+1,a7,a8,b0,b1,b2,p21,b3=>bif decide (a7<(a1.length:Int)) then ((au a1 a7).bind fun b6=>(kA N b6).bind fun b5=>bif b5.2 then ((bZ N (⟨(⟨a8,b0⟩:Rp),b1,b2,p21,b3⟩:RC) b5.1).bind fun a6=>o7 N (gy N a1 a2 b4) a1 a7 a2 a6.m_.Se a6.m_.Sc a6.SM a6.Sw a6.SL a6.Ss) else (o7 N (gy N a1 a2 b4) a1 a7 a2 a8 b0 b1 b2 p21 b3)) else (tI N a2 a8 b0 b1 b2 p21 b3)
def nq (N:Nat)(a0:Rp)(a1:RJ)(a2:RL):Option RC:=
 gy N a1 a2 N 0 a0.Se a0.Sc a2 [] ([]:RU) 0
theorem Eg {N:Nat}{a0:Rp}{a1:RJ}{a2:RL}{r:RC}(h:nq N a0 a1 a2=some r):Okc RY 131 [.agg #[U A1 n1 c1,U A2 n2 c2],U A3 n3 c3,U A4 n4 c4] ([bi A1 n1 c1 a0.Se,bi A2 n2 c2 a0.Sc,bc A3 n3 c3 a1,dK A4 n4 c4 a2]) (fun u post=> ∃B0 A1 n1 c1 A2 n2 c2 A3 n3 c3 A4 n4 c4 M5,u=pV B0 0/\post=[ac B0 186 [U A1 n1 c1,U A2 n2 c2,U A3 n3 c3,U A4 n4 c4,.map (some M5),iV r.Ss],bi A1 n1 c1 r.m_.Se,bi A2 n2 c2 r.m_.Sc,dK A3 n3 c3 r.SM,eG A4 n4 c4 r.Sw,aj bf bI M5 r.SL]):=by
 refine cG Tryz.func131 ?_;intro B5;refine ab ?_;refine gD (qU (ek:=bf) (ev:=bI)) ?_;rintro _ _ ⟨M6,rfl,rfl⟩
 refine iD fun B7=> ?_
 refine ao (fun s L=> ∃p9 g0 g1 g2 p13 g3 A9 n9 c9 g4 g5 g6 g7 g8 g9 h0 h1 h2 h3,tI N a2 p9 g0 g1 g2 p13 g3=some r/\s=[(2,U A4 n4 c4),(6,.pointer none),(7,pV B7 0)]/\L=[dK A4 n4 c4 a2,bi A9 n9 c9 p9,bi g4 g5 g6 g0,dK g7 g8 g9 g1,eG h0 h1 h2 g2,aj bf bI h3 p13,ac B7 186 [U A9 n9 c9,U g4 g5 g6,U g7 g8 g9,U h0 h1 h2,.map (some h3),iV g3]]) ?_ ?_
 ·refine ab ?_;refine aW (fun m s L=> ∃f4 j9 k0 k1 k2 p21 k3 k4 k5 k6 k7 k8 k9 l0 l1 l2 l3 l4 l5 l6,gy N a1 a2 m f4 j9 k0 k1 k2 p21 k3=some r/\s=[(2,U A4 n4 c4),(6,.pointer none),(7,pV B7 0),(21,U A3 n3 c3),(22,iV (a1.length:Int)),(23,iV f4)]/\L=[dK A4 n4 c4 a2,bc A3 n3 c3 a1,bi k4 k5 k6 j9,bi k7 k8 k9 k0,dK l0 l1 l2 k1,eG l3 l4 l5 k2,aj bf bI l6 p21,ac B7 186 [U k4 k5 k6,U k7 k8 k9,U l0 l1 l2,U l3 l4 l5,.map (some l6),iV k3]]) N _ _ ⟨0,a0.Se,a0.Sc,a2,[],([]:RU),0,A1,n1,c1,A2,n2,c2,A4,n4,c4,none,0,0,M6,h,J,J⟩ sA ((EF 6 J J).trans ((bh (eT .i64) 3 _).trans (cS [8,7,5,6,1,0,3,2] 9))) ?_;rintro (_|y0) _ _ ⟨f4,j9,k0,k1,k2,p21,k3,k4,k5,k6,k7,k8,k9,l0,l1,l2,l3,l4,l5,l6,h,rfl,rfl⟩
  ·exact am h
  rw [gy.eq_2] at h;refine ab ?_;refine aL ?_;refine gH J h ?_ ?_<;>intro h
  ·refine ab ?_;refine ao (fun s L=> ∃l7 l8 l9 m0 m1 m2 m3 m4 m5 m6 m7 m8 m9 n0 n8 o0 o1 o2 p0,o7 N (gy N a1 a2 y0) a1 f4 a2 l7 l8 l9 m0 m1 m2=some r/\s=[(2,U A4 n4 c4),(6,.pointer none),(7,pV B7 0),(21,U A3 n3 c3),(22,iV (a1.length:Int)),(23,iV f4)]/\L=[dK A4 n4 c4 a2,bc A3 n3 c3 a1,bi m3 m4 m5 l7,bi m6 m7 m8 l8,dK m9 n0 n8 l9,eG o0 o1 o2 m0,aj bf bI p0 m1,ac B7 186 [U m3 m4 m5,U m6 m7 m8,U m9 n0 n8,U o0 o1 o2,.map (some p0),iV m2]]) ?_ ?_
   ·refine ab ?_;obtain ⟨T8,y1,y2,y3,h⟩:=bG h
    refine iD fun T9=> ?_
    obtain ⟨U0,k,h⟩:=aa h;refine jQ (oR (sX k)) ?_;refine gH J h ?_ ?_<;>intro h
    ·refine ab ?_;obtain ⟨U1,k,h⟩:=aa h;refine gD (oC (iQ k)) ?_;rintro _ _ ⟨_,⟨U2,U3,U4,U5,U6,U7,U8,U9,V0,V1,V2,V4,V5,rfl,rfl⟩,rfl⟩;exact jY
    exact jY
   rintro _ _ ⟨l7,l8,l9,m0,m1,m2,m3,m4,m5,m6,m7,m8,m9,n0,n8,o0,o1,o2,p0,h,rfl,rfl⟩;refine ab ?_;obtain ⟨V6,h⟩:=ah h;exact lY
  exact jY
 rintro _ _ ⟨p9,g0,g1,g2,p13,g3,A9,n9,c9,g4,g5,g6,g7,g8,g9,h0,h1,h2,h3,h,rfl,rfl⟩;refine ao (fun s L=> ∃p1 p2 p3 p4 p5 p6 p7 p8 q0 q1 q2 q3 q4 q5 q6 q7 q8 q9 r0,sw N p1 p2 p3 p4 p5 p6=some r/\s=[(6,.pointer none),(7,pV B7 0)]/\L=[bi p7 p8 q0 p1,bi q1 q2 q3 p2,dK q4 q5 q6 p3,eG q7 q8 q9 p4,aj bf bI r0 p5,ac B7 186 [U p7 p8 q0,U q1 q2 q3,U q4 q5 q6,U q7 q8 q9,.map (some r0),iV p6]]) ?_ ?_
 ·refine ab ?_;refine aW (fun m s L=> ∃a6 h4 h5 h6 h7 h8 h9 i0 i1 i2 i8 j0 j1 j2 j3 j4 j5 j6 j7 j8,dU N a2 m a6 h4 h5 h6 h7 h8 h9=some r/\s=[(6,.pointer none),(7,pV B7 0),(37,U A4 n4 c4),(38,iV (a2.length:Int)),(39,iV a6)]/\L=[dK A4 n4 c4 a2,bi i0 i1 i2 h4,bi i8 j0 j1 h5,dK j2 j3 j4 h6,eG j5 j6 j7 h7,aj bf bI j8 h8,ac B7 186 [U i0 i1 i2,U i8 j0 j1,U j2 j3 j4,U j5 j6 j7,.map (some j8),iV h9]]) N _ _ ⟨0,p9,g0,g1,g2,p13,g3,A9,n9,c9,g4,g5,g6,g7,g8,g9,h0,h1,h2,h3,h,J,J⟩ sA (cS [0,1,2,3,4,5,6] 7) ?_;rintro (_|x6) _ _ ⟨a6,h4,h5,h6,h7,h8,h9,i0,i1,i2,i8,j0,j1,j2,j3,j4,j5,j6,j7,j8,h,rfl,rfl⟩
  ·exact am h
  rw [dU.eq_2] at h;refine ab ?_;refine aL ?_;refine gH J h ?_ ?_<;>intro h
  ·refine ab ?_;refine ao (fun s L=> ∃r1 r2 r3 r4 r5 r6 s0 s1 s2 s3 s4 s5 s6 s7 s8 s9 t1 t2 u0,o6 N (dU N a2 x6) a2 a6 r1 r2 r3 r4 r5 r6=some r/\s=[(6,.pointer none),(7,pV B7 0),(37,U A4 n4 c4),(38,iV (a2.length:Int)),(39,iV a6)]/\L=[dK A4 n4 c4 a2,bi s0 s1 s2 r1,bi s3 s4 s5 r2,dK s6 s7 s8 r3,eG s9 t1 t2 r4,aj bf bI u0 r5,ac B7 186 [U s0 s1 s2,U s3 s4 s5,U s6 s7 s8,U s9 t1 t2,.map (some u0),iV r6]]) ?_ ?_
   ·refine ab ?_;obtain ⟨V7,y4,y5,y6,h⟩:=bG h;refine ab ?_;obtain ⟨V8,k,h⟩:=aa h
    refine Ew (oC (fK k)) fun V9 W0 W1 W2 W3 W4=> ?_
    obtain ⟨u1,k,h⟩:=aa h
    refine nr (oR (jb k)) fun x7 x8 x9=> ?_
    refine aW (fun m s L=> ∃u2 u3 u4 u5 u6 u7 u8 u9 v1 v2 v6 v7 v8 w1 w2 w3 w4 w5 w6 w7,o5 N (dU N a2 x6) a2 a6 u1 m u2 u3 u4 u5 u6 u7 u8=some r/\s=[(6,.pointer none),(7,pV B7 0),(37,U A4 n4 c4),(38,iV (a2.length:Int)),(39,iV a6),(46,U x7 x8 x9),(47,iV (u1.length:Int)),(48,iV u2)]/\L=[dK A4 n4 c4 a2,eG x7 x8 x9 u1,bi u9 v1 v2 u3,bi v6 v7 v8 u4,dK w1 w2 w3 u5,eG w4 w5 w6 u6,aj bf bI w7 u7,ac B7 186 [U u9 v1 v2,U v6 v7 v8,U w1 w2 w3,U w4 w5 w6,.map (some w7),iV u8]]) N _ _ ⟨0,h4,h5,h6,h7,h8,h9,i0,i1,i2,i8,j0,j1,j2,j3,j4,j5,j6,j7,j8,h,J,J⟩ sA (cS [6,0,7,8,9,4,5,3] 10) ?_;rintro (_|W5) _ _ ⟨u2,u3,u4,u5,u6,u7,u8,u9,v1,v2,v6,v7,v8,w1,w2,w3,w4,w5,w6,w7,h,rfl,rfl⟩
    ·exact am h
    rw [o5.eq_2] at h;refine ab ?_;refine aL ?_;refine gH J h ?_ ?_<;>intro h
    ·refine sY ?_;obtain ⟨W7,y7,y8,y9,h⟩:=bG h;refine ab ?_;obtain ⟨W8,k,h⟩:=aa h;refine gD (oC (iQ k)) ?_;rintro _ _ ⟨_,⟨W9,X0,X1,X2,X3,X4,X5,X6,X7,X8,X9,Y0,Y1,rfl,rfl⟩,rfl⟩;refine ab ?_;obtain ⟨Y2,h⟩:=ah h;exact lY
    exact jY
   rintro _ _ ⟨r1,r2,r3,r4,r5,r6,s0,s1,s2,s3,s4,s5,s6,s7,s8,s9,t1,t2,u0,h,rfl,rfl⟩;refine ab ?_;obtain ⟨Y3,h⟩:=ah h;exact lY
  exact jY
 rintro _ _ ⟨p1,p2,p3,p4,p5,p6,p7,p8,q0,q1,q2,q3,q4,q5,q6,q7,q8,q9,r0,h,rfl,rfl⟩;refine ab ?_;obtain ⟨f3,k,h⟩:=aa h;refine gD (oC (np k)) ?_;rintro _ _ ⟨_,⟨z1,z2,A8,B4,B9,L0,L1,L2,L3,L4,L5,L6,L7,rfl,rfl⟩,rfl⟩;refine ab ?_;refine ao (fun s L=> ∃w8 w9 a7 a8 b0 b1 x0 x1 x2 x3 x4 x5 b2 b3 b4 b5 b6 b7 b8,sv N w8 w9 a7 a8 b0 b1=some r/\s=[(6,.pointer none),(7,pV B7 0)]/\L=[bi x0 x1 x2 w8,bi x3 x4 x5 w9,dK b2 b3 b4 a7,eG b5 b6 b7 a8,aj bf bI b8 b0,ac B7 186 [U x0 x1 x2,U x3 x4 x5,U b2 b3 b4,U b5 b6 b7,.map (some b8),iV b1]]) ?_ ?_
 ·refine ab ?_;refine aW (fun m s L=> ∃b9 c0 c8 d0 d1 d2 d3 d4 d6 e2 e3 e4 e5 e6 e7 e8 e9 f1 f2,jz N m b9 c0 c8 d0 d1 d2=some r/\s=[(6,.pointer none),(7,pV B7 0)]/\L=[bi d3 d4 d6 b9,bi e2 e3 e4 c0,dK e5 e6 e7 c8,eG e8 e9 f1 d0,aj bf bI f2 d1,ac B7 186 [U d3 d4 d6,U e2 e3 e4,U e5 e6 e7,U e8 e9 f1,.map (some f2),iV d2]]) N _ _ ⟨f3.m_.Se,f3.m_.Sc,f3.SM,f3.Sw,f3.SL,f3.Ss,z1,z2,A8,B4,B9,L0,L1,L2,L3,L4,L5,L6,L7,h,J,J⟩ sA (cS [1,2,3,4,5,0] 9) ?_;rintro (_|L8) _ _ ⟨b9,c0,c8,d0,d1,d2,d3,d4,d6,e2,e3,e4,e5,e6,e7,e8,e9,f1,f2,h,rfl,rfl⟩
  ·exact am h
  rw [jz.eq_2] at h;refine sZ ?_;obtain ⟨L9,k,h⟩:=aa h;refine gD (oC (vh k)) ?_;rintro _ _ ⟨_,⟨M0,M1,M3,M4,M8,Q1,R6,R7,R8,R9,S0,S1,S2,rfl,rfl⟩,rfl⟩;refine fd h ?_ ?_<;>intro h
  ·refine ab ?_;obtain ⟨S3,k,h⟩:=aa h;refine gD (oC (np k)) ?_;rintro _ _ ⟨_,⟨S4,S5,S6,S7,S8,S9,T1,T2,T3,T4,T5,T6,T7,rfl,rfl⟩,rfl⟩;exact lY
  exact jY
 rintro _ _ ⟨w8,w9,a7,a8,b0,b1,x0,x1,x2,x3,x4,x5,b2,b3,b4,b5,b6,b7,b8,h,rfl,rfl⟩;exact eY
def nM (N:Nat)(a0:RC)(p8:RL):Option RL:=
 some p8
def fW (N:Nat)(a1:RL->Int->Int->Int->Option RL)(a0:RC)(p13:Int)(a2:RL)(a6:Int)(a7:Int):Option RL:=
 bn (in64 (p13+1)) (a1 a2 a6 a7 (p13+1))
def cj (N:Nat)(a0:RC):Nat->RL->Int->Int->Int->Option RL
 |0,_,_,_,_=>none
 |m9+1,a6,a1,a2,p13=>bif decide (p13<(a0.Sw.length:Int)) then ((au a0.Sw p13).bind fun a7=>(bD N a0 a7).bind fun a8=>bif decide (a8.Sn=0) then (bn (in64 (2*a1)) (bn (in64 ((2*a1)+1)) (bn (cc (a6.length+([(2*a1)+1]:List Int).length)) (bn (in64 (a1+1)) (fW N (cj N a0 m9) a0 p13 (a6++([(2*a1)+1]:List Int)) (a1+1) a2))))) else (bn (in64 (2*a2)) (bn (in64 ((2*a2)+2)) (bn (cc (a6.length+([(2*a2)+2]:List Int).length)) (bn (in64 (a2+1)) (fW N (cj N a0 m9) a0 p13 (a6++([(2*a2)+2]:List Int)) a1 (a2+1))))))) else (nM N a0 a6)
def fb (N:Nat)(a0:RC):Option RL:=
 cj N a0 N [] 0 (a0.m_.Sc.length:Int) 0
theorem tH {N:Nat}{a0:RC}{r:RL}(h:fb N a0=some r):Okc RY 132 [pV B1 0] ([bi A2 n2 c2 a0.m_.Se,bi A3 n3 c3 a0.m_.Sc,dK A4 n4 c4 a0.SM,ac B1 186 [U A2 n2 c2,U A3 n3 c3,U A4 n4 c4,U A5 n5 c5,.map (some M6),iV a0.Ss],eG A5 n5 c5 a0.Sw,aj bf bI M6 a0.SL]) (fun u post=> ∃a1 a2 a6,u=U a1 a2 a6/\post=[eG a1 a2 a6 r,ac B1 186 [U A2 n2 c2,U A3 n3 c3,U A4 n4 c4,U A5 n5 c5,.map (some M6),iV a0.Ss],eG A5 n5 c5 a0.Sw,aj bf bI M6 a0.SL]):=by
 refine cG Tryz.func132 ?_;refine dY [] ?_;refine ab ?_;refine ao (fun s L=> ∃p8 A8 n8 c8,nM N a0 p8=some r/\s=[(2,U none 0 0),(3,U A8 n8 c8)]/\L=[eG A8 n8 c8 p8,bi A2 n2 c2 a0.m_.Se,bi A3 n3 c3 a0.m_.Sc,dK A4 n4 c4 a0.SM,eG A5 n5 c5 a0.Sw,aj bf bI M6 a0.SL,ac B1 186 [U A2 n2 c2,U A3 n3 c3,U A4 n4 c4,U A5 n5 c5,.map (some M6),iV a0.Ss]]) ?_ ?_
 ·refine ab ?_;refine aW (fun m s L=> ∃b0 a7 a8 p13 b1 b2 b3,cj N a0 m b0 a7 a8 p13=some r/\s=[(0,pV B1 0),(2,U none 0 0),(3,U b1 b2 b3),(4,iV a7),(5,iV a8),(17,U A5 n5 c5),(18,iV (a0.Sw.length:Int)),(19,iV p13)]/\L=[eG b1 b2 b3 b0,eG A5 n5 c5 a0.Sw,bi A2 n2 c2 a0.m_.Se,bi A3 n3 c3 a0.m_.Sc,dK A4 n4 c4 a0.SM,aj bf bI M6 a0.SL,ac B1 186 [U A2 n2 c2,U A3 n3 c3,U A4 n4 c4,U A5 n5 c5,.map (some M6),iV a0.Ss]]) N _ _ ⟨[],0,(a0.m_.Sc.length:Int),0,none,0,0,h,J,J⟩ sA ((bh (eT .i64) 3 _).trans (cS [0,5,1,2,3,6,4] 7)) ?_;rintro (_|m9) _ _ ⟨b0,a7,a8,p13,b1,b2,b3,h,rfl,rfl⟩
  ·exact am h
  rw [cj.eq_2] at h;refine ab ?_;refine aL ?_;refine gH J h ?_ ?_<;>intro h
  ·refine ab ?_;refine ao (fun s L=> ∃b4 b5 b6 b7 b8 b9,fW N (cj N a0 m9) a0 p13 b4 b5 b6=some r/\s=[(0,pV B1 0),(2,U none 0 0),(3,U b7 b8 b9),(4,iV b5),(5,iV b6),(17,U A5 n5 c5),(18,iV (a0.Sw.length:Int)),(19,iV p13)]/\L=[eG b7 b8 b9 b4,eG A5 n5 c5 a0.Sw,bi A2 n2 c2 a0.m_.Se,bi A3 n3 c3 a0.m_.Sc,dK A4 n4 c4 a0.SM,aj bf bI M6 a0.SL,ac B1 186 [U A2 n2 c2,U A3 n3 c3,U A4 n4 c4,U A5 n5 c5,.map (some M6),iV a0.Ss]]) ?_ ?_
   ·refine ab ?_;obtain ⟨d6,d0,d1,d2,h⟩:=bG h;refine ab ?_;obtain ⟨e2,k,h⟩:=aa h;refine gD (oC (fK k)) ?_;rintro _ _ ⟨_,⟨e3,e4,e5,e6,e7,e8,rfl,rfl⟩,rfl⟩;refine fm (pu J (J1 _ _ _ _ _ _ _ _ _ _)) ?_;refine gH J h ?_ ?_<;>intro h
    ·refine ab ?_;obtain ⟨c0,h⟩:=ah h;refine gE (sC J J c0.1 c0.2) ?_;obtain ⟨e9,h⟩:=ah h;refine ab ?_;refine gD (aY (R:=(eT .i64)) (vss:=[[iV ((2*a7)+1)]]) (xs:=[(2*a7)+1]) J (lF _) J J (fun _ _ hr=> .cons J All2.nil)) ?_;rintro _ _ ⟨f1,f2,f3,rfl,rfl⟩;obtain ⟨d3,h⟩:=ah h
     refine nr (aX 6 0 J J aI J J t0 ES J J d3) fun f4 g0 g1=> ?_
     obtain ⟨g2,h⟩:=ah h;exact jY
    refine ab ?_;obtain ⟨c9,h⟩:=ah h;refine gE (sC J J c9.1 c9.2) ?_;obtain ⟨g3,h⟩:=ah h;refine ab ?_;refine gD (aY (R:=(eT .i64)) (vss:=[[iV ((2*a8)+2)]]) (xs:=[(2*a8)+2]) J (lF _) J J (fun _ _ hr=> .cons J All2.nil)) ?_;rintro _ _ ⟨g4,g5,g6,rfl,rfl⟩;obtain ⟨d4,h⟩:=ah h
    refine nr (aX 6 0 J J aI J J t0 ES J J d4) fun g7 g8 g9=> ?_
    obtain ⟨h0,h⟩:=ah h;exact jY
   rintro _ _ ⟨b4,b5,b6,b7,b8,b9,h,rfl,rfl⟩;refine ab ?_;obtain ⟨h1,h⟩:=ah h;exact lY
  exact jY
 rintro _ _ ⟨p8,A8,n8,c8,h,rfl,rfl⟩;exact eY
def i9 (N:Nat)(a0:Rk)(a1:RL)(a2:RJ):Option (Rk×RJ):=
 bif decide (a0.Sa=8) then ((lH N a0 a1).bind fun y8=>some (y8,a2)) else (bif decide (a0.Sa=10) then ((jC N a0 a1).bind fun a6=>bn (cc (a2.length+a6.2.length)) (some (a6.1,a2++a6.2))) else (some (a0,a2)))
theorem vj {N:Nat}{a0:Rk}{a1:RL}{a2:RJ}{r:Rk×RJ}(h:i9 N a0 a1 a2=some r):Okc RY 135 [.agg #[iV a0.Sa,iV a0.Sk,iV a0.Sj,iV a0.Sn,U A1 n1 c1,U A2 n2 c2],U A3 n3 c3,U A4 n4 c4] ([bc A1 n1 c1 a0.Sg,bc A2 n2 c2 a0.Sd,dK A3 n3 c3 a1,aw A4 n4 c4 a2]) (fun u post=> ∃A0 n0 c0 A1 n1 c1 A2 n2 c2,u=.tuple #[.agg #[iV r.1.Sa,iV r.1.Sk,iV r.1.Sj,iV r.1.Sn,U A0 n0 c0,U A1 n1 c1],U A2 n2 c2]/\post=[bc A0 n0 c0 r.1.Sg,bc A1 n1 c1 r.1.Sd,aw A2 n2 c2 r.2]):=by
 refine cG Tryz.func135 ?_;intro B5
 refine iD fun B6=> ?_
 refine sZ ?_;refine gH J h ?_ ?_<;>intro h
 ·refine ab ?_;obtain ⟨y8,k,h⟩:=aa h
  refine Ew (oR (wP k)) fun A9 n9 c9 b4 b5 b6=> ?_
  obtain rfl:=cB h;exact ox (rs:=[.cell 6 42,.tmp 7]) (vs:=[.agg #[iV y8.Sa,iV y8.Sk,iV y8.Sj,iV y8.Sn,U A9 n9 c9,U b4 b5 b6],U A4 n4 c4]) J (.cons (ij 2 J J agg42.out) (.cons (oB J) .nil)) J ((bJ 0 J).trans ((bJ 1 J).trans (cS [0,1,7] 8))) ⟨_,_,_,_,_,_,_,_,_,J,J⟩
 refine fd h ?_ ?_<;>intro h
 ·refine ab ?_;obtain ⟨a6,k,h⟩:=aa h
  refine OQ (oR (um k)) fun a7 a8 b0 b1 b2 b3 b7 b8 b9=> ?_
  intro c8;refine ab ?_;refine aL ?_;refine cZ I ([ac c8 42 [iV a6.1.Sa,iV a6.1.Sk,iV a6.1.Sj,iV a6.1.Sn,U a7 a8 b0,U b1 b2 b3],aw a7 a8 b0 a6.1.Sg,aw b1 b2 b3 a6.1.Sd,aw b7 b8 b9 a6.2,ac B5 42 [iV a0.Sa,iV a0.Sk,iV a0.Sj,iV a0.Sn,U A1 n1 c1,U A2 n2 c2],bc A1 n1 c1 a0.Sg,bc A2 n2 c2 a0.Sd,dK A3 n3 c3 a1]) (cS [0,1,2,3,5,6,7,8] 10) ?_;refine ab ?_;obtain ⟨d0,h⟩:=ah h;refine zD 3 J (aX 9 3 J J aI J J hU yW J J d0) ?_;rintro _ _ ⟨d1,d2,d3,rfl,rfl⟩;refine aJ (cS [0,1,2,3,5,6,7,8] 10) ?_;refine zO 4 J (ax (us:=[iV a6.1.Sa,iV a6.1.Sk,iV a6.1.Sj,iV a6.1.Sn,U a7 a8 b0,U b1 b2 b3]) (cs':=[iV a6.1.Sa,iV a6.1.Sk,iV a6.1.Sj,iV a6.1.Sn,U a7 a8 b0,U b1 b2 b3]) 4 J J J J size42.out J J J) ?_;rintro _ _ rfl;refine aJ (cS [0,1,2,3,5,6,7,8] 10) ?_;refine ab ?_;obtain rfl:=cB h;exact ox (rs:=[.cell 6 42,.tmp 7]) (vs:=[.agg #[iV a6.1.Sa,iV a6.1.Sk,iV a6.1.Sj,iV a6.1.Sn,U a7 a8 b0,U b1 b2 b3],U d1 d2 d3]) J (.cons (ij 4 J J agg42.out) (.cons (oB J) .nil)) J ((bJ 1 J).trans ((bJ 2 J).trans (cS [1,2,9] 10))) ⟨_,_,_,_,_,_,_,_,_,J,J⟩
 exact eY
def rA (N:Nat)(a1:Rk)(a2:RJ)(a6:RJ):Option Rk:=
 some (⟨a1.Sa,a1.Sk,a1.Sj,a1.Sn,a2,a6⟩:Rk)
def ry (N:Nat)(p9:RX)(a1:RJ)(a2:Rk)(a6:RJ):Option Rk:=
 rA N a2 a1 a6
def oc (N:Nat)(a1:RJ->Int->Option Rk)(a7:Rk)(a2:Int)(p9:RX)(a8:RJ)(a6:RJ):Option Rk:=
 bn (in64 (a2+1)) (a1 a6 (a2+1))
def fS (N:Nat)(a1:Rk)(p9:RX)(a6:RJ):Nat->RJ->Int->Option Rk
 |0,_,_=>none
 |b0+1,a7,a2=>bif decide (a2<(a1.Sd.length:Int)) then ((au a7 a2).bind fun a8=>(bif (lk p9 a8.N).isSome then ((lT N a8).bind fun b2=>some b2) else (some false)).bind fun b3=>bif b3 then ((au a7 a2).bind fun b1=>oc N (fS N a1 p9 a6 b0) a1 a2 p9 a6 (List.set a7 a2.toNat (⟨b1.Sa,(lk p9 a8.N).getD 0,b1.S⟩:Ry))) else (oc N (fS N a1 p9 a6 b0) a1 a2 p9 a6 a7)) else (ry N p9 a6 a1 a7)
def rz (N:Nat)(p9:RX)(a1:Rk)(a2:RJ):Option Rk:=
 fS N a1 p9 a2 N a1.Sd 0
def od (N:Nat)(a1:RJ->Int->Option Rk)(a7:Rk)(a2:Int)(p9:RX)(a6:RJ):Option Rk:=
 bn (in64 (a2+1)) (a1 a6 (a2+1))
def fT (N:Nat)(a1:Rk)(p9:RX):Nat->RJ->Int->Option Rk
 |0,_,_=>none
 |a8+1,a6,a2=>bif decide (a2<(a1.Sg.length:Int)) then ((au a6 a2).bind fun a7=>(bif (lk p9 a7.N).isSome then ((lT N a7).bind fun b1=>some b1) else (some false)).bind fun b2=>bif b2 then ((au a6 a2).bind fun b0=>od N (fT N a1 p9 a8) a1 a2 p9 (List.set a6 a2.toNat (⟨b0.Sa,(lk p9 a7.N).getD 0,b0.S⟩:Ry))) else (od N (fT N a1 p9 a8) a1 a2 p9 a6)) else (rz N p9 a1 a6)
def pa (N:Nat)(a0:Rk)(p9:RX):Option Rk:=
 (eg N a0).bind fun a1=>fT N a1 p9 N a1.Sg 0
def lE (N:Nat)(a6:RX->Int->Option Rk)(a1:RL)(a7:Int)(a2:RL)(a0:Rk)(a8:RX):Option Rk:=
 bn (in64 (a7+1)) (a6 a8 (a7+1))
def eI (N:Nat)(a1:RL)(a2:RL)(a0:Rk):Nat->RX->Int->Option Rk
 |0,_,_=>none
 |b0+1,a8,a6=>bif decide (a6<(a1.length:Int)) then ((au a1 a6).bind fun a7=>bif (lk a8 a7).isSome then (lE N (eI N a1 a2 a0 b0) a1 a6 a2 a0 a8) else (bif decide (a6<(a2.length:Int)) then ((au a2 a6).bind fun b1=>lE N (eI N a1 a2 a0 b0) a1 a6 a2 a0 (xi (xi a8 a7 a7) a7 b1)) else (lE N (eI N a1 a2 a0 b0) a1 a6 a2 a0 (xi a8 a7 a7)))) else (pa N a0 a8)
def fB (N:Nat)(a0:Rk)(a1:RL)(a2:RL):Option Rk:=
 eI N a1 a2 a0 N ([]:RX) 0
theorem sE {N:Nat}{a0:Rk}{a1:RL}{a2:RL}{r:Rk}(h:fB N a0 a1 a2=some r):Okc RY 136 [.agg #[iV a0.Sa,iV a0.Sk,iV a0.Sj,iV a0.Sn,U A1 n1 c1,U A2 n2 c2],U A3 n3 c3,U A4 n4 c4] ([bc A1 n1 c1 a0.Sg,bc A2 n2 c2 a0.Sd,dK A3 n3 c3 a1,dK A4 n4 c4 a2]) (fun u post=> ∃A0 n0 c0 A1 n1 c1,u=.agg #[iV r.Sa,iV r.Sk,iV r.Sj,iV r.Sn,U A0 n0 c0,U A1 n1 c1]/\post=[aw A0 n0 c0 r.Sg,aw A1 n1 c1 r.Sd]):=by
 refine cG Tryz.func136 ?_;intro B5
 refine iD fun B6=> ?_
 refine gD (z8 (ek:=bf) (ev:=dp) J Rf) ?_;rintro _ _ ⟨M7,rfl,rfl⟩;refine ab ?_;refine ao (fun s L=> ∃p9,pa N a0 p9=some r/\s=[(3,pV B5 0),(6,pV B6 0),(7,.map (some M7))]/\L=[aj bf dp M7 p9,bc A1 n1 c1 a0.Sg,bc A2 n2 c2 a0.Sd,ac B5 42 [iV a0.Sa,iV a0.Sk,iV a0.Sj,iV a0.Sn,U A1 n1 c1,U A2 n2 c2],ac B6 42 [iV 0,iV 0,iV 0,iV 0,U none 0 0,U none 0 0]]) ?_ ?_
 ·refine ab ?_;refine aW (fun m s L=> ∃g3 e2,eI N a1 a2 a0 m g3 e2=some r/\s=[(2,U A4 n4 c4),(3,pV B5 0),(6,pV B6 0),(7,.map (some M7)),(21,U A3 n3 c3),(22,iV (a1.length:Int)),(23,iV e2)]/\L=[dK A4 n4 c4 a2,aj bf dp M7 g3,dK A3 n3 c3 a1,bc A1 n1 c1 a0.Sg,bc A2 n2 c2 a0.Sd,ac B5 42 [iV a0.Sa,iV a0.Sk,iV a0.Sj,iV a0.Sn,U A1 n1 c1,U A2 n2 c2],ac B6 42 [iV 0,iV 0,iV 0,iV 0,U none 0 0,U none 0 0]]) N _ _ ⟨([]:RX),0,h,J,J⟩ sA (cS [6,0,5,3,4,2,1] 7) ?_;rintro (_|j3) _ _ ⟨g3,e2,h,rfl,rfl⟩
  ·exact am h
  rw [eI.eq_2] at h;refine ab ?_;refine aL ?_;refine gH J h ?_ ?_<;>intro h
  ·refine ab ?_;refine ao (fun s L=> ∃g4,lE N (eI N a1 a2 a0 j3) a1 e2 a2 a0 g4=some r/\s=[(2,U A4 n4 c4),(3,pV B5 0),(6,pV B6 0),(7,.map (some M7)),(21,U A3 n3 c3),(22,iV (a1.length:Int)),(23,iV e2)]/\L=[dK A4 n4 c4 a2,aj bf dp M7 g4,dK A3 n3 c3 a1,bc A1 n1 c1 a0.Sg,bc A2 n2 c2 a0.Sd,ac B5 42 [iV a0.Sa,iV a0.Sk,iV a0.Sj,iV a0.Sn,U A1 n1 c1,U A2 n2 c2],ac B6 42 [iV 0,iV 0,iV 0,iV 0,U none 0 0,U none 0 0]]) ?_ ?_
   ·refine ab ?_;obtain ⟨f2,j4,j5,j6,h⟩:=bG h;refine sY ?_;refine Dv (qP (a:=f2) (z:=0) 1 J tJ J J Rf (dT hP) zero3.out) ?_;refine gH J h ?_ ?_<;>intro h
    ·exact jY
    refine ab ?_;refine GJ (gp (a:=f2) (b:=f2) 1 J J J J Rf (dT hP)) ?_;refine gH J h ?_ ?_<;>intro h
    ·refine ab ?_;obtain ⟨j7,j8,j9,k0,h⟩:=bG h;refine ab ?_;refine GJ (gp (a:=f2) (b:=j7) 1 J J J J Rf (dT hP)) ?_;exact jN
    exact jY
   rintro _ _ ⟨g4,h,rfl,rfl⟩;refine ab ?_;obtain ⟨l1,h⟩:=ah h;exact lY
  exact jY
 rintro _ _ ⟨p9,h,rfl,rfl⟩;refine ab ?_;obtain ⟨a6,k,h⟩:=aa h
 refine Ew (oR (i3 k)) fun i2 i8 j0 b2 b3 b4=> ?_
 refine ao (fun s L=> ∃g5 g6 g7 g8 g9 h0 h1 h2,rA N a6 g5 g6=some r/\s=[(3,pV B5 0),(6,pV B6 0)]/\L=[aw g7 g8 g9 g5,aw h0 h1 h2 g6,ac B5 42 [iV a6.Sa,iV a6.Sk,iV a6.Sj,iV a6.Sn,U g7 g8 g9,U h0 h1 h2],ac B6 42 [iV 0,iV 0,iV 0,iV 0,U none 0 0,U none 0 0]]) ?_ ?_
 ·refine ab ?_
  refine gB (eC (cs:=[U i2 i8 j0,U b2 b3 b4]) J (mJ _ _ _ _ _ _)) fun b1=> ?_
  refine fm (nX J z9) ?_;refine rG 3 ?_;refine sF ?_;refine ab ?_;refine aL ?_;refine cq J ?_;refine ab ?_;refine ao (fun s L=> ∃b5 a7 a8 b0,rz N p9 a6 b5=some r/\s=[(3,pV B5 0),(6,pV B6 0),(7,.map (some M7)),(55,.slice (some ⟨b1,0,none⟩) 2 2),(56,iV 2),(57,iV 0)]/\L=[aj bf dp M7 p9,aw a7 a8 b0 b5,aw b2 b3 b4 a6.Sd,ac B5 42 [iV a6.Sa,iV a6.Sk,iV a6.Sj,iV a6.Sn,U a7 a8 b0,U b2 b3 b4],ac B6 42 [iV 0,iV 0,iV 0,iV 0,U none 0 0,U none 0 0],ac b1 30 [U a7 a8 b0,U b2 b3 b4]]) ?_ ?_
  ·refine ab ?_;refine fm (nc J J z9 size30.out (by decide) (by decide)) ?_;refine aW (fun m s L=> ∃h3 e3 b6 b7 b8,fT N a6 p9 m h3 e3=some r/\s=[(3,pV B5 0),(6,pV B6 0),(7,.map (some M7)),(13,U b6 b7 b8),(55,.slice (some ⟨b1,0,none⟩) 2 2),(56,iV 2),(57,iV 0),(61,U b6 b7 b8),(62,iV (a6.Sg.length:Int)),(63,iV e3)]/\L=[aj bf dp M7 p9,aw b6 b7 b8 h3,aw b2 b3 b4 a6.Sd,ac B5 42 [iV a6.Sa,iV a6.Sk,iV a6.Sj,iV a6.Sn,U b6 b7 b8,U b2 b3 b4],ac B6 42 [iV 0,iV 0,iV 0,iV 0,U none 0 0,U none 0 0],ac b1 30 [U b6 b7 b8,U b2 b3 b4]]) N _ _ ⟨a6.Sg,0,i2,i8,j0,h,J,J⟩ sA (cS [3,1,2,6,7,0] 8) ?_;rintro (_|k1) _ _ ⟨h3,e3,b6,b7,b8,h,rfl,rfl⟩
   ·exact am h
   rw [fT.eq_2] at h;refine ab ?_;refine aL ?_;refine gH J h ?_ ?_<;>intro h
   ·refine ab ?_;refine ao (fun s L=> ∃h4 b9 c8 c9,od N (fT N a6 p9 k1) a6 e3 p9 h4=some r/\s=[(3,pV B5 0),(6,pV B6 0),(7,.map (some M7)),(13,U b9 c8 c9),(55,.slice (some ⟨b1,0,none⟩) 2 2),(56,iV 2),(57,iV 0),(61,U b9 c8 c9),(62,iV (a6.Sg.length:Int)),(63,iV e3)]/\L=[aj bf dp M7 p9,aw b9 c8 c9 h4,aw b2 b3 b4 a6.Sd,ac B5 42 [iV a6.Sa,iV a6.Sk,iV a6.Sj,iV a6.Sn,U b9 c8 c9,U b2 b3 b4],ac B6 42 [iV 0,iV 0,iV 0,iV 0,U none 0 0,U none 0 0],ac b1 30 [U b9 c8 c9,U b2 b3 b4]]) ?_ ?_
    ·refine ab ?_;obtain ⟨h5,k2,k3,k4,h⟩:=bG h
     refine iD fun l2=> ?_
     refine Dv (qP (a:=h5.N) (z:=0) 1 J tJ J J Rf (dT hP) zero3.out) ?_;obtain ⟨k5,e4,h⟩:=aa h;refine aH 3 79 k5 ?_ ?_
     ·clear h;refine aE 76 J (fun f3=> ?_) (fun f3=> ?_)
      ·have h:=az f3 e4;refine ab ?_;obtain ⟨l3,k,h⟩:=aa h;refine gU (oR (sD k)) (cY f3 J) ?_;exact gY
      have h:=aA f3 e4;exact gY
     refine fd h ?_ ?_<;>intro h
     ·refine ab ?_;obtain ⟨j1,e5,e6,h6,h⟩:=bG h;refine ab ?_;refine gR (sT 2 J aI J (bP e5 e6) ww) ?_;refine GJ (qt (us:=[iV ((lk p9 h5.N).getD 0)]) (z:=(⟨j1.Sa,(lk p9 h5.N).getD 0,j1.S⟩:Ry)) 2 J J J J size3.out J (bP e5 e6) J (fun S w vs xk hk hr ho=>by obtain rfl:=Option.some.inj (hk.symm.trans h6);rw [show _=_ from hr];rfl)) ?_;exact jN
     exact jY
    rintro _ _ ⟨h4,b9,c8,c9,h,rfl,rfl⟩;refine ab ?_;obtain ⟨l4,h⟩:=ah h;exact lY
   exact jY
  rintro _ _ ⟨b5,a7,a8,b0,h,rfl,rfl⟩;refine ab ?_;refine fm (ia J J (by decide) (by decide)) ?_;refine sF ?_;refine ab ?_;refine aL ?_;refine cq J ?_;refine ab ?_;refine ao (fun s L=> ∃h7 f4 g0 g1,ry N p9 b5 a6 h7=some r/\s=[(3,pV B5 0),(6,pV B6 0),(7,.map (some M7)),(55,.slice (some ⟨b1,0,none⟩) 2 2),(56,iV 2),(57,iV 1)]/\L=[aj bf dp M7 p9,aw a7 a8 b0 b5,aw f4 g0 g1 h7,ac B5 42 [iV a6.Sa,iV a6.Sk,iV a6.Sj,iV a6.Sn,U a7 a8 b0,U f4 g0 g1],ac B6 42 [iV 0,iV 0,iV 0,iV 0,U none 0 0,U none 0 0],ac b1 30 [U a7 a8 b0,U f4 g0 g1]]) ?_ ?_
  ·refine ab ?_;refine fm (nc J J z9 size30.out (by decide) (by decide)) ?_;refine aW (fun m s L=> ∃h8 e7 d0 d1 d2,fS N a6 p9 b5 m h8 e7=some r/\s=[(3,pV B5 0),(6,pV B6 0),(7,.map (some M7)),(13,U d0 d1 d2),(55,.slice (some ⟨b1,0,none⟩) 2 2),(56,iV 2),(57,iV 1),(61,U d0 d1 d2),(62,iV (a6.Sd.length:Int)),(63,iV e7)]/\L=[aj bf dp M7 p9,aw d0 d1 d2 h8,aw a7 a8 b0 b5,ac B5 42 [iV a6.Sa,iV a6.Sk,iV a6.Sj,iV a6.Sn,U a7 a8 b0,U d0 d1 d2],ac B6 42 [iV 0,iV 0,iV 0,iV 0,U none 0 0,U none 0 0],ac b1 30 [U a7 a8 b0,U d0 d1 d2]]) N _ _ ⟨a6.Sd,0,b2,b3,b4,h,J,J⟩ sA (cS [0,2,1,3,4,5] 6) ?_;rintro (_|k6) _ _ ⟨h8,e7,d0,d1,d2,h,rfl,rfl⟩
   ·exact am h
   rw [fS.eq_2] at h;refine ab ?_;refine aL ?_;refine gH J h ?_ ?_<;>intro h
   ·refine ab ?_;refine ao (fun s L=> ∃h9 d3 d4 d6,oc N (fS N a6 p9 b5 k6) a6 e7 p9 b5 h9=some r/\s=[(3,pV B5 0),(6,pV B6 0),(7,.map (some M7)),(13,U d3 d4 d6),(55,.slice (some ⟨b1,0,none⟩) 2 2),(56,iV 2),(57,iV 1),(61,U d3 d4 d6),(62,iV (a6.Sd.length:Int)),(63,iV e7)]/\L=[aj bf dp M7 p9,aw d3 d4 d6 h9,aw a7 a8 b0 b5,ac B5 42 [iV a6.Sa,iV a6.Sk,iV a6.Sj,iV a6.Sn,U a7 a8 b0,U d3 d4 d6],ac B6 42 [iV 0,iV 0,iV 0,iV 0,U none 0 0,U none 0 0],ac b1 30 [U a7 a8 b0,U d3 d4 d6]]) ?_ ?_
    ·refine ab ?_;obtain ⟨i0,k7,k8,k9,h⟩:=bG h
     refine iD fun l5=> ?_
     refine Dv (qP (a:=i0.N) (z:=0) 1 J tJ J J Rf (dT hP) zero3.out) ?_;obtain ⟨l0,e8,h⟩:=aa h;refine aH 3 79 l0 ?_ ?_
     ·clear h;refine aE 76 J (fun g2=> ?_) (fun g2=> ?_)
      ·have h:=az g2 e8;refine ab ?_;obtain ⟨l6,k,h⟩:=aa h;refine gU (oR (sD k)) (cY g2 J) ?_;exact gY
      have h:=aA g2 e8;exact gY
     refine fd h ?_ ?_<;>intro h
     ·refine ab ?_;obtain ⟨j2,e9,f1,i1,h⟩:=bG h;refine ab ?_;refine gR (sT 2 J aI J (bP e9 f1) ww) ?_;refine GJ (qt (us:=[iV ((lk p9 i0.N).getD 0)]) (z:=(⟨j2.Sa,(lk p9 i0.N).getD 0,j2.S⟩:Ry)) 2 J J J J size3.out J (bP e9 f1) J (fun S w vs xk hk hr ho=>by obtain rfl:=Option.some.inj (hk.symm.trans i1);rw [show _=_ from hr];rfl)) ?_;exact jN
     exact jY
    rintro _ _ ⟨h9,d3,d4,d6,h,rfl,rfl⟩;refine ab ?_;obtain ⟨l7,h⟩:=ah h;exact lY
   exact jY
  rintro _ _ ⟨h7,f4,g0,g1,h,rfl,rfl⟩;refine ab ?_;refine fm (ia J J (by decide) (by decide)) ?_;refine sF ?_;refine ab ?_;refine aL ?_;refine cJ J ?_;exact jY
 rintro _ _ ⟨g5,g6,g7,g8,g9,h0,h1,h2,h,rfl,rfl⟩;exact eY
theorem AF {r:Rk}: ∀v post,((fun (u:Value) (post:List Chunk)=> ∃A0 n0 c0 A1 n1 c1,u=.agg #[iV r.Sa,iV r.Sk,iV r.Sj,iV r.Sn,U A0 n0 c0,U A1 n1 c1]/\post=[aw A0 n0 c0 r.Sg,aw A1 n1 c1 r.Sd])) v post-> ∀c∈post,jJ c:=by
 rintro _ _ ⟨_,_,_,_,_,_,rfl,rfl⟩;exact hJ pt (hJ pt (ay))
def i7 (N:Nat)(a0:RJ)(a1:RL)(a2:RL):Option RJ:=
 (fB N (⟨0,0,0,0,[],a0⟩:Rk) a1 a2).bind fun y4=>some y4.Sd
theorem ve {N:Nat}{a0:RJ}{a1:RL}{a2:RL}{r:RJ}(h:i7 N a0 a1 a2=some r):Okc RY 139 [U A1 n1 c1,U A2 n2 c2,U A3 n3 c3] ([bc A1 n1 c1 a0,dK A2 n2 c2 a1,dK A3 n3 c3 a2]) (fun u post=> ∃A0 n0 c0,u=U A0 n0 c0/\post=[aw A0 n0 c0 r]):=by
 refine Ed Tryz.func139 J J ?_;simp only [sc];refine W ?_;refine gE (iX J (bld_42_5 _ _ _).out) ?_;refine W ?_;obtain ⟨y4,k,h⟩:=aa h;refine gD (bV (sE k) call136.out J (hJ (JS) (hJ (dX (i:=0) J J) (hJ (dX (i:=1) J J) (hJ (dX (i:=2) J J) ay)))) AF) ?_;rintro _ _ ⟨_,⟨A5,n5,c5,A6,n6,c6,rfl,rfl⟩,rfl⟩;refine gE (pu J (vv _ _ _ _ _ _ _ _ _ _)) ?_;refine W ?_;obtain rfl:=cB h;exact qb J J (cS [1] 5) ⟨_,_,_,J,J⟩
end Go.Proofs.YtjmonlcchlkdhaaGreat
namespace Go.Proofs.YtjmonlcchlkdhaaGreat
variable {A1 A2 A3 A4 A5 A6 A7:Option Addr} {B1 B2 B3 B6 B8 M2 M6 M7 M9 c1 c2 c3 c4 c5 c6 c7 n1 n2 n3 n4 n5 n6 n7:Nat}
open Go.RowKit Asn
set_option maxRecDepth 20000
def nO (N:Nat)(a1:RJ)(a7:RL)(a8:RC)(b0:RJ)(b1:RS)(b2:RS):Option (Rp×RJ×RJ×Int):=
 (i7 N a1 a8.Sw a7).bind fun a2=>(i7 N b0 a8.Sw a7).bind fun a6=>some ((⟨b1,b2⟩:Rp),a2,a6,0)
def lb (N:Nat)(a2:RJ->Int->RS->RS->Option (Rp×RJ×RJ×Int))(b1:RC)(a6:Int)(a1:RJ)(b2:RL)(b3:RL)(a7:RJ)(a8:RS)(b0:RS):Option (Rp×RJ×RJ×Int):=
 bn (in64 (a6+1)) (a2 a7 (a6+1) a8 b0)
def dI (N:Nat)(a6:RC)(a1:RJ)(a7:RL)(a8:RL):Nat->RJ->Int->RS->RS->Option (Rp×RJ×RJ×Int)
 |0,_,_,_,_=>none
 |b4+1,b5,b0,b1,b2=>bif decide (b0<(a6.Sw.length:Int)) then ((au a6.Sw b0).bind fun b6=>(bD N a6 b6).bind fun b7=>(i9 N b7 a8 b5).bind fun b3=>(fB N b3.1 a6.Sw a7).bind fun a2=>(au a7 b0).bind fun b8=>(fw N b8).bind fun b9=>bif b9 then (bn (cc (b1.length+([(⟨a2.Sa,a2.Sk,a2.Sj,1,a2.Sg,a2.Sd⟩:Rk)]:List Rk).length)) (lb N (dI N a6 a1 a7 a8 b4) a6 b0 a1 a7 a8 b3.2 (b1++([(⟨a2.Sa,a2.Sk,a2.Sj,1,a2.Sg,a2.Sd⟩:Rk)]:List Rk)) b2)) else (bn (cc (b2.length+([(⟨a2.Sa,a2.Sk,a2.Sj,1,a2.Sg,a2.Sd⟩:Rk)]:List Rk).length)) (lb N (dI N a6 a1 a7 a8 b4) a6 b0 a1 a7 a8 b3.2 b1 (b2++([(⟨a2.Sa,a2.Sk,a2.Sj,1,a2.Sg,a2.Sd⟩:Rk)]:List Rk))))) else (nO N a1 a7 a6 b5 b1 b2)
def nP (N:Nat)(a1:RJ)(a2:RL)(a6:RC)(a7:RJ)(a8:RL)(b0:RS):Option (Rp×RJ×RJ×Int):=
 dI N a6 a1 a2 a8 N a7 0 [] b0
def iS (N:Nat)(a6:RJ->RL->Int->RS->Option (Rp×RJ×RJ×Int))(a0:Rp)(a7:Int)(a1:RJ)(a2:RL)(b1:RL)(b2:RL)(a8:RS)(b3:RC)(b4:RJ)(b5:Int)(b6:Int)(b7:Int)(b8:Int)(b9:RJ)(c0:RJ):Option (Rp×RJ×RJ×Int):=
 (fB N (⟨b5,b6,b7,b8,b9,c0⟩:Rk) b3.Sw b1).bind fun b0=>bn (cc (a8.length+([b0]:List Rk).length)) (bn (in64 (a7+1)) (a6 b4 b2 (a7+1) (a8++([b0]:List Rk))))
def eE (N:Nat)(a0:Rp)(a1:RJ)(a2:RL)(b0:RL)(b1:RC):Nat->RJ->RL->Int->RS->Option (Rp×RJ×RJ×Int)
 |0,_,_,_,_=>none
 |b5+1,b3,b2,a6,b4=>bif decide (a6<(a0.Sc.length:Int)) then ((au a0.Sc a6).bind fun a7=>bn (in64 (2*a6)) (bn (in64 ((2*a6)+2)) ((dA N a2 ((2*a6)+2)).bind fun b6=>bif b6 then ((i9 N a7 b2 b3).bind fun a8=>iS N (eE N a0 a1 a2 b0 b1 b5) a0 a6 a1 a2 b0 b2 b4 b1 a8.2 a8.1.Sa a8.1.Sk a8.1.Sj a8.1.Sn a8.1.Sg a8.1.Sd) else (iS N (eE N a0 a1 a2 b0 b1 b5) a0 a6 a1 a2 b0 b2 b4 b1 b3 a7.Sa a7.Sk a7.Sj a7.Sn a7.Sg a7.Sd)))) else (nP N a1 b0 b1 b3 b2 b4)
def iB (N:Nat)(a0:Rp)(a1:RJ)(a2:RL):Option (Rp×RJ×RJ×Int):=
 (po N a0 a1 a2).bind fun y7=>bif !y7 then (some ((⟨[],[]⟩:Rp),[],[],1)) else ((nq N a0 a1 a2).bind fun a6=>(fb N a6).bind fun a7=>(eO N a6).bind fun a8=>eE N a0 a1 a2 a7 a6 N [] a8 0 [])
def mg (N:Nat)(a1:RJ)(a7:RL)(a8:RC)(a0:Rp)(b0:RJ)(b1:RS)(b2:RS):Option ((Rp×RJ×RJ) ⊕ (Rp×RJ×RJ)):=
 (i7 N a1 a8.Sw a7).bind fun a2=>(i7 N b0 a8.Sw a7).bind fun a6=>some (.inr ((⟨b1,b2⟩:Rp),a2,a6))
def jo (N:Nat)(a2:RJ->Int->RS->RS->Option ((Rp×RJ×RJ) ⊕ (Rp×RJ×RJ)))(b1:RC)(a6:Int)(a1:RJ)(b2:RL)(b3:RL)(a0:Rp)(a7:RJ)(a8:RS)(b0:RS):Option ((Rp×RJ×RJ) ⊕ (Rp×RJ×RJ)):=
 bn (in64 (a6+1)) (a2 a7 (a6+1) a8 b0)
def eP (N:Nat)(a6:RC)(a1:RJ)(a7:RL)(a8:RL)(a0:Rp):Nat->RJ->Int->RS->RS->Option ((Rp×RJ×RJ) ⊕ (Rp×RJ×RJ))
 |0,_,_,_,_=>none
 |b4+1,b5,b0,b1,b2=>bif decide (b0<(a6.Sw.length:Int)) then ((au a6.Sw b0).bind fun b6=>(bD N a6 b6).bind fun b7=>(i9 N b7 a8 b5).bind fun b3=>(fB N b3.1 a6.Sw a7).bind fun a2=>(au a7 b0).bind fun b8=>(fw N b8).bind fun b9=>bif b9 then (bn (cc (b1.length+([(⟨a2.Sa,a2.Sk,a2.Sj,1,a2.Sg,a2.Sd⟩:Rk)]:List Rk).length)) (jo N (eP N a6 a1 a7 a8 a0 b4) a6 b0 a1 a7 a8 a0 b3.2 (b1++([(⟨a2.Sa,a2.Sk,a2.Sj,1,a2.Sg,a2.Sd⟩:Rk)]:List Rk)) b2)) else (bn (cc (b2.length+([(⟨a2.Sa,a2.Sk,a2.Sj,1,a2.Sg,a2.Sd⟩:Rk)]:List Rk).length)) (jo N (eP N a6 a1 a7 a8 a0 b4) a6 b0 a1 a7 a8 a0 b3.2 b1 (b2++([(⟨a2.Sa,a2.Sk,a2.Sj,1,a2.Sg,a2.Sd⟩:Rk)]:List Rk))))) else (mg N a1 a7 a6 a0 b5 b1 b2)
def mh (N:Nat)(a1:RJ)(a2:RL)(a6:RC)(a0:Rp)(a7:RJ)(a8:RL)(b0:RS):Option ((Rp×RJ×RJ) ⊕ (Rp×RJ×RJ)):=
 eP N a6 a1 a2 a8 a0 N a7 0 [] b0
def jp (N:Nat)(a6:RJ->RL->Int->RS->Option ((Rp×RJ×RJ) ⊕ (Rp×RJ×RJ)))(a0:Rp)(a7:Int)(a1:RJ)(a2:RL)(b1:RL)(b2:RL)(a8:RS)(b3:RC)(b4:RJ)(b5:Int)(b6:Int)(b7:Int)(b8:Int)(b9:RJ)(c0:RJ):Option ((Rp×RJ×RJ) ⊕ (Rp×RJ×RJ)):=
 (fB N (⟨b5,b6,b7,b8,b9,c0⟩:Rk) b3.Sw b1).bind fun b0=>bn (cc (a8.length+([b0]:List Rk).length)) (bn (in64 (a7+1)) (a6 b4 b2 (a7+1) (a8++([b0]:List Rk))))
def eR (N:Nat)(a0:Rp)(a1:RJ)(a2:RL)(b0:RL)(b1:RC):Nat->RJ->RL->Int->RS->Option ((Rp×RJ×RJ) ⊕ (Rp×RJ×RJ))
 |0,_,_,_,_=>none
 |b5+1,b3,b2,a6,b4=>bif decide (a6<(a0.Sc.length:Int)) then ((au a0.Sc a6).bind fun a7=>bn (in64 (2*a6)) (bn (in64 ((2*a6)+2)) ((dA N a2 ((2*a6)+2)).bind fun b6=>bif b6 then ((i9 N a7 b2 b3).bind fun a8=>jp N (eR N a0 a1 a2 b0 b1 b5) a0 a6 a1 a2 b0 b2 b4 b1 a8.2 a8.1.Sa a8.1.Sk a8.1.Sj a8.1.Sn a8.1.Sg a8.1.Sd) else (jp N (eR N a0 a1 a2 b0 b1 b5) a0 a6 a1 a2 b0 b2 b4 b1 b3 a7.Sa a7.Sk a7.Sj a7.Sn a7.Sg a7.Sd)))) else (mh N a1 b0 b1 a0 b3 b2 b4)
def dJ (N:Nat)(a0:Rp)(a1:RJ)(a2:RL):Option ((Rp×RJ×RJ) ⊕ (Rp×RJ×RJ)):=
 (po N a0 a1 a2).bind fun y7=>bif !y7 then (some (.inl ((⟨[],[]⟩:Rp),[],[]))) else ((nq N a0 a1 a2).bind fun a6=>(fb N a6).bind fun a7=>(eO N a6).bind fun a8=>eR N a0 a1 a2 a7 a6 N [] a8 0 [])
theorem qX {N:Nat}{a0:Rp}{a1:RJ}{a2:RL}{r:((Rp×RJ×RJ) ⊕ (Rp×RJ×RJ))}(h:dJ N a0 a1 a2=some r):Okc RY 88 [.agg #[U A1 n1 c1,U A2 n2 c2],U A3 n3 c3,U A4 n4 c4] ([bc A3 n3 c3 a1,dK A4 n4 c4 a2,aR A1 n1 c1 a0.Se,aR A2 n2 c2 a0.Sc]) (fun u post=>NY (fun (r:Rp×RJ×RJ)=> ∃d6 e2 e3 e4 e5 e6 e7 e8 e9 f1 f2 f3,u=.tuple #[.agg #[U d6 e2 e3,U e4 e5 e6],U e7 e8 e9,U f1 f2 f3,iV 1]/\post=[aR d6 e2 e3 r.1.Se,aR e4 e5 e6 r.1.Sc,aw e7 e8 e9 r.2.1,aw f1 f2 f3 r.2.2,aR A1 n1 c1 a0.Se,aR A2 n2 c2 a0.Sc]) (fun (r:Rp×RJ×RJ)=> ∃d6 e2 e3 e4 e5 e6 e7 e8 e9 f1 f2 f3,u=.tuple #[.agg #[U d6 e2 e3,U e4 e5 e6],U e7 e8 e9,U f1 f2 f3,iV 0]/\post=[aR d6 e2 e3 r.1.Se,aR e4 e5 e6 r.1.Sc,aw e7 e8 e9 r.2.1,aw f1 f2 f3 r.2.2]) r):=by
 refine cG Tryz.func88 ?_;intro B5
 refine iD fun B6=> ?_
 refine sZ ?_;obtain ⟨y7,k,h⟩:=aa h;refine jQ (oR (Ef k)) ?_;refine gH J h ?_ ?_<;>intro h
 ·refine ab ?_;obtain rfl:=cB h;exact ox (rs:=[.cell 6 96,.tmp 7,.tmp 8,.tmp 9]) (vs:=[.agg #[U none 0 0,U none 0 0],U none 0 0,U none 0 0,iV 1]) J (.cons (ij 0 J J agg96.out) (.cons (oB J) (.cons (oB J) (.cons (oB J) .nil)))) J ((bh eB 42 _).trans ((bh eB 42 _).trans ((bh aF 23 _).trans ((bh aF 23 _).trans (cS [3,2,1,0,8,9] 10))))) ⟨_,_,_,_,_,_,_,_,_,_,_,_,J,J⟩
 refine ab ?_;obtain ⟨a6,m6,h⟩:=aa h;refine nu (bJ 4 J) ?_;refine nu (bJ 5 J) ?_;refine ab ?_;refine gD (oC (Eg m6)) ?_;rintro _ _ ⟨_,⟨a8,b7,b8,b9,c0,c8,c9,d0,d1,d2,b0,b1,b2,d3,rfl,rfl⟩,rfl⟩;refine ab ?_;obtain ⟨b6,k,h⟩:=aa h
 refine nr (oC (tH k)) fun b3 b4 b5=> ?_
 obtain ⟨s6,k,h⟩:=aa h
 refine nr (oR (pn k)) fun s7 s8 s9=> ?_
 refine ao (fun s L=> ∃k9 g2 l0 l1 l2 l3 g6 g7 g8 l4 l5 l6,mh N a1 b6 a6 a0 k9 g2 l0=some r/\s=[(1,U A3 n3 c3),(6,pV B6 0),(7,U none 0 0),(8,U l1 l2 l3),(9,iV 0),(10,pV a8 0),(11,U b3 b4 b5),(12,U g6 g7 g8)]/\L=[bc A3 n3 c3 a1,aw l1 l2 l3 k9,eG b3 b4 b5 b6,dK g6 g7 g8 g2,aR l4 l5 l6 l0,ac B6 96 [U none 0 0,U l4 l5 l6],bi b7 b8 b9 a6.m_.Se,bi c0 c8 c9 a6.m_.Sc,dK d0 d1 d2 a6.SM,eG b0 b1 b2 a6.Sw,aj bf bI d3 a6.SL,ac a8 186 [U b7 b8 b9,U c0 c8 c9,U d0 d1 d2,U b0 b1 b2,.map (some d3),iV a6.Ss],bi A1 n1 c1 a0.Se,bi A2 n2 c2 a0.Sc]) ?_ ?_
 ·refine ab ?_;refine aW (fun m s L=> ∃m7 h6 g9 h7 m8 m9 n0 g3 g4 g5 f4 g0 g1,eR N a0 a1 a2 b6 a6 m m7 h6 g9 h7=some r/\s=[(1,U A3 n3 c3),(2,U A4 n4 c4),(6,pV B6 0),(7,U none 0 0),(8,U m8 m9 n0),(9,iV 0),(10,pV a8 0),(11,U b3 b4 b5),(12,U g3 g4 g5),(33,U A2 n2 c2),(34,iV (a0.Sc.length:Int)),(35,iV g9)]/\L=[bc A3 n3 c3 a1,dK A4 n4 c4 a2,aw m8 m9 n0 m7,eG b3 b4 b5 b6,dK g3 g4 g5 h6,bi A2 n2 c2 a0.Sc,aR f4 g0 g1 h7,ac B6 96 [U none 0 0,U f4 g0 g1],bi b7 b8 b9 a6.m_.Se,bi c0 c8 c9 a6.m_.Sc,dK d0 d1 d2 a6.SM,eG b0 b1 b2 a6.Sw,aj bf bI d3 a6.SL,ac a8 186 [U b7 b8 b9,U c0 c8 c9,U d0 d1 d2,U b0 b1 b2,.map (some d3),iV a6.Ss],bi A1 n1 c1 a0.Se]) N _ _ ⟨[],s6,0,[],none,0,0,s7,s8,s9,none,0,0,h,J,J⟩ sA ((bh aF 23 _).trans ((bJ 1 J).trans ((bh eB 42 _).trans (cS [12,13,1,3,2,15,0,10,7,8,9,5,6,4,14] 16)))) ?_;rintro (_|t1) _ _ ⟨m7,h6,g9,h7,m8,m9,n0,g3,g4,g5,f4,g0,g1,h,rfl,rfl⟩
  ·exact am h
  rw [eR.eq_2] at h;refine ab ?_;refine aL ?_;refine gH J h ?_ ?_<;>intro h
  ·refine sY ?_;obtain ⟨j4,t2,u0,n8,h⟩:=bG h;refine ab ?_;refine ur 5 J n8 (f0 j4) ?_;rintro _ _ ⟨u1,u2,u3,u4,u5,u6,rfl,rfl⟩;refine Dv (la (us:=[iV j4.Sa,iV j4.Sk,iV j4.Sj,iV j4.Sn,U u1 u2 u3,U u4 u5 u6]) 0 J J agg42.out J) ?_;intro j5;refine ab ?_;refine ao (fun s L=> ∃l7 h8 h9 i0 i1 l8 l9 i2 i8 j0 h0 h1 h2 h3 h4 h5,jp N (eR N a0 a1 a2 b6 a6 t1) a0 g9 a1 a2 b6 h6 h7 a6 l7 h8 h9 i0 i1 l8 l9=some r/\s=[(1,U A3 n3 c3),(2,U A4 n4 c4),(6,pV B6 0),(7,U none 0 0),(8,U i2 i8 j0),(9,iV 0),(10,pV a8 0),(11,U b3 b4 b5),(12,U g3 g4 g5),(14,pV j5 0),(33,U A2 n2 c2),(34,iV (a0.Sc.length:Int)),(35,iV g9)]/\L=[bc A3 n3 c3 a1,dK A4 n4 c4 a2,aw i2 i8 j0 l7,eG b3 b4 b5 b6,dK g3 g4 g5 h6,bi A2 n2 c2 a0.Sc,aR f4 g0 g1 h7,ac B6 96 [U none 0 0,U f4 g0 g1],bi b7 b8 b9 a6.m_.Se,bi c0 c8 c9 a6.m_.Sc,dK d0 d1 d2 a6.SM,eG b0 b1 b2 a6.Sw,aj bf bI d3 a6.SL,ac a8 186 [U b7 b8 b9,U c0 c8 c9,U d0 d1 d2,U b0 b1 b2,.map (some d3),iV a6.Ss],bc h0 h1 h2 l8,bc h3 h4 h5 l9,ac j5 42 [iV h8,iV h9,iV i0,iV i1,U h0 h1 h2,U h3 h4 h5],bi A1 n1 c1 a0.Se]) ?_ ?_
   ·refine ab ?_;obtain ⟨s2,h⟩:=ah h;refine gE (sC J J s2.1 s2.2) ?_;obtain ⟨y6,h⟩:=ah h;refine ab ?_;obtain ⟨y8,k,h⟩:=aa h;refine jQ (oR (jS k)) ?_;refine gH J h ?_ ?_<;>intro h
    ·refine ab ?_;obtain ⟨y9,k,h⟩:=aa h
     refine OQ (oC (vj k)) fun z1 z2 A8 A9 B0 B4 B7 B9 L0=> ?_
     exact jN
    exact jY
   rintro _ _ ⟨l7,h8,h9,i0,i1,l8,l9,i2,i8,j0,h0,h1,h2,h3,h4,h5,h,rfl,rfl⟩;obtain ⟨d4,n9,h⟩:=aa h;refine ic (t:=[(1,U A3 n3 c3),(2,U A4 n4 c4),(6,pV B6 0),(7,U none 0 0),(8,U i2 i8 j0),(9,iV 0),(10,pV a8 0),(11,U b3 b4 b5),(12,U g3 g4 g5),(14,pV j5 0),(33,U A2 n2 c2),(34,iV (a0.Sc.length:Int)),(35,iV g9)]) ?_ mw (ae _)
   refine jv I 10 [] [1,9] [52,53,54,55,56,57,58,59,60,61] [[],[0],[],[],[3],[4],[5],[],[2,6,7],[8]] [aV (pV B6 1),
aV (U f4 g0 g1),
aV (.agg #[iV h8,iV h9,iV i0,iV i1,U h0 h1 h2,U h3 h4 h5]),
aV (pV a8 0),
aV (pV a8 0),
aV (pV a8 3),
aV (U b0 b1 b2),
aV (U b3 b4 b5),
aX6 (fun (j6:Option Addr) (j7 j8:Nat) (j9:Option Addr) (k0 k1:Nat)=> .agg #[iV d4.Sa,iV d4.Sk,iV d4.Sj,iV d4.Sn,U j6 j7 j8,U j9 k0 k1]) (fun j6 j7 j8 j9 k0 k1=> [bc j6 j7 j8 d4.Sg,bc j9 k0 k1 d4.Sd]),
aX3 (fun (j1:Option Addr) (j2 j3:Nat)=> U j1 j2 j3) (fun j1 j2 j3=> [aR j1 j2 j3 ([d4]:List Rk)])] [] (ae _) (mf) I rfl rfl ?_ ?_ ?_
   ·exact me
   ·refine ad J ?_ ?_
    ·intro j6 j7 j8 j9 k0 k1;refine uz (aY (R:=eB) (vss:=[[iV d4.Sa,iV d4.Sk,iV d4.Sj,iV d4.Sn,U j6 j7 j8,U j9 k0 k1]]) (xs:=[d4]) J (vJ _ _ _ _ _ _ _ _ _ _) J J (fun _ _ hr=> .cons (⟨_,_,_,_,_,_,J,hr 0 _ J J,hr 1 _ J J⟩) All2.nil)) J ?_;rintro _ _ ⟨u7,u8,u9,rfl,rfl⟩;exact AE u7 u8 u9 (ae _)
    refine ad J ?_ ?_
    ·refine uz (oR (sE n9)) J ?_;rintro _ _ ⟨_,⟨v1,v2,v6,v7,v8,w1,rfl,rfl⟩,rfl⟩;exact OG v1 v2 v6 v7 v8 w1 ((bJ 0 J).trans ((bJ 1 J).trans (ae _)))
    refine ad J ?_ ?_
    ·exact ci (bo J) J (aQ J (ae _))
    refine ad J ?_ ?_
    ·exact er (bL 13 J J Aa J) J (aQ J (ae _))
    refine ad J ?_ ?_
    ·exact ci (gk J yF) J (aQ J (ae _))
    refine ad J ?_ ?_
    ·exact ci (bz J) J (aQ J (ae _))
    refine ad J ?_ ?_
    ·exact ci (bo J) J (aQ J (ae _))
    refine ad J ?_ ?_
    ·exact er (mM (us:=[iV h8,iV h9,iV i0,iV i1,U h0 h1 h2,U h3 h4 h5]) 16 J J agg42.out J) J (aQ J (ae _))
    refine ad J ?_ ?_
    ·exact er (bL 7 J J Dl J) J (aQ J (ae _))
    refine ad J ?_ ?_
    ·exact ci (gk J AO) J (aQ J (ae _))
    exact eJ
   intro j1 j2 j3;refine oe (t:=[(53,U f4 g0 g1),(61,U j1 j2 j3),(1,U A3 n3 c3),(2,U A4 n4 c4),(6,pV B6 0),(7,U none 0 0),(8,U i2 i8 j0),(9,iV 0),(10,pV a8 0),(11,U b3 b4 b5),(12,U g3 g4 g5),(14,pV j5 0),(33,U A2 n2 c2),(34,iV (a0.Sc.length:Int)),(35,iV g9)]) (L':=[aR j1 j2 j3 ([d4]:List Rk),bc A3 n3 c3 a1,dK A4 n4 c4 a2,aw i2 i8 j0 l7,eG b3 b4 b5 b6,dK g3 g4 g5 h6,bi A2 n2 c2 a0.Sc,aR f4 g0 g1 h7,ac B6 96 [U none 0 0,U f4 g0 g1],bi b7 b8 b9 a6.m_.Se,bi c0 c8 c9 a6.m_.Sc,dK d0 d1 d2 a6.SM,eG b0 b1 b2 a6.Sw,aj bf bI d3 a6.SL,ac a8 186 [U b7 b8 b9,U c0 c8 c9,U d0 d1 d2,U b0 b1 b2,.map (some d3),iV a6.Ss],bc h0 h1 h2 l8,bc h3 h4 h5 l9,ac j5 42 [iV h8,iV h9,iV i0,iV i1,U h0 h1 h2,U h3 h4 h5],bi A1 n1 c1 a0.Se]) ?_ mw (ae _);obtain ⟨w2,h⟩:=ah h;refine pz 10 J I (aX 7 0 J J aI J J Ex ER J J w2) J J J ?_;rintro _ _ ⟨s3,s4,s5,rfl,rfl⟩;refine Dn ?_;refine yU 11 J I (gk J AO) J J J ?_;refine yT 12 J I (ax (us:=[U s3 s4 s5]) (cs':=[U none 0 0,U s3 s4 s5]) 8 J J J J size94.out J J J) J J ?_;rintro _ _ rfl;refine ms I ?_;refine ab ?_;obtain ⟨L1,h⟩:=ah h;exact lY
  exact jY
 rintro _ _ ⟨k9,g2,l0,l1,l2,l3,g6,g7,g8,l4,l5,l6,h,rfl,rfl⟩;refine ao (fun s L=> ∃o0 o1 o2 p0 p1 p2 k2 k3 k4 k5 k6 k7,mg N a1 b6 a6 a0 o0 o1 o2=some r/\s=[(1,U A3 n3 c3),(6,pV B6 0),(7,U none 0 0),(8,U p0 p1 p2),(9,iV 0),(10,pV a8 0),(11,U b3 b4 b5)]/\L=[bc A3 n3 c3 a1,aw p0 p1 p2 o0,eG b3 b4 b5 b6,aR k2 k3 k4 o1,aR k5 k6 k7 o2,ac B6 96 [U k2 k3 k4,U k5 k6 k7],bi b7 b8 b9 a6.m_.Se,bi c0 c8 c9 a6.m_.Sc,dK d0 d1 d2 a6.SM,eG b0 b1 b2 a6.Sw,aj bf bI d3 a6.SL,ac a8 186 [U b7 b8 b9,U c0 c8 c9,U d0 d1 d2,U b0 b1 b2,.map (some d3),iV a6.Ss],bi A1 n1 c1 a0.Se,bi A2 n2 c2 a0.Sc]) ?_ ?_
 ·refine ab ?_;refine aW (fun m s L=> ∃p3 k8 p4 p5 p6 p7 p8 q0 q1 q2 q3 q4 q5,eP N a6 a1 b6 g2 a0 m p3 k8 p4 p5=some r/\s=[(1,U A3 n3 c3),(6,pV B6 0),(7,U none 0 0),(8,U p6 p7 p8),(9,iV 0),(10,pV a8 0),(11,U b3 b4 b5),(12,U g6 g7 g8),(68,U b0 b1 b2),(69,iV (a6.Sw.length:Int)),(70,iV k8)]/\L=[bc A3 n3 c3 a1,aw p6 p7 p8 p3,eG b3 b4 b5 b6,dK g6 g7 g8 g2,eG b0 b1 b2 a6.Sw,aR q0 q1 q2 p4,aR q3 q4 q5 p5,ac B6 96 [U q0 q1 q2,U q3 q4 q5],bi b7 b8 b9 a6.m_.Se,bi c0 c8 c9 a6.m_.Sc,dK d0 d1 d2 a6.SM,aj bf bI d3 a6.SL,ac a8 186 [U b7 b8 b9,U c0 c8 c9,U d0 d1 d2,U b0 b1 b2,.map (some d3),iV a6.Ss],bi A1 n1 c1 a0.Se,bi A2 n2 c2 a0.Sc]) N _ _ ⟨k9,0,[],l0,l1,l2,l3,none,0,0,l4,l5,l6,h,J,J⟩ sA ((bh eB 42 _).trans (cS [1,2,3,4,10,0,5,6,7,8,9,11,12,13,14] 15)) ?_;rintro (_|w3) _ _ ⟨p3,k8,p4,p5,p6,p7,p8,q0,q1,q2,q3,q4,q5,h,rfl,rfl⟩
  ·exact am h
  rw [eP.eq_2] at h;refine ab ?_;refine aL ?_;refine gH J h ?_ ?_<;>intro h
  ·refine ab ?_;refine ao (fun s L=> ∃q6 q7 q8 q9 r0 r1 r2 r3 r4 r5 r6 s0,jo N (eP N a6 a1 b6 g2 a0 w3) a6 k8 a1 b6 g2 a0 q6 q7 q8=some r/\s=[(1,U A3 n3 c3),(6,pV B6 0),(7,U none 0 0),(8,U q9 r0 r1),(9,iV 0),(10,pV a8 0),(11,U b3 b4 b5),(12,U g6 g7 g8),(68,U b0 b1 b2),(69,iV (a6.Sw.length:Int)),(70,iV k8)]/\L=[bc A3 n3 c3 a1,aw q9 r0 r1 q6,eG b3 b4 b5 b6,dK g6 g7 g8 g2,eG b0 b1 b2 a6.Sw,aR r2 r3 r4 q7,aR r5 r6 s0 q8,ac B6 96 [U r2 r3 r4,U r5 r6 s0],bi b7 b8 b9 a6.m_.Se,bi c0 c8 c9 a6.m_.Sc,dK d0 d1 d2 a6.SM,aj bf bI d3 a6.SL,ac a8 186 [U b7 b8 b9,U c0 c8 c9,U d0 d1 d2,U b0 b1 b2,.map (some d3),iV a6.Ss],bi A1 n1 c1 a0.Se,bi A2 n2 c2 a0.Sc]) ?_ ?_
   ·refine ab ?_;obtain ⟨L2,w4,w5,w6,h⟩:=bG h;refine ab ?_;obtain ⟨L3,k,h⟩:=aa h
    refine Ew (oC (fK k)) fun L4 L5 L6 L7 L8 L9=> ?_
    intro M0;refine ab ?_;obtain ⟨M1,k,h⟩:=aa h
    refine OQ (oC (vj k)) fun M3 M4 M5 M8 Q1 R6 R7 R8 R9=> ?_
    refine dY [] ?_;refine ab ?_;obtain ⟨a7,k,h⟩:=aa h;refine zD 6 J (oR (sE k)) ?_;rintro _ _ ⟨_,⟨m0,m1,m2,m3,m4,m5,rfl,rfl⟩,rfl⟩;refine aJ (cS [2,3,4,5,6,7,8,9,10,11,12,13,14,15,16,17,18,19,20,21] 22) ?_;refine qo 7 J I I (ax (us:=[iV a7.Sa,iV a7.Sk,iV a7.Sj,iV a7.Sn,U m0 m1 m2,U m3 m4 m5]) (cs':=[iV a7.Sa,iV a7.Sk,iV a7.Sj,iV a7.Sn,U m0 m1 m2,U m3 m4 m5]) 5 J J J J size42.out J J J) ?_;rintro _ _ rfl;refine aU ?_;refine ab ?_;obtain ⟨S0,w7,w8,w9,h⟩:=bG h;refine ab ?_;obtain ⟨S1,k,h⟩:=aa h;refine jQ (oR (lx k)) ?_;refine gH J h ?_ ?_<;>intro h
    ·refine ab ?_;refine nu (bJ 0 J) ?_;refine nu (bJ 1 J) ?_;refine gD (aY (R:=eB) (vss:=[[iV a7.Sa,iV a7.Sk,iV a7.Sj,iV 1,U m0 m1 m2,U m3 m4 m5]]) (xs:=[(⟨a7.Sa,a7.Sk,a7.Sj,1,a7.Sg,a7.Sd⟩:Rk)]) J (vJ _ _ _ _ _ _ _ _ _ _) J J (fun _ _ hr=> .cons (⟨_,_,_,_,_,_,J,hr 0 _ J J,hr 1 _ J J⟩) All2.nil)) ?_;rintro _ _ ⟨S2,S3,S4,rfl,rfl⟩;obtain ⟨x0,h⟩:=ah h
     refine nr (aX 15 0 J J aI J J Ex ER J J x0) fun S5 S6 S7=> ?_
     exact jN
    refine ab ?_;refine nu (bJ 0 J) ?_;refine nu (bJ 1 J) ?_;refine ab ?_;refine gD (aY (R:=eB) (vss:=[[iV a7.Sa,iV a7.Sk,iV a7.Sj,iV 1,U m0 m1 m2,U m3 m4 m5]]) (xs:=[(⟨a7.Sa,a7.Sk,a7.Sj,1,a7.Sg,a7.Sd⟩:Rk)]) J (vJ _ _ _ _ _ _ _ _ _ _) J J (fun _ _ hr=> .cons (⟨_,_,_,_,_,_,J,hr 0 _ J J,hr 1 _ J J⟩) All2.nil)) ?_;rintro _ _ ⟨x1,x2,x3,rfl,rfl⟩;obtain ⟨s1,h⟩:=ah h
    refine nr (aX 16 0 J J aI J J Ex ER J J s1) fun x4 x5 x6=> ?_
    exact jN
   rintro _ _ ⟨q6,q7,q8,q9,r0,r1,r2,r3,r4,r5,r6,s0,h,rfl,rfl⟩;refine ab ?_;obtain ⟨x7,h⟩:=ah h;exact lY
  exact jY
 rintro _ _ ⟨o0,o1,o2,p0,p1,p2,k2,k3,k4,k5,k6,k7,h,rfl,rfl⟩;refine dY [0,1,2,3,4,5,6,8,9,10,11,12,13] ?_;obtain ⟨x8,k,h⟩:=aa h;refine zD 7 J (oR (ve k)) ?_;rintro _ _ ⟨_,⟨x9,y0,y1,rfl,rfl⟩,rfl⟩;refine aJ (cS [1,2,3,4,5,6,7,8,9,10,11,12,13,14] 15) ?_;obtain ⟨y2,k,h⟩:=aa h;refine zD 14 J (oR (ve k)) ?_;rintro _ _ ⟨_,⟨y3,y4,y5,rfl,rfl⟩,rfl⟩;refine aJ (cS [2,3,4,5,6,7,8,9,10,11,12,13,14,15] 16) ?_;refine zO 15 J (ax (us:=[U k2 k3 k4,U k5 k6 k7]) (cs':=[U k2 k3 k4,U k5 k6 k7]) 7 J J J J size96.out J J J) ?_;rintro _ _ rfl;refine aJ (cS [2,3,4,5,6,7,8,9,10,11,12,13,14,15] 16) ?_;refine aU ?_;refine zX [16,17,18] ?_;exact eY
def lB (N:Nat)(a0:RJ)(a1:RG):Option ((Rp×RJ×RJ) ⊕ (Rp×RJ×RJ)):=
 (iE N a1.So).bind fun a2=>(dJ N a1.m_ a0 a2).bind fun a6=>Au a6 (fun y13_0=>some (.inl (y13_0.1,y13_0.2.1,y13_0.2.2))) (fun y13_1=>some (.inr (y13_1.1,y13_1.2.1,y13_1.2.2)))
theorem cz {N:Nat}{a0:RJ}{a1:RG}{r:((Rp×RJ×RJ) ⊕ (Rp×RJ×RJ))}(h:lB N a0 a1=some r):Okc RY 87 [U A1 n1 c1,pV B2 0] ([bc A1 n1 c1 a0,ar B2 46 [pV B3 0],ac B3 99 [U A4 n4 c4,U A5 n5 c5,U A6 n6 c6,U A7 n7 c7,pV B8 0],aR A4 n4 c4 a1.m_.Se,aR A5 n5 c5 a1.m_.Sc,aw A6 n6 c6 a1.Si,aw A7 n7 c7 a1.Sq,ac B8 147 [.map (some M9)],aj bf bI M9 a1.So.at_]) (fun u post=>NY (fun (r:Rp×RJ×RJ)=> ∃a2 a6 a7 a8 b0 b1 b2 b3 b4 b5 b6 b7,u=.tuple #[.agg #[U a2 a6 a7,U a8 b0 b1],U b2 b3 b4,U b5 b6 b7,iV 1]/\post=[aR a2 a6 a7 r.1.Se,aR a8 b0 b1 r.1.Sc,aw b2 b3 b4 r.2.1,aw b5 b6 b7 r.2.2,aR A4 n4 c4 a1.m_.Se,aR A5 n5 c5 a1.m_.Sc,aw A6 n6 c6 a1.Si,aw A7 n7 c7 a1.Sq,ac B3 99 [U A4 n4 c4,U A5 n5 c5,U A6 n6 c6,U A7 n7 c7,pV B8 0],ac B8 147 [.map (some M9)],aj bf bI M9 a1.So.at_]) (fun (r:Rp×RJ×RJ)=> ∃a2 a6 a7 a8 b0 b1 b2 b3 b4 b5 b6 b7,u=.tuple #[.agg #[U a2 a6 a7,U a8 b0 b1],U b2 b3 b4,U b5 b6 b7,iV 0]/\post=[aR a2 a6 a7 r.1.Se,aR a8 b0 b1 r.1.Sc,aw b2 b3 b4 r.2.1,aw b5 b6 b7 r.2.2,aw A6 n6 c6 a1.Si,aw A7 n7 c7 a1.Sq,ac B3 99 [U A4 n4 c4,U A5 n5 c5,U A6 n6 c6,U A7 n7 c7,pV B8 0],ac B8 147 [.map (some M9)],aj bf bI M9 a1.So.at_]) r):=by
 refine cG Tryz.func87 ?_;intro e4;refine ab ?_;refine aL ?_;refine cZ I ([ac e4 96 [U none 0 0,U none 0 0],bc A1 n1 c1 a0,ar B2 46 [pV B3 0],ac B3 99 [U A4 n4 c4,U A5 n5 c5,U A6 n6 c6,U A7 n7 c7,pV B8 0],aw A6 n6 c6 a1.Si,aw A7 n7 c7 a1.Sq,ac B8 147 [.map (some M9)],aj bf bI M9 a1.So.at_]) (cS [0,1,2,3,6,7,8,9] 10) ?_;refine zY [0,1,2,3,4,5,6,7,8] ?_;obtain ⟨e6,k,h⟩:=aa h;refine zD 9 J (oR (qK k)) ?_;rintro _ _ ⟨_,⟨e7,e8,e9,rfl,rfl⟩,rfl⟩;refine aJ (cS [1,2,3,4,7,8,9,10] 11) ?_;refine lG (bJ 0 J) (cS [1,2,3,4,7,8,9,10] 11) ?_;obtain ⟨e5,b8,h⟩:=aa h;rcases e5 with y13_0|y13_1
 ·replace h:=F6 h;refine zD 10 J (oC (qX b8)) ?_;rintro _ _ ⟨_,⟨b9,c0,c8,c9,d0,d1,f1,f2,f3,f4,g0,g1,rfl,rfl⟩,rfl⟩;refine aJ (cS [7,8,9,10,11,12,13,14] 15) ?_;refine aU ?_;refine zY [11,12,13,14] ?_;refine qo 15 J I I (ax (us:=[U b9 c0 c8,U c9 d0 d1]) (cs':=[U b9 c0 c8,U c9 d0 d1]) 7 J J J J size96.out J J J) ?_;rintro _ _ rfl;refine aU ?_;refine zX [16,17,18] ?_;exact eY
 replace h:=F5 h;refine zD 10 J (oC (qX b8)) ?_;rintro _ _ ⟨_,⟨d2,d3,d4,d6,e2,e3,g2,g3,g4,g5,g6,g7,rfl,rfl⟩,rfl⟩;refine aJ (cS [5,6,7,8,9,10,11,12] 13) ?_;refine zY [11,12,13,14] ?_;refine qo 15 J I I (ax (us:=[U d2 d3 d4,U d6 e2 e3]) (cs':=[U d2 d3 d4,U d6 e2 e3]) 5 J J J J size96.out J J J) ?_;rintro _ _ rfl;refine zX [16,17,18] ?_;exact eY
def gm (N:Nat)(p3:RJ):Option RJ:=
 some p3
def kO (N:Nat)(a1:Int):Option RJ:=
 bif decide (a1<0) then none else (bn (in64 (0 - 0)) (bn (in64 (a1 - (0 - 0))) (bif decide (0<a1 - (0 - 0)) then (bn ((0:Int)<(a1 - (0 - 0))/\(a1 - (0 - 0))<=1099511627776) (gm N ([]:List Ry))) else (gm N []))))
theorem tt {N:Nat}{a1:Int}{r:RJ}(h:kO N a1=some r):Okc RY 92 [U none 0 0,iV a1] ([]) (fun u post=> ∃A0 n0 c0,u=U A0 n0 c0/\post=[aw A0 n0 c0 r]):=by
 refine cG Tryz.func92 ?_;refine sZ ?_;refine gH J h ?_ ?_<;>intro h
 ·exact am h
 refine ab ?_;refine ao (fun s L=> ∃p3 A3 n3 c3,gm N p3=some r/\s=[(0,U A3 n3 c3),(4,U none 0 0)]/\L=[aw A3 n3 c3 p3]) ?_ ?_
 ·refine ab ?_;refine fm (wy J hU) ?_;refine gE (nX J hU) ?_;obtain ⟨q4,h⟩:=ah h;refine ab ?_;obtain ⟨q5,h⟩:=ah h;refine fd h ?_ ?_<;>intro h
  ·refine ab ?_;refine gE (wy J hU) ?_;refine fm (zF J hU size23.out J) ?_;obtain ⟨q7,h⟩:=ah h
   refine nr (xu J J hU hP yW J q7.1 q7.2) fun A8 n8 c8=> ?_
   refine gE (nX J hU) ?_
   refine nr (Ec (R:=aF) 0 J J hU size23.out J J) fun A9 n9 c9=> ?_
   exact jN
  refine ab ?_;exact ⟨_,_,⟨[],none,0,0,h,J,J⟩,sA,(bh aF 23 _).trans (cS [0] 1)⟩
 rintro _ _ ⟨p3,A3,n3,c3,h,rfl,rfl⟩;exact eY
def jw (N:Nat)(a1:RJ):Option RJ:=
 some a1
def jT (N:Nat)(a0_0:RJ)(a0_1:RJ):Option RJ:=
 (kO N ((0+(a0_0.length:Int))+(a0_1.length:Int))).bind fun y9=>bn (cc (y9.length+a0_0.length)) (bn (cc ((y9++a0_0).length+a0_1.length)) (jw N ((y9++a0_0)++a0_1)))
def bX (N:Nat)(a0_0:RJ)(a0_1:RJ):Option RJ:=
 bn (in64 (0+(a0_0.length:Int))) (bif decide (0+(a0_0.length:Int)<0) then none else (bn (in64 ((0+(a0_0.length:Int))+(a0_1.length:Int))) (bif decide ((0+(a0_0.length:Int))+(a0_1.length:Int)<0) then none else (jT N a0_0 a0_1))))
theorem bv {N:Nat}{a0_0:RJ}{a0_1:RJ}{r:RJ}(h:bX N a0_0 a0_1=some r):Okc RY 51 [.slice (some ⟨B1,0,none⟩) 2 2] ([ar B1 30 [U A2 n2 c2,U A3 n3 c3],bc A2 n2 c2 a0_0,bc A3 n3 c3 a0_1]) (fun u post=> ∃A0 n0 c0,u=U A0 n0 c0/\post=[aw A0 n0 c0 r]):=by
 refine cG Tryz.func51 ?_;refine ao (fun s L=>jT N a0_0 a0_1=some r/\s=[(0,.slice (some ⟨B1,0,none⟩) 2 2),(2,U none 0 0),(3,iV ((0+(a0_0.length:Int))+(a0_1.length:Int)))]/\L=[bc A2 n2 c2 a0_0,bc A3 n3 c3 a0_1,ar B1 30 [U A2 n2 c2,U A3 n3 c3]]) ?_ ?_
 ·refine ab ?_;refine fm (nX J z9) ?_;refine rG 3 ?_;refine sF ?_;refine ab ?_;refine aL ?_;refine cq J ?_;refine sY ?_;refine fm (nc J J z9 size30.out (by decide) (by decide)) ?_;obtain ⟨q5,h⟩:=ah h;refine fd h ?_ ?_<;>intro h
  ·exact am h
  refine ab ?_;refine fm (ia J J (by decide) (by decide)) ?_;refine sF ?_;refine ab ?_;refine aL ?_;refine cq J ?_;refine sY ?_;refine fm (nc J J z9 size30.out (by decide) (by decide)) ?_;obtain ⟨q7,h⟩:=ah h;refine fd h ?_ ?_<;>intro h
  ·exact am h
  refine ab ?_;refine fm (ia J J (by decide) (by decide)) ?_;refine sF ?_;refine ab ?_;refine aL ?_;refine cJ J ?_;exact jY
 rintro _ _ ⟨h,rfl,rfl⟩;refine ab ?_;obtain ⟨y9,k,h⟩:=aa h
 refine nr (oR (tt k)) fun b1 b2 b3=> ?_
 refine ao (fun s L=> ∃a1 a2 a6 a7,jw N a1=some r/\s=[(2,U none 0 0),(6,U a2 a6 a7)]/\L=[aw a2 a6 a7 a1]) ?_ ?_
 ·refine ab ?_;refine fm (nX J z9) ?_;refine rG 3 ?_;refine sF ?_;refine ab ?_;refine aL ?_;refine cq J ?_;refine sY ?_;refine fm (nc J J z9 size30.out (by decide) (by decide)) ?_;obtain ⟨a8,h⟩:=ah h
  refine nr (aX 0 1 J J bj J J hU yW J J a8) fun b4 b5 b6=> ?_
  refine fm (ia J J (by decide) (by decide)) ?_;refine sF ?_;refine ab ?_;refine aL ?_;refine cq J ?_;refine sY ?_;refine fm (nc J J z9 size30.out (by decide) (by decide)) ?_;obtain ⟨b0,h⟩:=ah h
  refine nr (aX 0 2 J J bj J J hU yW J J b0) fun b7 b8 b9=> ?_
  refine fm (ia J J (by decide) (by decide)) ?_;refine sF ?_;refine ab ?_;refine aL ?_;refine cJ J ?_;exact jY
 rintro _ _ ⟨a1,a2,a6,a7,h,rfl,rfl⟩;exact eY
def mY (N:Nat)(a0:Rr):Option Rr:=
 some (⟨[]⟩:Rr)
theorem wG {N:Nat}{a0:Rr}{r:Rr}(h:mY N a0=some r):Okc RY 161 [pV B1 0] ([ac B1 147 [.map (some M2)],aj bf bI M2 a0.at_]) (fun u post=> ∃M0,u=.tuple #[]/\post=[ac B1 147 [.map (some M0)],aj bf bI M0 r.at_]):=by
 refine cG Tryz.func161 ?_;refine fm (jD J Q8) ?_;refine cq J ?_;refine ab ?_;refine GJ (Jv 1 J J Re) ?_;exact eN
def lK (N:Nat)(a0:Int):Option Bool:=
 (bif decide (0<a0) then (some (decide (a0.tmod 2=0))) else (some false)).bind fun b1=>some b1
theorem wS {N:Nat}{a0:Int}{r:Bool}(h:lK N a0=some r):Okc RY 100 [iV a0] ([]) (fun u post=>u=.bool r/\post=[]):=by
 refine cG Tryz.func100 ?_;obtain ⟨b1,a1,h⟩:=aa h;refine aH 4 9 b1 ?_ ?_
 ·clear h;refine aE 5 J (fun g1=> ?_) (fun g1=> ?_)
  ·have h:=az g1 a1;refine ab ?_;refine pP (rk J J (by decide)) J (cY g1 J) J ?_;exact gY
  have h:=aA g1 a1;exact gY
 exact eY
def lr (N:Nat)(a0:Int):Option Bool:=
 (bif decide (0<a0) then (some (decide (a0.tmod 2=1))) else (some false)).bind fun b1=>some b1
theorem ug {N:Nat}{a0:Int}{r:Bool}(h:lr N a0=some r):Okc RY 146 [iV a0] ([]) (fun u post=>u=.bool r/\post=[]):=by
 refine cG Tryz.func146 ?_;obtain ⟨b1,a1,h⟩:=aa h;refine aH 4 9 b1 ?_ ?_
 ·clear h;refine aE 5 J (fun g1=> ?_) (fun g1=> ?_)
  ·have h:=az g1 a1;refine ab ?_;refine pP (rk J J (by decide)) J (cY g1 J) J ?_;exact gY
  have h:=aA g1 a1;exact gY
 exact eY
def ls (N:Nat)(a0:Rk):Option Bool:=
 (fC N a0).bind fun y4=>(bB N y4 (fun x=>lr N x)).bind fun y6=>(bif y6 then (some true) else ((ja N a0).bind fun y8=>(bB N y8 (fun x=>lr N x)).bind fun a1=>some a1)).bind fun b7=>some b7
theorem uh {N:Nat}{a0:Rk}{r:Bool}(h:ls N a0=some r):Okc RY 102 [.agg #[iV a0.Sa,iV a0.Sk,iV a0.Sj,iV a0.Sn,U A1 n1 c1,U A2 n2 c2]] ([bc A1 n1 c1 a0.Sg,bc A2 n2 c2 a0.Sd]) (fun u post=>u=.bool r/\post=[]):=by
 refine cG Tryz.func102 ?_;intro B3;refine ab ?_;obtain ⟨y4,k,h⟩:=aa h;refine gD (oR (jb k)) ?_;rintro _ _ ⟨_,⟨A5,n5,c5,rfl,rfl⟩,rfl⟩;obtain ⟨y6,k,h⟩:=aa h;refine jQ (oR (dj k ⟨ay,146, #[], #[],J,call146.out,fun _ _ hh=>ug hh⟩)) ?_;obtain ⟨b7,a1,h⟩:=aa h;refine aH 4 10 b7 ?_ ?_
 ·clear h;refine aE 6 J (fun g7=> ?_) (fun g7=> ?_)
  ·have h:=az g7 a1;exact gY
  have h:=aA g7 a1;refine ab ?_;obtain ⟨y8,k,h⟩:=aa h;refine Aq (oR (ob k)) J (jK g7 J) J ?_;rintro _ _ ⟨_,⟨A9,n9,c9,rfl,rfl⟩,rfl⟩;obtain ⟨a2,k,h⟩:=aa h;refine gU (oR (dj k ⟨ay,146, #[], #[],J,call146.out,fun _ _ hh=>ug hh⟩)) (jK g7 J) ?_;exact gY
 exact eY
def jh (N:Nat)(a1:Int)(a0:Rr):Option (Bool×Rr):=
 some (true,(⟨xi a0.at_ a1 true⟩:Rr))
def dC (N:Nat)(a0:Rr)(a1:Int)(a2:Rk):Option (Bool×Rr):=
 (lK N a1).bind fun y6=>bif !y6 then (some (false,a0)) else ((ls N a2).bind fun y8=>bif !y8 then (some (false,(⟨zI a0.at_ a1⟩:Rr))) else (jh N a1 a0))
theorem mX {N:Nat}{a0:Rr}{a1:Int}{a2:Rk}{r:Bool×Rr}(h:dC N a0 a1 a2=some r):Okc RY 162 [pV B1 0,iV a1,.agg #[iV a2.Sa,iV a2.Sk,iV a2.Sj,iV a2.Sn,U A3 n3 c3,U A4 n4 c4]] ([bc A3 n3 c3 a2.Sg,bc A4 n4 c4 a2.Sd,ac B1 147 [.map (some M2)],aj bf bI M2 a0.at_]) (fun u post=> ∃M0,u=.bool r.1/\post=[ac B1 147 [.map (some M0)],aj bf bI M0 r.2.at_]):=by
 refine cG Tryz.func162 ?_;intro B5;refine sY ?_;refine fm (bA J Q8) ?_;obtain ⟨y6,k,h⟩:=aa h;refine jQ (oR (wS k)) ?_;refine gH J h ?_ ?_<;>intro h
 ·exact eY
 refine sY ?_;obtain ⟨y8,k,h⟩:=aa h;refine jQ (oR (uh k)) ?_;refine gH J h ?_ ?_<;>intro h
 ·refine ab ?_;refine GJ (Ie (a:=a1) 4 J J J Re (dT hP)) ?_;exact eN
 refine ab ?_;refine ao (fun s L=>jh N a1 a0=some r/\s=[(0,pV B1 0),(1,iV a1),(6,.bool false)]/\L=[aj bf bI M2 a0.at_,ac B1 147 [.map (some M2)]]) ?_ ?_
 ·refine ab ?_;refine fm (IK J Re) ?_;refine cJ J ?_;exact jY
 rintro _ _ ⟨h,rfl,rfl⟩;refine ab ?_;refine GJ (gp (a:=a1) (b:=true) 0 J J J J Re (dT hP)) ?_;exact eN
def eK (N:Nat)(a1:Rp):Nat->Int->RU->Option Rr
 |0,_,_=>none
 |m8+1,p9,a2=>bif decide (p9<(a1.Sc.length:Int)) then ((au a1.Sc p9).bind fun a6=>bn (in64 (2*p9)) (bn (in64 ((2*p9)+2)) ((dC N (⟨a2⟩:Rr) ((2*p9)+2) a6).bind fun a7=>bn (in64 (p9+1)) ((eK N a1 m8) (p9+1) a7.2.at_)))) else (some (⟨a2⟩:Rr))
def cL (N:Nat)(a0:Rr)(a1:Rp):Option Rr:=
 (mY N a0).bind fun y6=>eK N a1 N 0 y6.at_
theorem pW {N:Nat}{a0:Rr}{a1:Rp}{r:Rr}(h:cL N a0 a1=some r):Okc RY 122 [pV B1 0,.agg #[U A3 n3 c3,U A4 n4 c4]] ([bi A3 n3 c3 a1.Se,bi A4 n4 c4 a1.Sc,ac B1 147 [.map (some M2)],aj bf bI M2 a0.at_]) (fun u post=> ∃M0,u=.tuple #[]/\post=[ac B1 147 [.map (some M0)],aj bf bI M0 r.at_]):=by
 refine cG Tryz.func122 ?_;intro B5;refine sY ?_;refine fm (bA J Q8) ?_;refine cJ J ?_;refine ab ?_;obtain ⟨y6,k,h⟩:=aa h;refine gD (oC (wG k)) ?_;rintro _ _ ⟨_,⟨M7,rfl,rfl⟩,rfl⟩;refine ab ?_;refine aW (fun m s L=> ∃p9 a6 a7,eK N a1 m p9 a6=some r/\s=[(0,pV B1 0),(11,U A4 n4 c4),(12,iV (a1.Sc.length:Int)),(13,iV p9)]/\L=[bi A4 n4 c4 a1.Sc,aj bf bI a7 a6,ac B1 147 [.map (some a7)]]) N _ _ ⟨0,y6.at_,M7,h,J,J⟩ sA (cS [4,1,0] 5) ?_;rintro (_|m8) _ _ ⟨p9,a6,a7,h,rfl,rfl⟩
 ·exact am h
 rw [eK.eq_2] at h;refine ab ?_;refine aL ?_;refine gH J h ?_ ?_<;>intro h
 ·refine sY ?_;obtain ⟨a2,b1,b2,a8,h⟩:=bG h;refine ab ?_;refine ur 0 J a8 (f0 a2) ?_;rintro _ _ ⟨b3,b4,b5,b6,b7,b8,rfl,rfl⟩;refine Dv (la (us:=[iV a2.Sa,iV a2.Sk,iV a2.Sj,iV a2.Sn,U b3 b4 b5,U b6 b7 b8]) 0 J J agg42.out J) ?_;intro b9;refine ab ?_;obtain ⟨b0,h⟩:=ah h;refine gE (sC J J b0.1 b0.2) ?_;obtain ⟨c0,h⟩:=ah h;refine ab ?_;obtain ⟨c8,k,h⟩:=aa h;refine gD (oC (mX k)) ?_;rintro _ _ ⟨_,⟨c9,rfl,rfl⟩,rfl⟩;refine ab ?_;obtain ⟨d0,h⟩:=ah h;exact lY
 exact eY
theorem nD {r:Rr}{B1:Nat}: ∀v post,((fun (u:Value) (post:List Chunk)=> ∃M0,u=.tuple #[]/\post=[ac B1 147 [.map (some M0)],aj bf bI M0 r.at_])) v post-> ∀c∈post,jJ c:=by
 rintro _ _ ⟨_,rfl,rfl⟩;exact hJ Cg (hJ IG (ay))
def fN (N:Nat)(a0:RG)(p13:RS)(a1:RS)(a2:RJ)(a6:RJ):Option (Int×RG):=
 some (1,a0)
def fM (N:Nat)(a1:RS)(a2:RS)(a0:RG)(a6:RJ)(a7:RJ):Option (Int×RG):=
 (cL N a0.So (⟨a1,a2⟩:Rp)).bind fun a8=>some (0,(⟨(⟨a1,a2⟩:Rp),a6,a7,a8⟩:RG))
def dL (N:Nat)(a0:RG)(a1:RS)(a2:RS)(p21:RJ)(a6:RJ):Option (Int×RG):=
 bn ((0:Int)<=(a0.Si.length:Int)/\0<=(a0.Si.length:Int).toNat/\(a0.Si.length:Int).toNat<=p21.length) (bn ((0:Int)<=(a0.Si.length:Int)/\(a0.Si.length:Int).toNat<=p21.length/\p21.length<=p21.length) ((cF N ((p21.drop 0).take ((a0.Si.length:Int).toNat - 0))).bind fun a7=>(bX N ((p21.drop ((a0.Si.length:Int).toNat)).take (p21.length - (a0.Si.length:Int).toNat)) a6).bind fun a8=>fM N a1 a2 a0 a7 a8))
def gr (N:Nat)(a0:RG):Option (Int×RG):=
 (aG N a0).bind fun y9=>bif y9 then (some (1,a0)) else ((bX N a0.Si a0.Sq).bind fun a1=>(lB N a1 a0).bind fun a2=>Au a2 (fun y26_0=>fN N a0 y26_0.1.Se y26_0.1.Sc y26_0.2.1 y26_0.2.2) (fun y26_1=>dL N a0 y26_1.1.Se y26_1.1.Sc y26_1.2.1 y26_1.2.2))
theorem pL {N:Nat}{a0:RG}{r:Int×RG}(h:gr N a0=some r):Okc RY 84 [pV B1 0,.func (.func 87) #[] #[pV B8 0]] ([ar B8 46 [pV B1 0],ac B1 99 [U A2 n2 c2,U A3 n3 c3,U A4 n4 c4,U A5 n5 c5,pV B6 0],aR A2 n2 c2 a0.m_.Se,aR A3 n3 c3 a0.m_.Sc,aw A4 n4 c4 a0.Si,aw A5 n5 c5 a0.Sq,ac B6 147 [.map (some M7)],aj bf bI M7 a0.So.at_]) (fun u post=> ∃A0 n0 c0 A1 n1 c1 A2 n2 c2 A3 n3 c3 M4,u=iV r.1/\post=[ac B1 99 [U A0 n0 c0,U A1 n1 c1,U A2 n2 c2,U A3 n3 c3,pV B6 0],aR A0 n0 c0 r.2.m_.Se,aR A1 n1 c1 r.2.m_.Sc,aw A2 n2 c2 r.2.Si,aw A3 n3 c3 r.2.Sq,ac B6 147 [.map (some M4)],aj bf bI M4 r.2.So.at_]):=by
 refine cG Tryz.func84 ?_;refine sZ ?_;obtain ⟨y9,k,h⟩:=aa h;refine jQ (oR (ca k)) ?_;refine gH J h ?_ ?_<;>intro h
 ·exact eY
 refine ab ?_;refine ao (fun s L=>(∃p13 i8 j0 j1 j2 j3 j4 j5 j6 j7 j8 j9 k0 k1 k2 k3 k4,fN N a0 p13 i8 j0 j1=some r/\s=[(0,pV B1 0),(4,iV 0),(5,pV j2 0),(6,U j9 k0 k1),(7,U k2 k3 k4),(8,iV 1)]/\L=[aR j3 j4 j5 p13,aR j6 j7 j8 i8,ac j2 96 [U j3 j4 j5,U j6 j7 j8],aw j9 k0 k1 j0,aw k2 k3 k4 j1,aR A2 n2 c2 a0.m_.Se,aR A3 n3 c3 a0.m_.Sc,aw A4 n4 c4 a0.Si,aw A5 n5 c5 a0.Sq,ac B1 99 [U A2 n2 c2,U A3 n3 c3,U A4 n4 c4,U A5 n5 c5,pV B6 0],aj bf bI M7 a0.So.at_,ac B6 147 [.map (some M7)]])\/(∃(d2:RS) (d3:RS) (p21:RJ) (h5:RJ) (h6:Nat) (a1:Option Addr) (a2 a6:Nat) (a7:Option Addr) (a8 b0:Nat) (h7:Option Addr) (h8 h9:Nat) (f2:Option Addr) (f3 f4:Nat),dL N a0 d2 d3 p21 h5=some r/\s=[(0,pV B1 0),(4,iV 0),(5,pV h6 0),(6,U h7 h8 h9),(7,U f2 f3 f4),(8,iV 0)]/\L=[aR a1 a2 a6 d2,aR a7 a8 b0 d3,ac h6 96 [U a1 a2 a6,U a7 a8 b0],aw h7 h8 h9 p21,aw f2 f3 f4 h5,aw A4 n4 c4 a0.Si,aw A5 n5 c5 a0.Sq,ac B1 99 [U A2 n2 c2,U A3 n3 c3,U A4 n4 c4,U A5 n5 c5,pV B6 0],aj bf bI M7 a0.So.at_,ac B6 147 [.map (some M7)]])) ?_ ?_
 ·refine cZ I ([ar B8 46 [pV B1 0],ac B1 99 [U A2 n2 c2,U A3 n3 c3,U A4 n4 c4,U A5 n5 c5,pV B6 0],aw A4 n4 c4 a0.Si,aw A5 n5 c5 a0.Sq,ac B6 147 [.map (some M7)],aj bf bI M7 a0.So.at_]) (cS [0,1,4,5,6,7] 8) ?_;refine zY [0,1,2,3,4,5,6,7,8] ?_;refine mq 9 17 I ?_ ?_
  ·refine bK J (eC (cs:=[U A4 n4 c4,U A5 n5 c5]) J (mJ _ _ _ _ _ _)) J J J ?_;rintro _ _ ⟨k5,rfl,rfl⟩;refine aJ (cS [1,2,5,6,7,8] 9) ?_;refine mq 10 17 I ?_ ?_
   ·obtain ⟨n9,k,h⟩:=aa h;refine bK J (oR (bv k)) J J J ?_;rintro _ _ ⟨_,⟨o0,o1,o2,rfl,rfl⟩,rfl⟩;refine aJ (cS [2,3,6,7,8,9] 10) ?_;refine mq 11 17 I ?_ ?_
    ·refine rP (bJ 0 J) (cS [2,3,6,7,8,9] 10) ?_;refine I0 ?_;obtain ⟨m1,g0,h⟩:=aa h;rcases m1 with y26_0|y26_1
     ·replace h:=F6 h;refine bK J (fJ (cz g0) call87.out J J J (cp [0,2] [3,4,5,6,7,8,9] [0,1,2] 10 J)) J J J ?_;rintro _ _ ⟨_,⟨k6,k7,k8,b2,b3,b4,c9,d0,d1,d4,d6,e2,rfl,rfl⟩,rfl⟩;refine aJ (cS [13,8,6,7,9,10] 14) ?_;refine aU ?_;refine zY [12,13,14,15,16] ?_;refine zD 17 J (cP zero96.out J) ?_;rintro _ _ ⟨m2,rfl,rfl⟩;refine aJ (cS [14,9,7,8,10,11] 15) ?_;refine zO 18 J (ax (us:=[U k6 k7 k8,U b2 b3 b4]) (cs':=[U k6 k7 k8,U b2 b3 b4]) 0 J J J J size96.out J J J) ?_;rintro _ _ rfl;refine aJ (cS [14,9,7,8,10,11] 15) ?_;refine aU ?_;refine zX [19,20,21] ?_;refine ab ?_;exact ⟨_,_,.inl (⟨y26_0.1.Se,y26_0.1.Sc,y26_0.2.1,y26_0.2.2,m2,k6,k7,k8,b2,b3,b4,c9,d0,d1,d4,d6,e2,h,J,J⟩),sA,cS [1,2,0,3,4,5,6,7,8,9,11,10] 15⟩
     replace h:=F5 h;refine bK J (fJ (cz g0) call87.out J J J (cp [0,2] [3,4,5,6,7,8,9] [0,1,2] 10 J)) J J J ?_;rintro _ _ ⟨_,⟨b5,b6,b7,b8,b9,c8,e3,e4,e5,e6,e7,e8,rfl,rfl⟩,rfl⟩;refine aJ (cS [11,6,4,5,7,8] 12) ?_;refine aU ?_;refine zY [12,13,14,15,16] ?_;refine zD 17 J (cP zero96.out J) ?_;rintro _ _ ⟨m3,rfl,rfl⟩;refine aJ (cS [12,7,5,6,8,9] 13) ?_;refine zO 18 J (ax (us:=[U b5 b6 b7,U b8 b9 c8]) (cs':=[U b5 b6 b7,U b8 b9 c8]) 0 J J J J size96.out J J J) ?_;rintro _ _ rfl;refine aJ (cS [12,7,5,6,8,9] 13) ?_;refine aU ?_;refine zX [19,20,21] ?_;refine ab ?_;exact ⟨_,_,.inr (⟨y26_1.1.Se,y26_1.1.Sc,y26_1.2.1,y26_1.2.2,m3,b5,b6,b7,b8,b9,c8,e3,e4,e5,e6,e7,e8,h,J,J⟩),sA,cS [1,2,0,3,4,5,6,7,9,8] 13⟩
    refine bK J (cP zero96.out J) J J J ?_;rintro _ _ ⟨l7,rfl,rfl⟩;refine aJ (cS [3,4,7,8,9,10] 11) ?_;refine lG (bJ 1 J) (cS [3,4,7,8,9,10] 11) ?_;refine aU ?_;obtain ⟨g1,b1,h⟩:=aa h;rcases g1 with y27_0|y27_1
    ·replace h:=F6 h;refine zD 11 J (fJ (cz b1) call87.out J J J (cp [1,3] [4,5,6,7,8,9,10] [0,1,2,3] 11 J)) ?_;rintro _ _ ⟨_,⟨b2,b3,b4,c9,d0,d1,d4,d6,e2,g2,g3,g4,rfl,rfl⟩,rfl⟩;refine aJ (cS [14,8,6,7,9,10] 15) ?_;refine aU ?_;refine zY [12,13,14,15,16] ?_;refine zO 18 J (ax (us:=[U b2 b3 b4,U c9 d0 d1]) (cs':=[U b2 b3 b4,U c9 d0 d1]) 11 J J J J size96.out J J J) ?_;rintro _ _ rfl;refine aJ (cS [14,8,6,7,9,10] 15) ?_;refine aU ?_;refine zX [19,20,21] ?_;refine ab ?_;exact ⟨_,_,.inl (⟨y27_0.1.Se,y27_0.1.Sc,y27_0.2.1,y27_0.2.2,l7,b2,b3,b4,c9,d0,d1,d4,d6,e2,g2,g3,g4,h,J,J⟩),sA,cS [0,1,11,2,3,4,5,6,7,8,10,9] 15⟩
    replace h:=F5 h;refine zD 11 J (fJ (cz b1) call87.out J J J (cp [1,3] [4,5,6,7,8,9,10] [0,1,2,3] 11 J)) ?_;rintro _ _ ⟨_,⟨b5,b6,b7,b8,b9,c8,e3,e4,e5,e6,e7,e8,rfl,rfl⟩,rfl⟩;refine aJ (cS [12,6,4,5,7,8] 13) ?_;refine aU ?_;refine zY [12,13,14,15,16] ?_;refine zO 18 J (ax (us:=[U b5 b6 b7,U b8 b9 c8]) (cs':=[U b5 b6 b7,U b8 b9 c8]) 9 J J J J size96.out J J J) ?_;rintro _ _ rfl;refine aJ (cS [12,6,4,5,7,8] 13) ?_;refine aU ?_;refine zX [19,20,21] ?_;refine ab ?_;exact ⟨_,_,.inr (⟨y27_1.1.Se,y27_1.1.Sc,y27_1.2.1,y27_1.2.2,l7,b5,b6,b7,b8,b9,c8,e3,e4,e5,e6,e7,e8,h,J,J⟩),sA,cS [0,1,9,2,3,4,5,6,8,7] 13⟩
   refine bK J (cP zero96.out J) J J J ?_;rintro _ _ ⟨k9,rfl,rfl⟩;refine aJ (cS [2,3,6,7,8,9] 10) ?_;obtain ⟨m4,e9,h⟩:=aa h;refine zD 10 J (oR (bv e9)) ?_;rintro _ _ ⟨_,⟨m5,m6,m7,rfl,rfl⟩,rfl⟩;refine aJ (cS [3,4,7,8,9,10] 11) ?_;refine lG (bJ 0 J) (cS [3,4,7,8,9,10] 11) ?_;refine aU ?_;obtain ⟨g1,b1,h⟩:=aa h;rcases g1 with y27_0|y27_1
   ·replace h:=F6 h;refine zD 11 J (fJ (cz b1) call87.out J J J (cp [0,3] [4,5,6,7,8,9,10] [0,1,2,3] 11 J)) ?_;rintro _ _ ⟨_,⟨b2,b3,b4,c9,d0,d1,d4,d6,e2,g2,g3,g4,rfl,rfl⟩,rfl⟩;refine aJ (cS [14,8,6,7,9,10] 15) ?_;refine aU ?_;refine zY [12,13,14,15,16] ?_;refine zO 18 J (ax (us:=[U b2 b3 b4,U c9 d0 d1]) (cs':=[U b2 b3 b4,U c9 d0 d1]) 12 J J J J size96.out J J J) ?_;rintro _ _ rfl;refine aJ (cS [14,8,6,7,9,10] 15) ?_;refine aU ?_;refine zX [19,20,21] ?_;refine ab ?_;exact ⟨_,_,.inl (⟨y27_0.1.Se,y27_0.1.Sc,y27_0.2.1,y27_0.2.2,k9,b2,b3,b4,c9,d0,d1,d4,d6,e2,g2,g3,g4,h,J,J⟩),sA,cS [0,1,12,2,3,4,5,6,7,8,10,9] 15⟩
   replace h:=F5 h;refine zD 11 J (fJ (cz b1) call87.out J J J (cp [0,3] [4,5,6,7,8,9,10] [0,1,2,3] 11 J)) ?_;rintro _ _ ⟨_,⟨b5,b6,b7,b8,b9,c8,e3,e4,e5,e6,e7,e8,rfl,rfl⟩,rfl⟩;refine aJ (cS [12,6,4,5,7,8] 13) ?_;refine aU ?_;refine zY [12,13,14,15,16] ?_;refine zO 18 J (ax (us:=[U b5 b6 b7,U b8 b9 c8]) (cs':=[U b5 b6 b7,U b8 b9 c8]) 10 J J J J size96.out J J J) ?_;rintro _ _ rfl;refine aJ (cS [12,6,4,5,7,8] 13) ?_;refine aU ?_;refine zX [19,20,21] ?_;refine ab ?_;exact ⟨_,_,.inr (⟨y27_1.1.Se,y27_1.1.Sc,y27_1.2.1,y27_1.2.2,k9,b5,b6,b7,b8,b9,c8,e3,e4,e5,e6,e7,e8,h,J,J⟩),sA,cS [0,1,10,2,3,4,5,6,8,7] 13⟩
  refine bK J (cP zero96.out J) J J J ?_;rintro _ _ ⟨k5,rfl,rfl⟩;refine aJ (cS [1,2,5,6,7,8] 9) ?_;refine zD 9 J (eC (cs:=[U A4 n4 c4,U A5 n5 c5]) J (mJ _ _ _ _ _ _)) ?_;rintro _ _ ⟨k9,rfl,rfl⟩;refine aJ (cS [2,3,6,7,8,9] 10) ?_;obtain ⟨m4,e9,h⟩:=aa h;refine zD 10 J (oR (bv e9)) ?_;rintro _ _ ⟨_,⟨m5,m6,m7,rfl,rfl⟩,rfl⟩;refine aJ (cS [3,4,7,8,9,10] 11) ?_;refine lG (bJ 0 J) (cS [3,4,7,8,9,10] 11) ?_;refine aU ?_;obtain ⟨g1,b1,h⟩:=aa h;rcases g1 with y27_0|y27_1
  ·replace h:=F6 h;refine zD 11 J (fJ (cz b1) call87.out J J J (cp [0,3] [4,5,6,7,8,9,10] [0,1,2,3] 11 J)) ?_;rintro _ _ ⟨_,⟨b2,b3,b4,c9,d0,d1,d4,d6,e2,g2,g3,g4,rfl,rfl⟩,rfl⟩;refine aJ (cS [14,8,6,7,9,10] 15) ?_;refine aU ?_;refine zY [12,13,14,15,16] ?_;refine zO 18 J (ax (us:=[U b2 b3 b4,U c9 d0 d1]) (cs':=[U b2 b3 b4,U c9 d0 d1]) 13 J J J J size96.out J J J) ?_;rintro _ _ rfl;refine aJ (cS [14,8,6,7,9,10] 15) ?_;refine aU ?_;refine zX [19,20,21] ?_;refine ab ?_;exact ⟨_,_,.inl (⟨y27_0.1.Se,y27_0.1.Sc,y27_0.2.1,y27_0.2.2,k5,b2,b3,b4,c9,d0,d1,d4,d6,e2,g2,g3,g4,h,J,J⟩),sA,cS [0,1,13,2,3,4,5,6,7,8,10,9] 15⟩
  replace h:=F5 h;refine zD 11 J (fJ (cz b1) call87.out J J J (cp [0,3] [4,5,6,7,8,9,10] [0,1,2,3] 11 J)) ?_;rintro _ _ ⟨_,⟨b5,b6,b7,b8,b9,c8,e3,e4,e5,e6,e7,e8,rfl,rfl⟩,rfl⟩;refine aJ (cS [12,6,4,5,7,8] 13) ?_;refine aU ?_;refine zY [12,13,14,15,16] ?_;refine zO 18 J (ax (us:=[U b5 b6 b7,U b8 b9 c8]) (cs':=[U b5 b6 b7,U b8 b9 c8]) 11 J J J J size96.out J J J) ?_;rintro _ _ rfl;refine aJ (cS [12,6,4,5,7,8] 13) ?_;refine aU ?_;refine zX [19,20,21] ?_;refine ab ?_;exact ⟨_,_,.inr (⟨y27_1.1.Se,y27_1.1.Sc,y27_1.2.1,y27_1.2.2,k5,b5,b6,b7,b8,b9,c8,e3,e4,e5,e6,e7,e8,h,J,J⟩),sA,cS [0,1,11,2,3,4,5,6,8,7] 13⟩
 rintro _ _ (⟨p13,i8,j0,j1,j2,j3,j4,j5,j6,j7,j8,j9,k0,k1,k2,k3,k4,h,rfl,rfl⟩|⟨d2,d3,p21,h5,h6,a1,a2,a6,a7,a8,b0,h7,h8,h9,f2,f3,f4,h,rfl,rfl⟩)
 ·refine sZ ?_;refine cq J ?_;exact eY
 refine sZ ?_;refine cJ J ?_;refine ab ?_;refine ao (fun s L=> ∃i0 i1 g5 g6 g7 g8 g9 h0,fM N d2 d3 a0 i0 i1=some r/\s=[(0,pV B1 0),(4,iV 0)]/\L=[aR a1 a2 a6 d2,aR a7 a8 b0 d3,aw g5 g6 g7 i0,aw g8 g9 h0 i1,ac B1 99 [U a1 a2 a6,U a7 a8 b0,U g5 g6 g7,U g8 g9 h0,pV B6 0],aj bf bI M7 a0.So.at_,ac B6 147 [.map (some M7)]]) ?_ ?_
 ·refine ic ?_ cD (bJ 3 J);refine ab ?_;refine cZ I ([aR a1 a2 a6 d2,aR a7 a8 b0 d3,ac h6 96 [U a1 a2 a6,U a7 a8 b0],bc h7 h8 h9 p21,aw f2 f3 f4 h5,aw A4 n4 c4 a0.Si,aw A5 n5 c5 a0.Sq,aj bf bI M7 a0.So.at_,ac B6 147 [.map (some M7)]]) (cS [0,1,2,3,4,5,6,8,9] 10) ?_;refine zY [0,1,2,3,4,5] ?_;obtain ⟨h1,h⟩:=ah h;refine zP 3 J (l:=0) (h:=(a0.Si.length:Int).toNat) h1.2.1 h1.2.2 ?_;rintro p0 p1 p2 m8;refine zR 6 J (Jg 4 J m8 J hU size23.out J J (by rw [Int.toNat_of_nonneg h1.1];rfl) h1.2.1 h1.2.2) ?_;refine zY [8,9] ?_;obtain ⟨i2,h⟩:=ah h;refine zP 4 J (l:=(a0.Si.length:Int).toNat) (h:=p21.length) i2.2.1 i2.2.2 ?_;rintro l8 l9 m0 m9;refine zR 10 J (vX 5 J m9 J hU size23.out J (by rw [Int.toNat_of_nonneg i2.1];rfl) i2.2.1) ?_;refine zY [11] ?_;refine mq 7 12 I ?_ ?_
  ·obtain ⟨p3,k,h⟩:=aa h;refine bK J (oR (eU k)) J J J ?_;rintro _ _ ⟨_,⟨l0,l1,l2,rfl,rfl⟩,rfl⟩;refine aJ (cS [1,2,3,4,5,6,7,8,9,11,12] 13) ?_;refine zD 12 J (eC (cs:=[U l8 l9 m0,U f2 f3 f4]) J (mJ _ _ _ _ _ _)) ?_;rintro _ _ ⟨p4,rfl,rfl⟩;refine aJ (cS [2,3,4,5,6,7,8,9,10,12,13] 14) ?_;obtain ⟨n8,f1,h⟩:=aa h;refine zD 13 J (oR (bv f1)) ?_;rintro _ _ ⟨_,⟨h2,h3,h4,rfl,rfl⟩,rfl⟩;refine aJ (cS [3,4,5,6,7,8,9,10,11,13,14] 15) ?_;refine zY [14,15] ?_;refine zO 16 J (ax (us:=[U a1 a2 a6,U a7 a8 b0]) (cs':=[U a1 a2 a6,U a7 a8 b0,U A4 n4 c4,U A5 n5 c5,pV B6 0]) 12 J J J J size96.out J J J) ?_;rintro _ _ rfl;refine aJ (cS [3,4,5,6,7,8,9,10,11,13,14] 15) ?_;refine aU ?_;refine zY [17,18] ?_;refine zO 19 J (ax (us:=[U l0 l1 l2]) (cs':=[U a1 a2 a6,U a7 a8 b0,U l0 l1 l2,U A5 n5 c5,pV B6 0]) 12 J J J J size30.out J J J) ?_;rintro _ _ rfl;refine aJ (cS [3,4,5,6,7,8,9,10,11,13,14] 15) ?_;refine aU ?_;refine zY [20,21] ?_;refine zO 22 J (ax (us:=[U h2 h3 h4]) (cs':=[U a1 a2 a6,U a7 a8 b0,U l0 l1 l2,U h2 h3 h4,pV B6 0]) 12 J J J J size30.out J J J) ?_;rintro _ _ rfl;refine aJ (cS [3,4,5,6,7,8,9,10,11,13,14] 15) ?_;refine aU ?_;refine ju I ?_;exact jY
  refine bK J (eC (cs:=[U l8 l9 m0,U f2 f3 f4]) J (mJ _ _ _ _ _ _)) J J J ?_;rintro _ _ ⟨p5,rfl,rfl⟩;refine aJ (cS [1,2,3,4,5,6,7,8,9,11,12] 13) ?_;obtain ⟨p6,k,h⟩:=aa h;refine zD 7 J (oR (eU k)) ?_;rintro _ _ ⟨_,⟨l3,l4,l5,rfl,rfl⟩,rfl⟩;refine aJ (cS [2,3,4,5,6,7,8,9,10,12,13] 14) ?_;obtain ⟨n8,f1,h⟩:=aa h;refine zD 13 J (oR (bv f1)) ?_;rintro _ _ ⟨_,⟨h2,h3,h4,rfl,rfl⟩,rfl⟩;refine aJ (cS [3,4,5,6,7,8,9,10,11,13,14] 15) ?_;refine zY [14,15] ?_;refine zO 16 J (ax (us:=[U a1 a2 a6,U a7 a8 b0]) (cs':=[U a1 a2 a6,U a7 a8 b0,U A4 n4 c4,U A5 n5 c5,pV B6 0]) 12 J J J J size96.out J J J) ?_;rintro _ _ rfl;refine aJ (cS [3,4,5,6,7,8,9,10,11,13,14] 15) ?_;refine aU ?_;refine zY [17,18] ?_;refine zO 19 J (ax (us:=[U l3 l4 l5]) (cs':=[U a1 a2 a6,U a7 a8 b0,U l3 l4 l5,U A5 n5 c5,pV B6 0]) 12 J J J J size30.out J J J) ?_;rintro _ _ rfl;refine aJ (cS [3,4,5,6,7,8,9,10,11,13,14] 15) ?_;refine aU ?_;refine zY [20,21] ?_;refine zO 22 J (ax (us:=[U h2 h3 h4]) (cs':=[U a1 a2 a6,U a7 a8 b0,U l3 l4 l5,U h2 h3 h4,pV B6 0]) 12 J J J J size30.out J J J) ?_;rintro _ _ rfl;refine aJ (cS [3,4,5,6,7,8,9,10,11,13,14] 15) ?_;refine aU ?_;refine ju I ?_;exact jY
 rintro _ _ ⟨i0,i1,g5,g6,g7,g8,g9,h0,h,rfl,rfl⟩;refine aL ?_;refine cZ I ([aR a1 a2 a6 d2,aR a7 a8 b0 d3,aw g5 g6 g7 i0,aw g8 g9 h0 i1,ac B1 99 [U a1 a2 a6,U a7 a8 b0,U g5 g6 g7,U g8 g9 h0,pV B6 0]]) (cS [0,1,2,3,4] 7) ?_;refine ab ?_;obtain ⟨p7,l6,h⟩:=aa h;refine lG (cS [6,5,0,1,2,3,4] 7) (cS [2,3,4,5,6] 7) ?_;refine aU ?_;refine zD 8 J (Ff 2 2 (pW l6) call122.out J J J J (hJ (wn (i:=2) J J) (hJ (wn (i:=3) J J) ay)) nD) ?_;rintro _ _ ⟨_,⟨p8,rfl,rfl⟩,rfl⟩;refine aJ (cS [2,3,4,5,6] 7) ?_;refine aU ?_;exact eY
end Go.Proofs.YtjmonlcchlkdhaaGreat