/- Merged texts: part 4. No conditions of their own. -/
import Derived.Test.YtjmonlcchlkdhaaGreatG3
set_option maxHeartbeats 4000000
namespace Go.Proofs.YtjmonlcchlkdhaaGreat
theorem Rf:type_of% Tryz.underlying170:=Tryz.underlying170
theorem Re:type_of% Tryz.underlying145:=Tryz.underlying145
theorem Rc:type_of% Tryz.underlying227:=Tryz.underlying227
variable {A1 A2 A3 A4 A5 A6 A7:Option Addr} {B1 B2 B3 B8 M2 M5 M6 M9 c1 c2 c3 c4 c5 c6 c7 n1 n2 n3 n4 n5 n6 n7:Nat}
open Go.RowKit Asn
set_option maxRecDepth 20000
def pI (N:Nat)(a0:Rp)(a1:RL):Option Int:=
 (bB N a1 (fun x=>gI N x a0)).bind fun a2=>bif a2 then (some 50) else (some 0)
def mP (N:Nat)(a2:RL->Int->Option Int)(a1:RJ)(a6:Int)(a0:Rp)(a7:RL):Option Int:=
 bn (in64 (a6+1)) (a2 a7 (a6+1))
def eV (N:Nat)(a1:RJ)(a0:Rp):Nat->RL->Int->Option Int
 |0,_,_=>none
 |a8+1,a2,a6=>bif decide (a6<(a1.length:Int)) then ((au a1 a6).bind fun a7=>(bif decide (a7.Sa=7) then (some true) else (some (decide (a7.Sa=9)))).bind fun b0=>bif b0 then (bn (cc (a2.length+([a7.N]:List Int).length)) (mP N (eV N a1 a0 a8) a1 a6 a0 (a2++([a7.N]:List Int)))) else (mP N (eV N a1 a0 a8) a1 a6 a0 a2)) else (pI N a0 a2)
def nS (N:Nat)(a1:RJ)(a0:Rp)(p6:RL):Option Int:=
 eV N a1 a0 N p6 0
def pJ (N:Nat)(a6:RL->Int->Option Int)(a0:Rp)(a2:Int)(a1:RJ)(a7:RL):Option Int:=
 bn (in64 (a2+1)) (a6 a7 (a2+1))
def kC (N:Nat)(b1:RL->Int->Option Int)(a0:Rp)(b2:Int)(a7:RS)(a1:RJ):Nat->RL->Int->Option Int
 |0,_,_=>none
 |b4+1,a2,a6=>bif decide (a6<(a7.length:Int)) then ((au a7 a6).bind fun a8=>(fA N a8).bind fun b5=>bif !b5 then (some 51) else ((fC N a8).bind fun b0=>bn (cc (a2.length+b0.length)) ((ja N a8).bind fun b3=>bn (cc ((a2++b0).length+b3.length)) (bn (in64 (a6+1)) ((kC N b1 a0 b2 a7 a1 b4) ((a2++b0)++b3) (a6+1)))))) else (pJ N b1 a0 b2 a1 a2)
def lA (N:Nat)(a0:Rp)(a1:RJ):Nat->RL->Int->Option Int
 |0,_,_=>none
 |m8+1,p9,a2=>bif decide (a2<(([a0.Se,a0.Sc]:List RS).length:Int)) then ((au ([a0.Se,a0.Sc]:List RS) a2).bind fun a6=>kC N (lA N a0 a1 m8) a0 a2 a6 a1 N p9 0) else (nS N a1 a0 p9)
def kL (N:Nat)(a0:Rp)(a1:RJ):Option Int:=
 lA N a0 a1 N [] 0
theorem BQ {N:Nat}{a0:Rp}{a1:RJ}{r:Int}(h:kL N a0 a1=some r):Okc RY 123 [.agg #[U A1 n1 c1,U A2 n2 c2],U A3 n3 c3] ([bi A1 n1 c1 a0.Se,bi A2 n2 c2 a0.Sc,bc A3 n3 c3 a1]) (fun u post=>u=iV r/\post=[]):=by
 refine cG Tryz.func123 ?_;intro B4;refine ab ?_;refine ao (fun s L=> ∃p6 A6 n6 c6,nS N a1 a0 p6=some r/\s=[(1,U A3 n3 c3),(2,pV B4 0),(4,iV 0),(5,U A6 n6 c6)]/\L=[bc A3 n3 c3 a1,eG A6 n6 c6 p6,bi A1 n1 c1 a0.Se,bi A2 n2 c2 a0.Sc,ac B4 96 [U A1 n1 c1,U A2 n2 c2]]) ?_ ?_
 ·refine ab ?_
  refine nr (aY (R:=(Rep.sl eB)) (vss:=[[U A1 n1 c1],[U A2 n2 c2]]) (xs:=[a0.Se,a0.Sc]) J (zK _ _ _ _ _ _) J J (fun _ _ hr=> .cons (⟨_,J,hr 1 _ J J⟩) (.cons (⟨_,J,hr 2 _ J J⟩) All2.nil))) fun A7 n7 c7=> ?_
  refine aW (fun m s L=> ∃p9 a6 A9 n9 c9,lA N a0 a1 m p9 a6=some r/\s=[(1,U A3 n3 c3),(2,pV B4 0),(4,iV 0),(5,U A9 n9 c9),(16,U A7 n7 c7),(17,iV (([a0.Se,a0.Sc]:List RS).length:Int)),(18,iV a6)]/\L=[bc A3 n3 c3 a1,eG A9 n9 c9 p9,eu (Rep.sl eB) 94 (U A7 n7 c7) ([a0.Se,a0.Sc]:List RS),bi A1 n1 c1 a0.Se,bi A2 n2 c2 a0.Sc,ac B4 96 [U A1 n1 c1,U A2 n2 c2]]) N _ _ ⟨[],0,none,0,0,h,J,J⟩ sA ((bh (eT .i64) 3 _).trans (cS [5,0,1,3,4,2] 6)) ?_;rintro (_|m8) _ _ ⟨p9,a6,A9,n9,c9,h,rfl,rfl⟩
  ·exact am h
  rw [lA.eq_2] at h;refine ab ?_;refine aL ?_;refine gH J h ?_ ?_<;>intro h
  ·refine ab ?_;refine ao (fun s L=> ∃c0 c8 d0 d1,pJ N (lA N a0 a1 m8) a0 a6 a1 c0=some r/\s=[(1,U A3 n3 c3),(2,pV B4 0),(4,iV 0),(5,U c8 d0 d1),(16,U A7 n7 c7),(17,iV (([a0.Se,a0.Sc]:List RS).length:Int)),(18,iV a6)]/\L=[bc A3 n3 c3 a1,eG c8 d0 d1 c0,eu (Rep.sl eB) 94 (U A7 n7 c7) ([a0.Se,a0.Sc]:List RS),bi A1 n1 c1 a0.Se,bi A2 n2 c2 a0.Sc,ac B4 96 [U A1 n1 c1,U A2 n2 c2]]) ?_ ?_
   ·refine ab ?_;obtain ⟨a7,g3,g4,d2,h⟩:=bG h;refine ab ?_
    refine nr (Jt (R':=eB) (ys:=a7) 2 J aI J d2 Dl (fun _ _ _ h=>by obtain ⟨u,e,k⟩:=h;exact ⟨u,by rw [e];rfl,k⟩)) fun b0 b1 b2=> ?_
    refine aW (fun m s L=> ∃d3 b3 d4 d6 e2,kC N (lA N a0 a1 m8) a0 a6 a7 a1 m d3 b3=some r/\s=[(1,U A3 n3 c3),(2,pV B4 0),(4,iV 0),(5,U d4 d6 e2),(16,U A7 n7 c7),(17,iV (([a0.Se,a0.Sc]:List RS).length:Int)),(18,iV a6),(22,U b0 b1 b2),(23,iV (a7.length:Int)),(24,iV b3)]/\L=[bc A3 n3 c3 a1,eG d4 d6 e2 d3,eu (Rep.sl eB) 94 (U A7 n7 c7) ([a0.Se,a0.Sc]:List RS),bi b0 b1 b2 a7,bi A1 n1 c1 a0.Se,bi A2 n2 c2 a0.Sc,ac B4 96 [U A1 n1 c1,U A2 n2 c2]]) N _ _ ⟨p9,0,A9,n9,c9,h,J,J⟩ sA (cS [1,2,3,0,4,5,6] 7) ?_;rintro (_|h5) _ _ ⟨d3,b3,d4,d6,e2,h,rfl,rfl⟩
    ·exact am h
    rw [kC.eq_2] at h;refine ab ?_;refine aL ?_;refine gH J h ?_ ?_<;>intro h
    ·refine sY ?_;obtain ⟨a2,g5,g6,e3,h⟩:=bG h;refine ab ?_;refine ur 3 J e3 (f0 a2) ?_;rintro _ _ ⟨b4,b5,b6,b7,b8,b9,rfl,rfl⟩;refine Dv (la (us:=[iV a2.Sa,iV a2.Sk,iV a2.Sj,iV a2.Sn,U b4 b5 b6,U b7 b8 b9]) 0 J J agg42.out J) ?_;intro g7;refine sY ?_;obtain ⟨h6,k,h⟩:=aa h;refine jQ (oR (kM k)) ?_;refine gH J h ?_ ?_<;>intro h
     ·exact eY
     refine ab ?_;refine cZ I ([ac g7 42 [iV a2.Sa,iV a2.Sk,iV a2.Sj,iV a2.Sn,U b4 b5 b6,U b7 b8 b9],E7 (d5 (U b0 b1 b2) b3.toNat 6 0) [iV a2.Sa,iV a2.Sk,iV a2.Sj,iV a2.Sn,U b4 b5 b6,U b7 b8 b9],bc b4 b5 b6 a2.Sg,bc b7 b8 b9 a2.Sd,bc A3 n3 c3 a1,eu (Rep.sl eB) 94 (U A7 n7 c7) ([a0.Se,a0.Sc]:List RS),bi b0 b1 b2 a7,bi A1 n1 c1 a0.Se,bi A2 n2 c2 a0.Sc,ac B4 96 [U A1 n1 c1,U A2 n2 c2]]) (cS [0,1,2,3,4,6,7,8,9,10] 11) ?_;refine zY [0,1,4] ?_;obtain ⟨h7,k,h⟩:=aa h;refine zD 2 J (oR (jb k)) ?_;rintro _ _ ⟨_,⟨h8,h9,i0,rfl,rfl⟩,rfl⟩;refine aJ (cS [1,2,3,4,5,7,8,9,10,11] 12) ?_;obtain ⟨g8,h⟩:=ah h;refine zD 3 J (aX 6 0 J J aI J J t0 ES J J g8) ?_;rintro _ _ ⟨i1,i2,i8,rfl,rfl⟩;refine aJ (cS [1,2,3,4,5,7,8,9,10,11] 12) ?_;obtain ⟨j0,k,h⟩:=aa h;refine zD 5 J (oR (ob k)) ?_;rintro _ _ ⟨_,⟨j1,j2,j3,rfl,rfl⟩,rfl⟩;refine aJ (cS [2,3,4,5,6,8,9,10,11,12] 13) ?_;obtain ⟨g9,h⟩:=ah h;refine zD 6 J (aX 7 0 J J aI J J t0 ES J J g9) ?_;rintro _ _ ⟨j4,j5,j6,rfl,rfl⟩;refine aJ (cS [2,3,4,5,6,8,9,10,11,12] 13) ?_;refine zX [7] ?_;refine ab ?_;obtain ⟨j7,h⟩:=ah h;exact lY
    exact jY
   rintro _ _ ⟨c0,c8,d0,d1,h,rfl,rfl⟩;refine ab ?_;obtain ⟨j8,h⟩:=ah h;exact lY
  exact jY
 rintro _ _ ⟨p6,A6,n6,c6,h,rfl,rfl⟩;refine ao (fun s L=> ∃e4 e5 e6 e7,pI N a0 e4=some r/\s=[(2,pV B4 0),(4,iV 0),(5,U e5 e6 e7)]/\L=[eG e5 e6 e7 e4,bi A1 n1 c1 a0.Se,bi A2 n2 c2 a0.Sc,ac B4 96 [U A1 n1 c1,U A2 n2 c2]]) ?_ ?_
 ·refine ab ?_;refine aW (fun m s L=> ∃e8 a8 e9 f1 f2,eV N a1 a0 m e8 a8=some r/\s=[(2,pV B4 0),(4,iV 0),(5,U e9 f1 f2),(40,U A3 n3 c3),(41,iV (a1.length:Int)),(42,iV a8)]/\L=[eG e9 f1 f2 e8,bc A3 n3 c3 a1,bi A1 n1 c1 a0.Se,bi A2 n2 c2 a0.Sc,ac B4 96 [U A1 n1 c1,U A2 n2 c2]]) N _ _ ⟨p6,0,A6,n6,c6,h,J,J⟩ sA (cS [1,0,2,3,4] 5) ?_;rintro (_|h0) _ _ ⟨e8,a8,e9,f1,f2,h,rfl,rfl⟩
  ·exact am h
  rw [eV.eq_2] at h;refine ab ?_;refine aL ?_;refine gH J h ?_ ?_<;>intro h
  ·refine ab ?_;refine ao (fun s L=> ∃f3 f4 g0 g1,mP N (eV N a1 a0 h0) a1 a8 a0 f3=some r/\s=[(2,pV B4 0),(4,iV 0),(5,U f4 g0 g1),(40,U A3 n3 c3),(41,iV (a1.length:Int)),(42,iV a8)]/\L=[eG f4 g0 g1 f3,bc A3 n3 c3 a1,bi A1 n1 c1 a0.Se,bi A2 n2 c2 a0.Sc,ac B4 96 [U A1 n1 c1,U A2 n2 c2]]) ?_ ?_
   ·refine ab ?_;obtain ⟨g2,h1,h2,h3,h⟩:=bG h
    refine iD fun j9=> ?_
    refine gS 4 53 49 h ?_;intro k0 h;refine fd h ?_ ?_<;>intro h
    ·refine ab ?_;refine gD (aY (R:=(eT .i64)) (vss:=[[iV g2.N]]) (xs:=[g2.N]) J (lF _) J J (fun _ _ hr=> .cons J All2.nil)) ?_;rintro _ _ ⟨k1,k2,k3,rfl,rfl⟩;obtain ⟨h4,h⟩:=ah h
     refine nr (aX 2 0 J J aI J J t0 ES J J h4) fun k4 k5 k6=> ?_
     exact jN
    exact jY
   rintro _ _ ⟨f3,f4,g0,g1,h,rfl,rfl⟩;refine ab ?_;obtain ⟨k7,h⟩:=ah h;exact lY
  exact jY
 rintro _ _ ⟨e4,e5,e6,e7,h,rfl,rfl⟩;refine sZ ?_;refine gE (dR J) ?_;obtain ⟨k8,k,h⟩:=aa h;refine jQ (oR (dj k ⟨hJ J (hJ J (hJ J ay)),163, #[], #[pV B4 0],J,call163.out,fun _ _ hh=>ym hh⟩)) ?_;refine gH J h ?_ ?_<;>intro h
 ·exact eY
 exact eY
def mL (N:Nat)(a0:Ry):Option (Int×Bool):=
 (bif decide (a0.Sa=7) then (some true) else (some (decide (a0.Sa=9)))).bind fun b2=>some (a0.N,b2)
theorem zi {N:Nat}{a0:Ry}{r:Int×Bool}(h:mL N a0=some r):Okc RY 208 [(fX a0)] ([]) (fun u post=>u=.tuple #[iV r.1,.bool r.2]/\post=[]):=by
 refine cG Tryz.func208 ?_;intro B1;refine ab ?_;refine dY [0,1,2,3,4,5,10] ?_;obtain ⟨b2,a1,h⟩:=aa h;refine CG (fun l=>((((l.setIfInBounds 6 true).setIfInBounds 7 true).setIfInBounds 8 true).setIfInBounds 9 true)) 1 13 b2 (fun rest=> ?_) ?_
 ·clear h;refine EQ 9 J (fun g2=> ?_) (fun g2=> ?_)
  ·have h:=az g2 a1;refine rE 6 J I (wM g2 J) J ?_;refine rE 7 J I (wM g2 J) J ?_;refine rE 8 J I (wM g2 J) J ?_;refine zE 9 J (rm g2 J J) ?_;obtain rfl:=cB h;exact xE rest (ny J (aP (aP (aP (aP cD J) J) J) J)) (ae _) (ae _)
  have h:=aA g2 a1;refine vM 6 J I (ml J sb) (jK g2 J) J ?_;refine CF 7 J I (bL 0 J J su J) (jK g2 J) J ?_;refine vM 8 J I (Kj J J) (jK g2 J) J ?_;refine zE 9 J (rn g2 J J) ?_;obtain rfl:=cB h;exact xE rest (ny J (aP (aP (aP (aP cD J) J) J) J)) (ae _) (ae _)
 refine zX [11] ?_;exact eY
def iM (N:Nat)(a2:Int->RL->(List (Int×Unit))->Option Ru)(a1:RL)(p8:Int)(a0:Ru)(p13:RL)(a6:(List (Int×Unit))):Option Ru:=
 bn (in64 (p8+1)) (a2 (p8+1) p13 a6)
def cR (N:Nat)(a1:RL)(a0:Ru):Nat->Int->RL->(List (Int×Unit))->Option Ru
 |0,_,_,_=>none
 |m7+1,p8,p9,a6=>bif decide (p8<(a1.length:Int)) then ((au a1 p8).bind fun a2=>(bif !((lk a6 a2).isSome) then ((iN N a0.m_ a2).bind fun a7=>some a7) else (some false)).bind fun a8=>bif a8 then (bn (cc (p9.length+([a2]:List Int).length)) (iM N (cR N a1 a0 m7) a1 p8 a0 (p9++([a2]:List Int)) (xi a6 a2 ()))) else (iM N (cR N a1 a0 m7) a1 p8 a0 p9 a6)) else (some (⟨a0.m_,p9,a6,a0.SN⟩:Ru))
def dW (N:Nat)(a0:Ru)(a1:RL):Option Ru:=
 cR N a1 a0 N 0 a0.SB a0.Sw
theorem sS {N:Nat}{a0:Ru}{a1:RL}{r:Ru}(h:dW N a0 a1=some r):Okc RY 209 [pV B1 0,U A6 n6 c6] ([bi A2 n2 c2 a0.m_.Se,bi A3 n3 c3 a0.m_.Sc,dK A6 n6 c6 a1,ac B1 229 [U A2 n2 c2,U A3 n3 c3,U A4 n4 c4,.map (some M5),iV a0.SN],eG A4 n4 c4 a0.SB,aj bf Ai M5 a0.Sw]) (fun u post=> ∃A0 n0 c0 A1 n1 c1 A2 n2 c2 M3,u=.tuple #[]/\post=[ac B1 229 [U A0 n0 c0,U A1 n1 c1,U A2 n2 c2,.map (some M3),iV r.SN],bi A0 n0 c0 r.m_.Se,bi A1 n1 c1 r.m_.Sc,eG A2 n2 c2 r.SB,aj bf Ai M3 r.Sw]):=by
 refine cG Tryz.func209 ?_;refine aW (fun m s L=> ∃p8 p9 a8 A9 n9 c9,cR N a1 a0 m p8 p9 a8=some r/\s=[(0,pV B1 0),(8,U A6 n6 c6),(9,iV (a1.length:Int)),(10,iV p8)]/\L=[dK A6 n6 c6 a1,bi A2 n2 c2 a0.m_.Se,bi A3 n3 c3 a0.m_.Sc,eG A9 n9 c9 p9,aj bf Ai M5 a8,ac B1 229 [U A2 n2 c2,U A3 n3 c3,U A9 n9 c9,.map (some M5),iV a0.SN]]) N _ _ ⟨0,a0.SB,a0.Sw,A4,n4,c4,h,J,J⟩ sA (cS [2,0,1,4,5,3] 6) ?_;rintro (_|m7) _ _ ⟨p8,p9,a8,A9,n9,c9,h,rfl,rfl⟩
 ·exact am h
 rw [cR.eq_2] at h;refine ab ?_;refine aL ?_;refine gH J h ?_ ?_<;>intro h
 ·refine ab ?_;refine ao (fun s L=> ∃p13 b0 b1 b2 b3,iM N (cR N a1 a0 m7) a1 p8 a0 p13 b0=some r/\s=[(0,pV B1 0),(8,U A6 n6 c6),(9,iV (a1.length:Int)),(10,iV p8)]/\L=[dK A6 n6 c6 a1,bi A2 n2 c2 a0.m_.Se,bi A3 n3 c3 a0.m_.Sc,eG b1 b2 b3 p13,aj bf Ai M5 b0,ac B1 229 [U A2 n2 c2,U A3 n3 c3,U b1 b2 b3,.map (some M5),iV a0.SN]]) ?_ ?_
  ·refine ab ?_;obtain ⟨a6,b4,b5,b6,h⟩:=bG h;refine ab ?_;refine Dv (qP (a:=a6) (z:=()) 4 J tJ J J Rc (dT hP) zero253.out) ?_;intro b9;refine ab ?_;obtain ⟨b7,a2,h⟩:=aa h;refine aH 7 32 b7 ?_ ?_
   ·clear h;refine aE 25 J (fun a7=> ?_) (fun a7=> ?_)
    ·have h:=az a7 a2;refine ab ?_;obtain ⟨c8,k,h⟩:=aa h;refine gU (oR (kf k)) (cY a7 J) ?_;exact gY
    have h:=aA a7 a2;exact gY
   refine fd h ?_ ?_<;>intro h
   ·refine ab ?_;refine GJ (gp (a:=a6) (b:=()) 5 J J J J Rc (dT hP)) ?_;refine gD (aY (R:=(eT .i64)) (vss:=[[iV a6]]) (xs:=[a6]) J (lF _) J J (fun _ _ hr=> .cons J All2.nil)) ?_;rintro _ _ ⟨d0,d1,d2,rfl,rfl⟩;obtain ⟨b8,h⟩:=ah h
    refine nr (aX 5 0 J J aI J J t0 ES J J b8) fun d3 d4 d6=> ?_
    exact jN
   exact jY
  rintro _ _ ⟨p13,b0,b1,b2,b3,h,rfl,rfl⟩;refine ab ?_;obtain ⟨e2,h⟩:=ah h;exact lY
 exact eY
theorem xp {N:Nat}{f8:Value}{K:Nat}{a0:Ru}{a1:RL}{r:Ru}(h:dW N a0 a1=some r):Okc RY 209 [pV B1 0,U A6 n6 c6] ([bi A2 n2 c2 a0.m_.Se,bi A3 n3 c3 a0.m_.Sc,dK A6 n6 c6 a1,ac B1 229 [U A2 n2 c2,U A3 n3 c3,U A4 n4 c4,.map (some M5),iV a0.SN],lD (eT .i64) 3 (U A4 n4 c4) a0.SB f8 K,aj bf Ai M5 a0.Sw]) (fun u post=> ∃A0 n0 c0 A1 n1 c1 A2 n2 c2 M3,u=.tuple #[]/\post=[ac B1 229 [U A0 n0 c0,U A1 n1 c1,U A2 n2 c2,.map (some M3),iV r.SN],bi A0 n0 c0 r.m_.Se,bi A1 n1 c1 r.m_.Sc,lD (eT .i64) 3 (U A2 n2 c2) r.SB f8 K,aj bf Ai M3 r.Sw]):=by
 refine cG Tryz.func209 ?_;refine aW (fun m s L=> ∃p8 p9 a8 A9 n9 c9,cR N a1 a0 m p8 p9 a8=some r/\s=[(0,pV B1 0),(8,U A6 n6 c6),(9,iV (a1.length:Int)),(10,iV p8)]/\L=[dK A6 n6 c6 a1,bi A2 n2 c2 a0.m_.Se,bi A3 n3 c3 a0.m_.Sc,lD (eT .i64) 3 (U A9 n9 c9) p9 f8 K,aj bf Ai M5 a8,ac B1 229 [U A2 n2 c2,U A3 n3 c3,U A9 n9 c9,.map (some M5),iV a0.SN]]) N _ _ ⟨0,a0.SB,a0.Sw,A4,n4,c4,h,J,J⟩ sA (cS [2,0,1,4,5,3] 6) ?_;rintro (_|m7) _ _ ⟨p8,p9,a8,A9,n9,c9,h,rfl,rfl⟩
 ·exact am h
 rw [cR.eq_2] at h;refine ab ?_;refine aL ?_;refine gH J h ?_ ?_<;>intro h
 ·refine ab ?_;refine ao (fun s L=> ∃p13 b0 b1 b2 b3,iM N (cR N a1 a0 m7) a1 p8 a0 p13 b0=some r/\s=[(0,pV B1 0),(8,U A6 n6 c6),(9,iV (a1.length:Int)),(10,iV p8)]/\L=[dK A6 n6 c6 a1,bi A2 n2 c2 a0.m_.Se,bi A3 n3 c3 a0.m_.Sc,lD (eT .i64) 3 (U b1 b2 b3) p13 f8 K,aj bf Ai M5 b0,ac B1 229 [U A2 n2 c2,U A3 n3 c3,U b1 b2 b3,.map (some M5),iV a0.SN]]) ?_ ?_
  ·refine ab ?_;obtain ⟨a6,b4,b5,b6,h⟩:=bG h;refine ab ?_;refine Dv (qP (a:=a6) (z:=()) 4 J tJ J J Rc (dT hP) zero253.out) ?_;intro b9;refine ab ?_;obtain ⟨b7,a2,h⟩:=aa h;refine aH 7 32 b7 ?_ ?_
   ·clear h;refine aE 25 J (fun a7=> ?_) (fun a7=> ?_)
    ·have h:=az a7 a2;refine ab ?_;obtain ⟨c8,k,h⟩:=aa h;refine gU (oR (kf k)) (cY a7 J) ?_;exact gY
    have h:=aA a7 a2;exact gY
   refine fd h ?_ ?_<;>intro h
   ·refine ab ?_;refine GJ (gp (a:=a6) (b:=()) 5 J J J J Rc (dT hP)) ?_;refine gD (aY (R:=(eT .i64)) (vss:=[[iV a6]]) (xs:=[a6]) J (lF _) J J (fun _ _ hr=> .cons J All2.nil)) ?_;rintro _ _ ⟨d0,d1,d2,rfl,rfl⟩;obtain ⟨b8,h⟩:=ah h
    refine nr (Gv 5 0 J J aI J J t0 ES J J b8) fun d3 d4 d6=> ?_
    exact jN
   exact jY
  rintro _ _ ⟨p13,b0,b1,b2,b3,h,rfl,rfl⟩;refine ab ?_;obtain ⟨e2,h⟩:=ah h;exact lY
 exact eY
def oE (N:Nat)(a0:Ry)(a1:Ru):Option Ru:=
 (mL N a0).bind fun y8=>bif y8.2 then ((dW N a1 ([y8.1]:List Int)).bind fun a2=>some a2) else (some a1)
theorem xV {N:Nat}{a0:Ry}{a1:Ru}{r:Ru}(h:oE N a0 a1=some r):Okc RY 207 [(fX a0),pV B1 0] ([bi A3 n3 c3 a1.m_.Se,bi A4 n4 c4 a1.m_.Sc,ac B1 225 [pV B2 0],ac B2 229 [U A3 n3 c3,U A4 n4 c4,U A5 n5 c5,.map (some M6),iV a1.SN],eG A5 n5 c5 a1.SB,aj bf Ai M6 a1.Sw]) (fun u post=> ∃A0 n0 c0 A1 n1 c1 A2 n2 c2 M3,u=.tuple #[]/\post=[ac B2 229 [U A0 n0 c0,U A1 n1 c1,U A2 n2 c2,.map (some M3),iV r.SN],bi A0 n0 c0 r.m_.Se,bi A1 n1 c1 r.m_.Sc,eG A2 n2 c2 r.SB,aj bf Ai M3 r.Sw,ac B1 225 [pV B2 0]]):=by
 refine cG Tryz.func207 ?_;intro B7;refine ab ?_;obtain ⟨y8,k,h⟩:=aa h;refine jQ (oR (zi k)) ?_;refine gH J h ?_ ?_<;>intro h
 ·refine ab ?_;refine gD (aY (R:=(eT .i64)) (vss:=[[iV y8.1]]) (xs:=[y8.1]) J (lF _) J J (fun _ _ hr=> .cons J All2.nil)) ?_;rintro _ _ ⟨a2,a6,a7,rfl,rfl⟩;refine nu (bJ 0 J) ?_;obtain ⟨a8,k,h⟩:=aa h;refine gD (oC (sS k)) ?_;rintro _ _ ⟨_,⟨b0,b1,b2,b3,b4,b5,b6,b7,b8,b9,rfl,rfl⟩,rfl⟩;exact eY
 exact eY
def kg (N:Nat)(a0:Rp)(a1:Int):Option Rk:=
 (mC N a0 a1).bind fun y5=>bif !y5.2.2 then (some (⟨0,0,0,0,[],[]⟩:Rk)) else ((au y5.1 y5.2.1).bind fun a2=>(eg N a2).bind fun a6=>some a6)
theorem uU {N:Nat}{a0:Rp}{a1:Int}{r:Rk}(h:kg N a0 a1=some r):Okc RY 126 [.agg #[U A1 n1 c1,U A2 n2 c2],iV a1] ([bi A1 n1 c1 a0.Se,bi A2 n2 c2 a0.Sc]) (fun u post=> ∃A0 n0 c0 A1 n1 c1,u=.agg #[iV r.Sa,iV r.Sk,iV r.Sj,iV r.Sn,U A0 n0 c0,U A1 n1 c1]/\post=[aw A0 n0 c0 r.Sg,aw A1 n1 c1 r.Sd]):=by
 refine cG Tryz.func126 ?_;intro B3
 refine iD fun B4=> ?_
 obtain ⟨y5,k,h⟩:=aa h
 refine nr (oC (uT k)) fun A6 n6 c6=> ?_
 refine sZ ?_;refine gH J h ?_ ?_<;>intro h
 ·refine ab ?_;obtain rfl:=cB h;exact ox (rs:=[.cell 4 42]) (vs:=[.agg #[iV 0,iV 0,iV 0,iV 0,U none 0 0,U none 0 0]]) J (.cons (ij 1 J J agg42.out) .nil) J ((bh aF 23 _).trans ((bh aF 23 _).trans (cS [1,0] 7))) ⟨_,_,_,_,_,_,J,J⟩
 refine ab ?_;obtain ⟨a2,a7,a8,a6,h⟩:=bG h;refine ab ?_;refine ur 0 J a6 (f0 a2) ?_;rintro _ _ ⟨b0,b1,b2,b3,b4,b5,rfl,rfl⟩;refine gR (la (us:=[iV a2.Sa,iV a2.Sk,iV a2.Sj,iV a2.Sn,U b0 b1 b2,U b3 b4 b5]) 0 J J agg42.out J) ?_;obtain ⟨b6,k,h⟩:=aa h
 refine Ew (oR (i3 k)) fun b7 b8 b9 c8 c9 d0=> ?_
 exact eN
def fH (N:Nat):Nat->RS->RS->RL->(List (Int×Unit))->Int->Option Ru
 |0,_,_,_,_,_=>none
 |m6+1,p7,p8,p9,a6,a2=>bif decide (a2<(p9.length:Int)) then ((au p9 a2).bind fun a7=>(kg N (⟨p7,p8⟩:Rp) a7).bind fun a8=>(fC N a8).bind fun b0=>(dW N (⟨(⟨p7,p8⟩:Rp),p9,a6,a2⟩:Ru) b0).bind fun a1=>bn (in64 (a1.SN+1)) ((fH N m6) a1.m_.Se a1.m_.Sc a1.SB a1.Sw (a1.SN+1))) else (some (⟨(⟨p7,p8⟩:Rp),p9,a6,a2⟩:Ru))
def gg (N:Nat)(a0:Ru):Option Ru:=
 fH N N a0.m_.Se a0.m_.Sc a0.SB a0.Sw a0.SN
theorem pk {N:Nat}{a0:Ru}{r:Ru}(h:gg N a0=some r):Okc RY 191 [pV B1 0] ([bi A2 n2 c2 a0.m_.Se,bi A3 n3 c3 a0.m_.Sc,ac B1 229 [U A2 n2 c2,U A3 n3 c3,U A4 n4 c4,.map (some M5),iV a0.SN],eG A4 n4 c4 a0.SB,aj bf Ai M5 a0.Sw]) (fun u post=> ∃A0 n0 c0 A1 n1 c1 A2 n2 c2 M3,u=.tuple #[]/\post=[ac B1 229 [U A0 n0 c0,U A1 n1 c1,U A2 n2 c2,.map (some M3),iV r.SN],bi A0 n0 c0 r.m_.Se,bi A1 n1 c1 r.m_.Sc,eG A2 n2 c2 r.SB,aj bf Ai M3 r.Sw]):=by
 refine cG Tryz.func191 ?_;refine aW (fun m s L=> ∃p7 p8 p9 a6 a1 A7 n7 c7 A8 n8 c8 A9 n9 c9 a2,fH N m p7 p8 p9 a6 a1=some r/\s=[(0,pV B1 0)]/\L=[bi A7 n7 c7 p7,bi A8 n8 c8 p8,eG A9 n9 c9 p9,aj bf Ai a2 a6,ac B1 229 [U A7 n7 c7,U A8 n8 c8,U A9 n9 c9,.map (some a2),iV a1]]) N _ _ ⟨a0.m_.Se,a0.m_.Sc,a0.SB,a0.Sw,a0.SN,A2,n2,c2,A3,n3,c3,A4,n4,c4,M5,h,J,J⟩ sA (cS [0,1,3,4,2] 5) ?_;rintro (_|m6) _ _ ⟨p7,p8,p9,a6,a1,A7,n7,c7,A8,n8,c8,A9,n9,c9,a2,h,rfl,rfl⟩
 ·exact am h
 rw [fH.eq_2] at h;refine aL ?_;refine dY [] ?_;refine fd h ?_ ?_<;>intro h
 ·refine sY ?_;obtain ⟨a7,a8,b0,b1,h⟩:=bG h;refine ic (t:=[(0,pV B1 0)]) ?_ mw (ae _)
  refine jv I 15 [0] [0,4,14] [19,20,21,22,23,24,25,26,27,28,29,30,31,32,33] [[],[],[1],[2],[3],[],[5],[6],[7],[],[9],[10],[11],[8,12],[13]] [aV (pV B1 0),
 aV (pV B1 0),
 aV (pV B1 0),
 aV (pV B1 0),
 aV (.agg #[U A7 n7 c7,U A8 n8 c8]),
 aV (pV B1 0),
 aV (pV B1 0),
 aV (pV B1 2),
 aV (U A9 n9 c9),
 aV (pV B1 0),
 aV (pV B1 0),
 aV (pV B1 4),
 aV (iV a1),
 aV (d5 (U A9 n9 c9) a1.toNat 1 0),
 aV (iV a7)] [] (ae _) (wg rfl mf) I rfl rfl ?_ ?_ ?_
  ·refine we J ?_ ?_
   ·exact DS (bo J) J (aQ J (ae _))
   exact me
  ·refine ad J ?_ ?_
   ·exact er (iO (u:=iV a7) 2 J aI J b1 su (fun _ _ _ h=>by rw [show _=_ from h];rfl)) J (aQ J (ae _))
   refine ad J ?_ ?_
   ·exact er (gn 2 J aI J J t0 size3.out a8 b0) J (aQ J (ae _))
   refine ad J ?_ ?_
   ·exact er (bL 4 J J su J) J (aQ J (ae _))
   refine ad J ?_ ?_
   ·exact ci (gk J FH) J (aQ J (ae _))
   refine ad J ?_ ?_
   ·exact ci (bz J) J (aQ J (ae _))
   refine ad J ?_ ?_
   ·exact ci (bo J) J (aQ J (ae _))
   refine ad J ?_ ?_
   ·exact er (bL 4 J J Aa J) J (aQ J (ae _))
   refine ad J ?_ ?_
   ·exact ci (gk J Ck) J (aQ J (ae _))
   refine ad J ?_ ?_
   ·exact ci (bz J) J (aQ J (ae _))
   refine ad J ?_ ?_
   ·exact ci (bo J) J (aQ J (ae _))
   refine ad J ?_ ?_
   ·exact er (mM (us:=[U A7 n7 c7,U A8 n8 c8]) 4 J J agg96.out J) J (aQ J (ae _))
   refine ad J ?_ ?_
   ·exact ci (ml J FI) J (aQ J (ae _))
   refine ad J ?_ ?_
   ·exact ci (bz J) J (aQ J (ae _))
   refine ad J ?_ ?_
   ·exact ci (bo J) J (aQ J (ae _))
   refine ad J ?_ ?_
   ·exact ci (bo J) J (aQ J (ae _))
   exact eJ
  refine oe (t:=[(19,pV B1 0),(23,.agg #[U A7 n7 c7,U A8 n8 c8]),(33,iV a7),(0,pV B1 0)]) (L':=[bi A7 n7 c7 p7,bi A8 n8 c8 p8,eG A9 n9 c9 p9,aj bf Ai a2 a6,ac B1 229 [U A7 n7 c7,U A8 n8 c8,U A9 n9 c9,.map (some a2),iV a1]]) ?_ mw (ae _);obtain ⟨b2,k,h⟩:=aa h;refine pz 15 J I (oR (uU k)) J J J ?_;rintro _ _ ⟨_,⟨b3,b4,b5,b6,b7,b8,rfl,rfl⟩,rfl⟩;obtain ⟨b9,k,h⟩:=aa h;refine pz 16 J I (oR (jb k)) J J J ?_;rintro _ _ ⟨_,⟨d0,d1,d2,rfl,rfl⟩,rfl⟩;refine oe ?_ cD (bJ 0 J);obtain ⟨d3,k,h⟩:=aa h;refine pz 17 J I (oC (sS k)) J J J ?_;rintro _ _ ⟨_,⟨d4,d6,e2,e3,e4,e5,e6,e7,e8,e9,rfl,rfl⟩,rfl⟩;refine ms I ?_;refine ab ?_;obtain ⟨f1,h⟩:=ah h;exact lY
 exact eY
def qN (N:Nat)(p9:RS)(a1:RS)(a2:RL)(a6:(List (Int×Unit)))(p13:Int):Option Ru:=
 (gg N (⟨(⟨p9,a1⟩:Rp),a2,a6,p13⟩:Ru)).bind fun a7=>some a7
def iA (N:Nat)(a1:RJ):Nat->Int->RS->RS->RL->(List (Int×Unit))->Int->Option Ru
 |0,_,_,_,_,_,_=>none
 |b3+1,a6,a7,a8,b0,b1,b2=>bif decide (a6<(a1.length:Int)) then ((au a1 a6).bind fun b4=>(oE N b4 (⟨(⟨a7,a8⟩:Rp),b0,b1,b2⟩:Ru)).bind fun a2=>bn (in64 (a6+1)) ((iA N a1 b3) (a6+1) a2.m_.Se a2.m_.Sc a2.SB a2.Sw a2.SN)) else (qN N a7 a8 b0 b1 b2)
def mD (N:Nat)(a0:Rp)(a1:RJ):Option Ru:=
 iA N a1 N 0 a0.Se a0.Sc [] ([]:(List (Int×Unit))) 0
theorem Bo {N:Nat}{a0:Rp}{a1:RJ}{r:Ru}(h:mD N a0 a1=some r):Okc RY 189 [.agg #[U A1 n1 c1,U A2 n2 c2],U A3 n3 c3] ([bi A1 n1 c1 a0.Se,bi A2 n2 c2 a0.Sc,bc A3 n3 c3 a1]) (fun u post=> ∃B0 A1 n1 c1 A2 n2 c2 A3 n3 c3 M4,u=pV B0 0/\post=[ac B0 229 [U A1 n1 c1,U A2 n2 c2,U A3 n3 c3,.map (some M4),iV r.SN],bi A1 n1 c1 r.m_.Se,bi A2 n2 c2 r.m_.Sc,eG A3 n3 c3 r.SB,aj bf Ai M4 r.Sw]):=by
 refine cG Tryz.func189 ?_;intro B4;refine ab ?_;refine gD (qU (ek:=bf) (ev:=Ai)) ?_;rintro _ _ ⟨M5,rfl,rfl⟩
 refine iD fun B6=> ?_
 intro B7;refine ab ?_;refine fm (dR J) ?_;refine ao (fun s L=> ∃p9 a2 a6 a7 p13 A9 n9 c9 a8 b0 b1 b2 b3 b4 b5,qN N p9 a2 a6 a7 p13=some r/\s=[(4,.pointer none),(5,pV B7 0)]/\L=[ac B7 225 [pV B6 0],bi A9 n9 c9 p9,bi a8 b0 b1 a2,eG b2 b3 b4 a6,aj bf Ai b5 a7,ac B6 229 [U A9 n9 c9,U a8 b0 b1,U b2 b3 b4,.map (some b5),iV p13]]) ?_ ?_
 ·refine ab ?_;refine aW (fun m s L=> ∃b6 b7 b8 b9 c0 c8 d0 d1 d2 d3 d4 d6 e2 e3 e4 e5,iA N a1 m b6 b7 b8 b9 c0 c8=some r/\s=[(4,.pointer none),(5,pV B7 0),(6,.func (.func 207) #[] #[pV B7 0]),(14,U A3 n3 c3),(15,iV (a1.length:Int)),(16,iV b6)]/\L=[bc A3 n3 c3 a1,ac B7 225 [pV B6 0],bi d0 d1 d2 b7,bi d3 d4 d6 b8,eG e2 e3 e4 b9,aj bf Ai e5 c0,ac B6 229 [U d0 d1 d2,U d3 d4 d6,U e2 e3 e4,.map (some e5),iV c8]]) N _ _ ⟨0,a0.Se,a0.Sc,[],([]:(List (Int×Unit))),0,A1,n1,c1,A2,n2,c2,none,0,0,M5,h,J,J⟩ sA ((bh (eT .i64) 3 _).trans (cS [7,1,5,6,0,3,2] 8)) ?_;rintro (_|e9) _ _ ⟨b6,b7,b8,b9,c0,c8,d0,d1,d2,d3,d4,d6,e2,e3,e4,e5,h,rfl,rfl⟩
  ·exact am h
  rw [iA.eq_2] at h;refine ab ?_;refine aL ?_;refine gH J h ?_ ?_<;>intro h
  ·refine sY ?_;obtain ⟨f1,e6,e7,e8,h⟩:=bG h
   refine iD fun f2=> ?_
   obtain ⟨f3,k,h⟩:=aa h;refine gD (fJ (xV k) call207.out J J J (cp [3,4] [2,7,5,6] [0,1,3,4] 8 J)) ?_;rintro _ _ ⟨_,⟨f4,g0,g1,g2,g3,g4,g5,g6,g7,g8,rfl,rfl⟩,rfl⟩;refine ab ?_;obtain ⟨g9,h⟩:=ah h;exact lY
  exact jY
 rintro _ _ ⟨p9,a2,a6,a7,p13,A9,n9,c9,a8,b0,b1,b2,b3,b4,b5,h,rfl,rfl⟩;refine ab ?_;obtain ⟨h0,k,h⟩:=aa h;refine gD (oC (pk k)) ?_;rintro _ _ ⟨_,⟨h1,h2,h3,h4,h5,h6,h7,h8,h9,i0,rfl,rfl⟩,rfl⟩;exact eY
def sI (N:Nat)(a0:Rk):Option Bool:=
 (bif decide (a0.Sa=8) then ((fA N a0).bind fun y5=>some y5) else (some false)).bind fun b4=>some b4
theorem AW {N:Nat}{a0:Rk}{r:Bool}(h:sI N a0=some r):Okc RY 167 [.agg #[iV a0.Sa,iV a0.Sk,iV a0.Sj,iV a0.Sn,U A1 n1 c1,U A2 n2 c2]] ([bc A1 n1 c1 a0.Sg,bc A2 n2 c2 a0.Sd]) (fun u post=>u=.bool r/\post=[]):=by
 refine cG Tryz.func167 ?_;intro B3;refine ab ?_;obtain ⟨b4,a1,h⟩:=aa h;refine aH 3 9 b4 ?_ ?_
 ·clear h;refine aE 6 J (fun g4=> ?_) (fun g4=> ?_)
  ·have h:=az g4 a1;refine ab ?_;obtain ⟨y5,k,h⟩:=aa h;refine gU (oR (kM k)) (cY g4 J) ?_;exact gY
  have h:=aA g4 a1;exact gY
 exact eY
def d7 (N:Nat){σ:Type}(fy:(Ry×Ry)->σ->Option (Bool×σ))(a1:Rk):Nat->Int->σ->Option σ
 |0,_,_=>none
 |m4+1,p5,p6=>bn (in64 (p5+1)) (bif decide (p5+1<(a1.Sd.length:Int)) then ((au a1.Sd p5).bind fun x9=>bn (in64 (p5+1)) ((au a1.Sd (p5+1)).bind fun a6=>(fy (x9,a6) p6).bind fun a2=>bif !a2.1 then (some a2.2) else (bn (in64 (p5+2)) ((d7 N fy a1 m4) (p5+2) a2.2)))) else (some p6))
def iC (N:Nat){σ:Type}(a1:Rk)(fy:(Ry×Ry)->σ->Option (Bool×σ))(s0:σ):Option σ:=
 d7 N fy a1 N 0 s0
theorem qw {N:Nat}{σ:Type}{a1:Rk}{fy:(Ry×Ry)->σ->Option (Bool×σ)}{s0:σ}{r:σ}(h:iC N a1 fy s0=some r){l:Nat}{G:σ->List Chunk}(hY:sj RY l G (fun x=> [.agg #[iV x.1.Sa,iV x.1.N,.string x.1.S],.agg #[iV x.2.Sa,iV x.2.N,.string x.2.S]]) fy):Okc RY 210 [.func (.yield l) #[] #[],pV B1 0] (ar B1 42 [iV a1.Sa,iV a1.Sk,iV a1.Sj,iV a1.Sn,U A2 n2 c2,U A3 n3 c3]::bc A2 n2 c2 a1.Sg::bc A3 n3 c3 a1.Sd::(G s0)) (fun u post=>u=.tuple #[]/\post=G r):=by
 refine cG Tryz.func210 ?_;refine aW (fun m s L=> ∃p5 p6,d7 N fy a1 m p5 p6=some r/\s=[(0,.func (.yield l) #[] #[]),(1,pV B1 0),(3,iV p5)]/\L=bc A2 n2 c2 a1.Sg::bc A3 n3 c3 a1.Sd::ar B1 42 [iV a1.Sa,iV a1.Sk,iV a1.Sj,iV a1.Sn,U A2 n2 c2,U A3 n3 c3]::(G p6)) N _ _ ⟨0,s0,h,J,J⟩ sA (cS [1,2,0] 3) ?_;rintro (_|m4) _ _ ⟨p5,p6,h,rfl,rfl⟩
 ·exact am h
 rw [d7.eq_2] at h;refine sZ ?_;obtain ⟨q7,h⟩:=ah h;refine fd h ?_ ?_<;>intro h
 ·refine sY ?_;refine aL ?_;obtain ⟨x9,b1,b2,b3,h⟩:=bG h;obtain ⟨b0,h⟩:=ah h;obtain ⟨a2,a6,a7,a8,h⟩:=bG h;refine ic (t:=[(0,.func (.yield l) #[] #[]),(1,pV B1 0),(3,iV p5)]) ?_ mw (ae _)
  refine jv I 12 [] [0,5,11] [12,13,14,15,16,17,18,19,20,21,22,23] [[],[],[1],[],[2,3],[4],[],[6],[],[8],[7,9],[10]] [aV (.func (.yield l) #[] #[]),
 aV (pV B1 5),
 aV (U A3 n3 c3),
 aV (iV p5),
 aV (d5 (U A3 n3 c3) p5.toNat 3 0),
 aV (.agg #[iV x9.Sa,iV x9.N,.string x9.S]),
 aV (pV B1 5),
 aV (U A3 n3 c3),
 aV (iV p5),
 aV (iV (p5+1)),
 aV (d5 (U A3 n3 c3) ((p5+1).toNat) 3 0),
 aV (.agg #[iV a2.Sa,iV a2.N,.string a2.S])] [] (ae _) (mf) I rfl rfl ?_ ?_ ?_
  ·exact me
  ·refine ad J ?_ ?_
   ·exact er (pm (us:=[iV a2.Sa,iV a2.N,.string a2.S]) 1 J bj J a8 agg23.out (fun _ _ _ h=>by rw [show _=_ from h];rfl)) J (aQ J (ae _))
   refine ad J ?_ ?_
   ·exact er (gn 1 J bj J J hU size23.out a6 a7) J (aQ J (ae _))
   refine ad J ?_ ?_
   ·exact ci (ia J J b0.1 b0.2) J (aQ J (ae _))
   refine ad J ?_ ?_
   ·exact ci (bo J) J (aQ J (ae _))
   refine ad J ?_ ?_
   ·exact er (qO 2 J J xa J) J (aQ J (ae _))
   refine ad J ?_ ?_
   ·exact ci (gk J wv) J (aQ J (ae _))
   refine ad J ?_ ?_
   ·exact er (pm (us:=[iV x9.Sa,iV x9.N,.string x9.S]) 1 J bj J b3 agg23.out (fun _ _ _ h=>by rw [show _=_ from h];rfl)) J (aQ J (ae _))
   refine ad J ?_ ?_
   ·exact er (gn 1 J bj J J hU size23.out b1 b2) J (aQ J (ae _))
   refine ad J ?_ ?_
   ·exact ci (bo J) J (aQ J (ae _))
   refine ad J ?_ ?_
   ·exact er (qO 2 J J xa J) J (aQ J (ae _))
   refine ad J ?_ ?_
   ·exact ci (gk J wv) J (aQ J (ae _))
   refine ad J ?_ ?_
   ·exact ci (bo J) J (aQ J (ae _))
   exact eJ
  refine oe (t:=[(12,.func (.yield l) #[] #[]),(17,.agg #[iV x9.Sa,iV x9.N,.string x9.S]),(23,.agg #[iV a2.Sa,iV a2.N,.string a2.S]),(0,.func (.yield l) #[] #[]),(1,pV B1 0),(3,iV p5)]) (L':=bc A2 n2 c2 a1.Sg::bc A3 n3 c3 a1.Sd::ar B1 42 [iV a1.Sa,iV a1.Sk,iV a1.Sj,iV a1.Sn,U A2 n2 c2,U A3 n3 c3]::(G p6)) ?_ mw (ae _);obtain ⟨b4,k,h⟩:=aa h;refine pz 12 J I (wj (a:=(x9,a2)) [bc A2 n2 c2 a1.Sg,bc A3 n3 c3 a1.Sd,ar B1 42 [iV a1.Sa,iV a1.Sk,iV a1.Sj,iV a1.Sn,U A2 n2 c2,U A3 n3 c3]] hY k J J) J J J ?_;rintro _ _ ⟨rfl,rfl⟩;refine yU 13 J I (GN J) J J J ?_;refine ms I ?_;refine fd h ?_ ?_<;>intro h
  ·exact eY
  refine ab ?_;obtain ⟨b5,h⟩:=ah h;exact lY
 exact eY
def ll (N:Nat)(a0:Rk):Option Unit:=
 some ()
theorem ud {N:Nat}{a0:Rk}{r:Unit}(h:ll N a0=some r):Okc RY 192 [.agg #[iV a0.Sa,iV a0.Sk,iV a0.Sj,iV a0.Sn,U A1 n1 c1,U A2 n2 c2]] ([bc A1 n1 c1 a0.Sg,bc A2 n2 c2 a0.Sd]) (fun u post=> ∃a1,u=.func (.func 210) #[] #[pV a1 0]/\post=[ac a1 42 [iV a0.Sa,iV a0.Sk,iV a0.Sj,iV a0.Sn,U A1 n1 c1,U A2 n2 c2]]):=by
 refine cG Tryz.func192 ?_;intro B3;refine ab ?_;refine fm (dR J) ?_;exact eN
def uf (N:Nat):Option Int:=
 some (-1)
def kr (N:Nat)(a1:Int)(a0:RL):Nat->Int->Option Int
 |0,_=>none
 |m3+1,p4=>bif decide (p4<(a0.length:Int)) then ((au a0 p4).bind fun x6=>bif decide (a1=x6) then (some p4) else (bn (in64 (p4+1)) ((kr N a1 a0 m3) (p4+1)))) else (uf N)
def qE (N:Nat)(a0:RL)(a1:Int):Option Int:=
 kr N a1 a0 N 0
theorem Ax {N:Nat}{a0:RL}{a1:Int}{r:Int}(h:qE N a0 a1=some r):Okc RY 180 [U A1 n1 c1,iV a1] ([dK A1 n1 c1 a0]) (fun u post=>u=iV r/\post=[]):=by
 refine cG Tryz.func180 ?_;refine ao (fun s L=>uf N=some r/\s=[(4,iV 0)]/\L=[]) ?_ ?_
 ·refine ab ?_;refine aW (fun m s L=> ∃p4,kr N a1 a0 m p4=some r/\s=[(0,U A1 n1 c1),(1,iV a1),(4,iV 0),(7,iV (a0.length:Int)),(8,iV p4)]/\L=[dK A1 n1 c1 a0]) N _ _ ⟨0,h,J,J⟩ sA (cS [0] 1) ?_;rintro (_|m3) _ _ ⟨p4,h,rfl,rfl⟩
  ·exact am h
  rw [kr.eq_2] at h;refine ab ?_;refine aL ?_;refine gH J h ?_ ?_<;>intro h
  ·refine sY ?_;obtain ⟨x6,a2,a6,a7,h⟩:=bG h;refine fd h ?_ ?_<;>intro h
   ·exact eY
   refine ab ?_;obtain ⟨q8,h⟩:=ah h;exact lY
  exact jY
 rintro _ _ ⟨h,rfl,rfl⟩;exact eY
def dA (N:Nat)(a0:RL)(a1:Int):Option Bool:=
 (qE N a0 a1).bind fun y2=>some (decide (0<=y2))
theorem jS {N:Nat}{a0:RL}{a1:Int}{r:Bool}(h:dA N a0 a1=some r):Okc RY 134 [U A1 n1 c1,iV a1] ([dK A1 n1 c1 a0]) (fun u post=>u=.bool r/\post=[]):=by
 refine cG Tryz.func134 ?_;obtain ⟨y2,k,h⟩:=aa h;refine jQ (oR (Ax k)) ?_;exact eN
def gM (N:Nat)(a1:RL)(a2:Ry×Ry):(RL)->Option (Option Exit×RL)
 |p13=>(bif decide (a2.2.Sa=7) then (some true) else (some (decide (a2.2.Sa=9)))).bind fun a6=>(bif a6 then ((dA N a1 a2.1.N).bind fun a7=>some a7) else (some false)).bind fun a8=>bif a8 then (bn (cc (p13.length+([a2.2.N]:List Int).length)) (some (none,p13++([a2.2.N]:List Int)))) else (some (none,p13))
def nv (N:Nat)(a0:Rk)(a1:RL):Option RL:=
 (sI N a0).bind fun y6=>bif !y6 then (some []) else ((ll N a0).bind fun a6=>(iC N a0 (cQ (fun x st=>gM N a1 x st)) (none,[])).bind fun a2=>qc a2.1 (some a2.2) none (fun _=>none))
theorem wO {N:Nat}{a0:Rk}{a1:RL}{r:RL}(h:nv N a0 a1=some r):Okc RY 195 [.agg #[iV a0.Sa,iV a0.Sk,iV a0.Sj,iV a0.Sn,U A1 n1 c1,U A2 n2 c2],U A3 n3 c3] ([bc A1 n1 c1 a0.Sg,bc A2 n2 c2 a0.Sd,dK A3 n3 c3 a1]) (fun u post=> ∃A0 n0 c0,u=U A0 n0 c0/\post=[eG A0 n0 c0 r]):=by
 refine cG Tryz.func195 ?_;intro B4
 refine iD fun B5=> ?_
 refine sZ ?_;obtain ⟨y6,k,h⟩:=aa h;refine jQ (oR (AW k)) ?_;refine gH J h ?_ ?_<;>intro h
 ·refine ab ?_;obtain rfl:=cB h;exact qb J J ((bh (eT .i64) 3 _).trans (cS [0] 6)) ⟨_,_,_,J,J⟩
 refine iD fun B9=> ?_
 refine sZ ?_;obtain ⟨b9,k,h⟩:=aa h;refine gD (oR (ud k)) ?_;rintro _ _ ⟨_,⟨b2,rfl,rfl⟩,rfl⟩;refine ab ?_;refine ic ?_ cD (gL 0 J);obtain ⟨b3,k,h⟩:=aa h;refine th (en:=(fun x=> [.agg #[iV x.1.Sa,iV x.1.N,.string x.1.S],.agg #[iV x.2.Sa,iV x.2.N,.string x.2.S]])) (fun x st=>gM N a1 x st) (fun (st:RL) (mz:((Option Addr×Nat×Nat)))=> [dK A3 n3 c3 a1,ac B5 39 [U A3 n3 c3],eu (eT .i64) 3 (.slice mz.1 mz.2.1 mz.2.2) st,ac B9 39 [.slice mz.1 mz.2.1 mz.2.2]]) [ar b2 42 [iV a0.Sa,iV a0.Sk,iV a0.Sj,iV a0.Sn,U A1 n1 c1,U A2 n2 c2],bc A1 n1 c1 a0.Sg,bc A2 n2 c2 a0.Sd] ([]) ((none,0,0)) J J call210.out J (fun _=>J) (fun l G hY=>(qw k hY).mono fun _ _ hh=>hh.2) ((bh (eT .i64) 3 _).trans (cp [1,5,6] [] [7,3,0,2] 8 J)) h ?_ ?_ ?_ ?_
 ·rintro l b1 p13 je sr12 ⟨a2,a6,a7⟩ h;replace h:gM N a1 b1 p13=some (je,sr12):=h;simp only [yJ,List.zip_cons_cons,List.zip_nil_left,List.zip_nil_right,List.reverse_cons,List.reverse_nil,R4,List.cons_append]
  refine iD fun c8=> ?_
  intro c9;refine ab ?_;refine gS 4 22 18 h ?_;intro d0 h;refine ab ?_;obtain ⟨b4,a8,h⟩:=aa h;refine aH 5 28 b4 ?_ ?_
  ·clear h;refine aE 23 J (fun b0=> ?_) (fun b0=> ?_)
   ·have h:=az b0 a8;refine ab ?_;obtain ⟨d1,k,h⟩:=aa h;refine gU (oR (jS k)) (cY b0 J) ?_;exact gY
   have h:=aA b0 a8;exact gY
  refine fd h ?_ ?_<;>intro h
  ·refine ab ?_;refine gD (aY (R:=(eT .i64)) (vss:=[[iV b1.2.N]]) (xs:=[b1.2.N]) J (lF _) J J (fun _ _ hr=> .cons J All2.nil)) ?_;rintro _ _ ⟨d2,d3,d4,rfl,rfl⟩;obtain ⟨b5,h⟩:=ah h
   refine nr (aX 5 0 J J aI J J t0 ES J J b5) fun b6 b7 b8=> ?_
   obtain ⟨rfl,rfl⟩:=Prod.mk.inj (Option.some.inj h);exact AG ((cS [3,4,5,6] 7).trans (fQ (b6,b7,b8) J))
  refine ab ?_;obtain ⟨rfl,rfl⟩:=Prod.mk.inj (Option.some.inj h);exact AG ((cS [2,3,4,5] 6).trans (fQ (a2,a6,a7) J))
 ·rintro ⟨a2,a6,a7⟩ h;refine pc ([dK A3 n3 c3 a1,ac B5 39 [U A3 n3 c3],eG a2 a6 a7 b3.2,ac B9 39 [U a2 a6 a7]]) J ?_;exact eY
 ·rintro ⟨a2,a6,a7⟩ h;exact am h
 rintro i ⟨a2,a6,a7⟩ h;exact am h
theorem Ar {r:RL}: ∀v post,((fun (u:Value) (post:List Chunk)=> ∃A0 n0 c0,u=U A0 n0 c0/\post=[eG A0 n0 c0 r])) v post-> ∀c∈post,jJ c:=by
 rintro _ _ ⟨_,_,_,rfl,rfl⟩;exact hJ pt (ay)
def rW (N:Nat)(a0:Ru)(p7:RS)(p8:RS)(p9:RL)(a1:(List (Int×Unit)))(a2:Int):Option (Bool×Ru):=
 some (decide ((a0.SB.length:Int)<(p9.length:Int)),(⟨(⟨p7,p8⟩:Rp),p9,a1,a2⟩:Ru))
def ke (N:Nat)(a1:Int->RS->RS->RL->(List (Int×Unit))->Int->Option (Bool×Ru))(a0:Ru)(a2:Int)(a6:RS)(a7:RS)(a8:RL)(b0:(List (Int×Unit)))(b1:Int):Option (Bool×Ru):=
 bn (in64 (a2+1)) (a1 (a2+1) a6 a7 a8 b0 b1)
def di (N:Nat)(a0:Ru):Nat->Int->RS->RS->RL->(List (Int×Unit))->Int->Option (Bool×Ru)
 |0,_,_,_,_,_,_=>none
 |b2+1,a6,a7,a8,a1,b0,b1=>bif decide (a6<((List.take a0.SB.length a0.SB).length:Int)) then ((au (List.take a0.SB.length a1) a6).bind fun b4=>(kg N (⟨a7,a8⟩:Rp) b4).bind fun b3=>bif decide (b3.Sa=8) then ((nv N b3 a1).bind fun b5=>(dW N (⟨(⟨a7,a8⟩:Rp),a1,b0,b1⟩:Ru) b5).bind fun a2=>ke N (di N a0 b2) a0 a6 a2.m_.Se a2.m_.Sc a2.SB a2.Sw a2.SN) else (ke N (di N a0 b2) a0 a6 a7 a8 a1 b0 b1)) else (rW N a0 a7 a8 a1 b0 b1)
def jy (N:Nat)(a0:Ru):Option (Bool×Ru):=
 di N a0 N 0 a0.m_.Se a0.m_.Sc a0.SB a0.Sw a0.SN
theorem xU {N:Nat}{a0:Ru}{r:Bool×Ru}(h:jy N a0=some r):Okc RY 190 [pV B1 0] ([bi A2 n2 c2 a0.m_.Se,bi A3 n3 c3 a0.m_.Sc,ac B1 229 [U A2 n2 c2,U A3 n3 c3,U A4 n4 c4,.map (some M5),iV a0.SN],eG A4 n4 c4 a0.SB,aj bf Ai M5 a0.Sw]) (fun u post=> ∃A0 n0 c0 A1 n1 c1 A2 n2 c2 M3,u=.bool r.1/\post=[ac B1 229 [U A0 n0 c0,U A1 n1 c1,U A2 n2 c2,.map (some M3),iV r.2.SN],bi A0 n0 c0 r.2.m_.Se,bi A1 n1 c1 r.2.m_.Sc,eG A2 n2 c2 r.2.SB,aj bf Ai M3 r.2.Sw]):=by
 refine cG Tryz.func190 ?_;refine ao (fun s L=> ∃p7 p8 p9 e5 e6 A7 n7 c7 A8 n8 c8 A9 n9 c9 e7,rW N a0 p7 p8 p9 e5 e6=some r/\s=[(0,pV B1 0),(2,.bool false),(3,iV (a0.SB.length:Int))]/\L=[bi A7 n7 c7 p7,bi A8 n8 c8 p8,eG A9 n9 c9 p9,aj bf Ai e7 e5,ac B1 229 [U A7 n7 c7,U A8 n8 c8,U A9 n9 c9,.map (some e7),iV e6]]) ?_ ?_
 ·refine ab ?_;refine nu (Ku 3 J) ?_;refine gD (La (n:=a0.SB.length) 3 J J t0 size3.out J J J (Nat.le_refl _)) ?_;rintro _ _ ⟨a8,rfl,rfl⟩;refine Dv (lw 3 J Cp J t0) ?_;refine aW (fun m s L=> ∃b0 b8 b9 d0 d1 d2 b1 b2 b3 b4 b5 b6 a2 a6 a7 b7,di N a0 m b0 b8 b9 d0 d1 d2=some r/\s=[(0,pV B1 0),(2,.bool false),(3,iV (a0.SB.length:Int)),(18,.slice a8 a0.SB.length a0.SB.length),(19,iV ((List.take a0.SB.length a0.SB).length:Int)),(20,iV b0)]/\L=[bi b1 b2 b3 b8,bi b4 b5 b6 b9,lD (eT .i64) 3 (U a2 a6 a7) d0 (.slice a8 a0.SB.length a0.SB.length) a0.SB.length,aj bf Ai b7 d1,ac B1 229 [U b1 b2 b3,U b4 b5 b6,U a2 a6 a7,.map (some b7),iV d2]]) N _ _ ⟨0,a0.m_.Se,a0.m_.Sc,a0.SB,a0.Sw,a0.SN,A2,n2,c2,A3,n3,c3,A4,n4,c4,M5,h,J,J⟩ sA (cS [0,1,3,4,2] 5) ?_;rintro (_|h3) _ _ ⟨b0,b8,b9,d0,d1,d2,b1,b2,b3,b4,b5,b6,a2,a6,a7,b7,h,rfl,rfl⟩
  ·exact am h
  rw [di.eq_2] at h;refine ab ?_;refine aL ?_;refine gH J h ?_ ?_<;>intro h
  ·refine ab ?_;refine ao (fun s L=> ∃e8 e9 f1 f2 f3 f4 g0 g1 g2 g3 g4 g5 g6 g7 g8,ke N (di N a0 h3) a0 b0 e8 e9 f1 f2 f3=some r/\s=[(0,pV B1 0),(2,.bool false),(3,iV (a0.SB.length:Int)),(18,.slice a8 a0.SB.length a0.SB.length),(19,iV ((List.take a0.SB.length a0.SB).length:Int)),(20,iV b0)]/\L=[bi f4 g0 g1 e8,bi g2 g3 g4 e9,lD (eT .i64) 3 (U g5 g6 g7) f1 (.slice a8 a0.SB.length a0.SB.length) a0.SB.length,aj bf Ai g8 f2,ac B1 229 [U f4 g0 g1,U g2 g3 g4,U g5 g6 g7,.map (some g8),iV f3]]) ?_ ?_
   ·refine ab ?_;obtain ⟨h4,g9,h0,h1,h⟩:=bG h;refine gR (gn 2 J Cp J J t0 size3.out g9 h0) ?_;refine Dv (iO (u:=iV h4) 2 J Cp J h1 su (fun _ _ _ h=>by rw [show _=_ from h];rfl)) ?_;obtain ⟨a1,k,h⟩:=aa h
    refine Ew (oR (uU k)) fun d3 d4 d6 e2 e3 e4=> ?_
    intro h2;refine fd h ?_ ?_<;>intro h
    ·refine ic (t:=[(0,pV B1 0),(2,.bool false),(3,iV (a0.SB.length:Int)),(6,pV h2 0),(18,.slice a8 a0.SB.length a0.SB.length),(19,iV ((List.take a0.SB.length a0.SB).length:Int)),(20,iV b0)]) ?_ mw (ae _)
     refine jv I 6 [0] [0,1,5] [33,34,35,36,37,38] [[],[],[],[2],[3],[4]] [aV (pV B1 0),
 aV (.agg #[iV a1.Sa,iV a1.Sk,iV a1.Sj,iV a1.Sn,U d3 d4 d6,U e2 e3 e4]),
 aV (pV B1 0),
 aV (pV B1 0),
 aV (pV B1 2),
 aV (U a2 a6 a7)] [] (ae _) (wg rfl mf) I rfl rfl ?_ ?_ ?_
     ·refine we J ?_ ?_
      ·exact DS (bo J) J (aQ J (ae _))
      exact me
     ·refine ad J ?_ ?_
      ·exact er (bL 7 J J Aa J) J (aQ J (ae _))
      refine ad J ?_ ?_
      ·exact ci (gk J Ck) J (aQ J (ae _))
      refine ad J ?_ ?_
      ·exact ci (bz J) J (aQ J (ae _))
      refine ad J ?_ ?_
      ·exact ci (bo J) J (aQ J (ae _))
      refine ad J ?_ ?_
      ·exact er (mM (us:=[iV a1.Sa,iV a1.Sk,iV a1.Sj,iV a1.Sn,U d3 d4 d6,U e2 e3 e4]) 0 J J agg42.out J) J (aQ J (ae _))
      refine ad J ?_ ?_
      ·exact ci (bo J) J (aQ J (ae _))
      exact eJ
     refine oe (t:=[(33,pV B1 0),(34,.agg #[iV a1.Sa,iV a1.Sk,iV a1.Sj,iV a1.Sn,U d3 d4 d6,U e2 e3 e4]),(38,U a2 a6 a7),(0,pV B1 0),(2,.bool false),(3,iV (a0.SB.length:Int)),(6,pV h2 0),(18,.slice a8 a0.SB.length a0.SB.length),(19,iV ((List.take a0.SB.length a0.SB).length:Int)),(20,iV b0)]) (L':=[ac h2 42 [iV a1.Sa,iV a1.Sk,iV a1.Sj,iV a1.Sn,U d3 d4 d6,U e2 e3 e4],aw d3 d4 d6 a1.Sg,aw e2 e3 e4 a1.Sd,bi b1 b2 b3 b8,bi b4 b5 b6 b9,lD (eT .i64) 3 (U a2 a6 a7) d0 (.slice a8 a0.SB.length a0.SB.length) a0.SB.length,aj bf Ai b7 d1,ac B1 229 [U b1 b2 b3,U b4 b5 b6,U a2 a6 a7,.map (some b7),iV d2]]) ?_ mw (ae _);obtain ⟨h5,k,h⟩:=aa h;refine pz 6 J I (bV (wO k) call195.out J (hJ (ai (i:=1) J) (hJ (ai (i:=2) J) (hJ (Is (i:=5) J) ay))) Ar) J J J ?_;rintro _ _ ⟨_,⟨h6,h7,h8,rfl,rfl⟩,rfl⟩;refine oe ?_ cD (bJ 0 J);obtain ⟨h9,k,h⟩:=aa h;refine pz 7 J I (oC (xp k)) J J J ?_;rintro _ _ ⟨_,⟨i0,i1,i2,i8,j0,j1,j2,j3,j4,j5,rfl,rfl⟩,rfl⟩;refine ms I ?_;exact jY
    exact jY
   rintro _ _ ⟨e8,e9,f1,f2,f3,f4,g0,g1,g2,g3,g4,g5,g6,g7,g8,h,rfl,rfl⟩;refine ab ?_;obtain ⟨j6,h⟩:=ah h;exact lY
  refine ab ?_;exact ⟨_,_,⟨b8,b9,d0,d1,d2,b1,b2,b3,b4,b5,b6,a2,a6,a7,b7,h,J,J⟩,sA,(IP 2 J).trans (cS [0,1,2,3,4] 5)⟩
 rintro _ _ ⟨p7,p8,p9,e5,e6,A7,n7,c7,A8,n8,c8,A9,n9,c9,e7,h,rfl,rfl⟩;exact eY
def pG (N:Nat)(a2:RS)(p13:RS)(a1:RL)(a6:(List (Int×Unit)))(a7:Int):Option RL:=
 some a1
def ky (N:Nat):Nat->RS->RS->RL->(List (Int×Unit))->Int->Option RL
 |0,_,_,_,_,_=>none
 |a6+1,a7,a8,b0,p21,b1=>(jy N (⟨(⟨a7,a8⟩:Rp),b0,p21,b1⟩:Ru)).bind fun a1=>bif a1.1 then ((gg N a1.2).bind fun a2=>(ky N a6) a2.m_.Se a2.m_.Sc a2.SB a2.Sw a2.SN) else (pG N a1.2.m_.Se a1.2.m_.Sc a1.2.SB a1.2.Sw a1.2.SN)
def kG (N:Nat)(a0:Rp)(a1:RJ):Option RL:=
 (mD N a0 a1).bind fun y5=>ky N N y5.m_.Se y5.m_.Sc y5.SB y5.Sw y5.SN
theorem Bp {N:Nat}{a0:Rp}{a1:RJ}{r:RL}(h:kG N a0 a1=some r):Okc RY 164 [.agg #[U A1 n1 c1,U A2 n2 c2],U A3 n3 c3] ([bi A1 n1 c1 a0.Se,bi A2 n2 c2 a0.Sc,bc A3 n3 c3 a1]) (fun u post=> ∃A0 n0 c0,u=U A0 n0 c0/\post=[eG A0 n0 c0 r]):=by
 refine cG Tryz.func164 ?_;intro B4;refine ab ?_;obtain ⟨y5,k,h⟩:=aa h;refine gD (oC (Bo k)) ?_;rintro _ _ ⟨_,⟨B6,A7,n7,c7,A8,n8,c8,A9,n9,c9,f1,rfl,rfl⟩,rfl⟩;refine ab ?_;refine ao (fun s L=> ∃a2 p13 a6 a7 a8 b0 b1 b2 b3 b4 b5 b6 b7 b8 b9,pG N a2 p13 a6 a7 a8=some r/\s=[(4,U none 0 0),(5,pV B6 0)]/\L=[bi b0 b1 b2 a2,bi b3 b4 b5 p13,eG b6 b7 b8 a6,aj bf Ai b9 a7,ac B6 229 [U b0 b1 b2,U b3 b4 b5,U b6 b7 b8,.map (some b9),iV a8]]) ?_ ?_
 ·refine ab ?_;refine aW (fun m s L=> ∃d0 d1 d2 p21 d3 d4 d6 e2 e3 e4 e5 e6 e7 e8 e9,ky N m d0 d1 d2 p21 d3=some r/\s=[(4,U none 0 0),(5,pV B6 0)]/\L=[bi d4 d6 e2 d0,bi e3 e4 e5 d1,eG e6 e7 e8 d2,aj bf Ai e9 p21,ac B6 229 [U d4 d6 e2,U e3 e4 e5,U e6 e7 e8,.map (some e9),iV d3]]) N _ _ ⟨y5.m_.Se,y5.m_.Sc,y5.SB,y5.Sw,y5.SN,A7,n7,c7,A8,n8,c8,A9,n9,c9,f1,h,J,J⟩ sA (cS [1,2,3,4,0] 9) ?_;rintro (_|f2) _ _ ⟨d0,d1,d2,p21,d3,d4,d6,e2,e3,e4,e5,e6,e7,e8,e9,h,rfl,rfl⟩
  ·exact am h
  rw [ky.eq_2] at h;refine sZ ?_;obtain ⟨f3,k,h⟩:=aa h;refine gD (oC (xU k)) ?_;rintro _ _ ⟨_,⟨f4,g0,g1,g2,g3,g4,g5,g6,g7,g8,rfl,rfl⟩,rfl⟩;refine fd h ?_ ?_<;>intro h
  ·refine ab ?_;obtain ⟨g9,k,h⟩:=aa h;refine gD (oC (pk k)) ?_;rintro _ _ ⟨_,⟨h0,h1,h2,h3,h4,h5,h6,h7,h8,h9,rfl,rfl⟩,rfl⟩;exact lY
  exact jY
 rintro _ _ ⟨a2,p13,a6,a7,a8,b0,b1,b2,b3,b4,b5,b6,b7,b8,b9,h,rfl,rfl⟩;exact eY
def sg (N:Nat)(a0:Int):Option Bool:=
 some (!decide (a0=a0))
theorem yO {N:Nat}{a0:Int}{r:Bool}(h:sg N a0=some r):Okc RY 182 [iV a0] ([]) (fun u post=>u=.bool r/\post=[]):=by
 refine cG Tryz.func182 ?_;exact eN
def t7 (N:Nat)(a0:Int)(a1:Int):Option Bool:=
 (sg N a0).bind fun y1=>(bif y1 then ((sg N a1).bind fun y3=>some (!y3)) else (some false)).bind fun b2=>(bif b2 then (some true) else (some (decide (a0<a1)))).bind fun b4=>some b4
theorem FU {N:Nat}{a0:Int}{a1:Int}{r:Bool}(h:t7 N a0 a1=some r):Okc RY 144 [iV a0,iV a1] ([]) (fun u post=>u=.bool r/\post=[]):=by
 refine cG Tryz.func144 ?_;obtain ⟨y1,k,h⟩:=aa h;refine jQ (oR (yO k)) ?_;obtain ⟨b2,a2,h⟩:=aa h;refine aH 4 11 b2 ?_ ?_
 ·clear h;refine aE 7 J (fun g2=> ?_) (fun g2=> ?_)
  ·have h:=az g2 a2;refine ab ?_;obtain ⟨y3,k,h⟩:=aa h;refine gU (oR (yO k)) (cY g2 J) ?_;exact gY
  have h:=aA g2 a2;exact gY
 refine ab ?_;refine gS 4 16 12 h ?_;intro b4 h;exact eY
theorem CY {r:Bool}: ∀v post,((fun (u:Value) (post:List Chunk)=>u=.bool r/\post=[])) v post-> ∀c∈post,jJ c:=by
 rintro _ _ ⟨rfl,rfl⟩;exact ay
def lL (N:Nat)(a0:Rp)(a1:RJ):Option RL:=
 (kG N a0 a1).bind fun y5=>(oW N y5).bind fun y7=>some y7
theorem CP {N:Nat}{a0:Rp}{a1:RJ}{r:RL}(h:lL N a0 a1=some r):Okc RY 124 [.agg #[U A1 n1 c1,U A2 n2 c2],U A3 n3 c3] ([bi A1 n1 c1 a0.Se,bi A2 n2 c2 a0.Sc,bc A3 n3 c3 a1]) (fun u post=> ∃A0 n0 c0,u=U A0 n0 c0/\post=[eG A0 n0 c0 r]):=by
 refine cG Tryz.func124 ?_;intro B4;refine ab ?_;obtain ⟨y5,k,h⟩:=aa h
 refine nr (oR (Bp k)) fun A6 n6 c6=> ?_
 obtain ⟨y7,k,h⟩:=aa h;refine jQ (oC (Bg k)) ?_;exact eN
def nQ (N:Nat){σ:Type}(a2:Int->Int->σ->Option σ)(fy:(Int×Int)->σ->Option (Bool×σ))(p6:Int)(a1:RL)(a6:Int)(a7:σ):Option σ:=
 bn (in64 (p6+1)) (a2 a6 (p6+1) a7)
def kj (N:Nat){σ:Type}(b0:Int->Int->σ->Option σ)(a2:Int->Int->σ->Option σ)(fy:(Int×Int)->σ->Option (Bool×σ))(b1:Int)(p6:Int)(a1:RL)(a6:Int)(a7:Int)(a8:σ):Option σ:=
 bn (in64 (a6+1)) (a2 a7 (a6+1) a8)
def cN (N:Nat){σ:Type}(a2:Int->Int->σ->Option σ)(fy:(Int×Int)->σ->Option (Bool×σ))(a6:Int)(p6:Int)(a1:RL):Nat->Int->Int->σ->Option σ
 |0,_,_,_=>none
 |b2+1,a7,a8,b0=>bif decide (a8<(a1.length:Int)) then ((au a1 a8).bind fun b3=>bif !decide (b3.tmod 2=a6) then (kj N a2 (cN N a2 fy a6 p6 a1 b2) fy a6 p6 a1 a8 a7 b0) else ((fy (a7,b3) b0).bind fun b1=>bif !b1.1 then (some b1.2) else (bn (in64 (a7+1)) (kj N a2 (cN N a2 fy a6 p6 a1 b2) fy a6 p6 a1 a8 (a7+1) b1.2)))) else (nQ N a2 fy p6 a1 a7 b0)
def eF (N:Nat){σ:Type}(fy:(Int×Int)->σ->Option (Bool×σ))(a1:RL):Nat->Int->Int->σ->Option σ
 |0,_,_,_=>none
 |m4+1,p5,p6,p7=>bif decide (p6<(([0,1]:List Int).length:Int)) then ((au ([0,1]:List Int) p6).bind fun a2=>cN N (eF N fy a1 m4) fy a2 p6 a1 N p5 0 p7) else (some p7)
def fi (N:Nat){σ:Type}(a1:RL)(fy:(Int×Int)->σ->Option (Bool×σ))(s0:σ):Option σ:=
 eF N fy a1 N 0 0 s0
theorem r8 {N:Nat}{σ:Type}{a1:RL}{fy:(Int×Int)->σ->Option (Bool×σ)}{s0:σ}{r:σ}(h:fi N a1 fy s0=some r){l:Nat}{G:σ->List Chunk}(hY:sj RY l G (fun x=> [iV x.1,iV x.2]) fy):Okc RY 165 [.func (.yield l) #[] #[],pV B1 0] (ar B1 39 [U A2 n2 c2]::dK A2 n2 c2 a1::(G s0)) (fun u post=>u=.tuple #[]/\post=G r):=by
 refine cG Tryz.func165 ?_
 refine nr (aY (R:=(eT .i64)) (vss:=[[iV 0],[iV 1]]) (xs:=[0,1]) J (KA _ _) J J (fun _ _ hr=> .cons J (.cons J All2.nil))) fun A3 n3 c3=> ?_
 refine aW (fun m s L=> ∃p5 p6 p7,eF N fy a1 m p5 p6 p7=some r/\s=[(0,.func (.yield l) #[] #[]),(1,pV B1 0),(3,iV p5),(8,U A3 n3 c3),(9,iV (([0,1]:List Int).length:Int)),(10,iV p6)]/\L=eG A3 n3 c3 ([0,1]:List Int)::dK A2 n2 c2 a1::ar B1 39 [U A2 n2 c2]::(G p7)) N _ _ ⟨0,0,s0,h,J,J⟩ sA (cS [0,2,1] 3) ?_;rintro (_|m4) _ _ ⟨p5,p6,p7,h,rfl,rfl⟩
 ·exact am h
 rw [eF.eq_2] at h;refine ab ?_;refine aL ?_;refine gH J h ?_ ?_<;>intro h
 ·refine ab ?_;refine ao (fun s L=> ∃a8 b0,nQ N (eF N fy a1 m4) fy p6 a1 a8 b0=some r/\s=[(0,.func (.yield l) #[] #[]),(1,pV B1 0),(3,iV a8),(8,U A3 n3 c3),(9,iV (([0,1]:List Int).length:Int)),(10,iV p6)]/\L=eG A3 n3 c3 ([0,1]:List Int)::dK A2 n2 c2 a1::ar B1 39 [U A2 n2 c2]::(G b0)) ?_ ?_
  ·refine ab ?_;obtain ⟨a2,b4,b5,b6,h⟩:=bG h;refine ab ?_;refine aW (fun m s L=> ∃a7 a6 b1,cN N (eF N fy a1 m4) fy a2 p6 a1 m a7 a6 b1=some r/\s=[(0,.func (.yield l) #[] #[]),(1,pV B1 0),(3,iV a7),(5,iV a2),(8,U A3 n3 c3),(9,iV (([0,1]:List Int).length:Int)),(10,iV p6),(14,U A2 n2 c2),(15,iV (a1.length:Int)),(16,iV a6)]/\L=eG A3 n3 c3 ([0,1]:List Int)::dK A2 n2 c2 a1::ar B1 39 [U A2 n2 c2]::(G b1)) N _ _ ⟨p5,0,p7,h,J,J⟩ sA (cS [0,1,2] 3) ?_;rintro (_|b7) _ _ ⟨a7,a6,b1,h,rfl,rfl⟩
   ·exact am h
   rw [cN.eq_2] at h;refine ab ?_;refine aL ?_;refine gH J h ?_ ?_<;>intro h
   ·refine ab ?_;refine ao (fun s L=> ∃b2 b3,kj N (eF N fy a1 m4) (cN N (eF N fy a1 m4) fy a2 p6 a1 b7) fy a2 p6 a1 a6 b2 b3=some r/\s=[(0,.func (.yield l) #[] #[]),(1,pV B1 0),(3,iV b2),(5,iV a2),(8,U A3 n3 c3),(9,iV (([0,1]:List Int).length:Int)),(10,iV p6),(14,U A2 n2 c2),(15,iV (a1.length:Int)),(16,iV a6)]/\L=eG A3 n3 c3 ([0,1]:List Int)::dK A2 n2 c2 a1::ar B1 39 [U A2 n2 c2]::(G b3)) ?_ ?_
    ·refine ab ?_;obtain ⟨b8,b9,c0,c8,h⟩:=bG h;refine sY ?_;refine fm (rk J J (by decide)) ?_;refine gH J h ?_ ?_<;>intro h
     ·exact jY
     refine sY ?_;obtain ⟨c9,k,h⟩:=aa h;refine gD (wj (a:=(a7,b8)) [eG A3 n3 c3 ([0,1]:List Int),dK A2 n2 c2 a1,ar B1 39 [U A2 n2 c2]] hY k J J) ?_;rintro _ _ ⟨rfl,rfl⟩;refine fd h ?_ ?_<;>intro h
     ·exact eY
     refine ab ?_;obtain ⟨d0,h⟩:=ah h;exact jY
    rintro _ _ ⟨b2,b3,h,rfl,rfl⟩;refine ab ?_;obtain ⟨d1,h⟩:=ah h;exact lY
   exact jY
  rintro _ _ ⟨a8,b0,h,rfl,rfl⟩;refine ab ?_;obtain ⟨d2,h⟩:=ah h;exact lY
 exact eY
def kK (N:Nat)(a0:RL):Option Unit:=
 some ()
theorem vq {N:Nat}{a0:RL}{r:Unit}(h:kK N a0=some r):Okc RY 125 [U A1 n1 c1] ([dK A1 n1 c1 a0]) (fun u post=> ∃a1,u=.func (.func 165) #[] #[pV a1 0]/\post=[ac a1 39 [U A1 n1 c1]]):=by
 refine cG Tryz.func125 ?_;intro B2;refine ab ?_;refine fm (dR J) ?_;exact eN
def iy (N:Nat)(a0:Ry)(a1:RL):Option Bool:=
 (dA N a1 a0.N).bind fun y4=>some y4
theorem yY {N:Nat}{a0:Ry}{a1:RL}{r:Bool}(h:iy N a0 a1=some r):Okc RY 169 [(fX a0),pV B1 0] ([ar B1 39 [U A2 n2 c2],dK A2 n2 c2 a1]) (fun u post=>u=.bool r/\post=[]):=by
 refine cG Tryz.func169 ?_;intro B3;refine ab ?_;obtain ⟨y4,k,h⟩:=aa h;refine jQ (oR (jS k)) ?_;exact eN
def i4 (N:Nat)(ff:Ry->Option Bool)(y6:Rk)(a1:Ry×Ry):(RJ)->Option (Option Exit×RJ)
 |p13=>(ff a1.1).bind fun a2=>bif a2 then (bn (cc (p13.length+([a1.1,a1.2]:List Ry).length)) (some (none,p13++([a1.1,a1.2]:List Ry)))) else (some (none,p13))
def uB (N:Nat)(a0:Rk)(ff:Ry->Option Bool):Option Rk:=
 (eg N a0).bind fun y6=>(ll N a0).bind fun a2=>(iC N a0 (cQ (fun x st=>i4 N ff y6 x st)) (none,[])).bind fun a1=>qc a1.1 (some (⟨y6.Sa,y6.Sk,y6.Sj,y6.Sn,y6.Sg,a1.2⟩:Rk)) none (fun _=>none)
theorem DZ {N:Nat}{a0:Rk}{ff:Ry->Option Bool}{r:Rk}(h:uB N a0 ff=some r){vf:Value}{G:List Chunk}(hf:G5 RY vf G (fun x=> [.agg #[iV x.Sa,iV x.N,.string x.S]]) (fun r=> .bool r) ff):Okc RY 168 [.agg #[iV a0.Sa,iV a0.Sk,iV a0.Sj,iV a0.Sn,U A1 n1 c1,U A2 n2 c2],vf] (bc A1 n1 c1 a0.Sg::bc A2 n2 c2 a0.Sd::G) (fun u post=> ∃A0 n0 c0 A1 n1 c1,u=.agg #[iV r.Sa,iV r.Sk,iV r.Sj,iV r.Sn,U A0 n0 c0,U A1 n1 c1]/\post=[aw A0 n0 c0 r.Sg,aw A1 n1 c1 r.Sd]):=by
 refine cG Tryz.func168 ?_;intro B3
 refine Qy (BI J (J0 hf)) fun B4=> ?_
 intro B5;refine ab ?_;obtain ⟨y6,k,h⟩:=aa h
 refine Ew (oR (i3 k)) fun A7 n7 c7 A8 n8 c8=> ?_
 intro B9;refine sY ?_;obtain ⟨b7,k,h⟩:=aa h;refine gD (oR (ud k)) ?_;rintro _ _ ⟨_,⟨a8,rfl,rfl⟩,rfl⟩;refine ab ?_;refine ic ?_ cD (gL 0 J);refine ab ?_;obtain ⟨b0,k,h⟩:=aa h;refine th (en:=(fun x=> [.agg #[iV x.1.Sa,iV x.1.N,.string x.1.S],.agg #[iV x.2.Sa,iV x.2.N,.string x.2.S]])) (fun x st=>i4 N ff y6 x st) (fun (st:RJ) (mz:((Option Addr×Nat×Nat)))=> [ac B4 89 [vf],ac B5 42 [iV 0,iV 0,iV 0,iV 0,U none 0 0,U none 0 0],aw A7 n7 c7 y6.Sg,eu aF 23 (.slice mz.1 mz.2.1 mz.2.2) st,ac B9 42 [iV y6.Sa,iV y6.Sk,iV y6.Sj,iV y6.Sn,U A7 n7 c7,.slice mz.1 mz.2.1 mz.2.2]]++G) [ar a8 42 [iV a0.Sa,iV a0.Sk,iV a0.Sj,iV a0.Sn,U A1 n1 c1,U A2 n2 c2],bc A1 n1 c1 a0.Sg,bc A2 n2 c2 a0.Sd] ([]) ((none,0,0)) J J call210.out J (fun _=>J) (fun l G hY=>(qw k hY).mono fun _ _ hh=>hh.2) ((bh aF 23 _).trans (cp [1,8,9] [] [6,5,3,0,2] 10 J)) h ?_ ?_ ?_ ?_
 ·rintro l a1 p13 je sr12 ⟨a2,a6,a7⟩ h;replace h:i4 N ff y6 a1 p13=some (je,sr12):=h;simp only [yJ,List.zip_cons_cons,List.zip_nil_left,List.zip_nil_right,List.reverse_cons,List.reverse_nil,R4,List.cons_append]
  refine iD fun b1=> ?_
  intro b2;refine ab ?_;obtain ⟨b8,k,h⟩:=aa h;refine gD (BH (a:=a1.1) [ac b2 23 [iV a1.2.Sa,iV a1.2.N,.string a1.2.S],ac b1 23 [iV a1.1.Sa,iV a1.1.N,.string a1.1.S],ac B4 89 [vf],ac B5 42 [iV 0,iV 0,iV 0,iV 0,U none 0 0,U none 0 0],aw A7 n7 c7 y6.Sg,aw a2 a6 a7 p13,ac B9 42 [iV y6.Sa,iV y6.Sk,iV y6.Sj,iV y6.Sn,U A7 n7 c7,U a2 a6 a7]] hf k J J) ?_;rintro _ _ ⟨rfl,rfl⟩;refine fd h ?_ ?_<;>intro h
  ·refine ab ?_;refine gD (aY (R:=aF) (vss:=[[iV a1.1.Sa,iV a1.1.N,.string a1.1.S],[iV a1.2.Sa,iV a1.2.N,.string a1.2.S]]) (xs:=[a1.1,a1.2]) J (vK _ _ _ _ _ _) J J (fun _ _ hr=> .cons J (.cons J All2.nil))) ?_;rintro _ _ ⟨b9,c9,d0,rfl,rfl⟩;obtain ⟨b3,h⟩:=ah h
   refine nr (aX 6 0 J J aI J J hU yW J J b3) fun b4 b5 b6=> ?_
   obtain ⟨rfl,rfl⟩:=Prod.mk.inj (Option.some.inj h);exact AG ((cS [3,4,5,6,7] 8).trans (fQ (b4,b5,b6) J))
  refine ab ?_;obtain ⟨rfl,rfl⟩:=Prod.mk.inj (Option.some.inj h);exact AG ((cS [2,3,4,5,6] 7).trans (fQ (a2,a6,a7) J))
 ·rintro ⟨a2,a6,a7⟩ h;refine pc (ac B4 89 [vf]::ac B5 42 [iV 0,iV 0,iV 0,iV 0,U none 0 0,U none 0 0]::aw A7 n7 c7 y6.Sg::aw a2 a6 a7 b0.2::ac B9 42 [iV y6.Sa,iV y6.Sk,iV y6.Sj,iV y6.Sn,U A7 n7 c7,U a2 a6 a7]::G) J ?_;refine ab ?_;obtain rfl:=cB h;exact ox (rs:=[.cell 4 42]) (vs:=[.agg #[iV y6.Sa,iV y6.Sk,iV y6.Sj,iV y6.Sn,U A7 n7 c7,U a2 a6 a7]]) J (.cons (ij 1 J J agg42.out) .nil) J (Mr [2,3] 5 J J) ⟨_,_,_,_,_,_,J,J⟩
 ·rintro ⟨a2,a6,a7⟩ h;exact am h
 rintro i ⟨a2,a6,a7⟩ h;exact am h
def lH (N:Nat)(a0:Rk)(a1:RL):Option Rk:=
 (sI N a0).bind fun y7=>bif !y7 then (some (⟨0,0,0,0,[],[]⟩:Rk)) else ((uB N a0 (fun x=>iy N x a1)).bind fun a2=>some a2)
theorem wP {N:Nat}{a0:Rk}{a1:RL}{r:Rk}(h:lH N a0 a1=some r):Okc RY 127 [.agg #[iV a0.Sa,iV a0.Sk,iV a0.Sj,iV a0.Sn,U A1 n1 c1,U A2 n2 c2],U A3 n3 c3] ([bc A1 n1 c1 a0.Sg,bc A2 n2 c2 a0.Sd,dK A3 n3 c3 a1]) (fun u post=> ∃A0 n0 c0 A1 n1 c1,u=.agg #[iV r.Sa,iV r.Sk,iV r.Sj,iV r.Sn,U A0 n0 c0,U A1 n1 c1]/\post=[aw A0 n0 c0 r.Sg,aw A1 n1 c1 r.Sd]):=by
 refine cG Tryz.func127 ?_;intro B4
 refine iD fun B5=> ?_
 intro B6;refine sY ?_;obtain ⟨y7,k,h⟩:=aa h;refine jQ (oR (AW k)) ?_;refine gH J h ?_ ?_<;>intro h
 ·refine ab ?_;obtain rfl:=cB h;exact ox (rs:=[.cell 4 42]) (vs:=[.agg #[iV 0,iV 0,iV 0,iV 0,U none 0 0,U none 0 0]]) J (.cons (ij 0 J J agg42.out) .nil) J ((bh aF 23 _).trans ((bh aF 23 _).trans (cS [1,0] 8))) ⟨_,_,_,_,_,_,J,J⟩
 refine ab ?_;refine gE (dR J) ?_;obtain ⟨a2,k,h⟩:=aa h
 refine Ew (oR (DZ k ⟨hJ J (hJ J ay),169, #[], #[pV B5 0],J,call169.out,fun _ _ hh=>yY hh⟩)) fun a6 a7 a8 b0 b1 b2=> ?_
 exact eN
def sa (N:Nat)(a0:Rk):Option Bool:=
 (bif decide (a0.Sa=10) then ((fA N a0).bind fun y5=>some y5) else (some false)).bind fun b4=>some b4
theorem Ez {N:Nat}{a0:Rk}{r:Bool}(h:sa N a0=some r):Okc RY 170 [.agg #[iV a0.Sa,iV a0.Sk,iV a0.Sj,iV a0.Sn,U A1 n1 c1,U A2 n2 c2]] ([bc A1 n1 c1 a0.Sg,bc A2 n2 c2 a0.Sd]) (fun u post=>u=.bool r/\post=[]):=by
 refine cG Tryz.func170 ?_;intro B3;refine ab ?_;obtain ⟨b4,a1,h⟩:=aa h;refine aH 3 9 b4 ?_ ?_
 ·clear h;refine aE 6 J (fun g4=> ?_) (fun g4=> ?_)
  ·have h:=az g4 a1;refine ab ?_;obtain ⟨y5,k,h⟩:=aa h;refine gU (oR (kM k)) (cY g4 J) ?_;exact gY
  have h:=aA g4 a1;exact gY
 exact eY
theorem Ch {r:Bool}: ∀v post,((fun (u:Value) (post:List Chunk)=>u=.bool r/\post=[])) v post-> ∀c∈post,jJ c:=by
 rintro _ _ ⟨rfl,rfl⟩;exact ay
def sB (N:Nat)(a0:Rk):Option Rk:=
 (cF N a0.Sg).bind fun y5=>(au a0.Sd 0).bind fun x7=>some (⟨a0.Sa,a0.Sk,a0.Sj,a0.Sn,y5,([x7]:List Ry)⟩:Rk)
theorem Ci {N:Nat}{a0:Rk}{r:Rk}(h:sB N a0=some r):Okc RY 171 [.agg #[iV a0.Sa,iV a0.Sk,iV a0.Sj,iV a0.Sn,U A1 n1 c1,U A2 n2 c2]] ([bc A1 n1 c1 a0.Sg,bc A2 n2 c2 a0.Sd]) (fun u post=> ∃A0 n0 c0 A1 n1 c1,u=.agg #[iV r.Sa,iV r.Sk,iV r.Sj,iV r.Sn,U A0 n0 c0,U A1 n1 c1]/\post=[aw A0 n0 c0 r.Sg,aw A1 n1 c1 r.Sd]):=by
 refine cG Tryz.func171 ?_;intro B3
 refine iD fun B4=> ?_
 obtain ⟨y5,k,h⟩:=aa h
 refine nr (oR (eU k)) fun A6 n6 c6=> ?_
 obtain ⟨x7,a1,a2,a6,h⟩:=bG h;refine ab ?_
 refine nr (aY (R:=aF) (vss:=[[iV x7.Sa,iV x7.N,.string x7.S]]) (xs:=[x7]) J (rC _ _ _) J J (fun _ _ hr=> .cons J All2.nil)) fun A8 n8 c8=> ?_
 exact eN
theorem zB {r:Rk}: ∀v post,((fun (u:Value) (post:List Chunk)=> ∃A0 n0 c0 A1 n1 c1,u=.agg #[iV r.Sa,iV r.Sk,iV r.Sj,iV r.Sn,U A0 n0 c0,U A1 n1 c1]/\post=[aw A0 n0 c0 r.Sg,aw A1 n1 c1 r.Sd])) v post-> ∀c∈post,jJ c:=by
 rintro _ _ ⟨_,_,_,_,_,_,rfl,rfl⟩;exact hJ pt (hJ pt (ay))
def fP (N:Nat){σ:Type}(fy:(Int×RJ)->σ->Option (Bool×σ))(a1:Rk):Nat->Int->σ->Option σ
 |0,_,_=>none
 |m4+1,p5,p6=>bn (in64 (p5+4)) (bif decide (p5+4<=(a1.Sd.length:Int)) then (bn (in64 (p5+4)) (bn (in64 (p5+4)) (bn ((0:Int)<=p5/\(0:Int)<=p5+4/\p5.toNat<=(p5+4).toNat/\(p5+4).toNat<=a1.Sd.length) ((fy (p5,(a1.Sd.drop p5.toNat).take ((p5+4).toNat - p5.toNat)) p6).bind fun a2=>bif !a2.1 then (some a2.2) else (bn (in64 (p5+4)) ((fP N fy a1 m4) (p5+4) a2.2)))))) else (some p6))
def mj (N:Nat){σ:Type}(a1:Rk)(fy:(Int×RJ)->σ->Option (Bool×σ))(s0:σ):Option σ:=
 fP N fy a1 N 1 s0
theorem vz {N:Nat}{σ:Type}{a1:Rk}{fy:(Int×RJ)->σ->Option (Bool×σ)}{s0:σ}{r:σ}(h:mj N a1 fy s0=some r){l:Nat}{G:σ->List Chunk}(hY:tf RY l G (fun (x:Int×RJ) vs cs=> ∃A1 n1 c1,vs=[iV x.1,U A1 n1 c1]/\cs=[bc A1 n1 c1 x.2]) fy):Okc RY 193 [.func (.yield l) #[] #[],pV B1 0] (ar B1 42 [iV a1.Sa,iV a1.Sk,iV a1.Sj,iV a1.Sn,U A2 n2 c2,U A3 n3 c3]::bc A2 n2 c2 a1.Sg::bc A3 n3 c3 a1.Sd::(G s0)) (fun u post=>u=.tuple #[]/\post=G r):=by
 refine cG Tryz.func193 ?_;refine aW (fun m s L=> ∃p5 p6,fP N fy a1 m p5 p6=some r/\s=[(0,.func (.yield l) #[] #[]),(1,pV B1 0),(3,iV p5)]/\L=bc A2 n2 c2 a1.Sg::bc A3 n3 c3 a1.Sd::ar B1 42 [iV a1.Sa,iV a1.Sk,iV a1.Sj,iV a1.Sn,U A2 n2 c2,U A3 n3 c3]::(G p6)) N _ _ ⟨1,s0,h,J,J⟩ sA (cS [1,2,0] 3) ?_;rintro (_|m4) _ _ ⟨p5,p6,h,rfl,rfl⟩
 ·exact am h
 rw [fP.eq_2] at h;refine sZ ?_;obtain ⟨q7,h⟩:=ah h;refine fd h ?_ ?_<;>intro h
 ·refine sY ?_;obtain ⟨q9,h⟩:=ah h;refine ab ?_;obtain ⟨b1,h⟩:=ah h;refine ab ?_;obtain ⟨a2,h⟩:=ah h;refine KT 1 J (l:=p5.toNat) (h:=(p5+4).toNat) a2.2.2.1 a2.2.2.2 ?_;rintro a6 a7 a8 b0;refine gR (Hg 2 J b0 J hU size23.out J (by rw [Int.toNat_of_nonneg a2.1];rfl) (by rw [Int.toNat_of_nonneg a2.2.1];rfl) (by rw [Int.toNat_of_nonneg a2.2.1];rfl) a2.2.2.1 a2.2.2.2) ?_;obtain ⟨b2,k,h⟩:=aa h;refine gD (Dk (a:=(p5,(a1.Sd.drop p5.toNat).take ((p5+4).toNat - p5.toNat))) [bc a6 a7 a8 ((a1.Sd.drop p5.toNat).take ((p5+4).toNat - p5.toNat)),bc A2 n2 c2 a1.Sg,bc A3 n3 c3 a1.Sd,ar B1 42 [iV a1.Sa,iV a1.Sk,iV a1.Sj,iV a1.Sn,U A2 n2 c2,U A3 n3 c3]] hY k J J ⟨_,_,_,J,J⟩ (EF 0 J J)) ?_;rintro _ _ ⟨rfl,rfl⟩;refine fd h ?_ ?_<;>intro h
  ·exact eY
  refine ab ?_;obtain ⟨b3,h⟩:=ah h;exact lY
 exact eY
def oO (N:Nat)(a0:Rk):Option Unit:=
 some ()
theorem yy {N:Nat}{a0:Rk}{r:Unit}(h:oO N a0=some r):Okc RY 172 [.agg #[iV a0.Sa,iV a0.Sk,iV a0.Sj,iV a0.Sn,U A1 n1 c1,U A2 n2 c2]] ([bc A1 n1 c1 a0.Sg,bc A2 n2 c2 a0.Sd]) (fun u post=> ∃a1,u=.func (.func 193) #[] #[pV a1 0]/\post=[ac a1 42 [iV a0.Sa,iV a0.Sk,iV a0.Sj,iV a0.Sn,U A1 n1 c1,U A2 n2 c2]]):=by
 refine cG Tryz.func172 ?_;intro B3;refine ab ?_;refine fm (dR J) ?_;exact eN
theorem wN {a0:Rk}{A1:Option Addr}{n1:Nat}{c1:Nat}{A2:Option Addr}{n2:Nat}{c2:Nat}: ∀v post,((fun (u:Value) (post:List Chunk)=> ∃a1,u=.func (.func 193) #[] #[pV a1 0]/\post=[ac a1 42 [iV a0.Sa,iV a0.Sk,iV a0.Sj,iV a0.Sn,U A1 n1 c1,U A2 n2 c2]])) v post-> ∀c∈post,jJ c:=by
 rintro _ _ ⟨_,rfl,rfl⟩;exact hJ Cg (ay)
end Go.Proofs.YtjmonlcchlkdhaaGreat
namespace Go.Proofs.YtjmonlcchlkdhaaGreat
variable {A1 A2 A3 A4 A5 A6 A7:Option Addr} {B1 B2 B3 B8 M2 M5 M6 M9 c1 c2 c3 c4 c5 c6 c7 n1 n2 n3 n4 n5 n6 n7:Nat}
open Go.RowKit Asn
set_option maxRecDepth 20000
def lS (N:Nat)(a1:Int×RJ)(a0:Rk)(b4:RU)(b5:Rk)(a2:RJ)(b3:RJ)(a6:Int)(a7:Int)(a8:ByteArray):Option (Option Exit×RJ×RJ):=
 (au a1.2 0).bind fun b0=>(au a1.2 1).bind fun b1=>(au a1.2 3).bind fun b2=>bn (cc (a2.length+([b0,b1,(⟨a6,a7,a8⟩:Ry),b2]:List Ry).length)) (some (none,(a2++([b0,b1,(⟨a6,a7,a8⟩:Ry),b2]:List Ry),b3)))
def fo (N:Nat)(a0:Rk)(a6:RU)(b0:Rk)(a1:Int×RJ):(RJ×RJ)->Option (Option Exit×(RJ×RJ))
 |(a8,a7)=>(au a1.2 0).bind fun b4=>bif !((lk a6 b4.N).getD false) then ((au a0.Sd 0).bind fun b1=>(au a1.2 1).bind fun b2=>(au a1.2 3).bind fun b3=>bn (cc (a7.length+([b1,b2,b3]:List Ry).length)) (some (none,(a8,a7++([b1,b2,b3]:List Ry))))) else ((au a1.2 2).bind fun a2=>(bif decide (a2.Sa=7) then (some (!((lk a6 a2.N).getD false))) else (some false)).bind fun b5=>bif b5 then (lS N a1 a0 a6 b0 a8 a7 0 0 (⟨#[]⟩)) else (lS N a1 a0 a6 b0 a8 a7 a2.Sa a2.N a2.S))
def oP (N:Nat)(a0:Rk)(a6:RU):Option (Rk×RJ):=
 (sB N a0).bind fun a1=>(oO N a0).bind fun a7=>(mj N a0 (cQ (fun x st=>fo N a0 a6 a1 x st)) (none,(a1.Sd,[]))).bind fun a2=>qc a2.1 (some ((⟨a1.Sa,a1.Sk,a1.Sj,a1.Sn,a1.Sg,a2.2.1⟩:Rk),a2.2.2)) none (fun _=>none)
def gK (N:Nat)(a1:RL)(a0:Rk):Nat->Int->RU->Option (Rk×RJ)
 |0,_,_=>none
 |a7+1,a2,a6=>bif decide (a2<(a1.length:Int)) then ((au a1 a2).bind fun a8=>bn (in64 (a2+1)) ((gK N a1 a0 a7) (a2+1) (xi a6 a8 true))) else (oP N a0 a6)
def jC (N:Nat)(a0:Rk)(a1:RL):Option (Rk×RJ):=
 (sa N a0).bind fun y6=>bif !y6 then (some ((⟨0,0,0,0,[],[]⟩:Rk),[])) else (gK N a1 a0 N 0 ([]:RU))
theorem um {N:Nat}{a0:Rk}{a1:RL}{r:Rk×RJ}(h:jC N a0 a1=some r):Okc RY 128 [.agg #[iV a0.Sa,iV a0.Sk,iV a0.Sj,iV a0.Sn,U A1 n1 c1,U A2 n2 c2],U A3 n3 c3] ([bc A1 n1 c1 a0.Sg,bc A2 n2 c2 a0.Sd,dK A3 n3 c3 a1]) (fun u post=> ∃A0 n0 c0 A1 n1 c1 A2 n2 c2,u=.tuple #[.agg #[iV r.1.Sa,iV r.1.Sk,iV r.1.Sj,iV r.1.Sn,U A0 n0 c0,U A1 n1 c1],U A2 n2 c2]/\post=[aw A0 n0 c0 r.1.Sg,aw A1 n1 c1 r.1.Sd,aw A2 n2 c2 r.2]):=by
 refine Ed Tryz.func128 J J ?_;simp only [sc];refine W ?_
 refine gB (BI J J) fun B4=> ?_
 refine gB (cP zero42.out J) fun B5=> ?_
 refine W ?_;refine aL ?_;refine W ?_;refine gR (mM (us:=[iV a0.Sa,iV a0.Sk,iV a0.Sj,iV a0.Sn,U A1 n1 c1,U A2 n2 c2]) 1 J J agg42.out J) ?_;obtain ⟨y6,k,h⟩:=aa h;refine gV (bV (Ez k) call170.out J (hJ (dX (i:=2) J J) (hJ (dX (i:=3) J J) ay)) Ch) ?_;refine W ?_;refine gH J h ?_ ?_<;>intro h
 ·refine W ?_;refine gE (iX J bld_42_.out) ?_;refine gW (ax (us:=[iV 0,iV 0,iV 0,iV 0,U none 0 0,U none 0 0]) (cs':=[iV 0,iV 0,iV 0,iV 0,U none 0 0,U none 0 0]) 0 J J J J size42.out J J J) ?_;refine W ?_;obtain rfl:=cB h;exact ox (rs:=[.cell 4 42,.tmp 5]) (vs:=[.agg #[iV 0,iV 0,iV 0,iV 0,U none 0 0,U none 0 0],U none 0 0]) J (.cons (ij 0 J J agg42.out) (.cons (oB J) .nil)) J ((bh aF 23 _).trans ((bh aF 23 _).trans ((bh aF 23 _).trans (cS [2,1,0] 8)))) ⟨_,_,_,_,_,_,_,_,_,J,J⟩
 refine W ?_;refine gR (lw 4 J bj J t0) ?_;refine gD (z8 (ek:=bf) (ev:=bI) J Re) ?_;rintro _ _ ⟨a6,rfl,rfl⟩
 refine gB (cP zero145.out J) fun b7=> ?_
 refine gW (ax (us:=[.map (some a6)]) (cs':=[.map (some a6)]) 0 J J J J size145.out J J J) ?_;refine W ?_;refine ao (fun s L=> ∃b9,oP N a0 b9=some r/\s=[(2,pV B4 0),(4,pV B5 0),(5,U none 0 0),(6,pV b7 0)]/\L=[bc A1 n1 c1 a0.Sg,bc A2 n2 c2 a0.Sd,ac B4 42 [iV a0.Sa,iV a0.Sk,iV a0.Sj,iV a0.Sn,U A1 n1 c1,U A2 n2 c2],ac B5 42 [iV 0,iV 0,iV 0,iV 0,U none 0 0,U none 0 0],aj bf bI a6 b9,ac b7 145 [.map (some a6)]]) ?_ ?_
 ·refine W ?_;refine gR (lw 6 J bj J t0) ?_;refine W ?_;refine aW (fun m s L=> ∃f3 e8,gK N a1 a0 m f3 e8=some r/\s=[(2,pV B4 0),(4,pV B5 0),(5,U none 0 0),(6,pV b7 0),(21,U A3 n3 c3),(22,iV (a1.length:Int)),(23,iV f3)]/\L=[dK A3 n3 c3 a1,bc A1 n1 c1 a0.Sg,bc A2 n2 c2 a0.Sd,ac B4 42 [iV a0.Sa,iV a0.Sk,iV a0.Sj,iV a0.Sn,U A1 n1 c1,U A2 n2 c2],ac B5 42 [iV 0,iV 0,iV 0,iV 0,U none 0 0,U none 0 0],aj bf bI a6 e8,ac b7 145 [.map (some a6)]]) N _ _ ⟨0,([]:RU),h,J,J⟩ sA (cS [6,4,5,3,2,1,0] 7) ?_;rintro (_|k0) _ _ ⟨f3,e8,h,rfl,rfl⟩
  ·exact am h
  rw [gK.eq_2] at h;refine W ?_;refine aL ?_;refine gH J h ?_ ?_<;>intro h
  ·refine W ?_;refine aL ?_;refine W ?_;obtain ⟨g5,g6,g7,g8,h⟩:=bG h;refine gR (gn 0 J bj J J t0 size3.out g6 g7) ?_;refine gR (iO (u:=iV g5) 0 J bj J g8 su (fun _ _ _ h=>by rw [show _=_ from h];rfl)) ?_;refine W ?_;refine gW (gp (a:=g5) (b:=true) 5 J J J J Re (dT hP)) ?_;refine xd ?_;refine W ?_;obtain ⟨j9,h⟩:=ah h;refine gE (ia J J j9.1 j9.2) ?_;refine W ?_;exact ⟨k0,_,_,RO _,⟨f3+1,xi e8 g5 true,h,J,J⟩,sA,cS [0,1,2,3,4,5,6] 7⟩
  refine W ?_;exact ⟨_,_,⟨e8,h,J,J⟩,sA,cS [1,2,3,4,5,6] 7⟩
 rintro _ _ ⟨b9,h,rfl,rfl⟩;refine W ?_;refine gR (mM (us:=[iV a0.Sa,iV a0.Sk,iV a0.Sj,iV a0.Sn,U A1 n1 c1,U A2 n2 c2]) 2 J J agg42.out J) ?_;obtain ⟨a2,k,h⟩:=aa h;refine gD (bV (Ci k) call171.out J (hJ (dX (i:=0) J J) (hJ (dX (i:=1) J J) ay)) zB) ?_;rintro _ _ ⟨_,⟨a7,a8,b0,g9,h0,h1,rfl,rfl⟩,rfl⟩
 refine gB (cP zero42.out J) fun d4=> ?_
 refine gW (ax (us:=[iV a2.Sa,iV a2.Sk,iV a2.Sj,iV a2.Sn,U a7 a8 b0,U g9 h0 h1]) (cs':=[iV a2.Sa,iV a2.Sk,iV a2.Sj,iV a2.Sn,U a7 a8 b0,U g9 h0 h1]) 0 J J J J size42.out J J J) ?_;refine W ?_
 refine gB (cP zero30.out J) fun d6=> ?_
 refine W ?_;refine aL ?_;refine W ?_;refine gR (mM (us:=[iV a0.Sa,iV a0.Sk,iV a0.Sj,iV a0.Sn,U A1 n1 c1,U A2 n2 c2]) 6 J J agg42.out J) ?_;obtain ⟨l9,k,h⟩:=aa h;refine gD (bV (yy k) call172.out J (hJ (dX (i:=4) J J) (hJ (dX (i:=5) J J) ay)) wN) ?_;rintro _ _ ⟨_,⟨k1,rfl,rfl⟩,rfl⟩;refine KR ?_;refine Ig ?_;refine ic ?_ cD (gL 0 J);obtain ⟨f4,k,h⟩:=aa h
 refine DV (R:=(fun (x:Int×RJ) vs cs=> ∃A1 n1 c1,vs=[iV x.1,U A1 n1 c1]/\cs=[bc A1 n1 c1 x.2])) (fun x st=>fo N a0 b9 a2 x st) (fun (st:RJ×RJ) (mz:((Option Addr×Nat×Nat)×(Option Addr×Nat×Nat)))=> [bc A1 n1 c1 a0.Sg,bc A2 n2 c2 a0.Sd,ac B4 42 [iV a0.Sa,iV a0.Sk,iV a0.Sj,iV a0.Sn,U A1 n1 c1,U A2 n2 c2],ac B5 42 [iV 0,iV 0,iV 0,iV 0,U none 0 0,U none 0 0],aj bf bI a6 b9,ac b7 145 [.map (some a6)],aw a7 a8 b0 a2.Sg,eu aF 23 (.slice mz.1.1 mz.1.2.1 mz.1.2.2) st.1,ac d4 42 [iV a2.Sa,iV a2.Sk,iV a2.Sj,iV a2.Sn,U a7 a8 b0,.slice mz.1.1 mz.1.2.1 mz.1.2.2],eu aF 23 (.slice mz.2.1 mz.2.2.1 mz.2.2.2) st.2,ac d6 30 [.slice mz.2.1 mz.2.2.1 mz.2.2.2]]) [ar k1 42 [iV a0.Sa,iV a0.Sk,iV a0.Sj,iV a0.Sn,U A1 n1 c1,U A2 n2 c2],bc A1 n1 c1 a0.Sg,bc A2 n2 c2 a0.Sd] ((a2.Sd,[])) (((g9,h0,h1),(none,0,0))) J J call193.out J (by rintro _ _ _ ⟨_,_,_,rfl,rfl⟩;rfl) (fun l G hY=>(vz k hY).mono fun _ _ hh=>hh.2) ((bh aF 23 _).trans (cp [1,6,7] [] [6,7,8,9,10,11,4,5,3,0,2] 12 J)) h ?_ ?_ ?_ ?_
 ·rintro l e9 ⟨g0,f1⟩ je sr28 ⟨⟨b4,b5,b6⟩,⟨b1,b2,b3⟩⟩ h _ _ ⟨d1,d2,d3,rfl,rfl⟩;replace h:fo N a0 b9 a2 e9 (g0,f1)=some (je,sr28):=h;simp only [yJ,List.zip_cons_cons,List.zip_nil_left,List.zip_nil_right,List.reverse_cons,List.reverse_nil,R4,List.cons_append];refine W ?_;refine aL ?_;refine dY [0,1] ?_;obtain ⟨k2,h2,h3,k3,h⟩:=bG h;refine zY [2] ?_;refine zR 3 J (sT 0 J bj J (bP h2 h3) ww) ?_;refine zY [4] ?_;refine zR 5 J (Bq (a:=k2.N) (z:=false) 5 J tJ J J Re (dT hP) zero4.out) ?_;refine zX [6] ?_;refine Ig ?_;refine gH J h ?_ ?_<;>intro h
  ·refine aL ?_;obtain ⟨c8,h4,h5,h6,h⟩:=bG h;obtain ⟨c9,h7,h8,h9,h⟩:=bG h;obtain ⟨d0,i0,i1,i2,h⟩:=bG h;refine ic (t:=[(2,pV B4 0),(4,pV B5 0),(5,U none 0 0),(6,pV b7 0),(9,pV d4 0),(10,pV d6 0),(12,U d1 d2 d3)]) ?_ mw (ae _)
   refine jv I 12 [] [0,11] [43,44,45,46,47,48,49,50,51,52,53,54] [[],[],[1],[2],[3],[],[5],[6],[],[8],[9],[4,7,10]] [aV (U b1 b2 b3),
aV (pV B4 5),
aV (U A2 n2 c2),
aV (d5 (U A2 n2 c2) ((0:Int).toNat) 3 0),
aV (.agg #[iV c8.Sa,iV c8.N,.string c8.S]),
aV (U d1 d2 d3),
aV (d5 (U d1 d2 d3) ((1:Int).toNat) 3 0),
aV (.agg #[iV c9.Sa,iV c9.N,.string c9.S]),
aV (U d1 d2 d3),
aV (d5 (U d1 d2 d3) ((3:Int).toNat) 3 0),
aV (.agg #[iV d0.Sa,iV d0.N,.string d0.S]),
aX3 (fun (e2:Option Addr) (e3 e4:Nat)=> U e2 e3 e4) (fun e2 e3 e4=> [aw e2 e3 e4 ([c8,c9,d0]:List Ry)])] [] (ae _) (mf) I rfl rfl ?_ ?_ ?_
   ·exact me
   ·refine ad J ?_ ?_
    ·refine uz (aY (R:=aF) (vss:=[[iV c8.Sa,iV c8.N,.string c8.S],[iV c9.Sa,iV c9.N,.string c9.S],[iV d0.Sa,iV d0.N,.string d0.S]]) (xs:=[c8,c9,d0]) J (KC _ _ _ _ _ _ _ _ _) J J (fun _ _ hr=> .cons J (.cons J (.cons J All2.nil)))) J ?_;rintro _ _ ⟨k4,k5,k6,rfl,rfl⟩;exact AE k4 k5 k6 (ae _)
    refine ad J ?_ ?_
    ·exact er (pm (us:=[iV d0.Sa,iV d0.N,.string d0.S]) 0 J bj J i2 agg23.out (fun _ _ _ h=>by rw [show _=_ from h];rfl)) J (aQ J (ae _))
    refine ad J ?_ ?_
    ·exact er (gn 0 J bj J J hU size23.out i0 i1) J (aQ J (ae _))
    refine ad J ?_ ?_
    ·exact ci (bo J) J (aQ J (ae _))
    refine ad J ?_ ?_
    ·exact er (pm (us:=[iV c9.Sa,iV c9.N,.string c9.S]) 0 J bj J h9 agg23.out (fun _ _ _ h=>by rw [show _=_ from h];rfl)) J (aQ J (ae _))
    refine ad J ?_ ?_
    ·exact er (gn 0 J bj J J hU size23.out h7 h8) J (aQ J (ae _))
    refine ad J ?_ ?_
    ·exact ci (bo J) J (aQ J (ae _))
    refine ad J ?_ ?_
    ·exact er (pm (us:=[iV c8.Sa,iV c8.N,.string c8.S]) 2 J bj J h6 agg23.out (fun _ _ _ h=>by rw [show _=_ from h];rfl)) J (aQ J (ae _))
    refine ad J ?_ ?_
    ·exact er (gn 2 J bj J J hU size23.out h4 h5) J (aQ J (ae _))
    refine ad J ?_ ?_
    ·exact er (bL 3 J J xa J) J (aQ J (ae _))
    refine ad J ?_ ?_
    ·exact ci (gk J wv) J (aQ J (ae _))
    refine ad J ?_ ?_
    ·exact er (bL 11 J J xa J) J (aQ J (ae _))
    exact eJ
   intro e2 e3 e4;refine oe (t:=[(43,U b1 b2 b3),(54,U e2 e3 e4),(2,pV B4 0),(4,pV B5 0),(5,U none 0 0),(6,pV b7 0),(9,pV d4 0),(10,pV d6 0),(12,U d1 d2 d3)]) (L':=[aw e2 e3 e4 ([c8,c9,d0]:List Ry),bc d1 d2 d3 e9.2,bc A1 n1 c1 a0.Sg,bc A2 n2 c2 a0.Sd,ac B4 42 [iV a0.Sa,iV a0.Sk,iV a0.Sj,iV a0.Sn,U A1 n1 c1,U A2 n2 c2],ac B5 42 [iV 0,iV 0,iV 0,iV 0,U none 0 0,U none 0 0],aj bf bI a6 b9,ac b7 145 [.map (some a6)],aw a7 a8 b0 a2.Sg,aw b4 b5 b6 g0,ac d4 42 [iV a2.Sa,iV a2.Sk,iV a2.Sj,iV a2.Sn,U a7 a8 b0,U b4 b5 b6],aw b1 b2 b3 f1,ac d6 30 [U b1 b2 b3]]) ?_ mw (ae _);obtain ⟨k7,h⟩:=ah h;refine pz 12 J I (aX 11 0 J J aI J J hU yW J J k7) J J J ?_;rintro _ _ ⟨i8,j0,j1,rfl,rfl⟩;refine Dn ?_;refine yT 13 J I (ax (us:=[U i8 j0 j1]) (cs':=[U i8 j0 j1]) 12 J J J J size30.out J J J) J J ?_;rintro _ _ rfl;refine ms I ?_;refine W ?_;obtain ⟨rfl,rfl⟩:=Prod.mk.inj (Option.some.inj h);exact AG ((cS [2,3,4,5,6,7,8,9,10,11,12] 13).trans (fQ ((b4,b5,b6),(i8,j0,j1)) J))
  refine W ?_;obtain ⟨b8,j2,j3,j4,h⟩:=bG h;refine gR (gn 0 J bj J J hU size23.out j2 j3) ?_;refine gR (pm (us:=[iV b8.Sa,iV b8.N,.string b8.S]) 0 J bj J j4 agg23.out (fun _ _ _ h=>by rw [show _=_ from h];rfl)) ?_
  refine gB (cP zero23.out J) fun j5=> ?_
  refine gW (ax (us:=[iV b8.Sa,iV b8.N,.string b8.S]) (cs':=[iV b8.Sa,iV b8.N,.string b8.S]) 0 J J J J size23.out J J J) ?_;refine W ?_;refine ao (fun s L=> ∃e5 e6 e7,lS N e9 a0 b9 a2 g0 f1 e5 e6 e7=some (je,sr28)/\s=[(2,pV B4 0),(4,pV B5 0),(5,U none 0 0),(6,pV b7 0),(9,pV d4 0),(10,pV d6 0),(12,U d1 d2 d3),(13,pV j5 0)]/\L=[bc d1 d2 d3 e9.2,bc A1 n1 c1 a0.Sg,bc A2 n2 c2 a0.Sd,ac B4 42 [iV a0.Sa,iV a0.Sk,iV a0.Sj,iV a0.Sn,U A1 n1 c1,U A2 n2 c2],ac B5 42 [iV 0,iV 0,iV 0,iV 0,U none 0 0,U none 0 0],aj bf bI a6 b9,ac b7 145 [.map (some a6)],aw a7 a8 b0 a2.Sg,aw b4 b5 b6 g0,ac d4 42 [iV a2.Sa,iV a2.Sk,iV a2.Sj,iV a2.Sn,U a7 a8 b0,U b4 b5 b6],aw b1 b2 b3 f1,ac d6 30 [U b1 b2 b3],ac j5 23 [iV e5,iV e6,.string e7]]) ?_ ?_
  ·refine W ?_;obtain ⟨k8,f2,h⟩:=aa h;refine aH 6 68 k8 ?_ ?_
   ·clear h;refine aE 62 J (fun g1=> ?_) (fun g1=> ?_)
    ·have h:=az g1 f2;refine W ?_;refine tg (Bq (a:=b8.N) (z:=false) 6 J tJ J J Re (dT hP) zero4.out) J (cY g1 J) J ?_;refine W ?_;obtain rfl:=cB h;exact bp sA (cS [0,1,2,3,4,5,6,7,8,9,10,11,12] 13)
    have h:=aA g1 f2;refine W ?_;obtain rfl:=cB h;exact bp sA (cS [0,1,2,3,4,5,6,7,8,9,10,11,12] 13)
   refine W ?_;refine gH J h ?_ ?_<;>intro h
   ·refine rH ?_;refine gE (iX J bld_23_.out) ?_;refine gW (ax (us:=[iV 0,iV 0,.string (⟨#[]⟩)]) (cs':=[iV 0,iV 0,.string (⟨#[]⟩)]) 0 J J J J size23.out J J J) ?_;refine xd ?_;refine W ?_;exact ⟨_,_,⟨0,0,⟨#[]⟩,h,J,J⟩,sA,cS [1,2,3,4,5,6,7,8,9,10,11,12,0] 13⟩
   refine W ?_;exact ⟨_,_,⟨b8.Sa,b8.N,b8.S,h,J,J⟩,sA,cS [1,2,3,4,5,6,7,8,9,10,11,12,0] 13⟩
  rintro _ _ ⟨e5,e6,e7,h,rfl,rfl⟩;refine cZ I ([bc d1 d2 d3 e9.2,bc A1 n1 c1 a0.Sg,bc A2 n2 c2 a0.Sd,ac B4 42 [iV a0.Sa,iV a0.Sk,iV a0.Sj,iV a0.Sn,U A1 n1 c1,U A2 n2 c2],ac B5 42 [iV 0,iV 0,iV 0,iV 0,U none 0 0,U none 0 0],aj bf bI a6 b9,ac b7 145 [.map (some a6)],aw a7 a8 b0 a2.Sg,ac d4 42 [iV a2.Sa,iV a2.Sk,iV a2.Sj,iV a2.Sn,U a7 a8 b0,U b4 b5 b6],aw b1 b2 b3 f1,ac d6 30 [U b1 b2 b3],ac j5 23 [iV e5,iV e6,.string e7]]) (cS [0,1,2,3,4,5,6,7,9,10,11,12] 13) ?_;refine zY [0,1,2] ?_;obtain ⟨g2,k9,l0,l1,h⟩:=bG h;refine zY [3,4,5] ?_;obtain ⟨g3,l2,l3,l4,h⟩:=bG h;refine zY [6,7,8,9] ?_;obtain ⟨g4,l5,l6,l7,h⟩:=bG h;refine zY [10,11] ?_;refine zD 12 J (aY (R:=aF) (vss:=[[iV g2.Sa,iV g2.N,.string g2.S],[iV g3.Sa,iV g3.N,.string g3.S],[iV e5,iV e6,.string e7],[iV g4.Sa,iV g4.N,.string g4.S]]) (xs:=[g2,g3,(⟨e5,e6,e7⟩:Ry),g4]) J (KB _ _ _ _ _ _ _ _ _ _ _ _) J J (fun _ _ hr=> .cons J (.cons J (.cons J (.cons J All2.nil))))) ?_;rintro _ _ ⟨m0,m1,m2,rfl,rfl⟩;refine aJ (cS [1,2,3,4,5,6,7,8,10,11,12,13] 14) ?_;obtain ⟨l8,h⟩:=ah h;refine zD 13 J (aX 9 0 J J aI J J hU yW J J l8) ?_;rintro _ _ ⟨j6,j7,j8,rfl,rfl⟩;refine aJ (cS [1,2,3,4,5,6,7,8,10,11,12,13] 14) ?_;refine zY [14] ?_
  refine qo 15 J I I (ax (us:=[U j6 j7 j8]) (cs':=[iV a2.Sa,iV a2.Sk,iV a2.Sj,iV a2.Sn,U a7 a8 b0,U j6 j7 j8]) 10 J J J J size30.out J J J) ?_;rintro _ _ rfl;refine ju I ?_;refine Mw ?_;obtain ⟨rfl,rfl⟩:=Prod.mk.inj (Option.some.inj h);exact AG ((cS [2,3,4,5,6,7,8,9,10,11,12] 14).trans (fQ ((j6,j7,j8),(b1,b2,b3)) J))
 ·rintro ⟨⟨b4,b5,b6⟩,⟨b1,b2,b3⟩⟩ h;refine pc ([bc A1 n1 c1 a0.Sg,bc A2 n2 c2 a0.Sd,ac B4 42 [iV a0.Sa,iV a0.Sk,iV a0.Sj,iV a0.Sn,U A1 n1 c1,U A2 n2 c2],ac B5 42 [iV 0,iV 0,iV 0,iV 0,U none 0 0,U none 0 0],aj bf bI a6 b9,ac b7 145 [.map (some a6)],aw a7 a8 b0 a2.Sg,aw b4 b5 b6 f4.2.1,ac d4 42 [iV a2.Sa,iV a2.Sk,iV a2.Sj,iV a2.Sn,U a7 a8 b0,U b4 b5 b6],aw b1 b2 b3 f4.2.2,ac d6 30 [U b1 b2 b3]]) J ?_;refine W ?_;refine aL ?_;refine cZ I ([bc A1 n1 c1 a0.Sg,bc A2 n2 c2 a0.Sd,ac B4 42 [iV a0.Sa,iV a0.Sk,iV a0.Sj,iV a0.Sn,U A1 n1 c1,U A2 n2 c2],aj bf bI a6 b9,ac b7 145 [.map (some a6)],aw a7 a8 b0 a2.Sg,aw b4 b5 b6 f4.2.1,ac d4 42 [iV a2.Sa,iV a2.Sk,iV a2.Sj,iV a2.Sn,U a7 a8 b0,U b4 b5 b6],aw b1 b2 b3 f4.2.2,ac d6 30 [U b1 b2 b3]]) (cS [0,1,2,4,5,6,7,8,9,10] 11) ?_;refine zY [0,1] ?_;refine zO 2 J (ax (us:=[iV a2.Sa,iV a2.Sk,iV a2.Sj,iV a2.Sn,U a7 a8 b0,U b4 b5 b6]) (cs':=[iV a2.Sa,iV a2.Sk,iV a2.Sj,iV a2.Sn,U a7 a8 b0,U b4 b5 b6]) 3 J J J J size42.out J J J) ?_;rintro _ _ rfl;refine aJ (cS [0,1,2,4,5,6,7,8,9,10] 11) ?_;refine zX [3] ?_;refine W ?_;obtain rfl:=cB h
  exact ox (rs:=[.cell 4 42,.tmp 5]) (vs:=[.agg #[iV a2.Sa,iV a2.Sk,iV a2.Sj,iV a2.Sn,U a7 a8 b0,U b4 b5 b6],U b1 b2 b3]) J (.cons (ij 3 J J agg42.out) (.cons (oB J) .nil)) J (cS [6,7,9] 11) ⟨_,_,_,_,_,_,_,_,_,J,J⟩
 ·rintro ⟨⟨b4,b5,b6⟩,⟨b1,b2,b3⟩⟩ h;exact am h
 rintro i ⟨⟨b4,b5,b6⟩,⟨b1,b2,b3⟩⟩ h;exact am h
def vt (N:Nat)(p4:RJ):Option RJ:=
 some p4
def mO (N:Nat)(a6:RJ->Int->Option RJ)(a0:RJ)(p7:Int)(a1:RX)(p6:RJ)(a2:Ry)(p13:Int):Option RJ:=
 bn (cc (p6.length+([(⟨a2.Sa,p13,a2.S⟩:Ry)]:List Ry).length)) (bn (in64 (p7+1)) (a6 (p6++([(⟨a2.Sa,p13,a2.S⟩:Ry)]:List Ry)) (p7+1)))
def fL (N:Nat)(a0:RJ)(a1:RX):Nat->RJ->Int->Option RJ
 |0,_,_=>none
 |m5+1,p6,p7=>bif decide (p7<(a0.length:Int)) then ((au a0 p7).bind fun a2=>(bif (lk a1 a2.N).isSome then ((bif decide (a2.Sa=7) then (some true) else (some (decide (a2.Sa=9)))).bind fun a6=>some a6) else (some false)).bind fun a7=>bif a7 then (mO N (fL N a0 a1 m5) a0 p7 a1 p6 a2 ((lk a1 a2.N).getD 0)) else (mO N (fL N a0 a1 m5) a0 p7 a1 p6 a2 a2.N)) else (vt N p6)
def dV (N:Nat)(a0:RJ)(a1:RX):Option RJ:=
 fL N a0 a1 N [] 0
theorem nR {N:Nat}{a0:RJ}{a1:RX}{r:RJ}(h:dV N a0 a1=some r):Okc RY 129 [U A1 n1 c1,.map (some M2)] ([bc A1 n1 c1 a0,eS bf dp M2 a1]) (fun u post=> ∃A0 n0 c0,u=U A0 n0 c0/\post=[aw A0 n0 c0 r]):=by
 refine Ed Tryz.func129 J J ?_;simp only [sc];refine W ?_;refine ao (fun s L=> ∃p4 A4 n4 c4,vt N p4=some r/\s=[(4,U none 0 0),(5,U A4 n4 c4)]/\L=[aw A4 n4 c4 p4]) ?_ ?_
 ·refine W ?_;refine gR (lw 0 J bj J hU) ?_;refine W ?_;refine aW (fun m s L=> ∃p6 p7 A6 n6 c6,fL N a0 a1 m p6 p7=some r/\s=[(1,.map (some M2)),(4,U none 0 0),(5,U A6 n6 c6),(10,U A1 n1 c1),(11,iV (a0.length:Int)),(12,iV p7)]/\L=[eS bf dp M2 a1,aw A6 n6 c6 p6,bc A1 n1 c1 a0]) N _ _ ⟨[],0,none,0,0,h,J,J⟩ sA ((bh aF 23 _).trans (cS [2,0,1] 3)) ?_;rintro (_|m5) _ _ ⟨p6,p7,A6,n6,c6,h,rfl,rfl⟩
  ·exact am h
  rw [fL.eq_2] at h;refine W ?_;refine aL ?_;refine gH J h ?_ ?_<;>intro h
  ·refine W ?_;refine aL ?_;refine W ?_;obtain ⟨a2,a8,b0,b1,h⟩:=bG h;refine gR (gn 2 J bj J J hU size23.out a8 b0) ?_;refine gR (pm (us:=[iV a2.Sa,iV a2.N,.string a2.S]) 2 J bj J b1 agg23.out (fun _ _ _ h=>by rw [show _=_ from h];rfl)) ?_
   refine gB (cP zero23.out J) fun b4=> ?_
   refine gW (ax (us:=[iV a2.Sa,iV a2.N,.string a2.S]) (cs':=[iV a2.Sa,iV a2.N,.string a2.S]) 0 J J J J size23.out J J J) ?_;refine W ?_;refine ao (fun s L=> ∃p13,mO N (fL N a0 a1 m5) a0 p7 a1 p6 a2 p13=some r/\s=[(1,.map (some M2)),(4,U none 0 0),(5,U A6 n6 c6),(7,pV b4 0),(10,U A1 n1 c1),(11,iV (a0.length:Int)),(12,iV p7)]/\L=[eS bf dp M2 a1,aw A6 n6 c6 p6,bc A1 n1 c1 a0,ac b4 23 [iV a2.Sa,iV p13,.string a2.S]]) ?_ ?_
   ·refine W ?_;refine gR (qP (a:=a2.N) (z:=0) 1 J Nv J J Rf (dT hP) zero3.out) ?_;refine W ?_;obtain ⟨b6,a6,h⟩:=aa h;refine aH 9 33 b6 ?_ ?_
    ·clear h;refine aE 24 J (fun b2=> ?_) (fun b2=> ?_)
     ·have h:=az b2 a6;refine W ?_;obtain ⟨b7,a7,h⟩:=aa h;refine aH 4 32 b7 ?_ ?_
      ·clear h;refine aE 28 J (fun b3=> ?_) (fun b3=> ?_)
       ·have h:=az b3 a7;refine W ?_;obtain rfl:=cB h;exact bp sA (cS [0,1,2,3] 4)
       have h:=aA b3 a7;refine W ?_;obtain rfl:=cB h;exact bp sA (cS [0,1,2,3] 4)
      refine W ?_;obtain rfl:=cB h;exact bp sA (cS [0,1,2,3] 4)
     have h:=aA b2 a6;refine W ?_;obtain rfl:=cB h;exact bp sA (cS [0,1,2,3] 4)
    refine W ?_;refine gH J h ?_ ?_<;>intro h
    ·refine W ?_;refine gW (ax (us:=[iV ((lk a1 a2.N).getD 0)]) (cs':=[iV a2.Sa,iV ((lk a1 a2.N).getD 0),.string a2.S]) 0 J J J J size3.out J J J) ?_;refine W ?_;exact ⟨_,_,⟨(lk a1 a2.N).getD 0,h,J,J⟩,sA,cS [1,2,3,0] 4⟩
    refine W ?_;exact ⟨_,_,⟨a2.N,h,J,J⟩,sA,cS [1,2,3,0] 4⟩
   rintro _ _ ⟨p13,h,rfl,rfl⟩;refine W ?_;refine gR (mM (us:=[iV a2.Sa,iV p13,.string a2.S]) 3 J J agg23.out J) ?_;refine gD (aY (R:=aF) (vss:=[[iV a2.Sa,iV p13,.string a2.S]]) (xs:=[(⟨a2.Sa,p13,a2.S⟩:Ry)]) J (rC _ _ _) J J (fun _ _ hr=> .cons J All2.nil)) ?_;rintro _ _ ⟨d0,d1,d2,rfl,rfl⟩;obtain ⟨b8,h⟩:=ah h;refine gD (aX 2 0 J J aI J J hU yW J J b8) ?_;rintro _ _ ⟨b9,c8,c9,rfl,rfl⟩;refine xd ?_;refine W ?_;obtain ⟨b5,h⟩:=ah h;refine gE (ia J J b5.1 b5.2) ?_;refine W ?_;exact ⟨m5,_,_,RO _,⟨p6++([(⟨a2.Sa,p13,a2.S⟩:Ry)]:List Ry),p7+1,b9,c8,c9,h,J,J⟩,sA,cS [1,2,3] 5⟩
  refine W ?_;exact ⟨_,_,⟨p6,A6,n6,c6,h,J,J⟩,sA,cS [1] 3⟩
 rintro _ _ ⟨p4,A4,n4,c4,h,rfl,rfl⟩;refine W ?_;obtain rfl:=cB h;exact qb J J (cS [0] 1) ⟨_,_,_,J,J⟩
def iT (N:Nat)(a1:RJ)(a0:Rp)(a2:RS)(b7:RL)(a6:Option Exit×RX)(b4:RJ)(a7:Int)(a8:Int)(b0:Int)(b1:Int)(b5:RJ)(b6:RJ):Option (Option Exit×RS×RJ):=
 (dV N b5 a6.2).bind fun b2=>(dV N b6 a6.2).bind fun b3=>bn (cc (a2.length+([(⟨a7,a8,b0,b1,b2,b3⟩:Rk)]:List Rk).length)) (some (none,(a2++([(⟨a7,a8,b0,b1,b2,b3⟩:Rk)]:List Rk),b4)))
def lc (N:Nat)(a1:RJ)(a0:Rp)(a8:RL)(b1:Option Exit×RX)(b3:Int×Int):(RS×RJ)->Option (Option Exit×(RS×RJ))
 |(b2,b0)=>(kg N a0 b3.2).bind fun a2=>bif decide (a2.Sa=8) then ((lH N a2 a8).bind fun a7=>iT N a1 a0 b2 a8 b1 b0 a7.Sa a7.Sk a7.Sj a7.Sn a7.Sg a7.Sd) else (bif decide (a2.Sa=10) then ((jC N a2 a8).bind fun a6=>bn (cc (b0.length+a6.2.length)) (iT N a1 a0 b2 a8 b1 (b0++a6.2) a6.1.Sa a6.1.Sk a6.1.Sj a6.1.Sn a6.1.Sg a6.1.Sd)) else (iT N a1 a0 b2 a8 b1 b0 a2.Sa a2.Sk a2.Sj a2.Sn a2.Sg a2.Sd))
def ld (N:Nat)(a1:RJ)(a0:Rp)(a6:RL)(a2:Int×Int):(RX)->Option (Option Exit×RX)
 |p21=>bn (in64 (2*a2.1)) (bn (in64 ((2*a2.1)+2)) (some (none,xi p21 a2.2 ((2*a2.1)+2))))
def mQ (N:Nat)(a0:Rp)(a1:RJ):Option (Rp×RJ×RJ×Int):=
 (kL N a0 a1).bind fun y7=>bif !decide (y7=0) then (some ((⟨[],[]⟩:Rp),[],[],y7)) else ((lL N a0 a1).bind fun a2=>(kK N a2).bind fun b1=>(fi N a2 (cQ (fun x st=>ld N a1 a0 a2 x st)) (none,([]:RX))).bind fun a6=>qc a6.1 ((kK N a2).bind fun b2=>(fi N a2 (cQ (fun x st=>lc N a1 a0 a2 a6 x st)) (none,([],[]))).bind fun a7=>qc a7.1 ((dV N a1 a6.2).bind fun a8=>(dV N a7.2.2 a6.2).bind fun b0=>some ((⟨[],a7.2.1⟩:Rp),a8,b0,0)) none (fun _=>none)) none (fun _=>none))
def jq (N:Nat)(a1:RJ)(a0:Rp)(a2:RS)(b7:RL)(a6:Option Exit×RX)(b4:RJ)(a7:Int)(a8:Int)(b0:Int)(b1:Int)(b5:RJ)(b6:RJ):Option (Option Exit×RS×RJ):=
 (dV N b5 a6.2).bind fun b2=>(dV N b6 a6.2).bind fun b3=>bn (cc (a2.length+([(⟨a7,a8,b0,b1,b2,b3⟩:Rk)]:List Rk).length)) (some (none,(a2++([(⟨a7,a8,b0,b1,b2,b3⟩:Rk)]:List Rk),b4)))
def jr (N:Nat)(a1:RJ)(a0:Rp)(a8:RL)(b1:Option Exit×RX)(b3:Int×Int):(RS×RJ)->Option (Option Exit×(RS×RJ))
 |(b2,b0)=>(kg N a0 b3.2).bind fun a2=>bif decide (a2.Sa=8) then ((lH N a2 a8).bind fun a7=>jq N a1 a0 b2 a8 b1 b0 a7.Sa a7.Sk a7.Sj a7.Sn a7.Sg a7.Sd) else (bif decide (a2.Sa=10) then ((jC N a2 a8).bind fun a6=>bn (cc (b0.length+a6.2.length)) (jq N a1 a0 b2 a8 b1 (b0++a6.2) a6.1.Sa a6.1.Sk a6.1.Sj a6.1.Sn a6.1.Sg a6.1.Sd)) else (jq N a1 a0 b2 a8 b1 b0 a2.Sa a2.Sk a2.Sj a2.Sn a2.Sg a2.Sd))
def jt (N:Nat)(a1:RJ)(a0:Rp)(a6:RL)(a2:Int×Int):(RX)->Option (Option Exit×RX)
 |p21=>bn (in64 (2*a2.1)) (bn (in64 ((2*a2.1)+2)) (some (none,xi p21 a2.2 ((2*a2.1)+2))))
def cV (N:Nat)(a0:Rp)(a1:RJ):Option ((Rp×RJ×RJ×Int) ⊕ (Rp×RJ×RJ)):=
 (kL N a0 a1).bind fun y7=>bif !decide (y7=0) then (some (.inl ((⟨[],[]⟩:Rp),[],[],y7))) else ((lL N a0 a1).bind fun a2=>(kK N a2).bind fun b1=>(fi N a2 (cQ (fun x st=>jt N a1 a0 a2 x st)) (none,([]:RX))).bind fun a6=>qc a6.1 ((kK N a2).bind fun b2=>(fi N a2 (cQ (fun x st=>jr N a1 a0 a2 a6 x st)) (none,([],[]))).bind fun a7=>qc a7.1 ((dV N a1 a6.2).bind fun a8=>(dV N a7.2.2 a6.2).bind fun b0=>some (.inr ((⟨[],a7.2.1⟩:Rp),a8,b0))) none (fun _=>none)) none (fun _=>none))
theorem qZ {N:Nat}{a0:Rp}{a1:RJ}{r:((Rp×RJ×RJ×Int) ⊕ (Rp×RJ×RJ))}(h:cV N a0 a1=some r):Okc RY 86 [.agg #[U A1 n1 c1,U A2 n2 c2],U A3 n3 c3] ([bc A3 n3 c3 a1,aR A1 n1 c1 a0.Se,aR A2 n2 c2 a0.Sc]) (fun u post=>NY (fun (r:Rp×RJ×RJ×Int)=> ∃b4 b5 b6 b7 b8 b9 c0 c8 c9 d0 d1 d2,u=.tuple #[.agg #[U b4 b5 b6,U b7 b8 b9],U c0 c8 c9,U d0 d1 d2,iV r.2.2.2]/\post=[aR b4 b5 b6 r.1.Se,aR b7 b8 b9 r.1.Sc,aw c0 c8 c9 r.2.1,aw d0 d1 d2 r.2.2.1,aR A1 n1 c1 a0.Se,aR A2 n2 c2 a0.Sc]) (fun (r:Rp×RJ×RJ)=> ∃b4 b5 b6 b7 b8 b9 c0 c8 c9 d0 d1 d2,u=.tuple #[.agg #[U b4 b5 b6,U b7 b8 b9],U c0 c8 c9,U d0 d1 d2,iV 0]/\post=[aR b4 b5 b6 r.1.Se,aR b7 b8 b9 r.1.Sc,aw c0 c8 c9 r.2.1,aw d0 d1 d2 r.2.2,aR A1 n1 c1 a0.Se,aR A2 n2 c2 a0.Sc]) r):=by
 refine cG Tryz.func86 ?_;intro B4
 refine iD fun B5=> ?_
 intro B6;refine sY ?_;obtain ⟨y7,k,h⟩:=aa h;refine jQ (oR (BQ k)) ?_;refine gH J h ?_ ?_<;>intro h
 ·refine ab ?_;obtain rfl:=cB h;exact ox (rs:=[.cell 4 96,.tmp 5,.cell 6 30,.tmp 7]) (vs:=[.agg #[U none 0 0,U none 0 0],U none 0 0,U none 0 0,iV y7]) J (.cons (ij 1 J J agg96.out) (.cons (oB J) (.cons (D9 0 J J xa) (.cons (oB J) .nil)))) J ((bh eB 42 _).trans ((bh eB 42 _).trans ((bh aF 23 _).trans ((bh aF 23 _).trans (cS [3,2,1,0,8,9] 10))))) ⟨_,_,_,_,_,_,_,_,_,_,_,_,J,J⟩
 refine ab ?_;obtain ⟨b0,k,h⟩:=aa h
 refine nr (oR (CP k)) fun a2 a6 a7=> ?_
 intro e2;refine ab ?_;refine gD (qU (ek:=bf) (ev:=dp)) ?_;rintro _ _ ⟨a8,rfl,rfl⟩
 refine iD fun e3=> ?_
 refine sZ ?_;obtain ⟨k9,k,h⟩:=aa h;refine gD (oR (vq k)) ?_;rintro _ _ ⟨_,⟨j1,rfl,rfl⟩,rfl⟩;refine ab ?_;refine ic ?_ cD (gL 0 J);refine ic ?_ cD (bJ 4 J);refine ab ?_;obtain ⟨e8,k,h⟩:=aa h;refine th (en:=(fun x=> [iV x.1,iV x.2])) (fun x st=>jt N a1 a0 b0 x st) (fun (st:RX) (mz:Unit)=> [bc A3 n3 c3 a1,aR A1 n1 c1 a0.Se,aR A2 n2 c2 a0.Sc,ac B4 96 [U A1 n1 c1,U A2 n2 c2],ac B5 96 [U none 0 0,U none 0 0],ac B6 30 [U none 0 0],dK a2 a6 a7 b0,ac e2 39 [U a2 a6 a7],aj bf dp a8 st,ac e3 170 [.map (some a8)]]) [ar j1 39 [U a2 a6 a7],dK a2 a6 a7 b0] (([]:RX)) (()) J J call165.out J (fun _=>J) (fun l G hY=>(r8 k hY).mono fun _ _ hh=>hh.2) (cp [0,4] [] [8,9,10,7,6,5,4,3,2,1] 11 J) h ?_ ?_ ?_ ?_
 ·rintro l h5 p21 je sr20 _ h;replace h:jt N a1 a0 b0 h5 p21=some (je,sr20):=h;simp only [yJ,List.zip_cons_cons,List.zip_nil_left,List.zip_nil_right,List.reverse_cons,List.reverse_nil,R4,List.cons_append];refine ab ?_;obtain ⟨i8,h⟩:=ah h;refine gE (sC J J i8.1 i8.2) ?_;obtain ⟨l0,h⟩:=ah h;refine ab ?_;refine GJ (gp (a:=h5.2) (b:=(2*h5.1)+2) 8 J J J J Rf (dT hP)) ?_;obtain ⟨rfl,rfl⟩:=Prod.mk.inj (Option.some.inj h);exact AG ((cS [0,1,2,3,4,5,6,7,8,9] 10).trans (fQ () J))
 ·rintro _ h;refine pc ([bc A3 n3 c3 a1,aR A1 n1 c1 a0.Se,aR A2 n2 c2 a0.Sc,ac B4 96 [U A1 n1 c1,U A2 n2 c2],ac B5 96 [U none 0 0,U none 0 0],ac B6 30 [U none 0 0],dK a2 a6 a7 b0,ac e2 39 [U a2 a6 a7],aj bf dp a8 e8.2,ac e3 170 [.map (some a8)]]) J ?_;refine sY ?_;obtain ⟨l1,k,h⟩:=aa h;refine gD (oR (vq k)) ?_;rintro _ _ ⟨_,⟨j2,rfl,rfl⟩,rfl⟩;refine ab ?_;refine ic ?_ cD (gL 0 J);obtain ⟨j0,k,h⟩:=aa h;refine th (en:=(fun x=> [iV x.1,iV x.2])) (fun x st=>jr N a1 a0 b0 e8 x st) (fun (st:RS×RJ) (mz:((Option Addr×Nat×Nat)×(Option Addr×Nat×Nat)))=> [bc A3 n3 c3 a1,aR A1 n1 c1 a0.Se,aR A2 n2 c2 a0.Sc,ac B4 96 [U A1 n1 c1,U A2 n2 c2],eu eB 42 (.slice mz.1.1 mz.1.2.1 mz.1.2.2) st.1,ac B5 96 [U none 0 0,.slice mz.1.1 mz.1.2.1 mz.1.2.2],eu aF 23 (.slice mz.2.1 mz.2.2.1 mz.2.2.2) st.2,ac B6 30 [.slice mz.2.1 mz.2.2.1 mz.2.2.2],dK a2 a6 a7 b0,ac e2 39 [U a2 a6 a7],aj bf dp a8 e8.2,ac e3 170 [.map (some a8)]]) [ar j2 39 [U a2 a6 a7],dK a2 a6 a7 b0] (([],[])) (((none,0,0),(none,0,0))) J J call165.out J (fun _=>J) (fun l G hY=>(r8 k hY).mono fun _ _ hh=>hh.2) ((bh eB 42 _).trans ((bh aF 23 _).trans (cp [2,9] [] [3,4,5,6,1,7,0,8,9,10,11,12] 13 J))) h ?_ ?_ ?_ ?_
  ·rintro l j3 ⟨h1,j4⟩ je sr27 ⟨⟨b1,b2,b3⟩,⟨g8,g9,h0⟩⟩ h;replace h:jr N a1 a0 b0 e8 j3 (h1,j4)=some (je,sr27):=h;simp only [yJ,List.zip_cons_cons,List.zip_nil_left,List.zip_nil_right,List.reverse_cons,List.reverse_nil,R4,List.cons_append];refine ab ?_;obtain ⟨l2,k,h⟩:=aa h
   refine Ew (oR (uU k)) fun l3 l4 l5 l6 l7 l8=> ?_
   intro e4;refine ab ?_;refine ao (fun s L=> ∃h2 e9 f1 f2 f3 h3 h4 g2 g3 g4 g5 g6 g7 f4 g0 g1,jq N a1 a0 h1 b0 e8 h2 e9 f1 f2 f3 h3 h4=some (je,sr27)/\s=[(1,U A3 n3 c3),(2,pV B4 0),(4,pV B5 0),(5,U none 0 0),(6,pV B6 0),(7,iV 0),(9,pV e2 0),(10,pV e3 0),(15,pV e4 0)]/\L=[bc A3 n3 c3 a1,aR A1 n1 c1 a0.Se,aR A2 n2 c2 a0.Sc,ac B4 96 [U A1 n1 c1,U A2 n2 c2],aR b1 b2 b3 h1,ac B5 96 [U none 0 0,U b1 b2 b3],aw g2 g3 g4 h2,ac B6 30 [U g2 g3 g4],dK a2 a6 a7 b0,ac e2 39 [U a2 a6 a7],aj bf dp a8 e8.2,ac e3 170 [.map (some a8)],aw g5 g6 g7 h3,aw f4 g0 g1 h4,ac e4 42 [iV e9,iV f1,iV f2,iV f3,U g5 g6 g7,U f4 g0 g1]]) ?_ ?_
   ·refine fd h ?_ ?_<;>intro h
    ·refine ab ?_;obtain ⟨l9,k,h⟩:=aa h
     refine Ew (oR (wP k)) fun m0 m1 m2 m3 m4 m5=> ?_
     exact jN
    refine fd h ?_ ?_<;>intro h
    ·refine ab ?_;obtain ⟨m6,k,h⟩:=aa h
     refine OQ (oR (um k)) fun m7 m8 m9 n0 n8 n9 o0 o1 o2=> ?_
     obtain ⟨j5,h⟩:=ah h
     refine nr (aX 12 2 J J aI J J hU yW J J j5) fun p0 p1 p2=> ?_
     exact jN
    exact jY
   rintro _ _ ⟨h2,e9,f1,f2,f3,h3,h4,g2,g3,g4,g5,g6,g7,f4,g0,g1,h,rfl,rfl⟩;refine aL ?_;obtain ⟨h6,h7,h⟩:=aa h;obtain ⟨h8,h9,h⟩:=aa h;refine ic (t:=[(1,U A3 n3 c3),(2,pV B4 0),(4,pV B5 0),(5,U none 0 0),(6,pV B6 0),(7,iV 0),(9,pV e2 0),(10,pV e3 0),(15,pV e4 0)]) ?_ mw (ae _)
   refine jv I 9 [] [3,7,8] [62,63,64,65,66,67,68,69,70] [[],[0],[],[1,2],[],[4],[],[5,6],[]] [aV (pV e4 4),
aV (U g5 g6 g7),
aV (.map (some a8)),
aX3 (fun (d3:Option Addr) (d4 d6:Nat)=> U d3 d4 d6) (fun d3 d4 d6=> [aw d3 d4 d6 h6]),
aV (pV e4 5),
aV (U f4 g0 g1),
aV (.map (some a8)),
aX3 (fun (e5:Option Addr) (e6 e7:Nat)=> U e5 e6 e7) (fun e5 e6 e7=> [aw e5 e6 e7 h8]),
aV (pV e4 4)] [] (ae _) (mf) I rfl rfl ?_ ?_ ?_
   ·exact me
   ·refine ad J ?_ ?_
    ·exact ci (gk J EE) J (aQ J (ae _))
    refine ad J ?_ ?_
    ·refine uz (oR (nR h9)) J ?_;rintro _ _ ⟨_,⟨j6,j7,j8,rfl,rfl⟩,rfl⟩;exact AE j6 j7 j8 (ae _)
    refine ad J ?_ ?_
    ·exact er (bL 11 J J Gx J) J (aQ J (ae _))
    refine ad J ?_ ?_
    ·exact er (bL 14 J J xa J) J (aQ J (ae _))
    refine ad J ?_ ?_
    ·exact ci (gk J wv) J (aQ J (ae _))
    refine ad J ?_ ?_
    ·refine uz (oR (nR h7)) J ?_;rintro _ _ ⟨_,⟨j9,k0,k1,rfl,rfl⟩,rfl⟩;exact AE j9 k0 k1 (ae _)
    refine ad J ?_ ?_
    ·exact er (bL 11 J J Gx J) J (aQ J (ae _))
    refine ad J ?_ ?_
    ·exact er (bL 14 J J xa J) J (aQ J (ae _))
    refine ad J ?_ ?_
    ·exact ci (gk J EE) J (aQ J (ae _))
    exact eJ
   intro d3 d4 d6 e5 e6 e7;refine oe (t:=[(65,U d3 d4 d6),(69,U e5 e6 e7),(70,pV e4 4),(1,U A3 n3 c3),(2,pV B4 0),(4,pV B5 0),(5,U none 0 0),(6,pV B6 0),(7,iV 0),(9,pV e2 0),(10,pV e3 0),(15,pV e4 0)]) (L':=[aw d3 d4 d6 h6,aw e5 e6 e7 h8,bc A3 n3 c3 a1,aR A1 n1 c1 a0.Se,aR A2 n2 c2 a0.Sc,ac B4 96 [U A1 n1 c1,U A2 n2 c2],aR b1 b2 b3 h1,ac B5 96 [U none 0 0,U b1 b2 b3],aw g2 g3 g4 h2,ac B6 30 [U g2 g3 g4],dK a2 a6 a7 b0,ac e2 39 [U a2 a6 a7],aj bf dp a8 e8.2,ac e3 170 [.map (some a8)],aw g5 g6 g7 h3,aw f4 g0 g1 h4,ac e4 42 [iV e9,iV f1,iV f2,iV f3,U g5 g6 g7,U f4 g0 g1]]) ?_ mw (ae _);refine yT 9 J I (ax (us:=[U d3 d4 d6]) (cs':=[iV e9,iV f1,iV f2,iV f3,U d3 d4 d6,U f4 g0 g1]) 16 J J J J size30.out J J J) J J ?_;rintro _ _ rfl;refine yU 10 J I (gk J wv) J J J ?_;refine yT 11 J I (ax (us:=[U e5 e6 e7]) (cs':=[iV e9,iV f1,iV f2,iV f3,U d3 d4 d6,U e5 e6 e7]) 16 J J J J size30.out J J J) J J ?_;rintro _ _ rfl;refine Dn ?_;refine ms I ?_;refine ab ?_;refine nu (bJ 0 J) ?_;refine nu (bJ 1 J) ?_
   refine gD (aY (R:=eB) (vss:=[[iV e9,iV f1,iV f2,iV f3,U d3 d4 d6,U e5 e6 e7]]) (xs:=[(⟨e9,f1,f2,f3,h6,h8⟩:Rk)]) J (vJ _ _ _ _ _ _ _ _ _ _) J J (fun _ _ hr=> .cons (⟨_,_,_,_,_,_,J,hr 0 _ J J,hr 1 _ J J⟩) All2.nil)) ?_;rintro _ _ ⟨p3,p4,p5,rfl,rfl⟩;obtain ⟨k2,h⟩:=ah h
   refine nr (aX 7 0 J J aI J J Ex ER J J k2) fun k3 k4 k5=> ?_
   obtain ⟨rfl,rfl⟩:=Prod.mk.inj (Option.some.inj h);exact AG ((cS [3,4,5,6,7,8,9,10,11,12,13,14] 18).trans (fQ ((k3,k4,k5),(g2,g3,g4)) J))
  ·rintro ⟨⟨b1,b2,b3⟩,⟨g8,g9,h0⟩⟩ h;refine pc ([bc A3 n3 c3 a1,aR A1 n1 c1 a0.Se,aR A2 n2 c2 a0.Sc,ac B4 96 [U A1 n1 c1,U A2 n2 c2],aR b1 b2 b3 j0.2.1,ac B5 96 [U none 0 0,U b1 b2 b3],aw g8 g9 h0 j0.2.2,ac B6 30 [U g8 g9 h0],dK a2 a6 a7 b0,ac e2 39 [U a2 a6 a7],aj bf dp a8 e8.2,ac e3 170 [.map (some a8)]]) J ?_;refine ab ?_;refine dY [0,1,2,4,5] ?_;obtain ⟨p6,k,h⟩:=aa h;refine zD 3 J (oR (nR k)) ?_;rintro _ _ ⟨_,⟨k6,k7,k8,rfl,rfl⟩,rfl⟩;refine aJ (cS [1,2,3,4,5,6,7,8,9,10,11,12] 13) ?_;obtain ⟨p7,k,h⟩:=aa h;refine zD 6 J (oR (nR k)) ?_;rintro _ _ ⟨_,⟨i0,i1,i2,rfl,rfl⟩,rfl⟩;refine aJ (cS [2,3,4,5,6,7,8,9,10,11,12,13] 14) ?_;refine zO 7 J (ax (us:=[U none 0 0,U b1 b2 b3]) (cs':=[U none 0 0,U b1 b2 b3]) 7 J J J J size96.out J J J) ?_;rintro _ _ rfl;refine aJ (cS [2,3,4,5,6,7,8,9,10,11,12,13] 14) ?_;refine zY [8] ?_;refine qo 9 J I I (ax (us:=[U i0 i1 i2]) (cs':=[U i0 i1 i2]) 9 J J J J size30.out J J J) ?_;rintro _ _ rfl;refine zX [10] ?_;refine ab ?_;obtain rfl:=cB h;exact ox (rs:=[.cell 4 96,.tmp 5,.cell 6 30,.tmp 7]) (vs:=[.agg #[U none 0 0,U b1 b2 b3],U k6 k7 k8,U i0 i1 i2,iV 0]) J (.cons (ij 7 J J agg96.out) (.cons (oB J) (.cons (D9 9 J J xa) (.cons (oB J) .nil)))) J ((bh eB 42 _).trans (cS [0,7,2,1,4,5] 15)) ⟨_,_,_,_,_,_,_,_,_,_,_,_,J,J⟩
  ·rintro ⟨⟨b1,b2,b3⟩,⟨g8,g9,h0⟩⟩ h;exact am h
  rintro i ⟨⟨b1,b2,b3⟩,⟨g8,g9,h0⟩⟩ h;exact am h
 ·rintro _ h;exact am h
 rintro i _ h;exact am h
def lC (N:Nat)(a0:RJ)(a1:RG):Option ((Rp×RJ×RJ×Int) ⊕ (Rp×RJ×RJ)):=
 (cV N a1.m_ a0).bind fun a2=>Au a2 (fun y11_0=>some (.inl (y11_0.1,y11_0.2.1,y11_0.2.2.1,y11_0.2.2.2))) (fun y11_1=>some (.inr (y11_1.1,y11_1.2.1,y11_1.2.2)))
theorem cA {N:Nat}{a0:RJ}{a1:RG}{r:((Rp×RJ×RJ×Int) ⊕ (Rp×RJ×RJ))}(h:lC N a0 a1=some r):Okc RY 85 [U A1 n1 c1,pV B2 0] ([bc A1 n1 c1 a0,ar B2 46 [pV B3 0],ac B3 99 [U A4 n4 c4,U A5 n5 c5,U A6 n6 c6,U A7 n7 c7,pV B8 0],aR A4 n4 c4 a1.m_.Se,aR A5 n5 c5 a1.m_.Sc,aw A6 n6 c6 a1.Si,aw A7 n7 c7 a1.Sq,ac B8 147 [.map (some M9)],aj bf bI M9 a1.So.at_]) (fun u post=>NY (fun (r:Rp×RJ×RJ×Int)=> ∃a2 a6 a7 a8 b0 b1 b2 b3 b4 b5 b6 b7,u=.tuple #[.agg #[U a2 a6 a7,U a8 b0 b1],U b2 b3 b4,U b5 b6 b7,iV r.2.2.2]/\post=[aR a2 a6 a7 r.1.Se,aR a8 b0 b1 r.1.Sc,aw b2 b3 b4 r.2.1,aw b5 b6 b7 r.2.2.1,aR A4 n4 c4 a1.m_.Se,aR A5 n5 c5 a1.m_.Sc,aw A6 n6 c6 a1.Si,aw A7 n7 c7 a1.Sq,ac B3 99 [U A4 n4 c4,U A5 n5 c5,U A6 n6 c6,U A7 n7 c7,pV B8 0],ac B8 147 [.map (some M9)],aj bf bI M9 a1.So.at_]) (fun (r:Rp×RJ×RJ)=> ∃a2 a6 a7 a8 b0 b1 b2 b3 b4 b5 b6 b7,u=.tuple #[.agg #[U a2 a6 a7,U a8 b0 b1],U b2 b3 b4,U b5 b6 b7,iV 0]/\post=[aR a2 a6 a7 r.1.Se,aR a8 b0 b1 r.1.Sc,aw b2 b3 b4 r.2.1,aw b5 b6 b7 r.2.2,aR A4 n4 c4 a1.m_.Se,aR A5 n5 c5 a1.m_.Sc,aw A6 n6 c6 a1.Si,aw A7 n7 c7 a1.Sq,ac B3 99 [U A4 n4 c4,U A5 n5 c5,U A6 n6 c6,U A7 n7 c7,pV B8 0],ac B8 147 [.map (some M9)],aj bf bI M9 a1.So.at_]) r):=by
 refine cG Tryz.func85 ?_;intro c0;refine ab ?_;obtain ⟨b9,b8,h⟩:=aa h;rcases b9 with y11_0|y11_1
 ·replace h:=F6 h
  refine Oy (oC (qZ b8)) fun c8 c9 d0 d1 d2 d3 d4 d6 e2 e3 e4 e5=> ?_
  exact eN
 replace h:=F5 h
 refine Oy (oC (qZ b8)) fun e6 e7 e8 e9 f1 f2 f3 f4 g0 g1 g2 g3=> ?_
 exact eN
def iE (N:Nat)(a0:Rr):Option RL:=
 (vm N a0.at_).bind fun y3=>(pB N a0.at_).bind fun y5=>some y5
theorem qK {N:Nat}{a0:Rr}{r:RL}(h:iE N a0=some r):Okc RY 57 [pV B1 0] ([ar B1 147 [.map (some M2)],eS bf bI M2 a0.at_]) (fun u post=> ∃A0 n0 c0,u=U A0 n0 c0/\post=[eG A0 n0 c0 r]):=by
 refine cG Tryz.func57 ?_;refine sZ ?_;refine fm (bA J Q8) ?_;refine cJ J ?_;refine ab ?_;obtain ⟨y3,k,h⟩:=aa h;refine gD (oR (Eh k)) ?_;rintro _ _ ⟨_,⟨B4,rfl,rfl⟩,rfl⟩;obtain ⟨y5,k,h⟩:=aa h
 refine nr (oR (ze k)) fun A6 n6 c6=> ?_
 exact eN
def kA (N:Nat)(a0:Ry):Option (Int×Bool):=
 (bif decide (a0.Sa=7) then (some true) else (some (decide (a0.Sa=9)))).bind fun b2=>some (a0.N,b2)
theorem sX {N:Nat}{a0:Ry}{r:Int×Bool}(h:kA N a0=some r):Okc RY 174 [(fX a0)] ([]) (fun u post=>u=.tuple #[iV r.1,.bool r.2]/\post=[]):=by
 refine cG Tryz.func174 ?_;intro B1;refine ab ?_;refine dY [0,1,2,3,4,5,10] ?_;obtain ⟨b2,a1,h⟩:=aa h;refine CG (fun l=>((((l.setIfInBounds 6 true).setIfInBounds 7 true).setIfInBounds 8 true).setIfInBounds 9 true)) 1 13 b2 (fun rest=> ?_) ?_
 ·clear h;refine EQ 9 J (fun g2=> ?_) (fun g2=> ?_)
  ·have h:=az g2 a1;refine rE 6 J I (wM g2 J) J ?_;refine rE 7 J I (wM g2 J) J ?_;refine rE 8 J I (wM g2 J) J ?_;refine zE 9 J (rm g2 J J) ?_;obtain rfl:=cB h;exact xE rest (ny J (aP (aP (aP (aP cD J) J) J) J)) (ae _) (ae _)
  have h:=aA g2 a1;refine vM 6 J I (ml J sb) (jK g2 J) J ?_;refine CF 7 J I (bL 0 J J su J) (jK g2 J) J ?_;refine vM 8 J I (Kj J J) (jK g2 J) J ?_;refine zE 9 J (rn g2 J J) ?_;obtain rfl:=cB h;exact xE rest (ny J (aP (aP (aP (aP cD J) J) J) J)) (ae _) (ae _)
 refine zX [11] ?_;exact eY
def nN (N:Nat)(a0:Ry)(a1:Rp):Option Bool:=
 (kA N a0).bind fun y5=>(bif y5.2 then ((iN N a1 y5.1).bind fun y7=>some (!y7)) else (some false)).bind fun b6=>some b6
theorem AD {N:Nat}{a0:Ry}{a1:Rp}{r:Bool}(h:nN N a0 a1=some r):Okc RY 173 [(fX a0),pV B1 0] ([ar B1 96 [U A2 n2 c2,U A3 n3 c3],bi A2 n2 c2 a1.Se,bi A3 n3 c3 a1.Sc]) (fun u post=>u=.bool r/\post=[]):=by
 refine cG Tryz.func173 ?_;intro B4;refine ab ?_;obtain ⟨y5,k,h⟩:=aa h;refine jQ (oR (sX k)) ?_;obtain ⟨b6,a2,h⟩:=aa h;refine aH 5 17 b6 ?_ ?_
 ·clear h;refine aE 12 J (fun g6=> ?_) (fun g6=> ?_)
  ·have h:=az g6 a2;refine ab ?_;obtain ⟨y7,k,h⟩:=aa h;refine gU (oR (kf k)) (cY g6 J) ?_;exact gY
  have h:=aA g6 a2;exact gY
 exact eY
def lV (N:Nat)(ff:Ry->Option Bool):Option Int:=
 some (-1)
def dq (N:Nat)(ff:Ry->Option Bool)(a0:RJ):Nat->Int->Option Int
 |0,_=>none
 |m3+1,p4=>bif decide (p4<(a0.length:Int)) then ((au a0 p4).bind fun x6=>(ff x6).bind fun y7=>bif y7 then (some p4) else (bn (in64 (p4+1)) ((dq N ff a0 m3) (p4+1)))) else (lV N ff)
def i5 (N:Nat)(a0:RJ)(ff:Ry->Option Bool):Option Int:=
 dq N ff a0 N 0
theorem rI {N:Nat}{a0:RJ}{ff:Ry->Option Bool}{r:Int}(h:i5 N a0 ff=some r){vf:Value}{G:List Chunk}(hf:G5 RY vf G (fun x=> [.agg #[iV x.Sa,iV x.N,.string x.S]]) (fun r=> .bool r) ff):Okc RY 91 [U A1 n1 c1,vf] (bc A1 n1 c1 a0::G) (fun u post=>u=iV r/\post=[]):=by
 refine cG Tryz.func91 ?_;refine ao (fun s L=>lV N ff=some r/\s=[(4,iV 0)]/\L=G) ?_ ?_
 ·refine ab ?_;refine aW (fun m s L=> ∃p4,dq N ff a0 m p4=some r/\s=[(0,U A1 n1 c1),(1,vf),(4,iV 0),(7,iV (a0.length:Int)),(8,iV p4)]/\L=bc A1 n1 c1 a0::G) N _ _ ⟨0,h,J,J⟩ sA (cS [0] 1) ?_;rintro (_|m3) _ _ ⟨p4,h,rfl,rfl⟩
  ·exact am h
  rw [dq.eq_2] at h;refine ab ?_;refine aL ?_;refine gH J h ?_ ?_<;>intro h
  ·refine sY ?_;obtain ⟨x6,a1,a2,a6,h⟩:=bG h;refine ab ?_;obtain ⟨y7,k,h⟩:=aa h;refine gD (BH (a:=x6) [bc A1 n1 c1 a0] hf k J J) ?_;rintro _ _ ⟨rfl,rfl⟩;refine fd h ?_ ?_<;>intro h
   ·exact eY
   refine ab ?_;obtain ⟨q9,h⟩:=ah h;exact lY
  exact jY
 rintro _ _ ⟨h,rfl,rfl⟩;exact eY
theorem qf {r:Int}: ∀v post,((fun (u:Value) (post:List Chunk)=>u=iV r/\post=[])) v post-> ∀c∈post,jJ c:=by
 rintro _ _ ⟨rfl,rfl⟩;exact ay
def cx (N:Nat)(a0:RJ)(ff:Ry->Option Bool):Option Bool:=
 (i5 N a0 ff).bind fun y2=>some (decide (0<=y2))
theorem ku {N:Nat}{a0:RJ}{ff:Ry->Option Bool}{r:Bool}(h:cx N a0 ff=some r){vf:Value}{G:List Chunk}(hf:G5 RY vf G (fun x=> [.agg #[iV x.Sa,iV x.N,.string x.S]]) (fun r=> .bool r) ff):Okc RY 50 [U A1 n1 c1,vf] (bc A1 n1 c1 a0::G) (fun u post=>u=.bool r/\post=[]):=by
 refine cG Tryz.func50 ?_;obtain ⟨y2,k,h⟩:=aa h;refine jQ (bV (rI k hf) call91.out J (hJ (dX (i:=0) J J) (zx (E:=[bc A1 n1 c1 a0]) hf.1)) qf) ?_;exact eN
def ig (N:Nat)(p3:RS):Option RS:=
 some p3
def ln (N:Nat)(a1:Int):Option RS:=
 bif decide (a1<0) then none else (bn (in64 (0 - 0)) (bn (in64 (a1 - (0 - 0))) (bif decide (0<a1 - (0 - 0)) then (bn ((0:Int)<(a1 - (0 - 0))/\(a1 - (0 - 0))<=1099511627776) (ig N ([]:List Rk))) else (ig N []))))
theorem uv {N:Nat}{a1:Int}{r:RS}(h:ln N a1=some r):Okc RY 94 [U none 0 0,iV a1] ([]) (fun u post=> ∃A0 n0 c0,u=U A0 n0 c0/\post=[aR A0 n0 c0 r]):=by
 refine cG Tryz.func94 ?_;refine sZ ?_;refine gH J h ?_ ?_<;>intro h
 ·exact am h
 refine ab ?_;refine ao (fun s L=> ∃p3 A3 n3 c3,ig N p3=some r/\s=[(0,U A3 n3 c3),(4,U none 0 0)]/\L=[aR A3 n3 c3 p3]) ?_ ?_
 ·refine ab ?_;refine fm (wy J Ex) ?_;refine gE (nX J Ex) ?_;obtain ⟨q4,h⟩:=ah h;refine ab ?_;obtain ⟨q5,h⟩:=ah h;refine fd h ?_ ?_<;>intro h
  ·refine ab ?_;refine gE (wy J Ex) ?_;refine fm (zF J Ex size42.out J) ?_;obtain ⟨q7,h⟩:=ah h
   refine nr (xu J J Ex hP ER J q7.1 q7.2) fun A8 n8 c8=> ?_
   refine gE (nX J Ex) ?_
   refine nr (Ec (R:=eB) 0 J J Ex size42.out J J) fun A9 n9 c9=> ?_
   exact jN
  refine ab ?_;exact ⟨_,_,⟨[],none,0,0,h,J,J⟩,sA,(bh eB 42 _).trans (cS [0] 1)⟩
 rintro _ _ ⟨p3,A3,n3,c3,h,rfl,rfl⟩;exact eY
def jU (N:Nat)(a1:RS):Option RS:=
 some a1
def kP (N:Nat)(a0_0:RS)(a0_1:RS):Option RS:=
 (ln N ((0+(a0_0.length:Int))+(a0_1.length:Int))).bind fun y9=>bn (cc (y9.length+a0_0.length)) (bn (cc ((y9++a0_0).length+a0_1.length)) (jU N ((y9++a0_0)++a0_1)))
def fD (N:Nat)(a0_0:RS)(a0_1:RS):Option RS:=
 bn (in64 (0+(a0_0.length:Int))) (bif decide (0+(a0_0.length:Int)<0) then none else (bn (in64 ((0+(a0_0.length:Int))+(a0_1.length:Int))) (bif decide ((0+(a0_0.length:Int))+(a0_1.length:Int)<0) then none else (kP N a0_0 a0_1))))
theorem oh {N:Nat}{a0_0:RS}{a0_1:RS}{r:RS}(h:fD N a0_0 a0_1=some r):Okc RY 54 [.slice (some ⟨B1,0,none⟩) 2 2] ([ar B1 94 [U A2 n2 c2,U A3 n3 c3],bi A2 n2 c2 a0_0,bi A3 n3 c3 a0_1]) (fun u post=> ∃A0 n0 c0,u=U A0 n0 c0/\post=[aR A0 n0 c0 r]):=by
 refine cG Tryz.func54 ?_;refine ao (fun s L=>kP N a0_0 a0_1=some r/\s=[(0,.slice (some ⟨B1,0,none⟩) 2 2),(2,U none 0 0),(3,iV ((0+(a0_0.length:Int))+(a0_1.length:Int)))]/\L=[bi A2 n2 c2 a0_0,bi A3 n3 c3 a0_1,ar B1 94 [U A2 n2 c2,U A3 n3 c3]]) ?_ ?_
 ·refine ab ?_;refine fm (nX J Q7) ?_;refine rG 3 ?_;refine sF ?_;refine ab ?_;refine aL ?_;refine cq J ?_;refine sY ?_;refine fm (nc J J Q7 size94.out (by decide) (by decide)) ?_;obtain ⟨q5,h⟩:=ah h;refine fd h ?_ ?_<;>intro h
  ·exact am h
  refine ab ?_;refine fm (ia J J (by decide) (by decide)) ?_;refine sF ?_;refine ab ?_;refine aL ?_;refine cq J ?_;refine sY ?_;refine fm (nc J J Q7 size94.out (by decide) (by decide)) ?_;obtain ⟨q7,h⟩:=ah h;refine fd h ?_ ?_<;>intro h
  ·exact am h
  refine ab ?_;refine fm (ia J J (by decide) (by decide)) ?_;refine sF ?_;refine ab ?_;refine aL ?_;refine cJ J ?_;exact jY
 rintro _ _ ⟨h,rfl,rfl⟩;refine ab ?_;obtain ⟨y9,k,h⟩:=aa h
 refine nr (oC (uv k)) fun b1 b2 b3=> ?_
 refine ao (fun s L=> ∃a1 a2 a6 a7,jU N a1=some r/\s=[(2,U none 0 0),(6,U a2 a6 a7)]/\L=[aR a2 a6 a7 a1]) ?_ ?_
 ·refine ab ?_;refine fm (nX J Q7) ?_;refine rG 3 ?_;refine sF ?_;refine ab ?_;refine aL ?_;refine cq J ?_;refine sY ?_;refine fm (nc J J Q7 size94.out (by decide) (by decide)) ?_;obtain ⟨a8,h⟩:=ah h
  refine nr (aX 0 1 J J bj J J Ex ER J J a8) fun b4 b5 b6=> ?_
  refine fm (ia J J (by decide) (by decide)) ?_;refine sF ?_;refine ab ?_;refine aL ?_;refine cq J ?_;refine sY ?_;refine fm (nc J J Q7 size94.out (by decide) (by decide)) ?_;obtain ⟨b0,h⟩:=ah h
  refine nr (aX 0 2 J J bj J J Ex ER J J b0) fun b7 b8 b9=> ?_
  refine fm (ia J J (by decide) (by decide)) ?_;refine sF ?_;refine ab ?_;refine aL ?_;refine cJ J ?_;exact jY
 rintro _ _ ⟨a1,a2,a6,a7,h,rfl,rfl⟩;exact eY
def iR (N:Nat)(a0:Rk):Option RL:=
 (fC N a0).bind fun y4=>(ja N a0).bind fun y6=>bn (cc (y4.length+y6.length)) (some (y4++y6))
theorem qW {N:Nat}{a0:Rk}{r:RL}(h:iR N a0=some r):Okc RY 176 [.agg #[iV a0.Sa,iV a0.Sk,iV a0.Sj,iV a0.Sn,U A1 n1 c1,U A2 n2 c2]] ([bc A1 n1 c1 a0.Sg,bc A2 n2 c2 a0.Sd]) (fun u post=> ∃A0 n0 c0,u=U A0 n0 c0/\post=[eG A0 n0 c0 r]):=by
 refine cG Tryz.func176 ?_;intro B3;refine ab ?_;refine dY [0,2] ?_;obtain ⟨y4,k,h⟩:=aa h;refine zD 1 J (oR (jb k)) ?_;rintro _ _ ⟨_,⟨A5,n5,c5,rfl,rfl⟩,rfl⟩;refine aJ (cS [1,2,3] 4) ?_;obtain ⟨y6,k,h⟩:=aa h;refine zD 3 J (oR (ob k)) ?_;rintro _ _ ⟨_,⟨A7,n7,c7,rfl,rfl⟩,rfl⟩;refine aJ (cS [2,3,4] 5) ?_;obtain ⟨q8,h⟩:=ah h;refine zD 4 J (aX 1 0 J J aI J J t0 ES J J q8) ?_;rintro _ _ ⟨A9,n9,c9,rfl,rfl⟩;refine aJ (cS [2,3,4] 5) ?_;refine zX [5] ?_;exact eY
def oI (N:Nat)(a0:Int)(a1:Rp):Option Bool:=
 (iN N a1 a0).bind fun y4=>some (!y4)
theorem yj {N:Nat}{a0:Int}{a1:Rp}{r:Bool}(h:oI N a0 a1=some r):Okc RY 194 [iV a0,pV B1 0] ([ar B1 96 [U A2 n2 c2,U A3 n3 c3],bi A2 n2 c2 a1.Se,bi A3 n3 c3 a1.Sc]) (fun u post=>u=.bool r/\post=[]):=by
 refine cG Tryz.func194 ?_;obtain ⟨y4,k,h⟩:=aa h;refine jQ (oR (kf k)) ?_;exact eN
def vd (N:Nat):Option Bool:=
 some true
def nL (N:Nat)(y6:RS)(a0:Rp):Nat->Int->Option Bool
 |0,_=>none
 |m8+1,p9=>bif decide (p9<(y6.length:Int)) then ((au y6 p9).bind fun a1=>(fA N a1).bind fun a2=>(bif !a2 then (some true) else ((iR N a1).bind fun a6=>(bB N a6 (fun x=>oI N x a0)).bind fun a7=>some a7)).bind fun a8=>bif a8 then (some false) else (bn (in64 (p9+1)) ((nL N y6 a0 m8) (p9+1)))) else (vd N)
def o3 (N:Nat)(a0:Rp):Option Bool:=
 (fD N a0.Se a0.Sc).bind fun y6=>nL N y6 a0 N 0
theorem BO {N:Nat}{a0:Rp}{r:Bool}(h:o3 N a0=some r):Okc RY 175 [.agg #[U A1 n1 c1,U A2 n2 c2]] ([bi A1 n1 c1 a0.Se,bi A2 n2 c2 a0.Sc]) (fun u post=>u=.bool r/\post=[]):=by
 refine cG Tryz.func175 ?_;intro B3;refine ab ?_;refine ao (fun s L=>vd N=some r/\s=[(2,.bool false)]/\L=[]) ?_ ?_
 ·refine ab ?_
  refine gB (eC (cs:=[U A1 n1 c1,U A2 n2 c2]) J (zK _ _ _ _ _ _)) fun B5=> ?_
  obtain ⟨y6,k,h⟩:=aa h;refine nu (gL 0 J) ?_
  refine nr (oC (oh k)) fun A7 n7 c7=> ?_
  refine aW (fun m s L=> ∃p9,nL N y6 a0 m p9=some r/\s=[(1,pV B3 0),(2,.bool false),(10,U A7 n7 c7),(11,iV (y6.length:Int)),(12,iV p9)]/\L=[aR A7 n7 c7 y6,bi A1 n1 c1 a0.Se,bi A2 n2 c2 a0.Sc,ac B3 96 [U A1 n1 c1,U A2 n2 c2]]) N _ _ ⟨0,h,J,J⟩ sA (cS [0,3,4,2] 5) ?_;rintro (_|m8) _ _ ⟨p9,h,rfl,rfl⟩
  ·exact am h
  rw [nL.eq_2] at h;refine ab ?_;refine aL ?_;refine gH J h ?_ ?_<;>intro h
  ·refine sY ?_;obtain ⟨a2,a8,b0,a7,h⟩:=bG h;refine ab ?_;refine gD (Ju 0 J aI J a7 agg42.out J (f0 a2)) ?_;rintro u _ ⟨_,_,⟨b1,b2,b3,b4,b5,b6,rfl,rfl⟩,hu,rfl⟩;obtain rfl:u=.agg #[iV a2.Sa,iV a2.Sk,iV a2.Sj,iV a2.Sn,U b1 b2 b3,U b4 b5 b6]:=hu
   refine iD fun b8=> ?_
   obtain ⟨b9,k,h⟩:=aa h;refine jQ (oR (kM k)) ?_;obtain ⟨b7,a6,h⟩:=aa h;refine aH 5 24 b7 ?_ ?_
   ·clear h;refine aE 19 J (fun a1=> ?_) (fun a1=> ?_)
    ·have h:=az a1 a6;exact gY
    have h:=aA a1 a6;refine ab ?_;obtain ⟨c0,k,h⟩:=aa h;refine Aq (oR (qW k)) J (jK a1 J) J ?_;rintro _ _ ⟨_,⟨c8,c9,d0,rfl,rfl⟩,rfl⟩;refine pP (dR J) J (jK a1 J) J ?_;obtain ⟨d1,k,h⟩:=aa h;refine gU (oR (dj k ⟨hJ J (hJ J (hJ J ay)),194, #[], #[pV B3 0],J,call194.out,fun _ _ hh=>yj hh⟩)) (jK a1 J) ?_;exact gY
   refine fd h ?_ ?_<;>intro h
   ·exact eY
   refine ab ?_;obtain ⟨d2,h⟩:=ah h;exact lY
  exact jY
 rintro _ _ ⟨h,rfl,rfl⟩;exact eY
def fw (N:Nat)(a0:Int):Option Bool:=
 (bif decide (0<a0) then (some (decide (a0.tmod 2=1))) else (some false)).bind fun b1=>some b1
theorem lx {N:Nat}{a0:Int}{r:Bool}(h:fw N a0=some r):Okc RY 138 [iV a0] ([]) (fun u post=>u=.bool r/\post=[]):=by
 refine cG Tryz.func138 ?_;obtain ⟨b1,a1,h⟩:=aa h;refine aH 4 9 b1 ?_ ?_
 ·clear h;refine aE 5 J (fun g1=> ?_) (fun g1=> ?_)
  ·have h:=az g1 a1;refine ab ?_;refine pP (rk J J (by decide)) J (cY g1 J) J ?_;exact gY
  have h:=aA g1 a1;exact gY
 exact eY
theorem zq {r:Bool}: ∀v post,((fun (u:Value) (post:List Chunk)=>u=.bool r/\post=[])) v post-> ∀c∈post,jJ c:=by
 rintro _ _ ⟨rfl,rfl⟩;exact ay
def xc (N:Nat):Option Bool:=
 some true
def o4 (N:Nat)(a0:Rp)(a2:RL):Nat->Int->Option Bool
 |0,_=>none
 |a6+1,a1=>bif decide (a1<(a0.Sc.length:Int)) then ((au a0.Sc a1).bind fun a7=>(iR N a7).bind fun a8=>(bB N a8 (fun x=>fw N x)).bind fun b0=>(bif b0 then (bn (in64 (2*a1)) (bn (in64 ((2*a1)+2)) ((dA N a2 ((2*a1)+2)).bind fun b1=>some (!b1)))) else (some false)).bind fun b2=>bif b2 then (some false) else (bn (in64 (a1+1)) ((o4 N a0 a2 a6) (a1+1)))) else (xc N)
def kJ (N:Nat)(a2:RL)(a0:Rp):Option Bool:=
 o4 N a0 a2 N 0
def mG (N:Nat)(a2:RL)(a0:Rp):Nat->Int->Option Bool
 |0,_=>none
 |a7+1,a1=>bif decide (a1<(a2.length:Int)) then ((au a2 a1).bind fun a6=>(fw N a6).bind fun a8=>(bif a8 then (some true) else ((iN N a0 a6).bind fun b0=>some (!b0))).bind fun b1=>(bif b1 then (some true) else ((bif decide (0<a1) then (bn (in64 (a1 - 1)) ((au a2 (a1 - 1)).bind fun b2=>some (decide (a6<=b2)))) else (some false)).bind fun b3=>some b3)).bind fun b4=>bif b4 then (some false) else (bn (in64 (a1+1)) ((mG N a2 a0 a7) (a1+1)))) else (kJ N a2 a0)
def po (N:Nat)(a0:Rp)(a1:RJ)(a2:RL):Option Bool:=
 (cx N a1 (fun x=>nN N x a0)).bind fun y6=>(bif y6 then (some true) else ((o3 N a0).bind fun y8=>some (!y8))).bind fun b7=>bif b7 then (some false) else (mG N a2 a0 N 0)
theorem Ef {N:Nat}{a0:Rp}{a1:RJ}{a2:RL}{r:Bool}(h:po N a0 a1 a2=some r):Okc RY 130 [.agg #[U A1 n1 c1,U A2 n2 c2],U A3 n3 c3,U A4 n4 c4] ([bi A1 n1 c1 a0.Se,bi A2 n2 c2 a0.Sc,bc A3 n3 c3 a1,dK A4 n4 c4 a2]) (fun u post=>u=.bool r/\post=[]):=by
 refine cG Tryz.func130 ?_;intro B5;refine ab ?_;refine fm (dR J) ?_;refine sZ ?_;obtain ⟨y6,k,h⟩:=aa h;refine jQ (oR (ku k ⟨hJ J (hJ J (hJ J ay)),173, #[], #[pV B5 0],J,call173.out,fun _ _ hh=>AD hh⟩)) ?_;obtain ⟨b7,c0,h⟩:=aa h;refine aH 4 20 b7 ?_ ?_
 ·clear h;refine aE 16 J (fun g7=> ?_) (fun g7=> ?_)
  ·have h:=az g7 c0;exact gY
  have h:=aA g7 c0;refine ab ?_;obtain ⟨y8,k,h⟩:=aa h;refine gU (oR (BO k)) (jK g7 J) ?_;exact gY
 refine fd h ?_ ?_<;>intro h
 ·exact eY
 refine ab ?_;refine ao (fun s L=>kJ N a2 a0=some r/\s=[(2,U A4 n4 c4),(3,pV B5 0),(6,.bool false)]/\L=[dK A4 n4 c4 a2,bi A1 n1 c1 a0.Se,bi A2 n2 c2 a0.Sc,ac B5 96 [U A1 n1 c1,U A2 n2 c2]]) ?_ ?_
 ·refine ab ?_;refine aW (fun m s L=> ∃b4,mG N a2 a0 m b4=some r/\s=[(2,U A4 n4 c4),(3,pV B5 0),(6,.bool false),(21,U A4 n4 c4),(22,iV (a2.length:Int)),(23,iV b4)]/\L=[dK A4 n4 c4 a2,bi A1 n1 c1 a0.Se,bi A2 n2 c2 a0.Sc,ac B5 96 [U A1 n1 c1,U A2 n2 c2]]) N _ _ ⟨0,h,J,J⟩ sA (cS [4,1,2,0] 5) ?_;rintro (_|f4) _ _ ⟨b4,h,rfl,rfl⟩
  ·exact am h
  rw [mG.eq_2] at h;refine ab ?_;refine aL ?_;refine gH J h ?_ ?_<;>intro h
  ·refine sY ?_;obtain ⟨g0,c9,d0,d1,h⟩:=bG h;refine ab ?_;obtain ⟨g1,k,h⟩:=aa h;refine jQ (oR (lx k)) ?_;obtain ⟨d2,a6,h⟩:=aa h;refine aH 5 35 d2 ?_ ?_
   ·clear h;refine aE 30 J (fun b3=> ?_) (fun b3=> ?_)
    ·have h:=az b3 a6;exact gY
    have h:=aA b3 a6;refine ab ?_;obtain ⟨g2,k,h⟩:=aa h;refine gU (oR (kf k)) (jK b3 J) ?_;exact gY
   refine ab ?_;obtain ⟨d3,a7,h⟩:=aa h;refine aH 12 48 d3 ?_ ?_
   ·clear h;refine aE 36 J (fun b5=> ?_) (fun b5=> ?_)
    ·have h:=az b5 a7;exact gY
    have h:=aA b5 a7;refine ab ?_;obtain ⟨d4,a8,h⟩:=aa h;refine aH 8 47 d4 ?_ ?_
    ·clear h;refine aE 39 J (fun b6=> ?_) (fun b6=> ?_)
     ·have h:=az b6 a8;refine ab ?_;obtain ⟨g3,h⟩:=ah h;refine ab ?_;obtain ⟨g4,d6,e2,e3,h⟩:=bG h;exact gY
     have h:=aA b6 a8;exact gY
    exact gY
   refine fd h ?_ ?_<;>intro h
   ·exact eY
   refine ab ?_;obtain ⟨g5,h⟩:=ah h;exact lY
  exact jY
 rintro _ _ ⟨h,rfl,rfl⟩;refine ao (fun s L=>xc N=some r/\s=[(6,.bool false)]/\L=[]) ?_ ?_
 ·refine ab ?_;refine aW (fun m s L=> ∃b8,o4 N a0 a2 m b8=some r/\s=[(2,U A4 n4 c4),(6,.bool false),(51,U A2 n2 c2),(52,iV (a0.Sc.length:Int)),(53,iV b8)]/\L=[dK A4 n4 c4 a2,bi A2 n2 c2 a0.Sc]) N _ _ ⟨0,h,J,J⟩ sA (cS [0,2] 4) ?_;rintro (_|g6) _ _ ⟨b8,h,rfl,rfl⟩
  ·exact am h
  rw [o4.eq_2] at h;refine ab ?_;refine aL ?_;refine gH J h ?_ ?_<;>intro h
  ·refine sY ?_;obtain ⟨b0,e4,e5,b9,h⟩:=bG h;refine ab ?_;refine ur 1 J b9 (f0 b0) ?_;rintro _ _ ⟨e6,e7,e8,e9,f1,f2,rfl,rfl⟩;refine Dv (la (us:=[iV b0.Sa,iV b0.Sk,iV b0.Sj,iV b0.Sn,U e6 e7 e8,U e9 f1 f2]) 0 J J agg42.out J) ?_;intro g8;refine ab ?_;obtain ⟨g9,k,h⟩:=aa h;refine gD (oR (qW k)) ?_;rintro _ _ ⟨_,⟨h0,h1,h2,rfl,rfl⟩,rfl⟩;obtain ⟨h3,k,h⟩:=aa h;refine jQ (oR (dj k ⟨ay,138, #[], #[],J,call138.out,fun _ _ hh=>lx hh⟩)) ?_;obtain ⟨f3,b1,h⟩:=aa h;refine aH 7 68 f3 ?_ ?_
   ·clear h;refine aE 61 J (fun b2=> ?_) (fun b2=> ?_)
    ·have h:=az b2 b1;refine ab ?_;obtain ⟨c8,h⟩:=ah h;refine pP (sC J J c8.1 c8.2) J (cY b2 J) J ?_;obtain ⟨h4,h⟩:=ah h;refine ab ?_;obtain ⟨h5,k,h⟩:=aa h;refine gU (oR (jS k)) (cY b2 J) ?_;exact gY
    have h:=aA b2 b1;exact gY
   refine fd h ?_ ?_<;>intro h
   ·exact eY
   refine ab ?_;obtain ⟨h6,h⟩:=ah h;exact lY
  exact jY
 rintro _ _ ⟨h,rfl,rfl⟩;exact eY
def bZ (N:Nat)(a0:RC)(a1:Int):Option RC:=
 (fw N a1).bind fun y7=>(bif y7 then (some (!((lk a0.SL a1).getD false))) else (some false)).bind fun b8=>bif b8 then (bn (cc (a0.Sw.length+([a1]:List Int).length)) (some (⟨a0.m_,a0.SM,a0.Sw++([a1]:List Int),xi a0.SL a1 true,a0.Ss⟩:RC))) else (some a0)
theorem iQ {N:Nat}{a0:RC}{a1:Int}{r:RC}(h:bZ N a0 a1=some r):Okc RY 177 [pV B1 0,iV a1] ([bi A2 n2 c2 a0.m_.Se,bi A3 n3 c3 a0.m_.Sc,dK A4 n4 c4 a0.SM,ac B1 186 [U A2 n2 c2,U A3 n3 c3,U A4 n4 c4,U A5 n5 c5,.map (some M6),iV a0.Ss],eG A5 n5 c5 a0.Sw,aj bf bI M6 a0.SL]) (fun u post=> ∃A0 n0 c0 A1 n1 c1 A2 n2 c2 A3 n3 c3 M4,u=.tuple #[]/\post=[ac B1 186 [U A0 n0 c0,U A1 n1 c1,U A2 n2 c2,U A3 n3 c3,.map (some M4),iV r.Ss],bi A0 n0 c0 r.m_.Se,bi A1 n1 c1 r.m_.Sc,dK A2 n2 c2 r.SM,eG A3 n3 c3 r.Sw,aj bf bI M4 r.SL]):=by
 refine cG Tryz.func177 ?_;obtain ⟨y7,k,h⟩:=aa h;refine jQ (oR (lx k)) ?_;obtain ⟨b8,a2,h⟩:=aa h;refine aH 8 14 b8 ?_ ?_
 ·clear h;refine aE 6 J (fun g8=> ?_) (fun g8=> ?_)
  ·have h:=az g8 a2;refine ab ?_;refine tg (Bq (a:=a1) (z:=false) 5 J tJ J J Re (dT hP) zero4.out) J (cY g8 J) J ?_;exact gY
  have h:=aA g8 a2;exact gY
 refine fd h ?_ ?_<;>intro h
 ·refine ab ?_;refine GJ (gp (a:=a1) (b:=true) 5 J J J J Re (dT hP)) ?_;refine gD (aY (R:=(eT .i64)) (vss:=[[iV a1]]) (xs:=[a1]) J (lF _) J J (fun _ _ hr=> .cons J All2.nil)) ?_;rintro _ _ ⟨a7,a8,b0,rfl,rfl⟩;obtain ⟨a6,h⟩:=ah h
  refine nr (aX 5 0 J J aI J J t0 ES J J a6) fun b1 b2 b3=> ?_
  exact eN
 exact eY
def bD (N:Nat)(a0:RC)(a1:Int):Option Rk:=
 (fw N a1).bind fun y8=>bif y8 then (bn (in64 (a1.tdiv 2)) ((au a0.m_.Se (a1.tdiv 2)).bind fun a2=>some a2)) else (bn (in64 (a1.tdiv 2)) (bn (in64 ((a1.tdiv 2) - 1)) ((au a0.m_.Sc ((a1.tdiv 2) - 1)).bind fun a6=>some a6)))
theorem fK {N:Nat}{a0:RC}{a1:Int}{r:Rk}(h:bD N a0 a1=some r):Okc RY 137 [pV B1 0,iV a1] ([bi A2 n2 c2 a0.m_.Se,bi A3 n3 c3 a0.m_.Sc,dK A4 n4 c4 a0.SM,ac B1 186 [U A2 n2 c2,U A3 n3 c3,U A4 n4 c4,U A5 n5 c5,.map (some M6),iV a0.Ss],eG A5 n5 c5 a0.Sw,aj bf bI M6 a0.SL]) (fun u post=> ∃a7 a8 b0 b1 b2 b3,u=.agg #[iV r.Sa,iV r.Sk,iV r.Sj,iV r.Sn,U a7 a8 b0,U b1 b2 b3]/\post=[bc a7 a8 b0 r.Sg,bc b1 b2 b3 r.Sd,ac B1 186 [U A2 n2 c2,U A3 n3 c3,U A4 n4 c4,U A5 n5 c5,.map (some M6),iV a0.Ss],eG A5 n5 c5 a0.Sw,aj bf bI M6 a0.SL]):=by
 refine Ed Tryz.func137 J J ?_;simp only [sc];refine W ?_
 refine gB (cP zero42.out J) fun B7=> ?_
 refine W ?_;refine aL ?_;refine W ?_;obtain ⟨y8,k,h⟩:=aa h;refine gV (bV (lx k) call138.out J (ay) zq) ?_;refine W ?_;refine gH J h ?_ ?_<;>intro h
 ·refine W ?_;obtain ⟨e5,h⟩:=ah h;refine gE (xB J J (by decide) e5.1 e5.2) ?_;obtain ⟨a2,d3,d4,d6,h⟩:=bG h;refine gR (gn 1 J bj J J Ex size42.out d3 d4) ?_;refine ur 1 J d6 (f0 a2) ?_;rintro _ _ ⟨b4,b5,b6,b7,b8,b9,rfl,rfl⟩;refine gR (la (us:=[iV a2.Sa,iV a2.Sk,iV a2.Sj,iV a2.Sn,U b4 b5 b6,U b7 b8 b9]) 0 J J agg42.out J) ?_;refine gW (ax (us:=[iV a2.Sa,iV a2.Sk,iV a2.Sj,iV a2.Sn,U b4 b5 b6,U b7 b8 b9]) (cs':=[iV a2.Sa,iV a2.Sk,iV a2.Sj,iV a2.Sn,U b4 b5 b6,U b7 b8 b9]) 3 J J J J size42.out J J J) ?_;refine W ?_;obtain rfl:=cB h;exact ox (rs:=[.cell 4 42]) (vs:=[.agg #[iV a2.Sa,iV a2.Sk,iV a2.Sj,iV a2.Sn,U b4 b5 b6,U b7 b8 b9]]) J (.cons (ij 3 J J agg42.out) .nil) J (cS [1,2,7,8,9] 10) ⟨_,_,_,_,_,_,J,J⟩
 refine W ?_;obtain ⟨e6,h⟩:=ah h;refine gE (xB J J (by decide) e6.1 e6.2) ?_;obtain ⟨e7,h⟩:=ah h;refine gE (GM J J e7.1 e7.2) ?_;obtain ⟨a6,e2,e3,e4,h⟩:=bG h;refine gR (gn 2 J bj J J Ex size42.out e2 e3) ?_;refine ur 2 J e4 (f0 a6) ?_;rintro _ _ ⟨c0,c8,c9,d0,d1,d2,rfl,rfl⟩;refine gR (la (us:=[iV a6.Sa,iV a6.Sk,iV a6.Sj,iV a6.Sn,U c0 c8 c9,U d0 d1 d2]) 0 J J agg42.out J) ?_;refine gW (ax (us:=[iV a6.Sa,iV a6.Sk,iV a6.Sj,iV a6.Sn,U c0 c8 c9,U d0 d1 d2]) (cs':=[iV a6.Sa,iV a6.Sk,iV a6.Sj,iV a6.Sn,U c0 c8 c9,U d0 d1 d2]) 3 J J J J size42.out J J J) ?_;refine W ?_;obtain rfl:=cB h;exact ox (rs:=[.cell 4 42]) (vs:=[.agg #[iV a6.Sa,iV a6.Sk,iV a6.Sj,iV a6.Sn,U c0 c8 c9,U d0 d1 d2]]) J (.cons (ij 3 J J agg42.out) .nil) J (cS [1,2,7,8,9] 10) ⟨_,_,_,_,_,_,J,J⟩
end Go.Proofs.YtjmonlcchlkdhaaGreat