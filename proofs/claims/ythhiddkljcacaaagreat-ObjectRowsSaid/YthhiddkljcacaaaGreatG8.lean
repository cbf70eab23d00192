/- Merged texts: part 8. No conditions of their own. -/
import Derived.Test.YthhiddkljcacaaaGreatG7
import Derived.Test.YthhiddkljcacaaaGreatG1
set_option maxHeartbeats 4000000
namespace Go.Proofs.YthhiddkljcacaaaGreat
variable (N:Nat){f:Bool->Option Bool}{a a1 a2 x:Int}{l:List VH}{i:Nat}{m:Option Bool}{p:Prop}{α β ρ:Type}{d:VK}{c:VL}{a1_0:Vz}
section
theorem Vt:type_of% Tryz.underlying38:=Tryz.underlying38
theorem Vs:type_of% Tryz.underlying36:=Tryz.underlying36
theorem Vr:type_of% Tryz.underlying29:=Tryz.underlying29
theorem Vq:type_of% Tryz.underlying34:=Tryz.underlying34
variable {A1 A2 A3 A4 A5 A6 o q:Option Addr}{B1 B2 e B6 n c1 c2 c3 c4 c5 c6 t z j n2 n3 n4 n5 n6 A B:Nat}
open Go.RowKit Asn
set_option maxRecDepth 20000
def Dg (a:Int)(d:VK):Option VK:=
 (mH N d.XX).bind fun a6=>(nL N a6.2 a).bind fun a8=>some (⟨d.Yj,d.Ye,(),a8,d.Ya,d.Yk,d.Yh,d.Yr,d.Ys,d.Yl,d.Ym⟩:VK)
def De (N:Nat)(a6:Int->Option VK)(a:Int)(c:VL)(a8:Int)(d:VK):Option VK:=
 ae (in64 (a8+1)) (a6 (a8+1))
def Hy (a6:Int->Option VK)(a:Int)(a8:VL)(e:Int)(d:VK)(c:VL):Nat->Option VK
 |0=>none
 |f+1=>ae (in64 (1+3)) (bif decide (1+3<(c.XP.length:Int)) then none else (De N a6 a a8 e d))
def qJ (N:Nat)(a:Int)(a6:VL)(d:VK):Nat->Int->Option VK
 |0,_=>none
 |e+1,a8=>bif decide (a8<(a6.XP.length:Int)) then ((ak a6.XP a8).bind fun f=>(gZ N d f).bind fun c=>bif !decide (c.no=10) then (De N (qJ N a a6 d e) a a6 a8 d) else (Hy N (qJ N a a6 d e) a a6 a8 d c N)) else (Dg N a d)
def xv (d:VK):Option VK:=
 (mE N d).bind fun c=>(jx N d.XX 19).bind fun a=>(gZ N d a).bind fun a6=>qJ N c a6 d N 0
theorem OV {N:Nat}{r:VK}(h:xv N d=some r):Okc V5 45 [pV B1 0,.func (.func 46) #[pV B2 0] #[]] ([ab B1 85 (cF d B2 e A4 n4 c4 A5 n5 c5 A6 n6 c6),oDHeap B2 d.XX,oDTable e d.Ya,bi A4 n4 c4 d.Yk,cx A5 n5 c5 d.Yl,bi A6 n6 c6 d.Ym]) (fun u p=> ∃F n D A1 j c1 A2 n2 c2,u=.tuple #[]/\p=[ab B1 85 (cF r B2 e F n D A1 j c1 A2 n2 c2),oDHeap B2 r.XX,oDTable e r.Ya,bi F n D r.Yk,cx A1 j c1 r.Yl,bi A2 n2 c2 r.Ym]):=by
 refine av Tryz.func45 ?_;refine cR h (fun _ k=>DK k) fun a h=> ?_
 refine aF (fun s L=>Dg N a d=some r/\s=[(0,pV B1 0),(1,.func (.func 46) #[pV B2 0] #[]),(4,iV a)]/\L=[oDHeap B2 d.XX,bi A4 n4 c4 d.Yk,cx A5 n5 c5 d.Yl,bi A6 n6 c6 d.Ym,ab B1 85 (cF d B2 e A4 n4 c4 A5 n5 c5 A6 n6 c6),oDTable e d.Ya]) ?_ ?_
 ·refine aa ?_;obtain ⟨H,k,h⟩:=ad h;refine gV (oR (qS k)) ?_;obtain ⟨a6,k,h⟩:=ad h;refine gD (oR (ug k)) ?_;rintro _ _ ⟨_,⟨V,U,T,i,f,c,rfl,rfl⟩,rfl⟩;refine aJ (vV J (FZ _ _ _ _ _ _ _ _ _ _)) ?_;refine lK (fun m s L=> ∃(a8:Int),qJ N a a6 d m a8=some r/\s=[(0,pV B1 0),(1,.func (.func 46) #[pV B2 0] #[]),(4,iV a),(18,Y i f c),(19,iV (a6.XP.length:Int)),(20,iV a8)]/\L=[aj i f c a6.XP,oDHeap B2 d.XX,bi A4 n4 c4 d.Yk,cx A5 n5 c5 d.Yl,bi A6 n6 c6 d.Ym,ab B1 85 (cF d B2 e A4 n4 c4 A5 n5 c5 A6 n6 c6),oDTable e d.Ya]) N ?_;rintro E _ _ ⟨a8,h,rfl,rfl⟩;rw [qJ.eq_2] at h;refine aa ?_;refine aH ?_;refine gH J h ?_ ?_<;>intro h
  ·refine aa ?_;refine aF (fun s L=>De N (qJ N a a6 d E) a a6 a8 d=some r/\s=[(0,pV B1 0),(1,.func (.func 46) #[pV B2 0] #[]),(4,iV a),(18,Y i f c),(19,iV (a6.XP.length:Int)),(20,iV a8)]/\L=[aj i f c a6.XP,oDHeap B2 d.XX,bi A4 n4 c4 d.Yk,cx A5 n5 c5 d.Yl,bi A6 n6 c6 d.Ym,ab B1 85 (cF d B2 e A4 n4 c4 A5 n5 c5 A6 n6 c6),oDTable e d.Ya]) ?_ ?_
   ·refine aa ?_;obtain ⟨S,e1,Z,X,h⟩:=aI h;refine bB fun R=> ?_
    refine qA h (fun _ k=>ug k) fun l C B A z t q h=> ?_
    intro o;refine sY ?_;refine gH J h ?_ ?_<;>intro h
    ·exact jY
    refine aa ?_;refine lK (fun m s L=>Hy N (qJ N a a6 d E) a a6 a8 d l m=some r/\s=[(0,pV B1 0),(1,.func (.func 46) #[pV B2 0] #[]),(4,iV a),(7,pV o 0),(8,iV 1),(18,Y i f c),(19,iV (a6.XP.length:Int)),(20,iV a8)]/\L=[aj i f c a6.XP,oDHeap B2 d.XX,bi A4 n4 c4 d.Yk,cx A5 n5 c5 d.Yl,bi A6 n6 c6 d.Ym,ab B1 85 (cF d B2 e A4 n4 c4 A5 n5 c5 A6 n6 c6),aj C B A l.XQ,aj z t q l.XP,ab o 45 (bw l C B A z t q),oDTable e d.Ya]) N ?_;rintro Q _ _ ⟨h,rfl,rfl⟩;rw [Hy.eq_2] at h;refine sZ ?_;obtain ⟨P,h⟩:=ai h;refine aG h ?_ ?_<;>intro h
    ·exact bO h
    exact jY
   rintro _ _ ⟨h,rfl,rfl⟩;refine aa ?_;obtain ⟨O,h⟩:=ai h;exact lY
  exact jY
 rintro _ _ ⟨h,rfl,rfl⟩;refine aa ?_;obtain ⟨M,k,h⟩:=ad h;refine cV (LR (PD k) J J J (f0 [] [0] [1,2,3,4,5] 6 J)) ?_;refine cC h (fun _ k=>H7 k) fun K h=> ?_
 exact eN
def Df (a:Int)(d:VK):Option VK:=
 (mJ N d.XX).bind fun a6=>(nL N a6.2 a).bind fun a8=>some (⟨d.Yj,d.Ye,(),a8,d.Ya,d.Yk,d.Yh,d.Yr,d.Ys,d.Yl,d.Ym⟩:VK)
def C9 (N:Nat)(a6:Int->Option VK)(a:Int)(c:VL)(a8:Int)(d:VK):Option VK:=
 ae (in64 (a8+1)) (a6 (a8+1))
def Hx (a6:Int->Option VK)(a:Int)(a8:VL)(e:Int)(d:VK)(c:VL):Nat->Option VK
 |0=>none
 |f+1=>ae (in64 (1+3)) (bif decide (1+3<(c.XP.length:Int)) then none else (C9 N a6 a a8 e d))
def qI (N:Nat)(a:Int)(a6:VL)(d:VK):Nat->Int->Option VK
 |0,_=>none
 |e+1,a8=>bif decide (a8<(a6.XP.length:Int)) then ((ak a6.XP a8).bind fun f=>(gZ N d f).bind fun c=>bif !decide (c.no=10) then (C9 N (qI N a a6 d e) a a6 a8 d) else (Hx N (qI N a a6 d e) a a6 a8 d c N)) else (Df N a d)
def xw (d:VK):Option VK:=
 (mE N d).bind fun c=>(jx N d.XX 19).bind fun a=>(gZ N d a).bind fun a6=>qI N c a6 d N 0
theorem OW {N:Nat}{r:VK}(h:xw N d=some r):Okc V5 45 [pV B1 0,.func (.func 47) #[pV B2 0] #[]] ([ab B1 85 (cF d B2 e A4 n4 c4 A5 n5 c5 A6 n6 c6),oDHeap B2 d.XX,oDTable e d.Ya,bi A4 n4 c4 d.Yk,cx A5 n5 c5 d.Yl,bi A6 n6 c6 d.Ym]) (fun u p=> ∃F n D A1 j c1 A2 n2 c2,u=.tuple #[]/\p=[ab B1 85 (cF r B2 e F n D A1 j c1 A2 n2 c2),oDHeap B2 r.XX,oDTable e r.Ya,bi F n D r.Yk,cx A1 j c1 r.Yl,bi A2 n2 c2 r.Ym]):=by
 refine av Tryz.func45 ?_;refine cR h (fun _ k=>DK k) fun a h=> ?_
 refine aF (fun s L=>Df N a d=some r/\s=[(0,pV B1 0),(1,.func (.func 47) #[pV B2 0] #[]),(4,iV a)]/\L=[oDHeap B2 d.XX,bi A4 n4 c4 d.Yk,cx A5 n5 c5 d.Yl,bi A6 n6 c6 d.Ym,ab B1 85 (cF d B2 e A4 n4 c4 A5 n5 c5 A6 n6 c6),oDTable e d.Ya]) ?_ ?_
 ·refine aa ?_;obtain ⟨H,k,h⟩:=ad h;refine gV (oR (qS k)) ?_;obtain ⟨a6,k,h⟩:=ad h;refine gD (oR (ug k)) ?_;rintro _ _ ⟨_,⟨V,U,T,i,f,c,rfl,rfl⟩,rfl⟩;refine aJ (vV J (FZ _ _ _ _ _ _ _ _ _ _)) ?_;refine lK (fun m s L=> ∃(a8:Int),qI N a a6 d m a8=some r/\s=[(0,pV B1 0),(1,.func (.func 47) #[pV B2 0] #[]),(4,iV a),(18,Y i f c),(19,iV (a6.XP.length:Int)),(20,iV a8)]/\L=[aj i f c a6.XP,oDHeap B2 d.XX,bi A4 n4 c4 d.Yk,cx A5 n5 c5 d.Yl,bi A6 n6 c6 d.Ym,ab B1 85 (cF d B2 e A4 n4 c4 A5 n5 c5 A6 n6 c6),oDTable e d.Ya]) N ?_;rintro E _ _ ⟨a8,h,rfl,rfl⟩;rw [qI.eq_2] at h;refine aa ?_;refine aH ?_;refine gH J h ?_ ?_<;>intro h
  ·refine aa ?_;refine aF (fun s L=>C9 N (qI N a a6 d E) a a6 a8 d=some r/\s=[(0,pV B1 0),(1,.func (.func 47) #[pV B2 0] #[]),(4,iV a),(18,Y i f c),(19,iV (a6.XP.length:Int)),(20,iV a8)]/\L=[aj i f c a6.XP,oDHeap B2 d.XX,bi A4 n4 c4 d.Yk,cx A5 n5 c5 d.Yl,bi A6 n6 c6 d.Ym,ab B1 85 (cF d B2 e A4 n4 c4 A5 n5 c5 A6 n6 c6),oDTable e d.Ya]) ?_ ?_
   ·refine aa ?_;obtain ⟨S,e1,Z,X,h⟩:=aI h;refine bB fun R=> ?_
    refine qA h (fun _ k=>ug k) fun l C B A z t q h=> ?_
    intro o;refine sY ?_;refine gH J h ?_ ?_<;>intro h
    ·exact jY
    refine aa ?_;refine lK (fun m s L=>Hx N (qI N a a6 d E) a a6 a8 d l m=some r/\s=[(0,pV B1 0),(1,.func (.func 47) #[pV B2 0] #[]),(4,iV a),(7,pV o 0),(8,iV 1),(18,Y i f c),(19,iV (a6.XP.length:Int)),(20,iV a8)]/\L=[aj i f c a6.XP,oDHeap B2 d.XX,bi A4 n4 c4 d.Yk,cx A5 n5 c5 d.Yl,bi A6 n6 c6 d.Ym,ab B1 85 (cF d B2 e A4 n4 c4 A5 n5 c5 A6 n6 c6),aj C B A l.XQ,aj z t q l.XP,ab o 45 (bw l C B A z t q),oDTable e d.Ya]) N ?_;rintro Q _ _ ⟨h,rfl,rfl⟩;rw [Hx.eq_2] at h;refine sZ ?_;obtain ⟨P,h⟩:=ai h;refine aG h ?_ ?_<;>intro h
    ·exact bO h
    exact jY
   rintro _ _ ⟨h,rfl,rfl⟩;refine aa ?_;obtain ⟨O,h⟩:=ai h;exact lY
  exact jY
 rintro _ _ ⟨h,rfl,rfl⟩;refine aa ?_;obtain ⟨M,k,h⟩:=ad h;refine cV (LR (Pw k) J J J (f0 [] [0] [1,2,3,4,5] 6 J)) ?_;refine cC h (fun _ k=>H7 k) fun K h=> ?_
 exact eN
def xG (N:Nat)(a6 a8 d z u t q p o n:Int)(c:List ByteArray)(m l j:Int)(i:List Vv)(f:List ByteArray)(e:Vz)(a:VC):Option (Bool×VK):=
 some (true,(⟨(⟨a6,a8,d⟩:VJ),(⟨z,u,t,q,p,o,n⟩:VM),(),e,a,c,m,l,j,i,f⟩:VK))
def rb (d:VK):Option (Bool×VK):=
 bif decide (d.Ye.Yy<=d.Yj.Yw) then (some (false,d)) else (ae (in64 (d.Yj.Yw+1)) ((t6 N d.Ye.YB (⟨(⟨d.Yj.Yw+1,d.Yj.Yx,d.Yj.Yz⟩:VJ),d.Ye,(),d.XX,d.Ya,d.Yk,d.Yh,d.Yr,d.Ys,d.Yl,d.Ym⟩:VK)).bind fun c=>bif c then ((xv N (⟨(⟨d.Yj.Yw+1,d.Yj.Yx,d.Yj.Yz⟩:VJ),d.Ye,(),d.XX,d.Ya,d.Yk,d.Yh,d.Yr,d.Ys,d.Yl,d.Ym⟩:VK)).bind fun a6=>xG N a6.Yj.Yw a6.Yj.Yx a6.Yj.Yz a6.Ye.YD a6.Ye.Yy a6.Ye.Yq a6.Ye.YC a6.Ye.XS a6.Ye.YB a6.Ye.YE a6.Yk a6.Yh a6.Yr a6.Ys a6.Yl a6.Ym a6.XX a6.Ya) else ((t6 N d.Ye.XS (⟨(⟨d.Yj.Yw+1,d.Yj.Yx,d.Yj.Yz⟩:VJ),d.Ye,(),d.XX,d.Ya,d.Yk,d.Yh,d.Yr,d.Ys,d.Yl,d.Ym⟩:VK)).bind fun a=>bif a then ((xw N (⟨(⟨d.Yj.Yw+1,d.Yj.Yx,d.Yj.Yz⟩:VJ),d.Ye,(),d.XX,d.Ya,d.Yk,d.Yh,d.Yr,d.Ys,d.Yl,d.Ym⟩:VK)).bind fun a8=>xG N a8.Yj.Yw a8.Yj.Yx a8.Yj.Yz a8.Ye.YD a8.Ye.Yy a8.Ye.Yq a8.Ye.YC a8.Ye.XS a8.Ye.YB a8.Ye.YE a8.Yk a8.Yh a8.Yr a8.Ys a8.Yl a8.Ym a8.XX a8.Ya) else (xG N (d.Yj.Yw+1) d.Yj.Yx d.Yj.Yz d.Ye.YD d.Ye.Yy d.Ye.Yq d.Ye.YC d.Ye.XS d.Ye.YB d.Ye.YE d.Yk d.Yh d.Yr d.Ys d.Yl d.Ym d.XX d.Ya))))
theorem PH {N:Nat}{r:Bool×VK}(h:rb N d=some r):Okc V5 14 [pV B1 0] ([ab B1 85 (cF d B2 e A4 n4 c4 A5 n5 c5 A6 n6 c6),oDHeap B2 d.XX,oDTable e d.Ya,bi A4 n4 c4 d.Yk,cx A5 n5 c5 d.Yl,bi A6 n6 c6 d.Ym]) (fun u p=> ∃A0 X Z A1 j c1 A2 n2 c2,u=.bool r.1/\p=[ab B1 85 (cF r.2 B2 e A0 X Z A1 j c1 A2 n2 c2),oDHeap B2 r.2.XX,oDTable e r.2.Ya,bi A0 X Z r.2.Yk,cx A1 j c1 r.2.Yl,bi A2 n2 c2 r.2.Ym]):=by
 refine av Tryz.func14 ?_;intro n;refine aa ?_;refine aH ?_;refine dY [] ?_;refine aa ?_;refine zE 1 J (gC J Vj) ?_;refine aG h ?_ ?_<;>intro h
 ·exact eY
 refine aa ?_;obtain ⟨q9,h⟩:=ai h;refine aa ?_;refine aJ (jZ J) ?_;refine aF (fun s L=> ∃a6 a8 f V U T S R Q P c O M K H F E a D C B A z q o m l,xG N a6 a8 f V U T S R Q P c O M K H F E a=some r/\s=[(2,.bool false)]/\L=[bi D C B c,cx A z q H,bi o m l F,ab B1 85 [iV a6,iV a8,iV f,iV V,iV U,iV T,iV S,iV R,iV Q,iV P,.nilIface,pV B2 0,pV e 0,Y D C B,iV O,iV M,iV K,Y A z q,Y o m l],oDHeap B2 E,oDTable e a]) ?_ ?_
 ·refine aa ?_;obtain ⟨f2,k,h⟩:=ad h;refine cV (jA (HK k) J J J (t9 (fY (i:=0) J) (t9 (fY (i:=1) J) (t9 (qk (i:=2) J) (t9 (qk (i:=3) J) (t9 (cM (i:=4) J) (t9 (cM (i:=5) J) (t9 (cM (i:=6) J) aW))))))) HD) ?_;refine gH J h ?_ ?_<;>intro h
  ·refine dx (t:=[(1,pV n 0),(2,.bool false)]) ?_ cL (ah _);refine fv I 6 [] [0,5] [37,38,39,40,41,42] [[],[],[1],[2],[3],[4]] [aV (pV B1 0),
aV (pV B1 0),
aV (pV B1 0),
aV (pV B1 11),
aV (pV B2 0),
aV (.func (.func 46) #[pV B2 0] #[])] [] (ah _) (fB) I rfl rfl ?_ ?_ ?_
   ·exact fz
   ·refine qE (zK (caps:=[]) J J) ?_;refine qR (cn 1 J J mh J) ?_;refine qE (bW J BN) ?_;refine qE (cr J) ?_;refine qR (cn 0 J J tf J) ?_;refine qR (cn 0 J J tf J) ?_;exact fq
   refine eF (t:=[(37,pV B1 0),(42,.func (.func 46) #[pV B2 0] #[]),(1,pV n 0),(2,.bool false)]) (L':=[ab n 23 [pV B1 0],ab B1 85 [iV (d.Yj.Yw+1),iV d.Yj.Yx,iV d.Yj.Yz,iV d.Ye.YD,iV d.Ye.Yy,iV d.Ye.Yq,iV d.Ye.YC,iV d.Ye.XS,iV d.Ye.YB,iV d.Ye.YE,.nilIface,pV B2 0,pV e 0,Y A4 n4 c4,iV d.Yh,iV d.Yr,iV d.Ys,Y A5 n5 c5,Y A6 n6 c6],oDHeap B2 d.XX,oDTable e d.Ya,bi A4 n4 c4 d.Yk,cx A5 n5 c5 d.Yl,bi A6 n6 c6 d.Ym]) ?_ cL (ah _);obtain ⟨f3,k,h⟩:=ad h;refine gP 6 J I (oC (OV k)) J J J ?_;rintro _ _ ⟨_,⟨f9,g0,g1,g2,g3,g4,g5,g6,g7,rfl,rfl⟩,rfl⟩;refine fw I ?_;exact jY
  refine aa ?_;obtain ⟨g8,k,h⟩:=ad h;refine cV (jA (HK k) J J J (t9 (fY (i:=0) J) (t9 (fY (i:=1) J) (t9 (qk (i:=2) J) (t9 (qk (i:=3) J) (t9 (cM (i:=4) J) (t9 (cM (i:=5) J) (t9 (cM (i:=6) J) aW))))))) HD) ?_;refine gH J h ?_ ?_<;>intro h
  ·refine dx (t:=[(1,pV n 0),(2,.bool false)]) ?_ cL (ah _);refine fv I 6 [] [0,5] [52,53,54,55,56,57] [[],[],[1],[2],[3],[4]] [aV (pV B1 0),
aV (pV B1 0),
aV (pV B1 0),
aV (pV B1 11),
aV (pV B2 0),
aV (.func (.func 47) #[pV B2 0] #[])] [] (ah _) (fB) I rfl rfl ?_ ?_ ?_
   ·exact fz
   ·refine qE (zK (caps:=[]) J J) ?_;refine qR (cn 1 J J mh J) ?_;refine qE (bW J BN) ?_;refine qE (cr J) ?_;refine qR (cn 0 J J tf J) ?_;refine qR (cn 0 J J tf J) ?_;exact fq
   refine eF (t:=[(52,pV B1 0),(57,.func (.func 47) #[pV B2 0] #[]),(1,pV n 0),(2,.bool false)]) (L':=[ab n 23 [pV B1 0],ab B1 85 [iV (d.Yj.Yw+1),iV d.Yj.Yx,iV d.Yj.Yz,iV d.Ye.YD,iV d.Ye.Yy,iV d.Ye.Yq,iV d.Ye.YC,iV d.Ye.XS,iV d.Ye.YB,iV d.Ye.YE,.nilIface,pV B2 0,pV e 0,Y A4 n4 c4,iV d.Yh,iV d.Yr,iV d.Ys,Y A5 n5 c5,Y A6 n6 c6],oDHeap B2 d.XX,oDTable e d.Ya,bi A4 n4 c4 d.Yk,cx A5 n5 c5 d.Yl,bi A6 n6 c6 d.Ym]) ?_ cL (ah _);obtain ⟨g9,k,h⟩:=ad h;refine gP 6 J I (oC (OW k)) J J J ?_;rintro _ _ ⟨_,⟨h0,h1,h2,h3,h4,h5,h6,h7,h8,rfl,rfl⟩,rfl⟩;refine jo ?_;refine fw I ?_;exact jY
  exact jY
 refine fun s L=>Zb fun a6 a8 f V U T=>Zb fun S R Q P c O=>Zb fun M K H F E a=>Zb fun D C B A z q=>Za fun o m l=>d7 fun h=> ?_
 exact eY
theorem Pf {N:Nat}{r:Bool×VK}(h:rb N d=some r){B1 B2 e:Nat}:Okc V5 14 [pV B1 0] ([oDWorld B1 B2 e d]) (fun u p=>u=.bool r.1/\p=[oDWorld B1 B2 e r.2]):=il 0 rfl (fun _=>PH h)
def pT (N:Nat)(a:VK):Option (Bool×VK):=
 some (false,a)
def lR (d:VK)(a1:Int)(a2:Vx):Option (Bool×VK):=
 ae (in64 (a1+a2.O)) ((jW N d (a1+a2.O)).bind fun a=>(qd N d a1 a2.D.Value).bind fun f=>(qd N d a1 a2.D.Yc).bind fun o=>(qd N d a1 a2.D.Yd).bind fun n=>bif decide (a2.no=0) then ((rt N d a a2.K (⟨a2.D.Has,a2.D.XT,f,o,n⟩:VE)).bind fun a6=>some (a6.1,a6.2)) else (bif decide (a2.no=1) then ((yK N d a a2.K).bind fun a8=>some (a8.1,a8.2)) else (bif decide (a2.no=2) then ((uW N d a1 a2.P).bind fun m=>(ym N d a m).bind fun e=>some (e.1,e.2)) else (bif decide (a2.no=3) then ((uM N d a).bind fun l=>pT N l) else (bif decide (a2.no=4) then ((qd N d a1 a2.V).bind fun j=>(nZ N d a a2.K j a2.XT).bind fun c=>some (c.1,c.2)) else (bif decide (a2.no=5) then ((rb N d).bind fun i=>pT N i.2) else (pT N d)))))))
theorem Ud {N:Nat}{a2:Vx}{r:Bool×VK}(h:lR N d a1 a2=some r){B1 B2 e:Nat}:Okc V5 13 [pV B1 0,iV a1,(Oj a2)] ([oDWorld B1 B2 e d]) (fun u p=>u=.bool r.1/\p=[oDWorld B1 B2 e r.2]):=by
 refine av Tryz.func13 ?_;intro j;refine aa ?_;obtain ⟨l,h⟩:=ai h;refine cR h (fun _ k=>uh k) fun f h=> ?_
 intro n;refine bB fun i=> ?_
 refine cR h (fun _ k=>AK k) fun c h=> ?_
 refine cR h (fun _ k=>AK k) fun a6 h=> ?_
 refine cR h (fun _ k=>AK k) fun a8 h=> ?_
 refine aF (fun s L=> ∃a,pT N a=some r/\s=[(6,.bool false)]/\L=[oDWorld B1 B2 e a]) ?_ ?_
 ·refine aG h ?_ ?_<;>intro h
  ·refine cC h (fun _ k=>Ii k) fun C h=> ?_
   exact eN
  refine aG h ?_ ?_<;>intro h
  ·refine cC h (fun _ k=>Qs k) fun B h=> ?_
   exact eN
  refine aG h ?_ ?_<;>intro h
  ·refine aH ?_;refine cy I ([ab i 36 [iV a2.D.Has,iV a2.D.XT,iV c.no,iV c.N,.string c.S,iV a6.no,iV a6.N,.string a6.S,iV a8.no,iV a8.N,.string a8.S],ab n 29 [iV f.no,iV f.N,.string f.S],ab j 38 (oW a2)]) (cS [0,1,2] 4) ?_;refine aa ?_;obtain ⟨A,k,h⟩:=ad h;refine zD 6 J (oR (IG k)) ?_;rintro _ _ ⟨_,⟨rfl,rfl⟩,rfl⟩;refine bE ?_;obtain ⟨z,k,h⟩:=ad h;refine zD 7 J (oC (P2 k)) ?_;rintro _ _ ⟨_,⟨rfl,rfl⟩,rfl⟩;refine bE ?_;exact eY
  refine aG h ?_ ?_<;>intro h
  ·refine cC h (fun _ k=>Ir k) fun t h=> ?_
   exact jN
  refine aG h ?_ ?_<;>intro h
  ·refine aH ?_;refine cy I ([ab i 36 [iV a2.D.Has,iV a2.D.XT,iV c.no,iV c.N,.string c.S,iV a6.no,iV a6.N,.string a6.S,iV a8.no,iV a8.N,.string a8.S],ab n 29 [iV f.no,iV f.N,.string f.S],ab j 38 (oW a2)]) (cS [0,1,2] 4) ?_;refine zY [0,1,2,3,4,5,6,7,9,10] ?_;obtain ⟨q,k,h⟩:=ad h;refine zD 8 J (oR (AK k)) ?_;rintro _ _ ⟨_,⟨rfl,rfl⟩,rfl⟩;refine bE ?_;obtain ⟨o,k,h⟩:=ad h;refine zD 11 J (oC (Et k)) ?_;rintro _ _ ⟨_,⟨rfl,rfl⟩,rfl⟩;refine bE ?_;refine zX [12] ?_;exact eY
  refine aG h ?_ ?_<;>intro h
  ·refine cC h (fun _ k=>Pf k) fun m h=> ?_
   exact jN
  exact jY
 rintro _ _ ⟨a,h,rfl,rfl⟩;exact eY
def EC (N:Nat)(d c:VP)(a:Int):Option VP:=
 ae ((0:Int)<=a/\a.toNat<=d.length/\d.length<=d.length) (ae (bC (c.length+((d.drop a.toNat).take (d.length - a.toNat)).length)) (some (c++((d.drop a.toNat).take (d.length - a.toNat)))))
def Ei (N:Nat)(a6:VP->Int->Int->Option VP)(c:Int)(d a1 a:VP)(a8:Int):Option VP:=
 ae (in64 (c+1)) (a6 a a8 (c+1))
def zb (e:VP->Int->Int->Option VP)(a:Int)(d a1 a6:VP)(c:Int):Option VP:=
 (ak a1 a).bind fun a8=>ae (bC (a6.length+([a8]:List Vy).length)) (Ei N e a d a1 (a6++([a8]:List Vy)) c)
def zh (N:Nat)(e:VP->Int->Int->Option VP)(a:Int)(d a1:VP):Nat->VP->Int->Option VP
 |0,_,_=>none
 |l+1,a8,a6=>(bif decide (a6<(d.length:Int)) then ((ak d a6).bind fun j=>(ak a1 a).bind fun i=>some (decide (j.N<=i.N))) else (some false)).bind fun f=>bif f then ((ak d a6).bind fun c=>ae (bC (a8.length+([c]:List Vy).length)) (ae (in64 (a6+1)) ((zh N e a d a1 l) (a8++([c]:List Vy)) (a6+1)))) else (zb N e a d a1 a8 a6)
def pC (N:Nat)(d a1:VP):Nat->VP->Int->Int->Option VP
 |0,_,_,_=>none
 |f+1,e,c,a=>bif decide (a<(a1.length:Int)) then (zh N (pC N d a1 f) a d a1 N e c) else (EC N d e c)
def vd (d a1:VP):Option VP:=
 pC N d a1 N [] 0 0
theorem Q3 {N:Nat}{d a1 r:VP}(h:vd N d a1=some r):Okc V5 211 [Y A1 j c1,Y A2 n2 c2] ([eL A1 j c1 d,eL A2 n2 c2 a1]) (fun u p=> ∃A0 Z c0,u=Y A0 Z c0/\p=[bp A0 Z c0 r]):=by
 refine av Tryz.func211 ?_;refine aF (fun s L=> ∃B i A4 n4 c4,EC N d B i=some r/\s=[(0,Y A1 j c1),(4,Y none 0 0),(5,Y A4 n4 c4),(6,iV i)]/\L=[eL A1 j c1 d,bp A4 n4 c4 B]) ?_ ?_
 ·refine aa ?_;refine dU (fun m s L=> ∃f e a A n q,pC N d a1 m f e a=some r/\s=[(0,Y A1 j c1),(1,Y A2 n2 c2),(4,Y none 0 0),(5,Y A n q),(6,iV e),(7,iV a)]/\L=[eL A1 j c1 d,eL A2 n2 c2 a1,bp A n q f]) N _ _ ⟨[],0,0,none,0,0,h,J,J⟩ sA ((ck fO 34 _).trans (cS [1,2,0] 3)) ?_;rintro (_|C) _ _ ⟨f,e,a,A,n,q,h,rfl,rfl⟩
  ·exact bO h
  rw [pC.eq_2] at h;refine sZ ?_;refine gH J h ?_ ?_<;>intro h
  ·refine aa ?_;refine aF (fun s L=> ∃c X V U T,Ei N (pC N d a1 C) a d a1 c X=some r/\s=[(0,Y A1 j c1),(1,Y A2 n2 c2),(4,Y none 0 0),(5,Y V U T),(6,iV X),(7,iV a)]/\L=[eL A1 j c1 d,eL A2 n2 c2 a1,bp V U T c]) ?_ ?_
   ·refine aa ?_;refine aF (fun s L=> ∃S Q P O M,zb N (pC N d a1 C) a d a1 S Q=some r/\s=[(0,Y A1 j c1),(1,Y A2 n2 c2),(4,Y none 0 0),(5,Y P O M),(6,iV Q),(7,iV a)]/\L=[eL A1 j c1 d,eL A2 n2 c2 a1,bp P O M S]) ?_ ?_
    ·refine aa ?_;refine dU (fun m s L=> ∃K H F E D,zh N (pC N d a1 C) a d a1 m K H=some r/\s=[(0,Y A1 j c1),(1,Y A2 n2 c2),(4,Y none 0 0),(5,Y F E D),(6,iV H),(7,iV a)]/\L=[eL A1 j c1 d,eL A2 n2 c2 a1,bp F E D K]) N _ _ ⟨f,e,A,n,q,h,J,J⟩ sA (cS [0,1,2] 3) ?_;rintro (_|g8) _ _ ⟨K,H,F,E,D,h,rfl,rfl⟩
     ·exact bO h
     rw [zh.eq_2] at h;refine aH ?_;refine dY [0,1,2,3,4] ?_;refine yJ [5,6,7,8,9,10,11,12,13,14,15,16] 0 18 30 h (fun _ a6 h rest=> ?_) (fun _ a6 h rest=> ?_) fun g9 h=> ?_
     ·refine yY [5,6] ?_;obtain ⟨h0,a8,b0,f1,h⟩:=aI h;refine gb 7 J I (cH 0 J bA J J Vc size34.out a8 b0) (be a6 J) J ?_;refine gb 8 J I (dc 0 J bA J (toNat_lt a8 b0) Bp) (be a6 J) J ?_;refine yY [9,10,11] ?_;obtain ⟨h1,b5,b6,f2,h⟩:=aI h;refine gb 12 J I (cH 1 J bA J J Vc size34.out b5 b6) (be a6 J) J ?_;refine gb 13 J I (dc 1 J bA J (toNat_lt b5 b6) Bp) (be a6 J) J ?_;refine yY [14,15,16] ?_;exact yS rest h
     ·refine yY [5,6,7,8,9,10,11,12,13,14,15,16] ?_;exact yS rest h
     refine cJ I ?_;refine aG h ?_ ?_<;>intro h
     ·refine aa ?_;obtain ⟨z,f3,f9,g0,h⟩:=aI h;refine aa ?_;refine gD (cB (R:=fO) (vss:=[[iV z.no,iV z.N,.string z.S]]) (xs:=[z]) J (oF _ _ _) J J (fun _ _ hr=> .cons J All2.nil)) ?_;rintro _ _ ⟨h2,h3,h4,rfl,rfl⟩;obtain ⟨g1,h⟩:=ai h;refine bN (cG 3 0 J J aw J J Vc kB J J g1) fun h5 h6 h7=> ?_
      obtain ⟨h8,h⟩:=ai h;exact lY
     exact jY
    rintro _ _ ⟨S,Q,P,O,M,h,rfl,rfl⟩;refine aa ?_;obtain ⟨t,g2,g3,g4,h⟩:=aI h;refine aa ?_;refine gD (cB (R:=fO) (vss:=[[iV t.no,iV t.N,.string t.S]]) (xs:=[t]) J (oF _ _ _) J J (fun _ _ hr=> .cons J All2.nil)) ?_;rintro _ _ ⟨h9,i0,i1,rfl,rfl⟩;obtain ⟨g5,h⟩:=ai h;refine bN (cG 3 0 J J aw J J Vc kB J J g5) fun i2 i3 i4=> ?_
    exact jN
   rintro _ _ ⟨c,X,V,U,T,h,rfl,rfl⟩;refine aa ?_;obtain ⟨i5,h⟩:=ai h;exact lY
  exact jY
 rintro _ _ ⟨B,i,A4,n4,c4,h,rfl,rfl⟩;refine aa ?_;obtain ⟨o,h⟩:=ai h;refine GR 0 J (l:=i.toNat) (h:=d.length) o.2.1 o.2.2 ?_;rintro i6 i7 i8 g6;refine gR (oJ 1 J g6 J Vc size34.out J (by rw [Wh o.1];rfl) o.2.1) ?_;obtain ⟨g7,h⟩:=ai h;refine bN (cG 2 0 J J bA J J Vc kB J J g7) fun i9 j0 j1=> ?_
 exact eN
def oe (N:Nat):Nat->VP->Option VP
 |0,_=>none
 |a+1,d=>bif decide ((d.length:Int)<2) then (some d) else (ae (in64 ((d.length:Int).tdiv 2)) (ae ((0:Int)<=(d.length:Int).tdiv 2/\0<=((d.length:Int).tdiv 2).toNat/\((d.length:Int).tdiv 2).toNat<=d.length) (ae ((0:Int)<=(d.length:Int).tdiv 2/\((d.length:Int).tdiv 2).toNat<=d.length/\d.length<=d.length) (((oe N a) ((d.drop 0).take (((d.length:Int).tdiv 2).toNat - 0))).bind fun c=>((oe N a) ((d.drop (((d.length:Int).tdiv 2).toNat)).take (d.length - ((d.length:Int).tdiv 2).toNat))).bind fun a6=>(vd N c a6).bind fun a8=>some a8))))
theorem IC {N a:Nat}{d:VP}:oe N (a+1) d=bif decide ((d.length:Int)<2) then (some d) else (ae (in64 ((d.length:Int).tdiv 2)) (ae ((0:Int)<=(d.length:Int).tdiv 2/\0<=((d.length:Int).tdiv 2).toNat/\((d.length:Int).tdiv 2).toNat<=d.length) (ae ((0:Int)<=(d.length:Int).tdiv 2/\((d.length:Int).tdiv 2).toNat<=d.length/\d.length<=d.length) (((oe N a) ((d.drop 0).take (((d.length:Int).tdiv 2).toNat - 0))).bind fun c=>((oe N a) ((d.drop (((d.length:Int).tdiv 2).toNat)).take (d.length - ((d.length:Int).tdiv 2).toNat))).bind fun a6=>(vd N c a6).bind fun a8=>some a8)))):=rfl
def EH (d:VP):Option VP:=oe N N d
theorem QN {N:Nat}: ∀(e:Nat) {d:VP} {r:VP} (h:oe N e d=some r) {A1:Option Addr} {j c1:Nat},Okc V5 167 [Y A1 j c1] ([eL A1 j c1 d]) (fun u p=> ∃q i n,u=Y q i n/\p=[eL q i n r]):=by
 intro e
 induction e with
 |zero=>intro d r h A1 j c1;exact bO h
 |succ D m=>
  intro d r h A1 j c1;rw [IC] at h;refine av Tryz.func167 ?_;refine sZ ?_;refine gH J h ?_ ?_<;>intro h
  ·exact eY
  refine aa ?_;obtain ⟨f,h⟩:=ai h;refine aJ (mb J J (by decide) f.1 f.2) ?_;refine dY [0,1] ?_;obtain ⟨a,h⟩:=ai h;refine oM 0 J (l:=0) (h:=((d.length:Int).tdiv 2).toNat) a.2.1 a.2.2 ?_;rintro A6 n6 c6 B;refine zR 2 J (Gu 1 J B J Vc size34.out J J (by rw [Wh a.1];rfl) a.2.1 a.2.2) ?_;refine zY [4,5] ?_;obtain ⟨c,h⟩:=ai h;refine oM 1 J (l:=((d.length:Int).tdiv 2).toNat) (h:=d.length) c.2.1 c.2.2 ?_;rintro o A t z;refine zR 6 J (oJ 2 J z J Vc size34.out J (by rw [Wh c.1];rfl) c.2.1) ?_;obtain ⟨C,k,h⟩:=ad h;refine zD 3 J (oC (m k)) ?_;rintro _ _ ⟨_,⟨a6,a8,Q,rfl,rfl⟩,rfl⟩;refine ⟨_,ah _,cv_tl,?_⟩;obtain ⟨P,k,h⟩:=ad h;refine zD 7 J (oC (m k)) ?_;rintro _ _ ⟨_,⟨O,M,L,rfl,rfl⟩,rfl⟩;refine ⟨_,ah _,cv_tl,?_⟩;obtain ⟨K,k,h⟩:=ad h;refine fk 8 J (oR (Q3 k)) fun H F E=> ?_
  refine zX [9] ?_;refine aa ?_;obtain rfl:=bn h;exact dV J J ((cu 0 J).trans (cS [0] 6)) ⟨_,_,_,J,J⟩
theorem Q5 {N:Nat}{d r:VP}(h:EH N d=some r):Okc V5 167 [Y A1 j c1] ([eL A1 j c1 d]) (fun u p=> ∃e a c,u=Y e a c/\p=[eL e a c r]):=QN N h
def zL (d a c:VP):Option VP:=
 (EH N d).bind fun a6=>ae (bC (([]:List Vy).length+a6.length)) (ae (bC ((([]:List Vy)++a6).length+a.length)) (ae (bC (((([]:List Vy)++a6)++a).length+c.length)) (some (((([]:List Vy)++a6)++a)++c))))
def rM (N:Nat)(a8:VP->VP->VP->Int->Option VP)(a6:Int)(d e c a:VP):Option VP:=
 ae (in64 (a6+1)) (a8 e c a (a6+1))
def oa (N:Nat)(d:VP):Nat->VP->VP->VP->Int->Option VP
 |0,_,_,_,_=>none
 |f+1,e,c,a,a6=>bif decide (a6<(d.length:Int)) then ((ak d a6).bind fun n=>(og N n).bind fun m=>bif !m then (rM N (oa N d f) a6 d e c a) else ((ak d a6).bind fun a8=>bif decide (a8.no=0) then ((ak d a6).bind fun l=>ae (bC (e.length+([l]:List Vy).length)) (rM N (oa N d f) a6 d (e++([l]:List Vy)) c a)) else (bif decide (a8.no=1) then ((ak d a6).bind fun j=>ae (bC (c.length+([j]:List Vy).length)) (rM N (oa N d f) a6 d e (c++([j]:List Vy)) a)) else ((ak d a6).bind fun i=>ae (bC (a.length+([i]:List Vy).length)) (rM N (oa N d f) a6 d e c (a++([i]:List Vy))))))) else (zL N e c a)
def vg (d:VP):Option VP:=
 oa N d N [] [] [] 0
theorem RI {N:Nat}{d r:VP}(h:vg N d=some r):Okc V5 111 [Y A1 j c1] ([eL A1 j c1 d]) (fun u p=> ∃A0 n0 c0,u=Y A0 n0 c0/\p=[bp A0 n0 c0 r]):=by
 refine gQ Tryz.func111 J J ?_;simp only [fe];refine G ?_;refine aF (fun s L=> ∃Z X V A3 n3 c3 A4 n4 c4 A5 n5 c5,zL N Z X V=some r/\s=[(2,Y none 0 0),(3,Y A3 n3 c3),(4,Y A4 n4 c4),(5,Y A5 n5 c5)]/\L=[bp A3 n3 c3 Z,bp A4 n4 c4 X,bp A5 n5 c5 V]) ?_ ?_
 ·refine G ?_;refine dU (fun m s L=> ∃e c a C n i l o A t q B z,oa N d m e c a C=some r/\s=[(0,Y A1 j c1),(2,Y none 0 0),(3,Y n i l),(4,Y o A t),(5,Y q B z),(6,iV C)]/\L=[eL A1 j c1 d,bp n i l e,bp o A t c,bp q B z a]) N _ _ ⟨[],[],[],0,none,0,0,none,0,0,none,0,0,h,J,J⟩ sA ((ck fO 34 _).trans ((ck fO 34 _).trans ((ck fO 34 _).trans (cS [3,2,1,0] 4)))) ?_;rintro (_|m6)
  all_goals (refine fun s L=>Zb fun e c a C n i=>Zb fun l o A t q B=>ac fun z=>d7 fun h=> ?_)
  ·exact bO h
  rw [oa.eq_2] at h;refine aH ?_;refine G ?_;refine gR (ie 0 J bA J Vc) ?_;refine G ?_;refine gH J h ?_ ?_<;>intro h
  ·refine G ?_;refine aF (fun s L=> ∃U T S Q P O M K H F E D,rM N (oa N d m6) C d U T S=some r/\s=[(0,Y A1 j c1),(2,Y none 0 0),(3,Y Q P O),(4,Y M K H),(5,Y F E D),(6,iV C)]/\L=[eL A1 j c1 d,bp Q P O U,bp M K H T,bp F E D S]) ?_ ?_
   ·refine qi ?_;refine aH ?_;refine G ?_;obtain ⟨f2,b5,h⟩:=ad h;obtain ⟨f3,f9,b5⟩:=jz b5;refine gR (cH 0 J bA J J Vc size34.out f3 f9) ?_;refine gR (fX (us:=[iV f2.no,iV f2.N,.string f2.S]) 0 J bA J b5 agg34.out (fun _ _ _ h=>by rw [show _=_ from h];rfl)) ?_;obtain ⟨i3,k,h⟩:=ad h;refine gV (co (EG k) J (aW) QW) ?_;refine G ?_;refine gH J h ?_ ?_<;>intro h
    ·refine G ?_;exact ⟨_,_,⟨e,c,a,n,i,l,o,A,t,q,B,z,h,J,J⟩,sA,cS [0,1,2,3] 4⟩
    refine G ?_;obtain ⟨g7,b6,h⟩:=ad h;obtain ⟨d2,d3,b6⟩:=jz b6;refine gR (cH 0 J bA J J Vc size34.out d2 d3) ?_;refine gR (iA 0 J bA J (toNat_lt d2 d3) MM) ?_;refine gR (fZ (u:=iV g7.no) 0 J bA J b6 eo (fun _ _ _ h=>by rw [show _=_ from h];rfl)) ?_;refine G ?_;refine gH J h ?_ ?_<;>intro h
    ·refine G ?_;obtain ⟨a6,b7,h⟩:=ad h;obtain ⟨g0,g1,b7⟩:=jz b7;refine gR (cH 0 J bA J J Vc size34.out g0 g1) ?_;refine gR (fX (us:=[iV a6.no,iV a6.N,.string a6.S]) 0 J bA J b7 agg34.out (fun _ _ _ h=>by rw [show _=_ from h];rfl)) ?_;refine gD (cB (R:=fO) (vss:=[[iV a6.no,iV a6.N,.string a6.S]]) (xs:=[a6]) J (oF _ _ _) J J (fun _ _ hr=> .cons J All2.nil)) ?_;rintro _ _ ⟨i4,i5,i6,rfl,rfl⟩;obtain ⟨g8,h⟩:=ai h;refine gD (cG 2 0 J J aw J J Vc kB J J g8) ?_;rintro _ _ ⟨g9,h0,h1,rfl,rfl⟩;refine G ?_;exact ⟨_,_,⟨e++([a6]:List Vy),c,a,g9,h0,h1,o,A,t,q,B,z,h,J,J⟩,sA,cS [1,2,3,4] 5⟩
    refine G ?_;refine gH J h ?_ ?_<;>intro h
    ·refine G ?_;obtain ⟨a8,b9,h⟩:=ad h;obtain ⟨g2,g3,b9⟩:=jz b9;refine gR (cH 0 J bA J J Vc size34.out g2 g3) ?_;refine gR (fX (us:=[iV a8.no,iV a8.N,.string a8.S]) 0 J bA J b9 agg34.out (fun _ _ _ h=>by rw [show _=_ from h];rfl)) ?_;refine gD (cB (R:=fO) (vss:=[[iV a8.no,iV a8.N,.string a8.S]]) (xs:=[a8]) J (oF _ _ _) J J (fun _ _ hr=> .cons J All2.nil)) ?_;rintro _ _ ⟨i7,i8,i9,rfl,rfl⟩;obtain ⟨h2,h⟩:=ai h;refine gD (cG 3 0 J J aw J J Vc kB J J h2) ?_;rintro _ _ ⟨h3,h4,h5,rfl,rfl⟩;refine G ?_;exact ⟨_,_,⟨e,c++([a8]:List Vy),a,n,i,l,h3,h4,h5,q,B,z,h,J,J⟩,sA,cS [1,2,3,4] 5⟩
    refine G ?_;obtain ⟨f,d0,h⟩:=ad h;obtain ⟨g4,g5,d0⟩:=jz d0;refine gR (cH 0 J bA J J Vc size34.out g4 g5) ?_;refine gR (fX (us:=[iV f.no,iV f.N,.string f.S]) 0 J bA J d0 agg34.out (fun _ _ _ h=>by rw [show _=_ from h];rfl)) ?_;refine gD (cB (R:=fO) (vss:=[[iV f.no,iV f.N,.string f.S]]) (xs:=[f]) J (oF _ _ _) J J (fun _ _ hr=> .cons J All2.nil)) ?_;rintro _ _ ⟨j0,j1,j2,rfl,rfl⟩;obtain ⟨h6,h⟩:=ai h;refine gD (cG 4 0 J J aw J J Vc kB J J h6) ?_;rintro _ _ ⟨h7,h8,h9,rfl,rfl⟩;refine ld ?_;refine G ?_;exact ⟨_,_,⟨e,c,a++([f]:List Vy),n,i,l,o,A,t,h7,h8,h9,h,J,J⟩,sA,cS [1,2,3,4] 5⟩
   rintro _ _ ⟨U,T,S,Q,P,O,M,K,H,F,E,D,h,rfl,rfl⟩;refine G ?_;obtain ⟨g6,h⟩:=ai h;refine gE (cY J J g6.1 g6.2) ?_;refine G ?_;exact ⟨m6,_,_,VS _,⟨U,T,S,C+1,Q,P,O,M,K,H,F,E,D,h,J,J⟩,sA,cS [0,1,2,3] 4⟩
  refine G ?_;exact ⟨_,_,⟨e,c,a,n,i,l,o,A,t,q,B,z,h,J,J⟩,sA,cS [1,2,3] 4⟩
 rintro _ _ ⟨Z,X,V,A3,n3,c3,A4,n4,c4,A5,n5,c5,h,rfl,rfl⟩;refine G ?_;refine gD (cB (R:=fO) (vss:=[]) (xs:=[]) J (aaq) J J (fun _ _ hr=>All2.nil)) ?_;rintro _ _ ⟨j3,j4,j5,rfl,rfl⟩;refine G ?_;obtain ⟨j6,k,h⟩:=ad h;refine d6 (cu 1 J) ?_;refine gD (kR (Q5 k) J (f0 [1] [] [0,1,2,3] 4 J)) ?_;rintro _ _ ⟨_,⟨j7,j8,j9,rfl,rfl⟩,rfl⟩;obtain ⟨i0,h⟩:=ai h;refine gD (cG 1 0 J J bA J J Vc kB J J i0) ?_;rintro _ _ ⟨k0,k2,k3,rfl,rfl⟩;refine ld ?_;refine G ?_;obtain ⟨i1,h⟩:=ai h;refine gD (cG 1 3 J J aw J J Vc kB J J i1) ?_;rintro _ _ ⟨k4,k5,k6,rfl,rfl⟩;refine G ?_;obtain ⟨i2,h⟩:=ai h;refine gD (cG 1 4 J J aw J J Vc kB J J i2) ?_;rintro _ _ ⟨k7,k8,k9,rfl,rfl⟩;refine G ?_;obtain rfl:=bn h;exact dV J J (cS [1] 5) ⟨_,_,_,J,J⟩
def EP (a:VP):Option VP:=
 (vg N a).bind fun a6=>some a6
def Ac (N:Nat)(d:VB):Nat->VP->Int->Option VP
 |0,_,_=>none
 |e+1,c,a=>bif decide (a<(d.Row.length:Int)) then ((ak d.Row a).bind fun a6=>ae (bC (c.length+([a6.XZ]:List Vy).length)) (ae (in64 (a+1)) ((Ac N d e) (c++([a6.XZ]:List Vy)) (a+1)))) else (EP N c)
def Aq (d:VB):Option VP:=
 Ac N d N [] 0
theorem R0 {N:Nat}{d:VB}{r:VP}(h:Aq N d=some r):Okc V5 63 [.agg #[iV d.Yt,.bool d.Ext,Y A1 j c1]] ([aL cI (Y A1 j c1) d.Row]) (fun u p=> ∃n f i,u=Y n f i/\p=[bp n f i r]):=by
 refine av Tryz.func63 ?_;intro B2;refine aa ?_;refine aF (fun s L=> ∃e A4 n4 c4,EP N e=some r/\s=[(2,Y none 0 0),(3,Y A4 n4 c4)]/\L=[bp A4 n4 c4 e]) ?_ ?_
 ·refine aa ?_;refine dU (fun m s L=> ∃c a A6 n6 c6,Ac N d m c a=some r/\s=[(1,pV B2 0),(2,Y none 0 0),(3,Y A6 n6 c6),(4,iV a)]/\L=[bp A6 n6 c6 c,aL cI (Y A1 j c1) d.Row,ab B2 55 [iV d.Yt,.bool d.Ext,Y A1 j c1]]) N _ _ ⟨[],0,none,0,0,h,J,J⟩ sA ((ck fO 34 _).trans (cS [0,2,1] 3)) ?_;rintro (_|q) _ _ ⟨c,a,A6,n6,c6,h,rfl,rfl⟩
  ·exact bO h
  rw [Ac.eq_2] at h;refine sZ ?_;refine gH J h ?_ ?_<;>intro h
  ·refine sY ?_;obtain ⟨l,a6,a8,O,h⟩:=aI h;refine aa ?_;refine fS (iA 1 J bA J (toNat_lt a6 a8) BK) ?_;refine gD (cB (R:=fO) (vss:=[(ij l.XZ)]) (xs:=[l.XZ]) J (oF _ _ _) J J (fun _ _ hr=> .cons J All2.nil)) ?_;rintro _ _ ⟨M,K,H,rfl,rfl⟩;obtain ⟨o,h⟩:=ai h;refine bN (cG 1 0 J J aw J J Vc kB J J o) fun F E D=> ?_
   obtain ⟨C,h⟩:=ai h;exact lY
  exact jY
 rintro _ _ ⟨e,A4,n4,c4,h,rfl,rfl⟩;refine aa ?_;obtain ⟨B,k,h⟩:=ad h;refine bN (oR (RI k)) fun A z t=> ?_
 exact eN
def Ip (N:Nat):Option Bool:=
 some true
def yM (N:Nat)(d a1:VP):Nat->Int->Option Bool
 |0,_=>none
 |c+1,a=>bif decide (a<(d.length:Int)) then ((ak d a).bind fun x8=>(ak a1 a).bind fun x9=>bif !decide (x8=x9) then (some false) else (ae (in64 (a+1)) ((yM N d a1 c) (a+1)))) else (Ip N)
def yU (d a1:VP):Option Bool:=
 bif !decide ((d.length:Int)=(a1.length:Int)) then (some false) else (yM N d a1 N 0)
theorem QF {N:Nat}{d a1:VP}{r:Bool}(h:yU N d a1=some r):Okc V5 62 [Y A1 j c1,Y A2 n2 c2] ([eL A1 j c1 d,eL A2 n2 c2 a1]) (fun u p=>u=.bool r/\p=[]):=by
 refine av Tryz.func62 ?_;refine sZ ?_;refine gH J h ?_ ?_<;>intro h
 ·exact eY
 refine aa ?_;refine aF (fun s L=>Ip N=some r/\s=[(4,.bool false)]/\L=[]) ?_ ?_
 ·refine aa ?_;refine lK (fun m s L=> ∃(a:Int),yM N d a1 m a=some r/\s=[(0,Y A1 j c1),(1,Y A2 n2 c2),(4,.bool false),(5,iV a)]/\L=[eL A1 j c1 d,eL A2 n2 c2 a1]) N ?_;rintro c _ _ ⟨a,h,rfl,rfl⟩;rw [yM.eq_2] at h;refine sZ ?_;refine gH J h ?_ ?_<;>intro h
  ·refine sY ?_;refine dY [] ?_;refine aa ?_;obtain ⟨x8,a6,a8,n,h⟩:=aI h;refine aa ?_;obtain ⟨x9,l,i,f,h⟩:=aI h;refine aa ?_;refine zE 8 J (TN (x:=x8) (y:=x9) J J) ?_;refine aG h ?_ ?_<;>intro h
   ·exact eY
   refine aa ?_;obtain ⟨e,h⟩:=ai h;exact lY
  exact jY
 rintro _ _ ⟨h,rfl,rfl⟩;exact eY
def JH (N:Nat):Option VH:=
 some (⟨7,(-1),⟨#[]⟩⟩:VH)
def zZ (N:Nat)(a1 a2:Int)(d:VK)(c:VH):Nat->Int->Option VH
 |0,_=>none
 |e+1,a=>bif decide (a<a2) then (ae (in64 (a1+a)) ((jW N d (a1+a)).bind fun a6=>bif decide (a6=c) then (some (⟨7,a,⟨#[]⟩⟩:VH)) else (ae (in64 (a+1)) ((zZ N a1 a2 d c e) (a+1))))) else (JH N)
def mV (d:VK)(a1 a2:Int)(a:VH):Option VH:=
 bif !decide (a.no=7) then (some a) else (zZ N a1 a2 d a N 0)
theorem ET {N:Nat}{a r:VH}(h:mV N d a1 a2 a=some r){B1 B2 e:Nat}:Okc V5 112 [pV B1 0,iV a1,iV a2,(bS a)] ([pDWorld B1 B2 e d]) (fun u p=>u=(bS r)/\p=[]):=by
 refine av Tryz.func112 ?_;intro i;refine bB fun c=> ?_
 refine sZ ?_;refine gH J h ?_ ?_<;>intro h
 ·exact eY
 refine aa ?_;refine aF (fun s L=>JH N=some r/\s=[(8,pV c 0)]/\L=[ab c 29 [iV 0,iV 0,.string (⟨#[]⟩)]]) ?_ ?_
 ·refine aa ?_;refine lK (fun m s L=> ∃(f:Int),zZ N a1 a2 d a m f=some r/\s=[(0,pV B1 0),(1,iV a1),(2,iV a2),(7,pV i 0),(8,pV c 0),(9,iV f)]/\L=[pDWorld B1 B2 e d,ab i 29 (ee a),ab c 29 [iV 0,iV 0,.string (⟨#[]⟩)]]) N ?_;rintro j _ _ ⟨f,h,rfl,rfl⟩;rw [zZ.eq_2] at h;refine sZ ?_;refine gH J h ?_ ?_<;>intro h
  ·refine sY ?_;refine dY [0,1,2] ?_;obtain ⟨a6,h⟩:=ai h;refine zE 3 J (cY J J a6.1 a6.2) ?_;refine zY [5] ?_;obtain ⟨a8,k,h⟩:=ad h;refine zD 4 J (oR (uh k)) ?_;rintro _ _ ⟨_,⟨rfl,rfl⟩,rfl⟩;refine ⟨_,ah _,ah _,?_⟩;refine zE 6 J (vN (x:=a8) (y:=a) J J) ?_;refine cJ I ?_;refine aG h ?_ ?_<;>intro h
   ·exact eY
   refine aa ?_;obtain ⟨l,h⟩:=ai h;exact lY
  exact jY
 rintro _ _ ⟨h,rfl,rfl⟩;exact eY
def se (d:VK)(a1 a2:Int)(a:VN):Option VN:=
 (mV N d a1 a2 a.Value).bind fun f=>(mV N d a1 a2 a.Yc).bind fun e=>(mV N d a1 a2 a.Yd).bind fun c=>some (⟨a.XZ,a.XT,f,e,c⟩:VN)
theorem JB {N:Nat}{a r:VN}(h:se N d a1 a2 a=some r){B1 B2 e:Nat}:Okc V5 64 [pV B1 0,iV a1,iV a2,(dw a)] ([pDWorld B1 B2 e d]) (fun u p=>u=(dw r)/\p=[]):=by
 refine av Tryz.func64 ?_;intro l;refine bB fun j=> ?_
 refine cR h (fun _ k=>ET k) fun i h=> ?_
 refine cR h (fun _ k=>ET k) fun f h=> ?_
 refine cR h (fun _ k=>ET k) fun c h=> ?_
 exact eN
def zH (d:VK)(a1:VH)(a2:Vy):Option (VN×Bool):=
 (ia N d a1).bind fun a=>dB a (fun y7_0=>some ((⟨(⟨0,0,⟨#[]⟩⟩:Vy),0,(⟨0,0,⟨#[]⟩⟩:VH),(⟨0,0,⟨#[]⟩⟩:VH),(⟨0,0,⟨#[]⟩⟩:VH)⟩:VN),false)) (fun y7_1=>(kJ N (⟨y7_1.XY,d,y7_1.at_⟩:VA) a2).bind fun a6=>some (a6.1,a6.2.2))
theorem QZ {N:Nat}{a1:VH}{a2:Vy}{r:VN×Bool}(h:zH N d a1 a2=some r){B1 B2 e:Nat}:Okc V5 65 [pV B1 0,(bS a1),(dN a2)] ([pDWorld B1 B2 e d]) (fun u p=>u=.tuple #[(dw r.1),.bool r.2]/\p=[]):=by
 refine av Tryz.func65 ?_;intro n;refine bB fun m=> ?_
 intro B6;refine aa ?_;obtain ⟨a,a6,h⟩:=ad h;rcases a with y7_0|y7_1
 ·replace h:=gk h;refine gD (oR (eP a6)) ?_;rintro _ _ ⟨_,⟨rfl,rfl⟩,rfl⟩;refine sY ?_;refine d9 J ?_;exact eY
 replace h:=gj h;refine gD (oR (eP a6)) ?_;rintro _ _ ⟨_,⟨l,q,B,z,a8,j,i,rfl,rfl⟩,rfl⟩;refine sY ?_;refine d8 J ?_;refine cR h (fun _ k=>xT k) fun f h=> ?_
 intro c;exact eY
end
section
variable {A1 A2 A3 A4 A5 A6 q t:Option Addr}{B1 B2 j B6 n M7 o c1 c2 c3 c4 c5 c6 z A e n2 n3 n4 n5 n6 B C:Nat}
open Go.RowKit Asn
set_option maxRecDepth 20000
def zv (a1 a2:Int)(d:VK)(a4:VB)(a:Vy)(c:VH):Option Bool:=
 (zH N d c a).bind fun a6=>(si N a4.Row a).bind fun a8=>bif decide (a8<0) then ((bif !a6.2 then (some (decide (a6.1=(⟨(⟨0,0,⟨#[]⟩⟩:Vy),0,(⟨0,0,⟨#[]⟩⟩:VH),(⟨0,0,⟨#[]⟩⟩:VH),(⟨0,0,⟨#[]⟩⟩:VH)⟩:VN)))) else (some false)).bind fun j=>some j) else ((bif a6.2 then ((ak a4.Row a8).bind fun i=>(se N d a1 a2 a6.1).bind fun f=>some (decide (f=i))) else (some false)).bind fun e=>some e)
def zy (N:Nat)(a1 a2:Int)(a8:VZ)(d:VK)(a4:VB)(c:Vy)(a:VH):Nat->Int->Option Bool
 |0,_=>none
 |j+1,a6=>bif decide (a6<(a8.length:Int)) then ((ak a8 a6).bind fun i=>(ak a4.Row a6).bind fun f=>(se N d a1 a2 i).bind fun e=>bif !decide (e=f) then (some false) else (ae (in64 (a6+1)) ((zy N a1 a2 a8 d a4 c a j) (a6+1)))) else (zv N a1 a2 d a4 c a)
def z8 (d:VK)(a1 a2 c:Int)(a4:VB)(o:Vy):Option Bool:=
 ae (in64 (a1+c)) ((jW N d (a1+c)).bind fun a=>(vc N d a).bind fun a8=>(bif !(a8==a4.Ext) then (some true) else ((rD N d a).bind fun n=>(uW N d a1 a4.Yt).bind fun m=>some (!decide (n=m)))).bind fun l=>(bif l then (some true) else ((uQ N d a).bind fun j=>(Aq N a4).bind fun i=>(yU N j i).bind fun f=>some (!f))).bind fun e=>bif e then (some false) else ((rH N d a).bind fun a6=>bif !decide ((a6.length:Int)=(a4.Row.length:Int)) then (some false) else (zy N a1 a2 a6 d a4 o a N 0)))
theorem RD {N:Nat}{K:Int}{a4:VB}{e:Vy}{r:Bool}(h:z8 N d a1 a2 K a4 e=some r){B1 B2 j:Nat}:Okc V5 22 [pV B1 0,iV a1,iV a2,iV K,.agg #[iV a4.Yt,.bool a4.Ext,Y A4 n4 c4],(dN e)] ([pDWorld B1 B2 j d,aL cI (Y A4 n4 c4) a4.Row]) (fun u p=>u=.bool r/\p=[]):=by
 refine av Tryz.func22 ?_;intro n;refine bB fun B6=> ?_
 obtain ⟨q7,h⟩:=ai h;refine aa ?_;obtain ⟨c,k,h⟩:=ad h;refine cV (oR (uh k)) ?_;intro i;refine aa ?_;refine aH ?_;refine dY [0,1,3,4] ?_;obtain ⟨g5,k,h⟩:=ad h;refine zD 2 J (oR (I5 k)) ?_;rintro _ _ ⟨_,⟨rfl,rfl⟩,rfl⟩;refine ⟨_,ah _,ah _,?_⟩;refine zE 5 J (GL J J Vk) ?_;refine zY [6] ?_;obtain ⟨V,H,h⟩:=ad h;refine vR (fun l=>((((((((((l.setIfInBounds 7 true).setIfInBounds 8 true).setIfInBounds 10 true).setIfInBounds 11 true).setIfInBounds 12 true).setIfInBounds 13 true).setIfInBounds 9 true).setIfInBounds 14 true).setIfInBounds 15 true).setIfInBounds 16 true)) 9 40 V (fun rest=> ?_) ?_
 ·clear h;refine wq 30 J (fun a8=> ?_) (fun a8=> ?_)
  ·have h:=du a8 H;refine cT 7 J I (gX a8 J) J ?_;refine cT 8 J I (gX a8 J) J ?_;refine cT 10 J I (gX a8 J) J ?_;refine cT 11 J I (gX a8 J) J ?_;refine cT 12 J I (gX a8 J) J ?_;refine cT 13 J I (gX a8 J) J ?_;refine cT 9 J I (gX a8 J) J ?_;refine cT 14 J I (gX a8 J) J ?_;refine cT 15 J I (gX a8 J) J ?_;refine zE 16 J (oh a8 J J) ?_;obtain rfl:=bn h;exact jg rest (jB J (bc (bc (bc (bc (bc (bc (bc (bc (bc (bc dG J) J) J) J) J) J) J) J) J) J)) (ah _) (ah _)
  have h:=dt a8 H;refine ei 7 J I (ay J) (bY a8 J) J ?_;refine gb 8 J I (db (us:=[iV c.no,iV c.N,.string c.S]) 0 J J agg29.out J) (bY a8 J) J ?_;refine ei 10 J I (ay J) (bY a8 J) J ?_;refine ei 11 J I (ay J) (bY a8 J) J ?_;refine ei 12 J I (fb J wp) (bY a8 J) J ?_;refine gb 13 J I (cn 2 J J eo J) (bY a8 J) J ?_;obtain ⟨U,k,h⟩:=ad h;refine iI 9 J I (oR (Is k)) J (bY a8 J) J ?_;rintro _ _ ⟨_,⟨rfl,rfl⟩,rfl⟩;refine ⟨_,ah _,ah _,?_⟩;obtain ⟨T,k,h⟩:=ad h;refine iI 14 J I (oR (IG k)) J (bY a8 J) J ?_;rintro _ _ ⟨_,⟨rfl,rfl⟩,rfl⟩;refine ⟨_,ah _,ah _,?_⟩;refine ei 15 J I (Kk (x:=U) (y:=T) J J) (bY a8 J) J ?_;refine zE 16 J (pY a8 J J) ?_;obtain rfl:=bn h;exact jg rest (jB J (bc (bc (bc (bc (bc (bc (bc (bc (bc (bc dG J) J) J) J) J) J) J) J) J) J)) (ah _) (ah _)
 refine zY [17] ?_;obtain ⟨S,F,h⟩:=ad h;refine vR (fun l=>((((((((l.setIfInBounds 18 true).setIfInBounds 19 true).setIfInBounds 21 true).setIfInBounds 20 true).setIfInBounds 22 true).setIfInBounds 23 true).setIfInBounds 24 true).setIfInBounds 25 true)) 0 49 S (fun rest=> ?_) ?_
 ·clear h;refine wq 41 J (fun a=> ?_) (fun a=> ?_)
  ·have h:=du a F;refine cT 18 J I (gX a J) J ?_;refine cT 19 J I (gX a J) J ?_;refine cT 21 J I (gX a J) J ?_;refine cT 20 J I (gX a J) J ?_;refine cT 22 J I (gX a J) J ?_;refine cT 23 J I (gX a J) J ?_;refine cT 24 J I (gX a J) J ?_;refine zE 25 J (oh a J J) ?_;obtain rfl:=bn h;exact jg rest (jB J (bc (bc (bc (bc (bc (bc (bc (bc dG J) J) J) J) J) J) J) J)) (ah _) (ah _)
  have h:=dt a F;refine ei 18 J I (ay J) (bY a J) J ?_;refine gb 19 J I (db (us:=[iV c.no,iV c.N,.string c.S]) 0 J J agg29.out J) (bY a J) J ?_;refine gb 21 J I (db (us:=[iV a4.Yt,.bool a4.Ext,Y A4 n4 c4]) 2 J J agg55.out J) (bY a J) J ?_;obtain ⟨g6,k,h⟩:=ad h;refine iI 20 J I (oR (IA k)) J (bY a J) J ?_;rintro _ _ ⟨_,⟨g7,g8,g9,rfl,rfl⟩,rfl⟩;refine bE ?_;obtain ⟨h0,k,h⟩:=ad h;refine iI 22 J I (oR (R0 k)) J (bY a J) J ?_;rintro _ _ ⟨_,⟨h1,h2,h3,rfl,rfl⟩,rfl⟩;refine bE ?_;obtain ⟨h4,k,h⟩:=ad h;refine iI 23 J I (oR (QF k)) J (bY a J) J ?_;rintro _ _ ⟨_,⟨rfl,rfl⟩,rfl⟩;refine bE ?_;refine ei 24 J I (ww J) (bY a J) J ?_;refine zE 25 J (pY a J J) ?_;obtain rfl:=bn h;exact jg rest (jB J (bc (bc (bc (bc (bc (bc (bc (bc dG J) J) J) J) J) J) J) J)) (cS [2,3,4,5,6] 7) (ah _)
 refine cJ I ?_;refine aG h ?_ ?_<;>intro h
 ·exact eY
 refine aa ?_;obtain ⟨C,k,h⟩:=ad h;refine bN (oR (Iu k)) fun B A z=> ?_
 refine sZ ?_;refine gH J h ?_ ?_<;>intro h
 ·exact eY
 refine aa ?_;refine aF (fun s L=>zv N a1 a2 d a4 e c=some r/\s=[(0,pV B1 0),(1,iV a1),(2,iV a2),(10,pV n 0),(11,pV B6 0),(12,.bool false),(13,pV i 0)]/\L=[pDWorld B1 B2 j d,aL cI (Y A4 n4 c4) a4.Row,ab n 55 [iV a4.Yt,.bool a4.Ext,Y A4 n4 c4],ab B6 34 (ij e),ab i 29 [iV c.no,iV c.N,.string c.S]]) ?_ ?_
 ·refine aa ?_;refine dU (fun m s L=> ∃o,zy N a1 a2 C d a4 e c m o=some r/\s=[(0,pV B1 0),(1,iV a1),(2,iV a2),(10,pV n 0),(11,pV B6 0),(12,.bool false),(13,pV i 0),(14,Y B A z),(15,iV o)]/\L=[aK cI 48 (Y B A z) C,pDWorld B1 B2 j d,aL cI (Y A4 n4 c4) a4.Row,ab n 55 [iV a4.Yt,.bool a4.Ext,Y A4 n4 c4],ab B6 34 (ij e),ab i 29 [iV c.no,iV c.N,.string c.S]]) N _ _ ⟨0,h,J,J⟩ sA (cS [0,4,5,3,2,1] 6) ?_;rintro (_|h5) _ _ ⟨o,h,rfl,rfl⟩
  ·exact bO h
  rw [zy.eq_2] at h;refine sZ ?_;refine gH J h ?_ ?_<;>intro h
  ·refine sY ?_;refine dY [0,1,2,3,4] ?_;obtain ⟨h6,e8,e9,f1,h⟩:=aI h;refine zY [5,6,8,9,10] ?_;obtain ⟨R,f3,f9,g0,h⟩:=aI h;refine zY [11,12] ?_;obtain ⟨Q,k,h⟩:=ad h;refine zD 7 J (oR (JB k)) ?_;rintro _ _ ⟨_,⟨rfl,rfl⟩,rfl⟩;refine ⟨_,ah _,ah _,?_⟩;refine zE 13 J (TQ (x:=Q) (y:=R) J J) ?_;refine cJ I ?_;refine aG h ?_ ?_<;>intro h
   ·exact eY
   refine aa ?_;obtain ⟨h7,h⟩:=ai h;exact lY
  exact jY
 rintro _ _ ⟨h,rfl,rfl⟩;refine aa ?_;obtain ⟨t,k,h⟩:=ad h;refine cV (oR (QZ k)) ?_;intro h8;refine aa ?_;obtain ⟨h9,k,h⟩:=ad h;refine cV (oR (JD k)) ?_;refine sZ ?_;refine gH J h ?_ ?_<;>intro h
 ·refine aa ?_;obtain ⟨P,E,h⟩:=ad h;refine eD 4 98 P ?_ ?_
  ·clear h;refine eE 94 J (fun f=> ?_) (fun f=> ?_)
   ·have h:=du f E;refine aa ?_;refine bR (Ml (x:=t.1) (y:=(⟨(⟨0,0,⟨#[]⟩⟩:Vy),0,(⟨0,0,⟨#[]⟩⟩:VH),(⟨0,0,⟨#[]⟩⟩:VH),(⟨0,0,⟨#[]⟩⟩:VH)⟩:VN)) J J) J (be f J) J ?_;exact gY
   have h:=dt f E;exact gY
  exact eY
 refine aa ?_;refine dY [0,1] ?_;obtain ⟨O,D,h⟩:=ad h;refine vR (fun l=>((((((((((((l.setIfInBounds 2 true).setIfInBounds 3 true).setIfInBounds 4 true).setIfInBounds 5 true).setIfInBounds 7 true).setIfInBounds 8 true).setIfInBounds 9 true).setIfInBounds 10 true).setIfInBounds 11 true).setIfInBounds 6 true).setIfInBounds 12 true).setIfInBounds 13 true)) 1 112 O (fun rest=> ?_) ?_
 ·clear h;refine wq 100 J (fun a6=> ?_) (fun a6=> ?_)
  ·have h:=du a6 D;refine ei 2 J I (ay J) (be a6 J) J ?_;refine ei 3 J I (ay J) (be a6 J) J ?_;refine ei 4 J I (ay J) (be a6 J) J ?_;refine gb 5 J I (db (us:=dS t.1) 0 J J agg48.out J) (be a6 J) J ?_;refine ei 7 J I (bW J jC) (be a6 J) J ?_;refine gb 8 J I (cn 3 J J mi J) (be a6 J) J ?_;refine ei 9 J I (ay J) (be a6 J) J ?_;obtain ⟨q,d0,Z,X,h⟩:=aI h;refine gb 10 J I (cH 2 J bA J J Va size48.out d0 Z) (be a6 J) J ?_;refine gb 11 J I (fX (us:=dS q) 2 J bA J X agg48.out (fun _ _ _ h=>by rw [show _=_ from h];rfl)) (be a6 J) J ?_;obtain ⟨M,k,h⟩:=ad h;refine iI 6 J I (oR (JB k)) J (be a6 J) J ?_;rintro _ _ ⟨_,⟨rfl,rfl⟩,rfl⟩;refine ⟨_,ah _,ah _,?_⟩;refine ei 12 J I (Ml (x:=M) (y:=q) J J) (be a6 J) J ?_;refine zE 13 J (oh a6 J J) ?_;obtain rfl:=bn h;exact jg rest (jB J (bc (bc (bc (bc (bc (bc (bc (bc (bc (bc (bc (bc dG J) J) J) J) J) J) J) J) J) J) J) J)) (ah _) (ah _)
  have h:=dt a6 D;refine cT 2 J I (eK a6 J) J ?_;refine cT 3 J I (eK a6 J) J ?_;refine cT 4 J I (eK a6 J) J ?_;refine cT 5 J I (eK a6 J) J ?_;refine cT 7 J I (eK a6 J) J ?_;refine cT 8 J I (eK a6 J) J ?_;refine cT 9 J I (eK a6 J) J ?_;refine cT 10 J I (eK a6 J) J ?_;refine cT 11 J I (eK a6 J) J ?_;refine cT 6 J I (eK a6 J) J ?_;refine cT 12 J I (eK a6 J) J ?_;refine zE 13 J (pY a6 J J) ?_;obtain rfl:=bn h;exact jg rest (jB J (bc (bc (bc (bc (bc (bc (bc (bc (bc (bc (bc (bc dG J) J) J) J) J) J) J) J) J) J) J) J)) (ah _) (ah _)
 refine zX [14] ?_;exact eY
theorem QU {r:Bool}: ∀v post,((fun (u:Value) (post:V3)=>u=.bool r/\post=[])) v post-> ∀c∈post,bP c:=by
 rintro _ _ ⟨rfl,rfl⟩;exact aW
def yh (N:Nat)(d:VK):Option Unit:=
 some ()
theorem PQ {N:Nat}{r:Unit}(h:yh N d=some r):Okc V5 23 [pV B1 0] ([aQ B1 85 (cF d B2 j A4 n4 c4 A5 n5 c5 A6 n6 c6),pDHeap B2 d.XX,pDTable j d.Ya,aL eS (Y A4 n4 c4) d.Yk,aL jE (Y A5 n5 c5) d.Yl,aL eS (Y A6 n6 c6) d.Ym]) (fun u p=>u=pV B2 0/\p=[]):=by
 refine av Tryz.func23 ?_;refine sZ ?_;refine aJ (gC J Vj) ?_;refine d8 J ?_;exact eY
theorem Ph {B2:Nat}: ∀v post,((fun (u:Value) (post:V3)=>u=pV B2 0/\post=[])) v post-> ∀c∈post,bP c:=by
 rintro _ _ ⟨rfl,rfl⟩;exact aW
theorem Pg {N:Nat}{r:Unit}(h:yh N d=some r){B1 B2 j:Nat}:Okc V5 23 [pV B1 0] ([pDWorld B1 B2 j d]) (fun u p=>u=pV B2 0/\p=[]):=jR 0 rfl (fun _=>PQ h)
theorem O3 {B2:Nat}: ∀v post,((fun (u:Value) (post:V3)=>u=pV B2 0/\post=[])) v post-> ∀c∈post,bP c:=Ph
def yb (d:Vz)(a1:VH):Option Bool:=
 (bif decide (a1.no=7) then (some true) else (some (decide (a1.no=9)))).bind fun a=>(bif a then ((nM N d a1.N).bind fun a6=>some (!a6)) else (some false)).bind fun a8=>some a8
theorem PN {N:Nat}{d:Vz}{a1:VH}{r:Bool}(h:yb N d a1=some r):Okc V5 69 [pV B1 0,(bS a1)] ([aQ B1 128 [Y A2 n2 c2,Y A3 n3 c3,Y A4 n4 c4,Y A5 n5 c5,pV B6 0],aq A2 n2 c2 d.m_.XS,aq A3 n3 c3 d.m_.XR,ap A4 n4 c4 d.Yb,ap A5 n5 c5 d.Yg,aQ B6 186 [.map (some M7)],cK ax aU M7 d.Yf.at_]) (fun u p=>u=.bool r/\p=[]):=by
 refine av Tryz.func69 ?_;intro e;refine aa ?_;refine gS 4 12 8 h ?_;intro a h;refine aa ?_;refine bF 6 19 13 h (fun _ a6 h=> ?_) fun a8 h=> ?_
 ·refine cR h (fun _ k=>uA k) fun c h=> ?_
  exact gY
 exact eY
def DI (d:Int)(a1:Vz):Option Bool:=
 (nM N a1 d).bind fun a=>some (!a)
theorem PF {N:Nat}{d:Int}{a1:Vz}{r:Bool}(h:DI N d a1=some r):Okc V5 121 [iV d,pV B1 0] ([aQ B1 60 [pV B2 0],aQ B2 128 [Y A3 n3 c3,Y A4 n4 c4,Y A5 n5 c5,Y A6 n6 c6,pV n 0],aq A3 n3 c3 a1.m_.XS,aq A4 n4 c4 a1.m_.XR,ap A5 n5 c5 a1.Yb,ap A6 n6 c6 a1.Yg,aQ n 186 [.map (some o)],cK ax aU o a1.Yf.at_]) (fun u p=>u=.bool r/\p=[]):=by
 refine av Tryz.func121 ?_;refine cR h (fun _ k=>uA k) fun a h=> ?_
 exact eN
def yv (d:Vz)(a1:VL):Option Bool:=
 (lO N a1).bind fun a6=>(pE N a1).bind fun a8=>(uI N a6 a8).bind fun c=>(kH N c (fun x=>DI N x d)).bind fun a=>some a
theorem Qd {N:Nat}{d:Vz}{a1:VL}{r:Bool}(h:yv N d a1=some r):Okc V5 72 [pV B1 0,.agg #[iV a1.no,iV a1.XV,iV a1.XU,iV a1.XW,Y q B z,Y t C A]] ([aQ B1 128 [Y A2 n2 c2,Y A3 n3 c3,Y A4 n4 c4,Y A5 n5 c5,pV B6 0],aq A2 n2 c2 d.m_.XS,aq A3 n3 c3 d.m_.XR,ap A4 n4 c4 d.Yb,ap A5 n5 c5 d.Yg,aQ B6 186 [.map (some M7)],cK ax aU M7 d.Yf.at_,ap q B z a1.XQ,ap t C A a1.XP]) (fun u p=>u=.bool r/\p=[]):=by
 refine av Tryz.func72 ?_;intro a6;refine bB fun K=> ?_
 refine dY [0,2] ?_;refine zE 6 J (jZ J) ?_;obtain ⟨H,k,h⟩:=ad h;refine fk 1 J (oR (pG k)) fun a8 j i=> ?_
 obtain ⟨F,k,h⟩:=ad h;refine fk 3 J (oR (yW k)) fun f e c=> ?_
 refine o9 4 J (ke (cs:=[Y a8 j i,Y f e c]) J (Kn _ _ _ _ _ _)) fun E=> ?_
 obtain ⟨D,k,h⟩:=ad h;refine fk 5 J (oR (In k)) fun o n m=> ?_
 obtain ⟨l,k,h⟩:=ad h;refine zD 7 J (oR (qN k ⟨t9 J (t9 J (t9 J (t9 J (t9 J (t9 J (t9 J (t9 J aW))))))),121, #[], #[pV a6 0],J,call121.out,fun _ _ a=>PF a⟩)) ?_;rintro _ _ ⟨_,⟨rfl,rfl⟩,rfl⟩;refine bE ?_;refine zX [8] ?_;exact eY
theorem PO {r:Bool}: ∀v post,((fun (u:Value) (post:V3)=>u=.bool r/\post=[])) v post-> ∀c∈post,bP c:=by
 rintro _ _ ⟨rfl,rfl⟩;exact aW
def Hz (N:Nat):Option Int:=
 some (-1)
def tO (N:Nat)(d:VX)(a1_0:Vz):Nat->Int->Option Int
 |0,_=>none
 |a8+1,a6=>bif decide (a6<(d.length:Int)) then ((ak d a6).bind fun c=>(yv N a1_0 c).bind fun a=>bif a then (some a6) else (ae (in64 (a6+1)) ((tO N d a1_0 a8) (a6+1)))) else (Hz N)
def Di (d:VX)(a1_0:Vz):Option Int:=
 tO N d a1_0 N 0
theorem OS {N:Nat}{d:VX}{r:Int}(h:Di N d a1_0=some r):Okc V5 115 [Y A1 e c1,.func (.func 72) #[pV B2 0] #[]] ([aq A1 e c1 d,aQ B2 128 [Y A3 n3 c3,Y A4 n4 c4,Y A5 n5 c5,Y A6 n6 c6,pV n 0],aq A3 n3 c3 a1_0.m_.XS,aq A4 n4 c4 a1_0.m_.XR,ap A5 n5 c5 a1_0.Yb,ap A6 n6 c6 a1_0.Yg,aQ n 186 [.map (some o)],cK ax aU o a1_0.Yf.at_]) (fun u p=>u=iV r/\p=[]):=by
 refine av Tryz.func115 ?_;refine aF (fun s L=>Hz N=some r/\s=[(4,iV 0)]/\L=[]) ?_ ?_
 ·refine aa ?_;refine lK (fun m s L=> ∃(a6:Int),tO N d a1_0 m a6=some r/\s=[(0,Y A1 e c1),(1,.func (.func 72) #[pV B2 0] #[]),(4,iV 0),(7,iV (d.length:Int)),(8,iV a6)]/\L=[aq A1 e c1 d,aq A3 n3 c3 a1_0.m_.XS,aq A4 n4 c4 a1_0.m_.XR,ap A5 n5 c5 a1_0.Yb,ap A6 n6 c6 a1_0.Yg,aQ B2 128 [Y A3 n3 c3,Y A4 n4 c4,Y A5 n5 c5,Y A6 n6 c6,pV n 0],cK ax aU o a1_0.Yf.at_,aQ n 186 [.map (some o)]]) N ?_;rintro B _ _ ⟨a6,h,rfl,rfl⟩;rw [tO.eq_2] at h;refine aa ?_;refine aH ?_;refine gH J h ?_ ?_<;>intro h
  ·refine sY ?_;obtain ⟨a,D,C,a8,h⟩:=aI h;refine aa ?_;refine kW 0 J a8 (kc a) ?_;rintro _ _ ⟨t,q,l,j,f,c,rfl,rfl⟩;refine gR (kl (us:=(bw a t q l j f c)) 0 J J agg45.out J) ?_;obtain ⟨A,k,h⟩:=ad h;refine cV (Ub (Qd k) J J J (t9 (bK (i:=8) J J) (t9 (bK (i:=4) J J) (t9 (bK (i:=5) J J) (t9 (bK (i:=6) J J) (t9 (bK (i:=7) J J) (t9 (bK (i:=10) J J) (t9 (bK (i:=9) J J) (t9 (bK (i:=1) J J) (t9 (bK (i:=2) J J) aW))))))))) PO) ?_;refine gH J h ?_ ?_<;>intro h
   ·exact eY
   refine aa ?_;obtain ⟨z,h⟩:=ai h;exact lY
  exact jY
 rintro _ _ ⟨h,rfl,rfl⟩;exact eY
def xj (d:VX)(a1_0:Vz):Option Bool:=
 (Di N d a1_0).bind fun a=>some (decide (0<=a))
theorem OK {N:Nat}{d:VX}{r:Bool}(h:xj N d a1_0=some r):Okc V5 70 [Y A1 e c1,.func (.func 72) #[pV B2 0] #[]] ([aq A1 e c1 d,aQ B2 128 [Y A3 n3 c3,Y A4 n4 c4,Y A5 n5 c5,Y A6 n6 c6,pV n 0],aq A3 n3 c3 a1_0.m_.XS,aq A4 n4 c4 a1_0.m_.XR,ap A5 n5 c5 a1_0.Yb,ap A6 n6 c6 a1_0.Yg,aQ n 186 [.map (some o)],cK ax aU o a1_0.Yf.at_]) (fun u p=>u=.bool r/\p=[]):=by
 refine av Tryz.func70 ?_;refine cR h (fun _ k=>OS k) fun a h=> ?_
 exact eN
theorem OJ {r:Bool}: ∀v post,((fun (u:Value) (post:V3)=>u=.bool r/\post=[])) v post-> ∀c∈post,bP c:=by
 rintro _ _ ⟨rfl,rfl⟩;exact aW
def zc (N:Nat)(d:Int):Option Bool:=
 some (!decide (d=d))
theorem Iz {N:Nat}{d:Int}{r:Bool}(h:zc N d=some r):Okc V5 172 [iV d] ([]) (fun u p=>u=.bool r/\p=[]):=by
 refine av Tryz.func172 ?_;exact eN
theorem Ig {r:Bool}: ∀v post,((fun (u:Value) (post:V3)=>u=.bool r/\post=[])) v post-> ∀c∈post,bP c:=by
 rintro _ _ ⟨rfl,rfl⟩;exact aW
def Dr (a1:Int)(d:VW)(a:Int):Option (Int×Bool):=
 (bif decide (a<(d.length:Int)) then ((ak d a).bind fun a6=>(bif decide (a6=a1) then (some true) else ((ak d a).bind fun a8=>(zc N a8).bind fun j=>(bif j then ((zc N a1).bind fun i=>some i) else (some false)).bind fun f=>some f)).bind fun e=>some e) else (some false)).bind fun c=>some (a,c)
def qM (N:Nat)(a1:Int)(d:VW):Nat->Int->Int->Option (Int×Bool)
 |0,_,_=>none
 |e+1,a,c=>bif decide (a<c) then (ae (in64 (a+c)) ((ak d (IntKind.i64.wrap ((IntKind.u64.wrap (a+c)).fdiv (2 ^ 1)))).bind fun x9=>(Al N x9 a1).bind fun a6=>bif a6 then (ae (in64 ((IntKind.i64.wrap ((IntKind.u64.wrap (a+c)).fdiv (2 ^ 1)))+1)) ((qM N a1 d e) ((IntKind.i64.wrap ((IntKind.u64.wrap (a+c)).fdiv (2 ^ 1)))+1) c)) else ((qM N a1 d e) a (IntKind.i64.wrap ((IntKind.u64.wrap (a+c)).fdiv (2 ^ 1)))))) else (Dr N a1 d a)
def xD (d:VW)(a1:Int):Option (Int×Bool):=
 qM N a1 d N 0 (d.length:Int)
theorem O8 {N:Nat}{d:VW}{r:Int×Bool}(h:xD N d a1=some r):Okc V5 123 [Y A1 e c1,iV a1] ([aX A1 e c1 d]) (fun u p=>u=.tuple #[iV r.1,.bool r.2]/\p=[]):=by
 refine gQ Tryz.func123 J J ?_;simp only [fe];refine G ?_;refine gR (ie 0 J bA J Vd) ?_;refine G ?_;refine aF (fun s L=> ∃f,Dr N a1 d f=some r/\s=[(0,Y A1 e c1),(1,iV a1),(4,iV 0),(5,.bool false),(6,iV (d.length:Int)),(7,iV f)]/\L=[aX A1 e c1 d]) ?_ ?_
 ·refine qi ?_;refine lK (fun m s L=> ∃(a:Int) (c:Int),qM N a1 d m a c=some r/\s=[(0,Y A1 e c1),(1,iV a1),(4,iV 0),(5,.bool false),(6,iV (d.length:Int)),(7,iV a),(8,iV c)]/\L=[aX A1 e c1 d]) N ?_;rintro j _ _ ⟨a,c,h,rfl,rfl⟩;rw [qM.eq_2] at h;refine aH ?_;refine G ?_;refine gH J h ?_ ?_<;>intro h
  ·refine G ?_;obtain ⟨i,h⟩:=ai h;refine gE (cY J J i.1 i.2) ?_;refine gE (jl J J Vm) ?_;refine gE (wz (v:=(IntKind.u64.wrap (a+c)).fdiv (2 ^ 1)) J J (fun _=>J)) ?_;refine gE (jl J J Ex) ?_;refine G ?_;obtain ⟨x9,A,z,t,h⟩:=aI h;refine gR (cH 0 J bA J J Vd size3.out A z) ?_;refine gR (fZ (u:=iV x9) 0 J bA J t eo (fun _ _ _ h=>by rw [show _=_ from h];rfl)) ?_;refine G ?_;obtain ⟨R,k,h⟩:=ad h;refine gV (co (RV k) J (aW) Q6) ?_;refine G ?_;refine gH J h ?_ ?_<;>intro h
   ·refine G ?_;obtain ⟨n,h⟩:=ai h;refine gE (cY J J n.1 n.2) ?_;refine G ?_;exact ⟨j,_,_,VS _,⟨(IntKind.i64.wrap ((IntKind.u64.wrap (a+c)).fdiv (2 ^ 1)))+1,c,h,J,J⟩,sA,cS [0] 1⟩
   refine G ?_;exact ⟨j,_,_,VS _,⟨a,(IntKind.i64.wrap ((IntKind.u64.wrap (a+c)).fdiv (2 ^ 1))),h,J,J⟩,sA,cS [0] 1⟩
  refine G ?_;exact ⟨_,_,⟨a,h,J,J⟩,sA,cS [0] 1⟩
 rintro _ _ ⟨f,h,rfl,rfl⟩;refine G ?_;refine iF 18 53 35 h (fun _ a8 h=> ?_) (fun _ a8 h=> ?_) fun Q h=> ?_
 ·refine G ?_;obtain ⟨q,H,F,E,h⟩:=aI h;refine dF (cH 0 J bA J J Vd size3.out H F) J (be a8 J) J ?_;refine dF (fZ (u:=iV q) 0 J bA J E eo (fun _ _ _ h=>by rw [show _=_ from h];rfl)) J (be a8 J) J ?_;refine G ?_;refine iF 10 52 42 h (fun _ a6 h=> ?_) (fun _ a6 h=> ?_) fun P h=> ?_
  ·refine G ?_;obtain rfl:=bn h;exact fN sA (cS [0] 1)
  ·refine G ?_;obtain ⟨o,D,C,B,h⟩:=aI h;refine dF (cH 0 J bA J J Vd size3.out D C) J (bY a6 J) J ?_;refine dF (fZ (u:=iV o) 0 J bA J B eo (fun _ _ _ h=>by rw [show _=_ from h];rfl)) J (bY a6 J) J ?_;obtain ⟨O,k,h⟩:=ad h;refine gU (co (Iz k) J (aW) Ig) (bY a6 J) ?_;refine G ?_;refine iF 3 51 48 h (fun _ l h=> ?_) (fun _ l h=> ?_) fun M h=> ?_
   ·refine G ?_;obtain ⟨K,k,h⟩:=ad h;refine gU (co (Iz k) J (aW) Ig) (be l J) ?_;refine G ?_;obtain rfl:=bn h;exact fN sA (cS [0] 1)
   ·refine G ?_;obtain rfl:=bn h;exact fN sA (cS [0] 1)
   refine G ?_;obtain rfl:=bn h;exact fN sA (cS [0] 1)
  refine G ?_;obtain rfl:=bn h;exact fN sA (cS [0] 1)
 ·refine G ?_;obtain rfl:=bn h;exact fN sA (cS [0] 1)
 refine G ?_;obtain rfl:=bn h;exact kY J J J (cS [] 1) ⟨J,J⟩
def Ik (N:Nat):Option Bool:=
 some true
def rl (N:Nat)(d:Vw)(a1:VW):Nat->Int->Option Bool
 |0,_=>none
 |a6+1,a=>bif decide (a<(d.XR.length:Int)) then ((ak d.XR a).bind fun a8=>ae (in64 (2*a)) (ae (in64 ((2*a)+2)) ((xD N a1 ((2*a)+2)).bind fun f=>(bif !f.2 then ((uL N a8).bind fun e=>some e) else (some false)).bind fun c=>bif c then (some false) else (ae (in64 (a+1)) ((rl N d a1 a6) (a+1)))))) else (Ik N)
def Iv (a1:VW)(d:Vw):Option Bool:=
 rl N d a1 N 0
def yD (N:Nat)(a1:VW)(d:Vw):Nat->Int->Option Bool
 |0,_=>none
 |c+1,a=>bif decide (a<(a1.length:Int)) then ((ak a1 a).bind fun x9=>(rV N x9).bind fun a6=>(bif !a6 then (some true) else (ae (in64 (x9.tdiv 2)) (some (decide ((d.XR.length:Int)<x9.tdiv 2))))).bind fun a8=>(bif a8 then (some true) else ((bif decide (0<a) then (ae (in64 (a - 1)) ((ak a1 (a - 1)).bind fun i=>some (decide (x9<=i)))) else (some false)).bind fun f=>some f)).bind fun e=>bif e then (some false) else (ae (in64 (a+1)) ((yD N a1 d c) (a+1)))) else (Iv N a1 d)
def yZ (d:Vw)(a1:VW):Option Bool:=
 yD N a1 d N 0
theorem QB {N:Nat}{d:Vw}{a1:VW}{r:Bool}(h:yZ N d a1=some r):Okc V5 73 [.agg #[Y A1 e c1,Y A2 n2 c2],Y A3 n3 c3] ([aq A1 e c1 d.XS,aq A2 n2 c2 d.XR,aX A3 n3 c3 a1]) (fun u p=>u=.bool r/\p=[]):=by
 refine av Tryz.func73 ?_;intro c;refine aa ?_;refine aF (fun s L=>Iv N a1 d=some r/\s=[(1,Y A3 n3 c3),(2,pV c 0),(4,.bool false)]/\L=[aX A3 n3 c3 a1,aq A1 e c1 d.XS,aq A2 n2 c2 d.XR,ab c 125 [Y A1 e c1,Y A2 n2 c2]]) ?_ ?_
 ·refine aa ?_;refine lK (fun m s L=> ∃(f:Int),yD N a1 d m f=some r/\s=[(1,Y A3 n3 c3),(2,pV c 0),(4,.bool false),(11,Y A3 n3 c3),(12,iV (a1.length:Int)),(13,iV f)]/\L=[aX A3 n3 c3 a1,aq A1 e c1 d.XS,aq A2 n2 c2 d.XR,ab c 125 [Y A1 e c1,Y A2 n2 c2]]) N ?_;rintro B _ _ ⟨f,h,rfl,rfl⟩;rw [yD.eq_2] at h;refine aa ?_;refine aH ?_;refine gH J h ?_ ?_<;>intro h
  ·refine sY ?_;obtain ⟨x9,e2,e3,e4,h⟩:=aI h;refine cR h (fun _ k=>I7 k) fun Z h=> ?_
   refine dJ 7 28 21 h (fun _ A h=> ?_) fun X h=> ?_
   ·refine aa ?_;obtain ⟨a8,h⟩:=ai h;refine bR (mb J J (by decide) a8.1 a8.2) J (bY A J) J ?_;exact gY
   refine aa ?_;refine dJ 12 41 29 h (fun _ V h=> ?_) fun U h=> ?_
   ·refine aa ?_;refine bF 8 40 32 h (fun _ T h=> ?_) fun S h=> ?_
    ·refine aa ?_;obtain ⟨R,h⟩:=ai h;refine aa ?_;obtain ⟨Q,b7,b9,c0,h⟩:=aI h;exact gY
    exact gY
   refine aG h ?_ ?_<;>intro h
   ·exact eY
   refine aa ?_;obtain ⟨P,h⟩:=ai h;exact lY
  exact jY
 rintro _ _ ⟨h,rfl,rfl⟩;refine aF (fun s L=>Ik N=some r/\s=[(4,.bool false)]/\L=[]) ?_ ?_
 ·refine aa ?_;refine lK (fun m s L=> ∃(a:Int),rl N d a1 m a=some r/\s=[(1,Y A3 n3 c3),(4,.bool false),(44,Y A2 n2 c2),(45,iV (d.XR.length:Int)),(46,iV a)]/\L=[aX A3 n3 c3 a1,aq A2 n2 c2 d.XR]) N ?_;rintro O _ _ ⟨a,h,rfl,rfl⟩;rw [rl.eq_2] at h;refine aa ?_;refine aH ?_;refine gH J h ?_ ?_<;>intro h
  ·refine sY ?_;obtain ⟨j,c7,d0,a6,h⟩:=aI h;refine aa ?_;refine kW 1 J a6 (kc j) ?_;rintro _ _ ⟨z,t,q,o,n,l,rfl,rfl⟩;refine fS (kl (us:=(bw j z t q o n l)) 0 J J agg45.out J) ?_;intro M;refine aa ?_;obtain ⟨i,h⟩:=ai h;refine gE (gq J J i.1 i.2) ?_;obtain ⟨K,h⟩:=ai h;refine cR h (fun _ k=>O8 k) fun H h=> ?_
   refine bF 3 64 61 h (fun _ F h=> ?_) fun E h=> ?_
   ·refine cR h (fun _ k=>It k) fun D h=> ?_
    exact gY
   refine aG h ?_ ?_<;>intro h
   ·exact eY
   refine aa ?_;obtain ⟨C,h⟩:=ai h;exact lY
  exact jY
 rintro _ _ ⟨h,rfl,rfl⟩;exact eY
theorem Qg {r:Bool}: ∀v post,((fun (u:Value) (post:V3)=>u=.bool r/\post=[])) v post-> ∀c∈post,bP c:=by
 rintro _ _ ⟨rfl,rfl⟩;exact aW
def uj (d:Vz)(a6:Bool):Option Int:=
 bif a6 then (some 50) else ((uu N d.Yf).bind fun a8=>(yZ N d.m_ a8).bind fun a=>bif !a then (some 6) else (some 0))
def ri (d:Vz):Option Int:=
 (fJ N d).bind fun a=>bif a then (some 1) else ((mx N d.Yb d.Yg).bind fun a8=>(qK N a8 (fun x=>yb N d x)).bind fun a6=>bif a6 then (uj N d a6) else ((ua N d.m_.XS d.m_.XR).bind fun e=>(xj N e d).bind fun c=>uj N d c))
theorem PY {N:Nat}{d:Vz}{r:Int}(h:ri N d=some r):Okc V5 24 [pV B1 0] ([aQ B1 128 [Y A2 n2 c2,Y A3 n3 c3,Y A4 n4 c4,Y A5 n5 c5,pV B6 0],aq A2 n2 c2 d.m_.XS,aq A3 n3 c3 d.m_.XR,ap A4 n4 c4 d.Yb,ap A5 n5 c5 d.Yg,aQ B6 186 [.map (some M7)],cK ax aU M7 d.Yf.at_]) (fun u p=>u=iV r/\p=[]):=by
 refine gQ Tryz.func24 J J ?_;simp only [fe];refine G ?_;refine aH ?_;refine G ?_;obtain ⟨H,k,h⟩:=ad h;refine gV (co (kI k) J (t9 (bK (i:=0) J J) (t9 (bK (i:=1) J J) (t9 (bK (i:=2) J J) (t9 (bK (i:=3) J J) (t9 (bK (i:=4) J J) (t9 (bK (i:=5) J J) (t9 (bK (i:=6) J J) aW))))))) Dv) ?_;refine G ?_;refine gH J h ?_ ?_<;>intro h
 ·refine G ?_;obtain rfl:=bn h;exact dV J J (cS [] 7) ⟨J,J⟩
 refine aF (fun s L=> ∃f,uj N d f=some r/\s=[(0,pV B1 0),(2,iV 0),(6,.bool f)]/\L=[aq A2 n2 c2 d.m_.XS,aq A3 n3 c3 d.m_.XR,ap A4 n4 c4 d.Yb,ap A5 n5 c5 d.Yg,aQ B1 128 [Y A2 n2 c2,Y A3 n3 c3,Y A4 n4 c4,Y A5 n5 c5,pV B6 0],cK ax aU M7 d.Yf.at_,aQ B6 186 [.map (some M7)]]) ?_ ?_
 ·refine aH ?_;refine cy I _ (ah _) ?_;refine zE 0 J (ay J) ?_;refine zE 1 J (cr J) ?_;refine zE 2 J (bW J lS) ?_;refine zR 3 J (lT 0 J J gt J) ?_;refine zE 4 J (ay J) ?_;refine zE 5 J (cr J) ?_;refine zE 6 J (bW J oB) ?_;refine zR 7 J (lT 0 J J gt J) ?_;refine zE 10 J (ay J) ?_;refine zE 11 J (zK (caps:=[]) J J) ?_;refine zD 8 J (ke (cs:=[Y A4 n4 c4,Y A5 n5 c5]) J (ox _ _ _ _ _ _)) ?_;rintro _ _ ⟨E,rfl,rfl⟩;refine cj (cS [1,2,3,4,5,6,7] 8) ?_;obtain ⟨D,k,h⟩:=ad h;refine zD 9 J (co (pf k) J (t9 (fY (i:=0) J) (t9 (bK (i:=4) J J) (t9 (bK (i:=5) J J) aW))) pe) ?_;rintro _ _ ⟨_,⟨C,B,A,rfl,rfl⟩,rfl⟩;refine cj (cS [2,3,4,5,6,7,8] 9) ?_;obtain ⟨e,k,h⟩:=ad h;refine zD 12 J (co (HA k ⟨t9 J (t9 J (t9 J (t9 J (t9 J (t9 J (t9 J aW)))))),69, #[pV B1 0], #[],J,call69.out,fun _ _ l=>PN l⟩) J (t9 (cM (i:=0) J) (t9 (bK (i:=2) J J) (t9 (bK (i:=3) J J) (t9 (bK (i:=4) J J) (t9 (bK (i:=5) J J) (t9 (bK (i:=6) J J) (t9 (bK (i:=7) J J) (t9 (bK (i:=8) J J) aW)))))))) OM) ?_;rintro _ _ ⟨_,⟨rfl,rfl⟩,rfl⟩;refine cj (cS [2,3,4,5,6,7,8] 9) ?_;refine zE 13 J (dQ J) ?_;refine cJ I ?_;refine d5 ?_;refine gH J h ?_ ?_<;>intro h
  ·refine G ?_;exact ⟨_,_,⟨e,h,J,J⟩,sA,cS [3,4,5,6,2,8,7] 9⟩
  obtain ⟨j,F,h⟩:=ad h;refine dx (t:=[(0,pV B1 0),(2,iV 0),(6,.bool e)]) ?_ cL (ah _);refine fv I 14 [] [11,13] [20,21,22,23,24,25,26,27,28,29,30,31,32,33] [[],[0],[1],[2],[3],[],[5],[6],[7],[8],[4,9],[10],[],[12]] [aV (pV B1 0),
aV (pV B1 0),
aV (pV B1 0),
aV (pV B1 0),
aV (Y A2 n2 c2),
aV (pV B1 0),
aV (pV B1 0),
aV (pV B1 0),
aV (pV B1 1),
aV (Y A3 n3 c3),
aX1 (fun (c:Nat)=> .slice (some ⟨c,0,none⟩) 2 2) (fun c=> [aQ c 123 [Y A2 n2 c2,Y A3 n3 c3]]),
aX3 (fun (a6:Option Addr) (a8 a:Nat)=> Y a6 a8 a) (fun a6 a8 a=> [aC a6 a8 a j]),
aV (pV B1 0),
aV (.func (.func 72) #[pV B1 0] #[])] [] (ah _) (fB) I rfl rfl ?_ ?_ ?_
  ·exact fz
  ·refine bl J ?_ ?_
   ·exact dI (zK (caps:=[]) J J) J (bj J (ah _))
   refine bl J ?_ ?_
   ·exact dI (ay J) J (bj J (ah _))
   refine bl J ?_ ?_
   ·intro c;refine fi (kR (HQ F) J (f0 [0,4,5] [] [0,1,2,3,4,5,6,7,8,9] 10 J)) J ?_;rintro _ _ ⟨_,⟨z,q,o,rfl,rfl⟩,rfl⟩;exact lp z q o (ah _)
   refine bl J ?_ ?_
   ·refine fi (ke (cs:=[Y A2 n2 c2,Y A3 n3 c3]) J (Fo _ _ _ _ _ _)) J ?_;rintro _ _ ⟨n,rfl,rfl⟩;exact wU n ((kO 0 J).trans (ah _))
   refine bl J ?_ ?_
   ·exact dj (lT 2 J J sR J) J (bj J (ah _))
   refine bl J ?_ ?_
   ·exact dI (bW J AY) J (bj J (ah _))
   refine bl J ?_ ?_
   ·exact dI (fb J kj) J (bj J (ah _))
   refine bl J ?_ ?_
   ·exact dI (cr J) J (bj J (ah _))
   refine bl J ?_ ?_
   ·exact dI (ay J) J (bj J (ah _))
   refine bl J ?_ ?_
   ·exact dj (lT 2 J J sR J) J (bj J (ah _))
   refine bl J ?_ ?_
   ·exact dI (fb J AX) J (bj J (ah _))
   refine bl J ?_ ?_
   ·exact dI (fb J kj) J (bj J (ah _))
   refine bl J ?_ ?_
   ·exact dI (cr J) J (bj J (ah _))
   refine bl J ?_ ?_
   ·exact dI (ay J) J (bj J (ah _))
   exact fq
  intro a6 a8 a;refine eF (t:=[(31,Y a6 a8 a),(33,.func (.func 72) #[pV B1 0] #[]),(0,pV B1 0),(2,iV 0),(6,.bool e)]) (L':=[aC a6 a8 a j,aj C B A D,ab E 43 [Y A4 n4 c4,Y A5 n5 c5],aQ B1 128 [Y A2 n2 c2,Y A3 n3 c3,Y A4 n4 c4,Y A5 n5 c5,pV B6 0],aq A2 n2 c2 d.m_.XS,aq A3 n3 c3 d.m_.XR,ap A4 n4 c4 d.Yb,ap A5 n5 c5 d.Yg,aQ B6 186 [.map (some M7)],cK ax aU M7 d.Yf.at_]) ?_ cL (ah _);obtain ⟨m,k,h⟩:=ad h;refine gP 14 J I (co (OK k) J (t9 (cM (i:=0) J) (t9 (bK (i:=3) J J) (t9 (bK (i:=4) J J) (t9 (bK (i:=5) J J) (t9 (bK (i:=6) J J) (t9 (bK (i:=7) J J) (t9 (bK (i:=8) J J) (t9 (bK (i:=9) J J) aW)))))))) OJ) J J J ?_;rintro _ _ ⟨_,⟨rfl,rfl⟩,rfl⟩;refine jt 15 J I (dQ J) J J J ?_;refine fw I ?_;refine d5 ?_;exact ⟨_,_,⟨m,h,J,J⟩,sA,cS [4,5,6,7,3,9,8] 10⟩
 rintro _ _ ⟨f,h,rfl,rfl⟩;refine gH J h ?_ ?_<;>intro h
 ·refine G ?_;obtain rfl:=bn h;exact dV J J (cS [] 7) ⟨J,J⟩
 refine aH ?_;refine cy I _ (ah _) ?_;refine zE 0 J (ay J) ?_;refine zE 1 J (cr J) ?_;refine zE 2 J (fb J kj) ?_;refine zR 3 J (Ll (us:=[Y A2 n2 c2,Y A3 n3 c3]) 4 J J agg125.out J) ?_;refine zE 4 J (ay J) ?_;refine zE 5 J (cr J) ?_;refine zE 6 J (bW J Bb) ?_;refine zR 7 J (lT 4 J J Ce J) ?_;obtain ⟨Q,k,h⟩:=ad h;refine zD 8 J (co (H6 k) J (t9 (bK (i:=6) J J) (t9 (bK (i:=5) J J) aW)) PG) ?_;rintro _ _ ⟨_,⟨P,O,M,rfl,rfl⟩,rfl⟩;refine cj (cS [1,2,3,4,5,6,7] 8) ?_;obtain ⟨K,k,h⟩:=ad h;refine zD 9 J (co (QB k) J (t9 (bK (i:=1) J J) (t9 (bK (i:=2) J J) (t9 (cM (i:=0) J) aW))) Qg) ?_;rintro _ _ ⟨_,⟨rfl,rfl⟩,rfl⟩;refine cj (cS [1,2,3,4,5,6,7] 8) ?_;refine zE 10 J (ww J) ?_;refine zE 11 J (dQ J) ?_;refine cJ I ?_;refine d5 ?_;refine gH J h ?_ ?_<;>intro h
 ·refine G ?_;obtain rfl:=bn h;exact dV J J (cS [] 8) ⟨J,J⟩
 refine G ?_;obtain rfl:=bn h;exact dV J J (cS [] 8) ⟨J,J⟩
theorem Pv {r:Int}: ∀v post,((fun (u:Value) (post:V3)=>u=iV r/\post=[])) v post-> ∀c∈post,bP c:=by
 rintro _ _ ⟨rfl,rfl⟩;exact aW
theorem Pu {N:Nat}{d:Vz}{r:Int}(h:ri N d=some r):Okc V5 24 [pV B1 0] ([pDHeap B1 d]) (fun u p=>u=iV r/\p=[]):=jR 0 rfl (fun _=>PY h)
theorem Pb {r:Int}: ∀v post,((fun (u:Value) (post:V3)=>u=iV r/\post=[])) v post-> ∀c∈post,bP c:=Pv
def xZ (a6:VK):Option Bool:=
 (yh N a6).bind fun d=>(ri N a6.XX).bind fun a8=>(bif decide (a8=0) then ((vh N).bind fun c=>some c) else (some false)).bind fun a=>some a
def xY (N:Nat)(a6:(List VB)->Int->VK->Option Bool)(d e a8:Int)(a1:List Vx)(c:List VB)(a:VK):Option Bool:=
 ae (in64 (a8+1)) (a6 c (a8+1) a)
def xX (N:Nat)(a6:(List VB)->Int->VK->Option Bool)(d c a:Int)(a1:List Vx)(y42:((List VB)×Bool))(y45:Bool×VK):Nat->Int->Option Bool
 |0,_=>none
 |j+1,a8=>bif decide (a8<1+(aM .i64 d 3)) then ((ak y42.1 a8).bind fun i=>(ak a1 a).bind fun f=>(z8 N y45.2 c (1+(aM .i64 d 3)) a8 i f.K).bind fun e=>bif !e then (some false) else (ae (in64 (a8+1)) ((xX N a6 d c a a1 y42 y45 j) (a8+1)))) else (xY N a6 d c a a1 y42.1 y45.2)
def pm (N:Nat)(d a8:Int)(a1:List Vx):Nat->(List VB)->Int->VK->Option Bool
 |0,_,_,_=>none
 |i+1,f,a6,a=>bif decide (a6<(a1.length:Int)) then ((ak a1 a6).bind fun e=>(oA N f e).bind fun y42=>(ak a1 a6).bind fun c=>(lR N a a8 c).bind fun y45=>bif !(y45.1==y42.2) then (some false) else (xX N (pm N d a8 a1 i) d a8 a6 a1 y42 y45 N 0)) else (xZ N a)
def DP (d a6:Int)(a1:List Vx)(a:List VB)(a8:VK):Option Bool:=
 pm N d a6 a1 N a 0 a8
def yf (N:Nat)(d a8:Int)(a1:List Vx):Nat->(List VB)->Int->VK->Option Bool
 |0,_,_,_=>none
 |i+1,c,a6,f=>bif decide (a6<1+(aM .i64 d 3)) then ((pI N f (⟨1,0,⟨#[]⟩⟩:VH) 1).bind fun a=>bif !a.2.1 then (some false) else ((uo N a.2.2 a.1).bind fun e=>ae (in64 (a8+a6)) (bif !decide (e.1=a8+a6) then (some false) else (ae (bC (c.length+([(⟨(-1),true,[]⟩:VB)]:List VB).length)) (ae (in64 (a6+1)) ((yf N d a8 a1 i) (c++([(⟨(-1),true,[]⟩:VB)]:List VB)) (a6+1) e.2)))))) else (DP N d a8 a1 c f)
def yw (d:Int)(a1:List Vx):Option Bool:=
 ae (in64 (1+(aM .i64 d 3))) ((rN N).bind fun a=>(vI N a1 (1+(aM .i64 d 3))).bind fun c=>(bif decide (c=0) then (some true) else (some false)).bind fun b8=>bif b8 then ((vh N).bind fun a6=>some a6) else ((mE N a).bind fun a8=>yf N d a8 a1 N [] 0 a))
theorem P7 {N:Nat}{d:Int}{a1:List Vx}{r:Bool}(h:yw N d a1=some r):Okc V5 5 [iV d,Y A1 e c1] ([aL lq (Y A1 e c1) a1]) (fun u p=>u=.bool r/\p=[]):=by
 refine gQ Tryz.func5 J J ?_;simp only [fe];refine G ?_;refine gE (fL J J) ?_;obtain ⟨q2,h⟩:=ai h;refine gE (cY J J q2.1 q2.2) ?_;refine G ?_;obtain ⟨y3,k,h⟩:=ad h;refine gD (kR (IH k) J (f0 [] [] [0] 1 J)) ?_;rintro _ _ ⟨_,⟨a,l,B6,rfl,rfl⟩,rfl⟩;refine G ?_;refine aH ?_;refine G ?_;obtain ⟨y7,k,h⟩:=ad h;refine gV (co (Sf k) J (t9 (bK (i:=1) J J) aW) Rf) ?_;refine G ?_;obtain ⟨b8,h8,h⟩:=ad h;refine eD 3 26 b8 ?_ ?_
 ·clear h;refine eE 23 J (fun o=> ?_) (fun o=> ?_)
  ·have h:=du o h8;refine G ?_;obtain rfl:=bn h;exact fN sA (cS [0,1] 2)
  have h:=dt o h8;refine G ?_;refine bR (gC J Vj) J (bY o J) J ?_;refine G ?_;obtain rfl:=bn h;exact fN sA (cS [0,1] 2)
 refine G ?_;refine gH J h ?_ ?_<;>intro h
 ·refine G ?_;obtain ⟨j7,k,h⟩:=ad h;refine gV (co (Jg k) J (aW) IK) ?_;refine G ?_;obtain rfl:=bn h;exact dV J J (cS [] 2) ⟨J,J⟩
 refine G ?_;obtain ⟨a6,k,h⟩:=ad h;refine gV (co (Pd k) J (t9 (qk (i:=0) J) aW) O1) ?_;refine G ?_;refine aF (fun s L=> ∃c T S Q P,DP N d a6 a1 c T=some r/\s=[(0,iV (1+(aM .i64 d 3))),(1,Y A1 e c1),(4,.bool false),(5,pV a 0),(6,iV a6),(7,Y S Q P)]/\L=[aL lq (Y A1 e c1) a1,aK fQ 55 (Y S Q P) c,oDWorld a l B6 T]) ?_ ?_
 ·refine G ?_;refine dU (fun m s L=> ∃n O M K H F,yf N d a6 a1 m n O M=some r/\s=[(0,iV (1+(aM .i64 d 3))),(1,Y A1 e c1),(4,.bool false),(5,pV a 0),(6,iV a6),(7,Y K H F),(8,iV O)]/\L=[aL lq (Y A1 e c1) a1,aK fQ 55 (Y K H F) n,oDWorld a l B6 M]) N _ _ ⟨[],0,y3,none,0,0,h,J,J⟩ sA ((ck fQ 55 _).trans (cS [2,0,1] 3)) ?_;rintro (_|i3) _ _ ⟨n,O,M,K,H,F,h,rfl,rfl⟩
  ·exact bO h
  rw [yf.eq_2] at h;refine aH ?_;refine G ?_;refine gH J h ?_ ?_<;>intro h
  ·refine G ?_;refine aH ?_;refine G ?_;refine gE (iW J (bld_29_0 _).out) ?_;obtain ⟨a8,k,h⟩:=ad h;refine gV (kR (I2 k) J (f0 [] [2] [0,1] 3 J)) ?_;refine G ?_;refine gB (iq zero29.out J) fun j8=> ?_
   refine gW (bL (us:=[iV a8.1.no,iV a8.1.N,.string a8.1.S]) (cs':=[iV a8.1.no,iV a8.1.N,.string a8.1.S]) 0 J J J J size29.out J J J) ?_;refine ld ?_;refine G ?_;refine aH ?_;refine G ?_;refine eE 43 J (fun j=> ?_) (fun j=> ?_)
   ·replace h:=du j h;refine G ?_;refine d9 J ?_;refine G ?_;obtain rfl:=bn h;exact dV J J (cS [] 4) ⟨J,J⟩
   replace h:=dt j h;refine G ?_;refine dF (db (us:=[iV a8.1.no,iV a8.1.N,.string a8.1.S]) 0 J J agg29.out J) J (bY j J) J ?_;obtain ⟨i4,k,h⟩:=ad h;refine gU (kR (Pq k) J (f0 [] [1] [0,2,3] 4 J)) (bY j J) ?_;refine G ?_;obtain ⟨h9,h⟩:=ai h;refine bR (cY J J h9.1 h9.2) J (bY j J) J ?_;refine G ?_;refine gH J h ?_ ?_<;>intro h
   ·refine G ?_;obtain rfl:=bn h;exact dV J J (cS [] 4) ⟨J,J⟩
   refine G ?_;refine gE (iW J (bld_55_0_1 _ _).out) ?_;refine gD (cB (R:=fQ) (vss:=[[iV (-1),.bool true,Y none 0 0]]) (xs:=[(⟨(-1),true,[]⟩:VB)]) J (aad _ _ _ _ _) J J (fun _ _ hr=> .cons (⟨_,_,_,J,BL _ _ _⟩) All2.nil)) ?_;rintro _ _ ⟨j9,k0,k2,rfl,rfl⟩;obtain ⟨i5,h⟩:=ai h;refine gD (cG 4 0 J J aw J J Vb Ol J J i5) ?_;rintro _ _ ⟨i6,i7,i8,rfl,rfl⟩;refine G ?_;obtain ⟨i0,h⟩:=ai h;refine gE (cY J J i0.1 i0.2) ?_;refine G ?_;exact ⟨i3,_,_,VS _,⟨n++([(⟨(-1),true,[]⟩:VB)]:List VB),O+1,i4.2,i6,i7,i8,h,J,J⟩,sA,cS [3,4,1] 5⟩
  refine G ?_;exact ⟨_,_,⟨n,M,K,H,F,h,J,J⟩,sA,cS [0,1,2] 3⟩
 rintro _ _ ⟨c,T,S,Q,P,h,rfl,rfl⟩;refine aF (fun s L=> ∃g1,xZ N g1=some r/\s=[(4,.bool false),(5,pV a 0)]/\L=[oDWorld a l B6 g1]) ?_ ?_
 ·refine G ?_;refine dU (fun m s L=> ∃g2 f E g3 g4 g5,pm N d a6 a1 m g2 f E=some r/\s=[(0,iV (1+(aM .i64 d 3))),(1,Y A1 e c1),(4,.bool false),(5,pV a 0),(6,iV a6),(7,Y g3 g4 g5),(11,iV f)]/\L=[aL lq (Y A1 e c1) a1,aL fQ (Y g3 g4 g5) g2,oDWorld a l B6 E]) N _ _ ⟨c,0,T,S,Q,P,h,J,J⟩ sA ((cu 1 J).trans (cS [0,1,2] 3)) ?_;rintro (_|g6) _ _ ⟨g2,f,E,g3,g4,g5,h,rfl,rfl⟩
  ·exact bO h
  rw [pm.eq_2] at h;refine aH ?_;refine G ?_;refine gR (ie 0 J bA J EM) ?_;refine G ?_;refine gH J h ?_ ?_<;>intro h
  ·refine G ?_;refine aF (fun s L=> ∃D C B A z,xY N (pm N d a6 a1 g6) d a6 f a1 D C=some r/\s=[(0,iV (1+(aM .i64 d 3))),(1,Y A1 e c1),(4,.bool false),(5,pV a 0),(6,iV a6),(7,Y B A z),(11,iV f)]/\L=[aL lq (Y A1 e c1) a1,aL fQ (Y B A z) D,oDWorld a l B6 C]) ?_ ?_
   ·refine G ?_;obtain ⟨i9,b5,h⟩:=ad h;obtain ⟨g7,g9,b5⟩:=jz b5;refine gR (cH 0 J bA J J EM size38.out g7 g9) ?_;refine gR (fX (us:=oW i9) 0 J bA J b5 agg38.out (fun _ _ _ h=>by rw [show _=_ from h];rfl)) ?_;obtain ⟨y42,k,h⟩:=ad h;refine gD (kR (TK k) J (f0 [1] [] [0,1,2] 3 J)) ?_;rintro _ _ ⟨_,⟨Z,X,V,rfl,rfl⟩,rfl⟩;refine ld ?_;refine G ?_;refine aH ?_;refine G ?_;obtain ⟨j0,b6,h⟩:=ad h;obtain ⟨h3,h4,b6⟩:=jz b6;refine gR (cH 1 J bA J J EM size38.out h3 h4) ?_;refine gR (fX (us:=oW j0) 1 J bA J b6 agg38.out (fun _ _ _ h=>by rw [show _=_ from h];rfl)) ?_;obtain ⟨y45,k,h⟩:=ad h;refine gV (kR (Ud k) J (f0 [] [3] [0,1,2] 4 J)) ?_;refine G ?_;refine gE (GL J J Vk) ?_;refine G ?_;refine gH J h ?_ ?_<;>intro h
    ·refine G ?_;obtain rfl:=bn h;exact dV J J (cS [] 4) ⟨J,J⟩
    refine G ?_;refine dU (fun m s L=> ∃t,xX N (pm N d a6 a1 g6) d a6 f a1 y42 y45 m t=some r/\s=[(0,iV (1+(aM .i64 d 3))),(1,Y A1 e c1),(4,.bool false),(5,pV a 0),(6,iV a6),(7,Y Z X V),(11,iV f),(14,iV t)]/\L=[aL lq (Y A1 e c1) a1,aL fQ (Y Z X V) y42.1,oDWorld a l B6 y45.2]) N _ _ ⟨0,h,J,J⟩ sA (cS [2,1,0] 4) ?_;rintro (_|j1) _ _ ⟨t,h,rfl,rfl⟩
    ·exact bO h
    rw [xX.eq_2] at h;refine aH ?_;refine G ?_;refine gH J h ?_ ?_<;>intro h
    ·refine G ?_;refine aH ?_;refine qi ?_;refine aH ?_;refine cy I _ (ah _) ?_;refine zE 0 J (ay J) ?_;refine zE 1 J (ay J) ?_;refine zE 2 J (ay J) ?_;refine zE 3 J (ay J) ?_;refine zE 4 J (ay J) ?_;refine zE 5 J (ay J) ?_;obtain ⟨U,b7,h⟩:=ad h;obtain ⟨h6,h7,b7⟩:=jz b7;refine zR 6 J (cH 1 J bA J J Vb size55.out h6 h7) ?_;refine acm 1 J b7 (TD U) ?_;rintro _ _ ⟨j2,j3,j4,rfl,rfl⟩;refine zR 7 J (kl (us:=[iV U.Yt,.bool U.Ext,Y j2 j3 j4]) 0 J J agg55.out J) ?_;refine zE 8 J (ay J) ?_;refine zE 9 J (ay J) ?_;obtain ⟨j5,b9,h⟩:=ad h;obtain ⟨d0,d1,b9⟩:=jz b9;refine zR 10 J (cH 2 J bA J J EM size38.out d0 d1) ?_;refine zR 11 J (dc 2 J bA J (toNat_lt d0 d1) wl) ?_;refine zR 12 J (fX (us:=ij j5.K) 2 J bA J b9 agg34.out (fun _ _ _ h=>by rw [show _=_ from h];rfl)) ?_;obtain ⟨k3,k,h⟩:=ad h;refine zD 13 J (co (RD k) J (t9 (qk (i:=4) J) (t9 (bK (i:=1) J J) aW)) QU) ?_;rintro _ _ ⟨_,⟨rfl,rfl⟩,rfl⟩;refine ⟨_,ah _,ah _,?_⟩;refine zE 14 J (ww J) ?_;refine cJ I ?_;refine d5 ?_;refine gH J h ?_ ?_<;>intro h
     ·refine G ?_;obtain rfl:=bn h;exact dV J J (cS [] 5) ⟨J,J⟩
     refine G ?_;obtain ⟨i1,h⟩:=ai h;refine gE (cY J J i1.1 i1.2) ?_;refine G ?_;exact ⟨j1,_,_,VS _,⟨t+1,h,J,J⟩,sA,cS [2,3,4] 5⟩
    refine G ?_;exact ⟨_,_,⟨y42.1,y45.2,Z,X,V,h,J,J⟩,sA,cS [0,1,2] 3⟩
   rintro _ _ ⟨D,C,B,A,z,h,rfl,rfl⟩;refine G ?_;obtain ⟨i2,h⟩:=ai h;refine gE (cY J J i2.1 i2.2) ?_;refine G ?_;exact ⟨g6,_,_,VS _,⟨D,f+1,C,B,A,z,h,J,J⟩,sA,cS [0,1,2] 3⟩
  refine G ?_;exact ⟨_,_,⟨E,h,J,J⟩,sA,cS [2] 3⟩
 rintro _ _ ⟨g1,h,rfl,rfl⟩;refine G ?_;obtain ⟨k4,k,h⟩:=ad h;refine gV (co (Pg k) J (t9 (qk (i:=0) J) aW) O3) ?_;obtain ⟨k5,k,h⟩:=ad h;refine gV (co (Pu k) J (t9 (qj (i:=0) J) aW) Pb) ?_;refine G ?_;obtain ⟨j6,d2,h⟩:=ad h;refine eD 2 107 j6 ?_ ?_
 ·clear h;refine eE 105 J (fun q=> ?_) (fun q=> ?_)
  ·have h:=du q d2;obtain ⟨k6,k,h⟩:=ad h;refine gU (co (Jg k) J (aW) IK) (be q J) ?_;refine G ?_;obtain rfl:=bn h;exact fN sA (cS [0] 1)
  have h:=dt q d2;refine G ?_;obtain rfl:=bn h;exact fN sA (cS [0] 1)
 refine G ?_;obtain rfl:=bn h;exact dV J J (cS [] 1) ⟨J,J⟩
end
section
open Go.RowKit
set_option maxRecDepth 20000
def iG (N:Nat)(d:VH):Option Bool:=
 (bif decide (d.no<0) then (some true) else (some (decide (9<d.no)))).bind fun b2=>bif b2 then (some false) else (bif decide (d.no=5) then ((bif decide (d.N=0) then (some (decide ((d.S.size:Int)<=65536))) else (some false)).bind fun a=>some a) else (bif !(d.S.toList==(⟨#[]⟩:ByteArray).toList) then (some false) else (bif decide (d.no=2) then ((bif decide (d.N=0) then (some true) else (some (decide (d.N=1)))).bind fun b8=>some b8) else (bif decide (d.no=3) then ((bif decide ((-9007199254740992)<=d.N) then (some (decide (d.N<=9007199254740992))) else (some false)).bind fun a6=>some a6) else ((bif decide (d.no=6) then (some true) else (some (decide (d.no=7)))).bind fun a8=>(bif a8 then (some true) else (some (decide (d.no=9)))).bind fun b12=>bif b12 then (some (decide (1<=d.N))) else (some (decide (d.N=0))))))))
def pQ (N:Nat)(d:Int):Option Bool:=
 (bif decide (d=1) then (some true) else (some (decide (d=2)))).bind fun b1=>(bif b1 then (some true) else (some (decide (d=3)))).bind fun b2=>(bif b2 then (some true) else (some (decide (d=6)))).bind fun b3=>(bif b3 then (some true) else (some (decide (d=8)))).bind fun b4=>(bif b4 then (some true) else (some (decide (d=9)))).bind fun c=>(bif c then (some true) else (some (decide (d=10)))).bind fun a=>some a
def io (N:Nat)(d:VH)(a1:Int):Option Bool:=
 (bif decide (d.no=0) then (some true) else (some (decide (d.no=a1)))).bind fun b2=>some b2
def pM (d:VL):Option Bool:=
 (pQ N d.no).bind fun a=>(bif a then (some true) else ((bif decide (d.no=7) then (some (decide (0<(d.XQ.length:Int)))) else (some false)).bind fun o=>some o)).bind fun p=>bif p then ((bif decide (1<=(d.XQ.length:Int)) then (some (decide ((d.XQ.length:Int)<=1025))) else (some false)).bind fun b8=>(bif b8 then ((ak d.XQ 0).bind fun a6=>(bif decide (a6.no=1) then (some true) else ((ak d.XQ 0).bind fun a8=>some (decide (a8.no=7)))).bind fun q=>some q) else (some false)).bind fun m=>some m) else (bif decide (d.no=7) then (some (decide (d.XV=0))) else ((bif !decide (d.XV=0) then (some true) else (some (!decide (d.XU=0)))).bind fun n=>bif n then (some false) else (bif decide (d.no=5) then ((bif decide ((d.XQ.length:Int)=2) then ((ak d.XQ 0).bind fun l=>(io N l 7).bind fun j=>some j) else (some false)).bind fun i=>(bif i then ((ak d.XQ 1).bind fun f=>(io N f 7).bind fun e=>some e) else (some false)).bind fun c=>some c) else (some (decide ((d.XQ.length:Int)=0))))))
def iQ (N:Nat)(d:VH)(a1 a2:Int):Option Bool:=
 (bif decide (d.no=3) then (some (decide (a1<=d.N))) else (some false)).bind fun b2=>(bif b2 then (some (decide (d.N<=a2))) else (some false)).bind fun b3=>some b3
def QJ (N:Nat):Option Bool:=
 some true
def nN (N:Nat)(a1:Int)(d:VO):Nat->Int->Option Bool
 |0,_=>none
 |c+1,a=>bif decide (a<(d.length:Int)) then ((ak d a).bind fun x8=>(bif !decide (x8.no=7) then (some true) else (ae (in64 (a+1)) ((ak d (a+1)).bind fun a6=>some (decide (a6.no=8))))).bind fun f=>bif f then (some false) else ((bif decide (a1=4) then (ae (in64 (a+2)) ((ak d (a+2)).bind fun a8=>(io N a8 7).bind fun m=>(bif !m then (some true) else (ae (in64 (a+3)) ((ak d (a+3)).bind fun l=>(iQ N l 0 9007199254740992).bind fun j=>some (!j)))).bind fun i=>some i)) else (some false)).bind fun e=>bif e then (some false) else (ae (in64 (a+a1)) ((nN N a1 d c) (a+a1))))) else (QJ N)
def jX (d:VO)(a1:Int):Option Bool:=
 ae (a1≠0) (bif !decide ((d.length:Int).tmod a1=0) then (some false) else (nN N a1 d N 0))
def pL (d:VL)(a:Bool):Option Bool:=
 bif a then (some (decide ((d.XP.length:Int)=0))) else (bif decide (d.no=3) then ((bif decide ((d.XP.length:Int)=3) then ((ak d.XP 0).bind fun a6=>(iQ N a6 0 9007199254740992).bind fun a8=>some a8) else (some false)).bind fun R=>(bif R then ((ak d.XP 1).bind fun Q=>(io N Q 9).bind fun P=>some P) else (some false)).bind fun O=>some O) else (bif decide (d.no=4) then ((bif decide (1<=(d.XP.length:Int)) then (some (decide ((d.XP.length:Int)<=4097))) else (some false)).bind fun M=>(bif M then ((ak d.XP 0).bind fun L=>(io N L 9).bind fun K=>some K) else (some false)).bind fun H=>some H) else (bif decide (d.no=6) then ((bif decide ((d.XP.length:Int)=2) then ((ak d.XP 0).bind fun F=>(iQ N F 0 3).bind fun E=>some E) else (some false)).bind fun D=>(bif D then ((ak d.XP 1).bind fun C=>(io N C 9).bind fun B=>some B) else (some false)).bind fun A=>some A) else (bif decide (d.no=7) then ((bif decide (4<=(d.XP.length:Int)) then ((ak d.XP 2).bind fun z=>(iQ N z 0 1).bind fun u=>some u) else (some false)).bind fun t=>(bif t then ((ak d.XP 3).bind fun q=>(iQ N q 0 9007199254740992).bind fun p=>some p) else (some false)).bind fun o=>some o) else (bif decide (d.no=8) then ((jX N d.XP 2).bind fun n=>some n) else (bif decide (d.no=10) then ((bif decide (1<=(d.XP.length:Int)) then ((ak d.XP 0).bind fun m=>some (decide (m.no=7))) else (some false)).bind fun l=>(bif l then (ae ((0:Int)<=1/\(1:Int).toNat<=d.XP.length/\d.XP.length<=d.XP.length) ((jX N ((d.XP.drop ((1:Int).toNat)).take (d.XP.length - (1:Int).toNat)) 4).bind fun j=>some j)) else (some false)).bind fun i=>some i) else (bif decide (d.no=9) then ((bif decide (2<=(d.XP.length:Int)) then ((ak d.XP 0).bind fun f=>(iQ N f 0 2).bind fun e=>some e) else (some false)).bind fun c=>some c) else (some true))))))))
def pW (d:VL):Option Bool:=
 bif decide (1048576<(d.XP.length:Int)) then (some false) else (bif decide (d.no=2) then (some (decide ((d.XP.length:Int)<=4096))) else (bif decide (d.no=1) then (pL N d (decide (d.no=1))) else (pL N d (decide (d.no=5)))))
def lH (d:VL):Option Bool:=
 (pM N d).bind fun a6=>(bif a6 then ((pW N d).bind fun a8=>some a8) else (some false)).bind fun a=>some a
def uZ (N:Nat)(d:VL):Nat->Int->Option Bool
 |0,_=>none
 |a6+1,a=>bif decide (a<(d.XP.length:Int)) then ((ak d.XP a).bind fun a8=>(iG N a8).bind fun c=>bif !c then (some false) else (ae (in64 (a+1)) ((uZ N d a6) (a+1)))) else (lH N d)
def Jc (d:VL):Option Bool:=
 uZ N d N 0
def pF (N:Nat)(d:VL):Nat->Int->Option Bool
 |0,_=>none
 |a6+1,a=>bif decide (a<(d.XQ.length:Int)) then ((ak d.XQ a).bind fun a8=>(iG N a8).bind fun c=>bif !c then (some false) else (ae (in64 (a+1)) ((pF N d a6) (a+1)))) else (Jc N d)
def mP (d:VL):Option Bool:=
 (bif decide (d.no<1) then (some true) else (some (decide (11<d.no)))).bind fun b4=>(bif b4 then (some true) else (some (decide (d.XV<0)))).bind fun f=>(bif f then (some true) else (some (decide (d.XU<0)))).bind fun e=>(bif e then (some true) else (some (decide (63<d.XU)))).bind fun c=>(bif c then (some true) else (some (decide (d.XW<0)))).bind fun b8=>(bif b8 then (some true) else (some (decide (1<d.XW)))).bind fun a=>bif a then (some false) else (pF N d N 0)
end
section
variable {c1 c2 c3 c4 c5 c6 e j:Nat}
open Go.RowKit Go.ChangeShapes Go.WideShapes Go.Deep
def Nt (x:Vy):Prop:=(in64 x.no)/\(in64 x.N)/\(x.S.size<=reachBytes)
set_option maxRecDepth 100000 in
theorem SP:oU V5 34 fO Nt:=fun {_ enc w base spare held _ cs y} h hw=>by
 obtain ⟨xs,m, -,c,o,e,a⟩:=DataW.trod_struct Vq h
 have D:Tryz.prog.cellsOf 34=3:=by kernel_rfl
 rw [D] at o
 match cs,o,a with
 | [c0,c1,c2],_,a=>
  have n:DataW.trod enc V5 w base spare held m 3 (List.take (Tryz.prog.cellsOf 3) (List.drop 0 [c0,c1,c2]))=xs[0]? :=a 0 _ rfl
  have t:Tryz.prog.cellsOf 3=1:=by kernel_rfl
  simp only [t,Wp,Ws,Xg,Xh] at n
  have l:0<xs.length:=by rw [e];decide
  obtain ⟨d,C,A⟩:=(Rdr.w (lW Ex)) (n.trans (WF l)) (gF Vq c hw (i:=0) rfl (WF l));have k1:DataW.trod enc V5 w base spare held m 3 (List.take (Tryz.prog.cellsOf 3) (List.drop 1 [c0,c1,c2]))=xs[1]? :=a 1 _ rfl
  have q:Tryz.prog.cellsOf 3=1:=by kernel_rfl
  simp only [q,Wp,Ws,Xg,Xh] at k1
  have j:1<xs.length:=by rw [e];decide
  obtain ⟨a1,r1,z⟩:=(Rdr.w (lW Ex)) (k1.trans (WF j)) (gF Vq c hw (i:=1) rfl (WF j));have k2:DataW.trod enc V5 w base spare held m 9 (List.take (Tryz.prog.cellsOf 9) (List.drop 2 [c0,c1,c2]))=xs[2]? :=a 2 _ rfl
  have p:Tryz.prog.cellsOf 9=1:=by kernel_rfl
  simp only [p,Wp,Ws,Xg,Xh] at k2
  have f:2<xs.length:=by rw [e];decide
  obtain ⟨a2,B,u⟩:=(Lx Vi) (k2.trans (WF f)) (gF Vq c hw (i:=2) rfl (WF f));obtain ⟨rfl, -⟩:=Wk (show [c0]=[_] from C);obtain ⟨rfl, -⟩:=Wk (show [c1]=[_] from r1);obtain ⟨rfl, -⟩:=Wk (show [c2]=[_] from B);exact ⟨⟨d,a1,a2⟩,J,⟨A,z,u⟩⟩
def vF (x:VH):Prop:=(in64 x.no)/\(in64 x.N)/\(x.S.size<=reachBytes)
set_option maxRecDepth 100000 in
theorem zV:oU V5 29 ca vF:=fun {_ enc w base spare held _ cs y} h hw=>by
 obtain ⟨xs,m, -,c,o,e,a⟩:=DataW.trod_struct Vr h
 have D:Tryz.prog.cellsOf 29=3:=by kernel_rfl
 rw [D] at o
 match cs,o,a with
 | [c0,c1,c2],_,a=>
  have n:DataW.trod enc V5 w base spare held m 3 (List.take (Tryz.prog.cellsOf 3) (List.drop 0 [c0,c1,c2]))=xs[0]? :=a 0 _ rfl
  have t:Tryz.prog.cellsOf 3=1:=by kernel_rfl
  simp only [t,Wp,Ws,Xg,Xh] at n
  have l:0<xs.length:=by rw [e];decide
  obtain ⟨d,C,A⟩:=(Rdr.w (lW Ex)) (n.trans (WF l)) (gF Vr c hw (i:=0) rfl (WF l));have k1:DataW.trod enc V5 w base spare held m 3 (List.take (Tryz.prog.cellsOf 3) (List.drop 1 [c0,c1,c2]))=xs[1]? :=a 1 _ rfl
  have q:Tryz.prog.cellsOf 3=1:=by kernel_rfl
  simp only [q,Wp,Ws,Xg,Xh] at k1
  have j:1<xs.length:=by rw [e];decide
  obtain ⟨a1,r1,z⟩:=(Rdr.w (lW Ex)) (k1.trans (WF j)) (gF Vr c hw (i:=1) rfl (WF j));have k2:DataW.trod enc V5 w base spare held m 9 (List.take (Tryz.prog.cellsOf 9) (List.drop 2 [c0,c1,c2]))=xs[2]? :=a 2 _ rfl
  have p:Tryz.prog.cellsOf 9=1:=by kernel_rfl
  simp only [p,Wp,Ws,Xg,Xh] at k2
  have f:2<xs.length:=by rw [e];decide
  obtain ⟨a2,B,u⟩:=(Lx Vi) (k2.trans (WF f)) (gF Vr c hw (i:=2) rfl (WF f));obtain ⟨rfl, -⟩:=Wk (show [c0]=[_] from C);obtain ⟨rfl, -⟩:=Wk (show [c1]=[_] from r1);obtain ⟨rfl, -⟩:=Wk (show [c2]=[_] from B);exact ⟨⟨d,a1,a2⟩,J,⟨A,z,u⟩⟩
def Mf (x:VE):Prop:=(in64 x.Has)/\(in64 x.XT)/\(vF x.Value)/\(vF x.Yc)/\(vF x.Yd)
set_option maxRecDepth 100000 in
theorem Sj:oU V5 36 Nv Mf:=fun {_ enc w base spare held _ cs y} h hw=>by
 obtain ⟨xs,m, -,f,C,l,a⟩:=DataW.trod_struct Vs h
 have Z:Tryz.prog.cellsOf 36=11:=by kernel_rfl
 rw [Z] at C
 match cs,C,a with
 | [c0,c1,c2,c3,c4,c5,c6,c,e,j,a6],_,a=>
  have B:DataW.trod enc V5 w base spare held m 3 (List.take (Tryz.prog.cellsOf 3) (List.drop 0 [c0,c1,c2,c3,c4,c5,c6,c,e,j,a6]))=xs[0]? :=a 0 _ rfl
  have N:Tryz.prog.cellsOf 3=1:=by kernel_rfl
  simp only [N,Wp,Ws,Xg,Xh] at B
  have u:0<xs.length:=by rw [l];decide
  obtain ⟨d,X,S⟩:=(Rdr.w (lW Ex)) (B.trans (WF u)) (gF Vs f hw (i:=0) rfl (WF u));have k1:DataW.trod enc V5 w base spare held m 3 (List.take (Tryz.prog.cellsOf 3) (List.drop 1 [c0,c1,c2,c3,c4,c5,c6,c,e,j,a6]))=xs[1]? :=a 1 _ rfl
  have M:Tryz.prog.cellsOf 3=1:=by kernel_rfl
  simp only [M,Wp,Ws,Xg,Xh] at k1
  have t:1<xs.length:=by rw [l];decide
  obtain ⟨a1,r1,R⟩:=(Rdr.w (lW Ex)) (k1.trans (WF t)) (gF Vs f hw (i:=1) rfl (WF t));have k2:DataW.trod enc V5 w base spare held m 29 (List.take (Tryz.prog.cellsOf 29) (List.drop 2 [c0,c1,c2,c3,c4,c5,c6,c,e,j,a6]))=xs[2]? :=a 2 _ rfl
  have L:Tryz.prog.cellsOf 29=3:=by kernel_rfl
  simp only [L,Wp,Ws,Xg,Xh] at k2
  have q:2<xs.length:=by rw [l];decide
  obtain ⟨a2,V,Q⟩:=zV (k2.trans (WF q)) (gF Vs f hw (i:=2) rfl (WF q));have A:DataW.trod enc V5 w base spare held m 29 (List.take (Tryz.prog.cellsOf 29) (List.drop 5 [c0,c1,c2,c3,c4,c5,c6,c,e,j,a6]))=xs[3]? :=a 3 _ rfl
  have K:Tryz.prog.cellsOf 29=3:=by kernel_rfl
  simp only [K,Wp,Ws,Xg,Xh] at A
  have p:3<xs.length:=by rw [l];decide
  obtain ⟨n,U,P⟩:=zV (A.trans (WF p)) (gF Vs f hw (i:=3) rfl (WF p));have z:DataW.trod enc V5 w base spare held m 29 (List.take (Tryz.prog.cellsOf 29) (List.drop 8 [c0,c1,c2,c3,c4,c5,c6,c,e,j,a6]))=xs[4]? :=a 4 _ rfl
  have H:Tryz.prog.cellsOf 29=3:=by kernel_rfl
  simp only [H,Wp,Ws,Xg,Xh] at z
  have o:4<xs.length:=by rw [l];decide
  obtain ⟨a4,T,O⟩:=zV (z.trans (WF o)) (gF Vs f hw (i:=4) rfl (WF o));obtain ⟨rfl, -⟩:=Wk (show [c0]=[_] from X);obtain ⟨rfl, -⟩:=Wk (show [c1]=[_] from r1);have F:[c2,c3,c4]=[.int .i64 a2.no,.int .i64 a2.N,.string a2.S]:=V;simp only [Wl,and_true] at F;obtain ⟨rfl,rfl,rfl⟩:=F;have E:[c5,c6,c]=[.int .i64 n.no,.int .i64 n.N,.string n.S]:=U;simp only [Wl,and_true] at E;obtain ⟨rfl,rfl,rfl⟩:=E;have D:[e,j,a6]=[.int .i64 a4.no,.int .i64 a4.N,.string a4.S]:=T;simp only [Wl,and_true] at D;obtain ⟨rfl,rfl,rfl⟩:=D;exact ⟨⟨d,a1,a2,n,a4⟩,J,⟨S,R,Q,P,O⟩⟩
def BX (x:Vx):Prop:=(in64 x.no)/\(in64 x.O)/\(in64 x.P)/\(Nt x.K)/\(Mf x.D)/\(vF x.V)/\(in64 x.XT)
set_option maxRecDepth 100000 in
theorem UQ:oU V5 38 lq BX:=fun {_ enc w base spare held _ cs y} h hw=>by
 obtain ⟨xs,m, -,B,U,C,a⟩:=DataW.trod_struct Vt h
 have hc:Tryz.prog.cellsOf 38=21:=by kernel_rfl
 rw [hc] at U
 match cs,U,a with
 | [c0,c1,c2,c3,c4,c5,c6,p,e,j,a8,A,z,u,t,q,o,n,l,f,c],_,a=>
  have T:DataW.trod enc V5 w base spare held m 3 (List.take (Tryz.prog.cellsOf 3) (List.drop 0 [c0,c1,c2,c3,c4,c5,c6,p,e,j,a8,A,z,u,t,q,o,n,l,f,c]))=xs[0]? :=a 0 _ rfl
  have z0:Tryz.prog.cellsOf 3=1:=by kernel_rfl
  simp only [z0,Wp,Ws,Xg,Xh] at T
  have O:0<xs.length:=by rw [C];decide
  obtain ⟨d,r0,w0⟩:=(Rdr.w (lW Ex)) (T.trans (WF O)) (gF Vt B hw (i:=0) rfl (WF O));have k1:DataW.trod enc V5 w base spare held m 3 (List.take (Tryz.prog.cellsOf 3) (List.drop 1 [c0,c1,c2,c3,c4,c5,c6,p,e,j,a8,A,z,u,t,q,o,n,l,f,c]))=xs[1]? :=a 1 _ rfl
  have z1:Tryz.prog.cellsOf 3=1:=by kernel_rfl
  simp only [z1,Wp,Ws,Xg,Xh] at k1
  have N:1<xs.length:=by rw [C];decide
  obtain ⟨a1,r1,w1⟩:=(Rdr.w (lW Ex)) (k1.trans (WF N)) (gF Vt B hw (i:=1) rfl (WF N));have k2:DataW.trod enc V5 w base spare held m 3 (List.take (Tryz.prog.cellsOf 3) (List.drop 2 [c0,c1,c2,c3,c4,c5,c6,p,e,j,a8,A,z,u,t,q,o,n,l,f,c]))=xs[2]? :=a 2 _ rfl
  have z2:Tryz.prog.cellsOf 3=1:=by kernel_rfl
  simp only [z2,Wp,Ws,Xg,Xh] at k2
  have M:2<xs.length:=by rw [C];decide
  obtain ⟨a2,r2,w2⟩:=(Rdr.w (lW Ex)) (k2.trans (WF M)) (gF Vt B hw (i:=2) rfl (WF M));have S:DataW.trod enc V5 w base spare held m 34 (List.take (Tryz.prog.cellsOf 34) (List.drop 3 [c0,c1,c2,c3,c4,c5,c6,p,e,j,a8,A,z,u,t,q,o,n,l,f,c]))=xs[3]? :=a 3 _ rfl
  have z3:Tryz.prog.cellsOf 34=3:=by kernel_rfl
  simp only [z3,Wp,Ws,Xg,Xh] at S
  have L:3<xs.length:=by rw [C];decide
  obtain ⟨E,r3,w3⟩:=SP (S.trans (WF L)) (gF Vt B hw (i:=3) rfl (WF L));have R:DataW.trod enc V5 w base spare held m 36 (List.take (Tryz.prog.cellsOf 36) (List.drop 6 [c0,c1,c2,c3,c4,c5,c6,p,e,j,a8,A,z,u,t,q,o,n,l,f,c]))=xs[4]? :=a 4 _ rfl
  have z4:Tryz.prog.cellsOf 36=11:=by kernel_rfl
  simp only [z4,Wp,Ws,Xg,Xh] at R
  have K:4<xs.length:=by rw [C];decide
  obtain ⟨a4,r4,w4⟩:=Sj (R.trans (WF K)) (gF Vt B hw (i:=4) rfl (WF K));have Q:DataW.trod enc V5 w base spare held m 29 (List.take (Tryz.prog.cellsOf 29) (List.drop 17 [c0,c1,c2,c3,c4,c5,c6,p,e,j,a8,A,z,u,t,q,o,n,l,f,c]))=xs[5]? :=a 5 _ rfl
  have z5:Tryz.prog.cellsOf 29=3:=by kernel_rfl
  simp only [z5,Wp,Ws,Xg,Xh] at Q
  have H:5<xs.length:=by rw [C];decide
  obtain ⟨D,r5,w5⟩:=zV (Q.trans (WF H)) (gF Vt B hw (i:=5) rfl (WF H));have P:DataW.trod enc V5 w base spare held m 3 (List.take (Tryz.prog.cellsOf 3) (List.drop 20 [c0,c1,c2,c3,c4,c5,c6,p,e,j,a8,A,z,u,t,q,o,n,l,f,c]))=xs[6]? :=a 6 _ rfl
  have z6:Tryz.prog.cellsOf 3=1:=by kernel_rfl
  simp only [z6,Wp,Ws,Xg,Xh] at P
  have F:6<xs.length:=by rw [C];decide
  obtain ⟨a6,r6,w6⟩:=(Rdr.w (lW Ex)) (P.trans (WF F)) (gF Vt B hw (i:=6) rfl (WF F));obtain ⟨rfl, -⟩:=Wk (show [c0]=[_] from r0);obtain ⟨rfl, -⟩:=Wk (show [c1]=[_] from r1);obtain ⟨rfl, -⟩:=Wk (show [c2]=[_] from r2);have Z:[c3,c4,c5]=[.int .i64 E.no,.int .i64 E.N,.string E.S]:=r3;simp only [Wl,and_true] at Z;obtain ⟨rfl,rfl,rfl⟩:=Z;have X:[c6,p,e,j,a8,A,z,u,t,q,o]=[.int .i64 a4.Has,.int .i64 a4.XT,.int .i64 a4.Value.no,.int .i64 a4.Value.N,.string a4.Value.S,.int .i64 a4.Yc.no,.int .i64 a4.Yc.N,.string a4.Yc.S,.int .i64 a4.Yd.no,.int .i64 a4.Yd.N,.string a4.Yd.S]:=r4;simp only [Wl,and_true] at X;obtain ⟨rfl,rfl,rfl,rfl,rfl,rfl,rfl,rfl,rfl,rfl,rfl⟩:=X;have V:[n,l,f]=[.int .i64 D.no,.int .i64 D.N,.string D.S]:=r5;simp only [Wl,and_true] at V;obtain ⟨rfl,rfl,rfl⟩:=V;obtain ⟨rfl, -⟩:=Wk (show [c]=[_] from r6);exact ⟨⟨d,a1,a2,E,a4,D,a6⟩,J,⟨w0,w1,w2,w3,w4,w5,w6⟩⟩
set_option maxRecDepth 100000 in
theorem acG {H:Type}{enc:TypeId×Value->H}{a:World}{r:Reach}{z base:Nat}{spare:Nat->Bool}{held:Bool}{v:Value}{d:DataW H}{p:List MemPlace}(l:Value.okWide V5 a r z 22 v)(h:DataW.Trod enc V5 a base spare held 22 v d p)(j:Light V5 22 d): ∃(m:List Vx) (Aq_0:Option Addr) (nq_0 cq_0:Nat),v=Y Aq_0 nq_0 cq_0/\(CN (fun f=>BX f) m)/\(aL lq (Y Aq_0 nq_0 cq_0) m).ok (fun _=>False) (fun q=>q<a.heap.size) a:=by
 obtain ⟨A,n,c,rfl⟩:=okWide_slice EM l;obtain ⟨i,o⟩:=h;obtain ⟨m,⟨u,e,t⟩,hw⟩:=(abj EM I (by decide) (XG I) UQ) o j;obtain ⟨rfl, -⟩:=Wk (show [_]=[_] from e);exact ⟨m,A,n,c,J,hw,t⟩
end
section
open Go.RowKit
def Sat (m:Option ρ)(R:ρ->Prop):Prop:= ∃r,m=some r/\R r
theorem ar {x:ρ}{R:ρ->Prop}(h:R x):Sat (some x) R:=⟨x,rfl,h⟩
theorem Sat.eq {m:Option ρ}{x:ρ}(h:Sat m (· =x)):m=some x:=by obtain ⟨r,a,rfl⟩:=h;exact a
theorem Sat.mono {m:Option ρ}{R Q:ρ->Prop}(h:Sat m R)(k:∀x,R x->Q x):Sat m Q:=by obtain ⟨r,c,a⟩:=h;exact ⟨r,c,k _ a⟩
theorem Sat.bind {σ:Type}{m:Option σ}{f:σ->Option ρ}{P:σ->Prop}{R:ρ->Prop}(h:Sat m P)(k:∀x,P x->Sat (f x) R):Sat (m.bind f) R:=by obtain ⟨x,rfl,a⟩:=h;exact k x a
theorem gn {b:Bool}{x y:Option ρ}{R:ρ->Prop}(c:b=true->Sat x R)(a:b=false->Sat y R):Sat (bif b then x else y) R:=by cases b with|true=>exact c rfl|false=>exact a rfl
theorem bq [Decidable p]{x y:Option ρ}{R:ρ->Prop}(c:p->Sat x R)(a:¬p->Sat y R):Sat (bif decide p then x else y) R:=by
 by_cases h:p
 ·rw [VQ h];exact c h
 rw [VR h];exact a h
theorem BD {b:Bool}{x y:Option ρ}{R:ρ->Prop}(c:b=false->Sat x R)(a:b=true->Sat y R):Sat (bif !b then x else y) R:=by cases b with|true=>exact a rfl|false=>exact c rfl
theorem bf {b:Prop}[Decidable b]{m:Option ρ}{R:ρ->Prop}(h:b)(k:Sat m R):Sat (ae b m) R:=by unfold ae;rw [if_pos h];exact k
theorem kP {xs:List α}{i:Int}{f:α->Option ρ}{R:ρ->Prop}(c:0<=i)(a:i<xs.length)(k:∀x,xs[i.toNat]? =some x->Sat (f x) R):Sat ((ak xs i).bind f) R:=by
 unfold ak;rw [if_neg W,WF W];exact k _ (WF W)
theorem bs {σ:Type}{x:σ}{f:σ->Option ρ}:(some x).bind f=f x:=Eq.trans rfl rfl
theorem ct {x y:ρ}:(bif true then x else y)=x:=Eq.trans rfl rfl
theorem cf {x y:ρ}:(bif false then x else y)=y:=Eq.trans rfl rfl
theorem nt:(!true)=false:=Eq.trans rfl rfl
theorem nf:(!false)=true:=Eq.trans rfl rfl
theorem bG {b:Int}(h:a<b):decide (a<b)=true:=VQ h
theorem bI {b:Int}(h:b<=a):decide (a<b)=false:=VR W
theorem G3 {b:Int}(h:a<=b):decide (a<=b)=true:=VQ h
theorem G0 {b:Int}(h:b<a):decide (a<=b)=false:=VR W
theorem fj {b:Int}(h:a=b):decide (a=b)=true:=VQ h
theorem cE {b:Int}(h:a≠b):decide (a=b)=false:=VR h
theorem ce {b:Prop}[Decidable b]{m:Option ρ}(h:b):ae b m=m:=if_pos h
theorem r64 {m:Option ρ}(d:-9000000000000000000<=a)(c:a<=9000000000000000000):ae (in64 a) m=m:=if_pos ⟨by omega,by omega⟩
theorem rF {n:Nat}{m:Option ρ}(h:n<=1000000):ae (bC n) m=m:=if_pos (by unfold bC;omega)
theorem Mu {xs:List α}{i:Int}(c:0<=i)(a:i.toNat<xs.length):ak xs i=some xs[i.toNat]:=by
 unfold ak;rw [if_neg W,WF a]
theorem bz {xs:List α}(a:i<xs.length):ak xs (i:Int)=some xs[i]:=by
 unfold ak;rw [if_neg W,Wg,WF a]
theorem ib {σ:Type}(L:Nat->Nat->σ->Option ρ)(n:Nat)(Inv:Nat->σ->Prop)(R:ρ->Prop)(round:∀m i s,i<n->Inv i s->(∀a,Inv (i+1) a->Sat (L m (i+1) a) R)->Sat (L (m+1) i s) R)(fin:∀m s,Inv n s->Sat (L (m+1) n s) R): ∀m i s,n<m+i->i<=n->Inv i s->Sat (L m i s) R
 |0,i,s,h,c,_=>by omega
 |m+1,i,s,h,c,hi=>by
  by_cases e:i=n
  ·subst e;exact fin m s hi
  exact round m i s W hi fun a d=>ib L n Inv R round fin m (i+1) a W W d
theorem Bl {σ:Type}(L:Nat->σ->Option ρ)(v:σ->Nat)(Inv:σ->Prop)(R:ρ->Prop)(round:∀m s,Inv s->(∀a,v a<v s->Inv a->Sat (L m a) R)->Sat (L (m+1) s) R): ∀m s,v s<m->Inv s->Sat (L m s) R
 |0,_,h,_=>by omega
 |m+1,s,h,hi=>round m s hi fun a d c=>Bl L v Inv R round m a W c
theorem fK {l:List α}(h:i<l.length):l.take (i+1)=l.take i++ [l[i]]:=by
 rw [List.take_add_one,WF h];rfl
theorem Nj: ∀{a b:List Int},a.Pairwise (· < ·)->b.Pairwise (· < ·)->(∀x,x∈a↔x∈b)->a=b
 | [],[],_,_,_=>rfl
 | [],y::b,_,_,h=>by have:=(h y).2 (by simp);cases this
 |x::a,[],_,_,h=>by have:=(h x).1 (by simp);cases this
 | x::a,y::b,j,hb,h=>by
  obtain ⟨d,i⟩:=Xa.1 j;obtain ⟨a6,a8⟩:=Xa.1 hb
  have e:x=y:=by
   rcases WZ.1 ((h x).1 (by simp)) with e|f
   ·exact e
   rcases WZ.1 ((h y).2 (by simp)) with e|l
   ·exact e.symm
   have:=a6 x f;have:=d y l;omega
  subst e;rw [Nj i a8 fun z=> ?_];constructor
  ·intro c;rcases WZ.1 ((h z).1 (by simp [c])) with e|f
   ·subst e;exact absurd (d z c) W
   exact f
  intro c;rcases WZ.1 ((h z).2 (by simp [c])) with e|f
  ·subst e;exact absurd (a6 z c) W
  exact f
theorem GA [DecidableEq α](a:α)(L:List (α×β)):(∃i b,fp a L 0=some (i,b)/\L[i]? =some (a,b))\/(fp a L 0=none/\a∉L.map (·.1)):=by
 cases h:fp a L 0 with
 | none=>exact .inr ⟨rfl,fun e=>by
   obtain ⟨p,d,c⟩:=W3.1 e;exact (abn a L).1 h p d c⟩
 |some q=>obtain ⟨i,b⟩:=q;exact .inl ⟨i,b,J,(Cq a L 0 i b h).2⟩
theorem Bk [DecidableEq α](L:List (α×β))(a:α)(b:β):(dp L a b).map (·.1)=if a∈L.map (·.1) then L.map (·.1) else L.map (·.1)++ [a]:=by
 unfold dp;rcases GA a L with ⟨i,c,l,d⟩|⟨l,d⟩
 ·have hm:a∈L.map (·.1):=W3.2 ⟨_,W4 d,rfl⟩;rw [l,if_pos hm];show (L.set i (a,b)).map (·.1)=_;rw [List.map_set];apply Wu;intro j;by_cases e:i=j
  ·subst e;have f:=(WH.1 d).1;rw [WK (by simpa using f),WI,d];rfl
  rw [WJ e]
 rw [l,if_neg d];show (L++ [(a,b)]).map (·.1)=_;rw [WV];rfl
theorem abw [DecidableEq α](L:List (α×β))(a:α)(b:β)(x:α):x∈(dp L a b).map (·.1)↔x=a\/x∈L.map (·.1):=by
 rw [Bk];split
 ·constructor
  ·exact .inr
  rintro (rfl|h)<;>assumption
 rw [WY,W8];exact Or.comm
theorem Io: ∀{l:List α} {i:Nat} {a:α},l.Nodup->l[i]? =some a-> ∀x,x∈l.eraseIdx i↔x∈l/\x≠a
 | [],_,_,_,h,_=>by simp at h
 |y::l,0,a,f,h,x=>by
  simp only [WD,Xy] at h;subst h;rw [List.eraseIdx_cons_zero];obtain ⟨n, -⟩:=List.nodup_cons.1 f;constructor
  ·intro c;exact ⟨by simp [c],fun e=>n (e▸c)⟩
  rintro ⟨c,d⟩;rcases WZ.1 c with e|c
  ·exact absurd e d
  exact c
 | y::l,i+1,a,f,h,x=>by
  simp only [WC] at h;obtain ⟨n,p⟩:=List.nodup_cons.1 f;rw [List.eraseIdx_cons_succ,WZ,WZ,Io p h x];have o:a∈l:=W4 h;constructor
  ·rintro (rfl|⟨m,j⟩)
   ·exact ⟨.inl J,fun e=>n (e▸o)⟩
   exact ⟨.inr m,j⟩
  rintro ⟨rfl|m,j⟩
  ·exact .inl J
  exact .inr ⟨m,j⟩
theorem K1 [DecidableEq α]{L:List (α×β)}(h:(L.map (·.1)).Nodup)(a:α):(∀x,x∈(jM L a).map (·.1)↔x∈L.map (·.1)/\x≠a)/\((jM L a).map (·.1)).Nodup/\(jM L a).length<=L.length:=by
 unfold jM;rcases GA a L with ⟨i,c,j,f⟩|⟨j,f⟩
 ·rw [j]
  have l:(L.map (·.1))[i]? =some a:=by rw [WI,f];rfl
  show (∀x,x∈(L.eraseIdx i).map (·.1)↔_)/\((L.eraseIdx i).map (·.1)).Nodup/\(L.eraseIdx i).length<=_;rw [<-FC];exact ⟨Io h l,h.sublist (List.eraseIdx_sublist _ _),(List.eraseIdx_sublist _ _).length_le⟩
 rw [j];exact ⟨fun x=>⟨fun d=>⟨d,fun e=>f (e▸d)⟩,fun d=>d.1⟩,h,Xm _⟩
end
section
open Go.RowKit
theorem vW (xs:List α)(i:Nat):ak xs (i:Int)=xs[i]? :=by
 unfold ak;rw [if_neg W];simp
theorem BS {b:Prop}[Decidable b]{m:Option ρ}(h:b):ae b m=m:=if_pos h
def aZ (v:VH):Bool:=decide (v.no=7)||decide (v.no=9)
def iX (k:Int)(i:Nat):Bool:=!decide (k=8)&&(!decide (k=10)||decide ((i:Int).tmod 2=0))
def pick (f:Nat->VH->Bool):Nat->List VH->List Int
 |_,[]=> []
 |i,v::l=>(bif f i v then [v.N] else [])++pick f (i+1) l
theorem sm (f:Nat->VH->Bool)(i:Nat)(v:VH)(l:List VH):pick f i (v::l)=(bif f i v then [v.N] else [])++pick f (i+1) l:=rfl
theorem AS (f:Nat->VH->Bool): ∀(i:Nat) (l:List VH),(pick f i l).length<=l.length
 |_,[]=>Xm _
 |i,v::l=>by
  have:=AS f (i+1) l;unfold pick;cases f i v<;>simp<;>omega
theorem Km: ∀(i:Nat) (l:List VH),pick (fun _ _=>false) i l=[]
 |_,[]=>rfl
 |i,v::l=>by unfold pick;simp [Km (i+1) l]
theorem D8 (N:Nat)(v:VH):rQ N v=some (aZ v):=by
 unfold rQ aZ;cases decide (v.no=7)<;>rfl
theorem K9 (N:Nat)(a b:Bool)(x:VH)(p:List Int)(h:p.length<=5000):dA (fun x st=>po N a x st) (b,x) (none,p)=some (true,(none,p++(bif (b==a)&&aZ x then [x.N] else []))):=by
 unfold dA po;simp only [D8,Xu];cases b==a
 ·simp
 cases aZ x
 ·simp
 have:bC (p.length+ [x.N].length):=by unfold bC;simp only [WP,WS];omega
 simp only [cond_true,Xu,Bool.and_self];rw [BS this];rfl
theorem Mq (N:Nat)(a:Bool)(c:VL)(e:c.XP.length<=2900)(K:Nat)(f:K<=1000): ∀(m i:Nat) (p:List Int),c.XP.length<m+i->i<=c.XP.length->p.length<=K+i->uH N (dA (fun x st=>po N a x st)) c m (i:Int) (none,p)=some (none,p++pick (fun i v=>(iX c.no i==a)&&aZ v) i (c.XP.drop i))
 |0,i,p,h,j,_=>by omega
 | m+1,i,p,h,j,l=>by
  rw [uH.eq_2];by_cases hi:i<c.XP.length
  ·rw [show (decide ((i:Int)<(c.XP.length:Int)))=true from VQ W,vW,WF hi,Wn hi];simp only [cond_true,Xu]
   have d:(bif !decide (c.no=8) then ((bif !decide (c.no=10) then (some true) else (some (decide ((i:Int).tmod 2=0)))).bind fun a6=>some a6) else (some false))=some (iX c.no i):=by
    unfold iX;cases decide (c.no=8)<;>cases decide (c.no=10)<;>rfl
   rw [d];simp only [Xu];rw [K9 N a _ _ _ W];rw [Xu];dsimp only;rw [Bool.not_true,cond_false];rw [BS (by unfold in64;omega)]
   have hlen:(p++(bif (iX c.no i==a)&&aZ c.XP[i] then [c.XP[i].N] else [])).length<=K+(i+1):=by
    cases (iX c.no i==a)&&aZ c.XP[i]<;>simp<;>omega
   have:=Mq N a c e K f m (i+1) _ W hi hlen;simp only [Int.natCast_add,Wc] at this;rw [this];rw [sm,VT]
  rw [show (decide ((i:Int)<(c.XP.length:Int)))=false from VR W,Wo W];simp [pick]
theorem NH (N:Nat)(f:6500<N)(a:Bool)(c:VL)(e:c.XQ.length<=1000)(d:c.XP.length<=2900): ∀(m i:Nat) (p:List Int),c.XQ.length<m+i->i<=c.XQ.length->p.length<=i->rC N (dA (fun x st=>po N a x st)) c m (i:Int) (none,p)=some (none,(p++pick (fun _ v=>(true==a)&&aZ v) i (c.XQ.drop i))++pick (fun i v=>(iX c.no i==a)&&aZ v) 0 c.XP)
 |0,i,p,h,j,_=>by omega
 | m+1,i,p,h,j,l=>by
  rw [rC.eq_2];by_cases hi:i<c.XQ.length
  ·rw [show (decide ((i:Int)<(c.XQ.length:Int)))=true from VQ W,vW,WF hi,Wn hi];simp only [cond_true,Xu];rw [K9 N a _ _ _ W];rw [Xu];dsimp only;rw [Bool.not_true,cond_false];rw [BS (by unfold in64;omega)]
   have hlen:(p++(bif (true==a)&&aZ c.XQ[i] then [c.XQ[i].N] else [])).length<=(i+1):=by
    cases (true==a)&&aZ c.XQ[i]<;>simp<;>omega
   have:=NH N f a c e d m (i+1) _ W hi hlen;simp only [Int.natCast_add,Wc] at this;rw [this];rw [sm,VT p]
  rw [show (decide ((i:Int)<(c.XQ.length:Int)))=false from VR W,Wo W];simp only [cond_false,Er];have:=Mq N a c d p.length W N 0 p W W W;simp only [Int.natCast_zero,Wc] at this;rw [this];simp [pick]
theorem ID (N:Nat)(f:6500<N)(a:Bool)(c:VL)(e:c.XQ.length<=1000)(d:c.XP.length<=2900):uB N c a=some (pick (fun _ v=>(true==a)&&aZ v) 0 c.XQ++pick (fun i v=>(iX c.no i==a)&&aZ v) 0 c.XP):=by
 unfold uB vy uY;have:=NH N f a c e d N 0 [] W W (by simp);simp only [Int.natCast_zero,Wc] at this;rw [Xu,this,Xu];show some _=some _;simp
def iL (k:Int)(i:Nat):Bool:=decide (k=8)||(decide (k=10)&&(decide (0<(i:Int))&&decide ((((i:Int) - 1).tmod 4).tmod 2=0)))
theorem Jz (k:Int)(i:Nat):iX k i=!iL k i:=by
 unfold iX iL;by_cases d:k=8
 ·subst d;rfl
 by_cases a:k=10
 ·subst a;have j:(i:Int).tmod 2=(i:Int)%2:=Wf W;by_cases hi:(0:Int)<i
  ·have f:((i:Int) - 1).tmod 4=((i:Int) - 1)%4:=Wf W;have e:(((i:Int) - 1)%4).tmod 2=(((i:Int) - 1)%4)%2:=Wf W;rw [j,f,e];by_cases h:(i:Int)%2=0
   ·have c: ¬(((i:Int) - 1)%4)%2=0:=by omega
    rw [VQ h,VR c,VQ hi];rfl
   have c:(((i:Int) - 1)%4)%2=0:=by omega
   rw [VR h,VQ c,VQ hi];rfl
  have:i=0:=by omega
  subst this;rfl
 simp [d,a]
def cW (c:VL):List Int:=pick (fun _ v=>aZ v) 0 c.XQ++pick (fun i v=> !iL c.no i&&aZ v) 0 c.XP
theorem pX (N:Nat)(e:6500<N)(c:VL)(d:c.XQ.length<=1000)(a:c.XP.length<=2900):lO N c=some (cW c):=by
 unfold lO cW;rw [ID N e true c d a,bs]
 have j:(fun (_:Nat) (v:VH)=>(true==true)&&aZ v)=fun _ v=>aZ v:=by funext i v;rfl
 have f:(fun (i:Nat) (v:VH)=>(iX c.no i==true)&&aZ v)=fun i v=> !iL c.no i&&aZ v:=by funext i v;rw [Jz];cases iL c.no i<;>rfl
 rw [j,f]
theorem mT (c:VL):(cW c).length<=c.XQ.length+c.XP.length:=by
 unfold cW;have d:=AS (fun _ v=>aZ v) 0 c.XQ;have a:=AS (fun i v=> !iL c.no i&&aZ v) 0 c.XP;rw [XI];omega
theorem Bh {f:Nat->VH->Bool}: ∀{i:Nat} {l:List VH},x∈pick f i l-> ∃v∈l,v.N=x
 |_,[],h=>by cases h
 | i,v::l,h=>by
  rw [sm,WY] at h;rcases h with h|h
  ·cases a:f i v
   ·rw [a] at h;cases h
   rw [a] at h;exact ⟨v,by simp,(W8.1 h).symm⟩
  obtain ⟨w,d,c⟩:=Bh h;exact ⟨w,by simp [d],c⟩
theorem J1 (h:x∈cW c): ∃v∈c.XQ++c.XP,v.N=x:=by
 unfold cW at h;rcases WY.1 h with h|h
 ·obtain ⟨v,d,a⟩:=Bh h;exact ⟨v,by simp [d],a⟩
 obtain ⟨v,d,a⟩:=Bh h;exact ⟨v,by simp [d],a⟩
end
section
open Go.RowKit
def Cn:VL:=⟨0,0,0,0,[],[]⟩
def fc (m:Vw)(a:Int):Option VL:=if a<1 then none else if a%2=1 then m.XS[((a - 1) / 2).toNat]? else m.XR[((a - 2) / 2).toNat]?
def az (m:Vw)(a:Int):Bool:=(fc m a).isSome
def am (m:Vw)(a:Int):VL:=(fc m a).getD Cn
structure Small (m:Vw) (roots:List VH):Prop where
 young:m.XS.length<=600
 old:m.XR.length<=600
 roots:roots.length<=600
 cells: ∀c∈m.XS++m.XR,c.XQ.length<=600/\c.XP.length<=2900
 nw: ∀c∈m.XS++m.XR,c.no≠8/\c.no≠10
theorem sg {m:Vw}(h:fc m a=some c):c∈m.XS++m.XR:=by
 unfold fc at h;split at h
 ·cases h
 split at h
 ·exact VU _ (W4 h)
 exact VV _ (W4 h)
theorem Small.kd {m:Vw}{roots:List VH}(h:Small m roots)(a:Int):(am m a).no≠8/\(am m a).no≠10:=by
 unfold am
 cases d:fc m a with
 |none=>exact ⟨by decide,by decide⟩
 |some c=>exact h.nw c (sg d)
theorem Small.at_ {m:Vw}{roots:List VH}(h:Small m roots)(a:Int):(am m a).XQ.length<=600/\(am m a).XP.length<=2900:=by
 unfold am
 cases d:fc m a with
 |none=>exact ⟨by simp [Cn],by simp [Cn]⟩
 |some c=>exact h.cells c (sg d)
theorem vK {m:Vw}(h:az m a=true):0<a:=by
 unfold az fc at h;split at h
 ·cases h
 omega
theorem Bz {m:Vw}{roots:List VH}(c:Small m roots)(h:az m a=true):a<=1200:=by
 have e:=c.young;have d:=c.old;unfold az fc at h;split at h
 ·cases h
 split at h
 ·have:=(WH.1 (Option.isSome_iff_exists.1 h).choose_spec).1;omega
 have:=(WH.1 (Option.isSome_iff_exists.1 h).choose_spec).1;omega
theorem th (h:0<=a):a.tdiv 2=a / 2:=We h
theorem ku (h:0<=a):a.tmod 2=a%2:=Wf h
theorem KZ (l:List α)(i:Nat):(l[i]?).isSome=decide ((i:Int)<(l.length:Int)):=by
 by_cases h:i<l.length
 ·rw [WF h,VQ W];rfl
 rw [WG W,VR W];rfl
theorem JO (m:Vw)(a:Int):(a<1/\fc m a=none)\/(∃k:Nat,a=2*(k:Int)+1/\fc m a=m.XS[k]?)\/(∃k:Nat,a=2*(k:Int)+2/\fc m a=m.XR[k]?):=by
 by_cases h:a<1
 ·exact .inl ⟨h,by unfold fc;rw [if_pos h]⟩
 by_cases c:a%2=1
 ·refine .inr (.inl ⟨((a - 1) / 2).toNat,by omega,?_⟩);unfold fc;rw [if_neg h,if_pos c]
 refine .inr (.inr ⟨((a - 2) / 2).toNat,by omega,?_⟩);unfold fc;rw [if_neg h,if_neg c]
theorem Ua (h:in64 a): -4611686018427387904<=a.tdiv 2/\a.tdiv 2<=4611686018427387904:=by
 unfold in64 at h;by_cases d:0<=a
 ·rw [th d];omega
 have c:(-a).tdiv 2= -(a.tdiv 2):=Int.neg_tdiv a 2;rw [th W] at c;omega
theorem JR (N:Nat)(m:Vw)(a:Int)(h:in64 a):Sat (uR N m a) fun r=>r.2.2=az m a/\(az m a=true->ak r.1 r.2.1=fc m a):=by
 have e:=Ua h;unfold uR;rw [r64 W W];unfold yR az;rcases JO m a with ⟨d,c⟩|⟨k,d,c⟩|⟨k,d,c⟩
 ·rw [c];refine bq (fun _=> ?_) fun _=> ?_
  ·rw [r64 W W,r64 W W,bI (a:=0) (b:=a) W,cf,bs];exact ar ⟨J,fun h=>by cases h⟩
  rw [bI (a:=0) (b:=a) W,cf,bs];exact ar ⟨J,fun h=>by cases h⟩
 ·subst d;rw [c,ku W,th W,cE W,cf,bG W,ct,bs,show (2*(k:Int)+1) / 2=k by omega];exact ar ⟨(KZ _ _).symm,fun _=>vW _ _⟩
 subst d;rw [c,ku W,th W,fj W,ct,bG W,ct,bs,show (2*(k:Int)+2) / 2 - 1=k by omega];rw [r64 W W,r64 W W];exact ar ⟨(KZ _ _).symm,fun _=>vW _ _⟩
theorem sx (N:Nat)(m:Vw)(a:Int)(h:in64 a):mO N m a=some (az m a):=by
 obtain ⟨r,d,c, -⟩:=JR N m a h;unfold mO;rw [d,bs,c]
theorem sv (N:Nat)(c:VL)(h:c.XQ.length<=600/\c.XP.length<=2900):iP N c=some c:=by
 unfold iP kK;rw [rF (by simp;omega),bs,rF (by simp;omega),bs];rfl
theorem F8 (N:Nat){m:Vw}{roots:List VH}(f:Small m roots)(a:Int)(h:in64 a):om N m a=some (am m a):=by
 obtain ⟨r,n,l,j⟩:=JR N m a h;unfold om am;rw [n,bs,l];unfold az at*
 cases d:fc m a with
 |none=>rfl
 |some c=>
  have e:=j (by rw [d];rfl);rw [d] at e;have i:=sv N c (f.cells c (sg d));simp only [Option.isSome_some,nt,cf,e,bs,i];rfl
end
section
open Go.RowKit
theorem Ue (N:Nat)(k:Int):Ak N k=pQ N k:=by
 unfold Ak pQ mQ;by_cases j:k=1
 ·subst j;rfl
 by_cases i:k=2
 ·subst i;rfl
 by_cases f:k=3
 ·subst f;rfl
 by_cases e:k=6
 ·subst e;rfl
 by_cases d:k=8
 ·subst d;rfl
 by_cases c:k=9
 ·subst c;rfl
 by_cases a:k=10
 ·subst a;rfl
 rw [cE j,cE i,cE f,cE e,cE d,cE c,cE a];rfl
theorem aat (N:Nat)(c:VL):uz N c=pM N c:=by
 unfold uz pM;rw [Ue];rfl
theorem acp (N:Nat)(v:VH):Ap N v=iG N v:=by
 unfold Ap iG vj;by_cases l:v.no=5
 ·rw [l];rfl
 rw [cE l];simp only [cf];by_cases hr:v.no<0\/9<v.no
 ·have i:v.no≠2:=by omega
  have f:v.no≠3:=by omega
  have e:v.no≠6:=by omega
  have d:v.no≠7:=by omega
  have c:v.no≠9:=by omega
  have j:((bif decide (v.no<0) then (some true) else (some (decide (9<v.no)))):Option Bool)=some true:=by
   rcases hr with h|h
   ·rw [bG h];rfl
   rw [bG (a:=9) h];cases decide (v.no<0)<;>rfl
  rw [j,bs,ct,cE i,cE f,cE e,cE d,cE c];simp only [cf]
  have m:(((bif decide (v.N=0) then (some (decide (0<=v.no))) else (some false)).bind fun a6=>(bif a6 then (some (decide (v.no<=9))) else (some false)).bind fun a8=>some a8):Option Bool)=some false:=by
   cases decide (v.N=0)
   ·rfl
   rcases hr with h|h
   ·rw [G0 (a:=0) (b:=v.no) W];rfl
   rw [G0 (a:=v.no) (b:=9) W];cases decide (0<=v.no)<;>rfl
  rw [m];cases s:(v.S.toList==(⟨#[]⟩:ByteArray).toList)<;>rfl
 have j:((bif decide (v.no<0) then (some true) else (some (decide (9<v.no)))):Option Bool)=some false:=by
  rw [bI (a:=v.no) (b:=0) W,bI (a:=9) (b:=v.no) W];rfl
 rw [j,bs,cf];cases n:(v.S.toList==(⟨#[]⟩:ByteArray).toList)
 ·rfl
 simp only [nt,cf];by_cases i:v.no=2
 ·rw [i];rfl
 rw [cE i];simp only [cf];by_cases f:v.no=3
 ·rw [f];rfl
 rw [cE f];simp only [cf];by_cases e:v.no=6
 ·rw [e];rfl
 rw [cE e];simp only [cf];by_cases d:v.no=7
 ·rw [d];rfl
 rw [cE d];simp only [cf];by_cases c:v.no=9
 ·rw [c];rfl
 rw [cE c,G3 (a:=0) W,G3 (a:=v.no) W];cases decide (v.N=0)<;>rfl
theorem Lp (N:Nat)(v:VH): ∃b,iG N v=some b:=by
 unfold iG;cases decide (v.no<0)<;>cases decide (9<v.no)<;>cases decide (v.no=5)<;>cases decide (v.N=0)<;>cases (v.S.toList==(⟨#[]⟩:ByteArray).toList)<;>cases decide (v.no=2)<;>cases decide (v.no=3)<;>cases decide ((-9007199254740992)<=v.N)<;>cases decide (v.no=6)<;>cases decide (v.no=7)<;>cases decide (v.no=9)<;>exact ⟨_,rfl⟩
theorem Jh (N k:Nat)(e:k=2\/k=4)(l:List VH)(B:l.length<=2900): ∀(m i:Nat),l.length<m+i->i<=l.length->(l.length - i)%k=0-> ∃b,nN N (k:Int) l m (i:Int)=some b/\
  rA N (dA (fun x st=>lD N (k:Int) x st)) l (k:Int) m (i:Int) (none,())=some (bif b then (none,()) else (some .ret,()))
 |0,i,h,D,_=>by omega
 | m + 1,i,h,D,h3=>by
  by_cases hi:i<l.length
  ·have p:i+k<=l.length:=by
    rcases e with rfl|rfl<;>omega
   have hmin:(min (k:Int) (((l.drop (i:Int).toNat).take (l.length - (i:Int).toNat)).length:Int))=k:=by
    rw [XJ,WQ,Wg];omega
   have n:((i:Int)+(k:Int)).toNat=i+k:=by omega
   have d: ∀j,j<k->ak ((l.drop i).take k) (j:Int)=l[i+j]? :=fun j C=>by
    rw [vW,WL,if_pos C,WE]
   have a6:=d 0 W;have a8:=d 1 W;rw [WF W] at a6 a8;have U:ak l (i:Int)=some l[i]:=bz hi
   have T:ak l ((i:Int)+1)=some (l[i+1]'W):=by
    have:=bz (xs:=l) (i:=i+1) W;simpa using this
   obtain ⟨b,A,z⟩:=Jh N k e l B m (i+k) W p (by rcases e with rfl|rfl<;>omega);simp only [Int.natCast_add] at A z
   have fin: ∀c,(bif c then some false else ae (in64 ((i:Int)+(k:Int))) (nN N (k:Int) l m ((i:Int)+(k:Int))))=some (bif c then false else b):=fun c=>by
    cases c
    ·rw [cf,r64 W W,A];rfl
    rfl
   have fin2: ∀c:Bool,((bif c then (some (some Exit.ret,())) else (some (none,())):Option (Option Exit×Unit)).map fun r=>(r.1.isNone,r))=some (!c,(bif c then some Exit.ret else none,())):=fun c=>by cases c<;>rfl
   have goal: ∀c,((some (!c,((bif c then some Exit.ret else none:Option Exit),())):Option (Bool×(Option Exit×Unit))).bind fun q=>bif !q.1 then (some q.2) else (ae (in64 ((i:Int)+(k:Int))) ((rA N (dA (fun x st=>lD N (k:Int) x st)) l (k:Int) m) ((i:Int)+(k:Int)) q.2)))=some (bif (bif c then false else b) then (none,()) else (some .ret,())):=fun c=>by
    cases c
    ·rw [bs];simp only [nf,nt,cf];rw [r64 W W];exact z
    rfl
   have lift: ∀(x:List VH) (c:Bool),lD N (k:Int) x ()=(bif c then (some (some Exit.ret,())) else (some (none,())))->dA (fun x st=>lD N (k:Int) x st) x (none,())=some (!c,(bif c then some Exit.ret else none,())):=fun x c hb=>by
    unfold dA;simp only [hb];exact fin2 c
   have key: ∃c,((ak l (i:Int)).bind fun x8=>(bif !decide (x8.no=7) then (some true) else (ae (in64 ((i:Int)+1)) ((ak l ((i:Int)+1)).bind fun S=>some (decide (S.no=8))))).bind fun V=>bif V then (some false) else ((bif decide ((k:Int)=4) then (ae (in64 ((i:Int)+2)) ((ak l ((i:Int)+2)).bind fun R=>(io N R 7).bind fun Q=>(bif !Q then (some true) else (ae (in64 ((i:Int)+3)) ((ak l ((i:Int)+3)).bind fun P=>(iQ N P 0 9007199254740992).bind fun O=>some (!O)))).bind fun K=>some K)) else (some false)).bind fun H=>bif H then (some false) else (ae (in64 ((i:Int)+(k:Int))) ((nN N (k:Int) l m) ((i:Int)+(k:Int))))))=some (bif c then false else b)/\lD N (k:Int) ((l.drop i).take k) ()=(bif c then (some (some Exit.ret,())) else (some (none,()))):=by
    unfold lD;simp only [Wc,Int.natCast_zero,Int.natCast_one] at a6 a8;rw [U,bs,r64 (a:=(i:Int)+1) W W,T,bs];have hk0':ak ((l.drop i).take k) 0=some l[i]:=a6;have hk1':ak ((l.drop i).take k) 1=some (l[i+1]'W):=a8;simp only [hk0',bs,hk1'];cases Z:(!decide (l[i].no=7))
    ·simp only [cf,bs];cases X:decide ((l[i+1]'W).no=8)
     ·simp only [cf];rcases e with rfl|rfl
      ·simp only [show decide (((2:Nat):Int)=4)=false from rfl,cf,bs];have f:=fin false;rw [cf] at f;refine ⟨false,?_,J⟩;exact f
      have u:=d 2 W;have t:=d 3 W;rw [WF W] at u t;have hk2':ak ((l.drop i).take 4) 2=some (l[i+2]'W):=u;have hk3':ak ((l.drop i).take 4) 3=some (l[i+3]'W):=t
      have F:ak l ((i:Int)+2)=some (l[i+2]'W):=by
       have:=bz (xs:=l) (i:=i+2) W;simpa using this
      have E:ak l ((i:Int)+3)=some (l[i+3]'W):=by
       have:=bz (xs:=l) (i:=i+3) W;simpa using this
      simp only [show decide (((4:Nat):Int)=4)=true from rfl,ct];rw [r64 (a:=(i:Int)+2) W W,F,bs,hk2',bs,r64 (a:=(i:Int)+3) W W,E,bs,hk3']
      have en: ∀v,nV N v 7=io N v 7:=fun v=>rfl
      have em: ∀v,nT N v 0 9007199254740992=iQ N v 0 9007199254740992:=fun v=>rfl
      have o: ∃b1,io N (l[i+2]'W) 7=some b1:=by unfold io;cases decide ((l[i+2]'W).no=0)<;>exact ⟨_,rfl⟩
      have hm: ∃b1,iQ N (l[i+3]'W) 0 9007199254740992=some b1:=by unfold iQ;cases decide ((l[i+3]'W).no=3)<;>cases decide (0<=(l[i+3]'W).N)<;>exact ⟨_,rfl⟩
      obtain ⟨b1,o⟩:=o;obtain ⟨b2,hm⟩:=hm;simp only [bs,en,em,o,hm];cases b1
      ·simp only [nf,ct,bs];exact ⟨true,J,J⟩
      simp only [nt,cf,bs];exact ⟨!b2,fin (!b2),by cases b2<;>rfl⟩
     exact ⟨true,J,J⟩
    exact ⟨true,J,J⟩
   obtain ⟨c,M,L⟩:=key;refine ⟨bif c then false else b,?_,?_⟩
   ·rw [nN.eq_2,bG W,ct];exact M
   rw [rA.eq_2,bG W,ct,hmin,ce (show (0:Int)<=(i:Int)/\(i:Int).toNat<=l.length/\l.length<=l.length from ⟨by omega,by omega,Xm _⟩),r64 (a:=(i:Int)+(k:Int)) W W,r64 (a:=(i:Int)+(k:Int)) W W];rw [ce (show (0:Int)<=(i:Int)/\(0:Int)<=(i:Int)+(k:Int)/\(i:Int).toNat<=((i:Int)+(k:Int)).toNat/\((i:Int)+(k:Int)).toNat<=l.length from ⟨by omega,by omega,by omega,by omega⟩),n,Wg,show i+k - i=k by omega,lift _ c L];exact goal c
  rw [nN.eq_2,rA.eq_2,bI W,cf,cf];exact ⟨true,J,J⟩
theorem Ax (N:Nat)(n:6500<N)(k:Nat)(a:k=2\/k=4)(l:List VH)(i:l.length<=2900): ∃b,ph N l (k:Int)=some b/\jX N l (k:Int)=some b/\(b=true->l.length%k=0):=by
 unfold ph jX
 have a6:(k:Int)≠0:=by rcases a with rfl|rfl<;>decide
 rw [ce a6,ce a6]
 have f:(l.length:Int).tmod (k:Int)=((l.length%k:Nat):Int):=by
  rw [Wf W];rfl
 rw [f];by_cases h:l.length%k=0
 ·rw [fj W];obtain ⟨b,m,j⟩:=Jh N k a l i N 0 W W (by simpa using h)
  have e:yd N l (k:Int)=some ():=by
   unfold yd;rw [bI (by rcases a with rfl|rfl<;>omega),cf]
  unfold Ef;simp only [nt,cf,e,bs];have d:nN N (k:Int) l N 0=some b:=m;have c:rA N (dA (fun x st=>lD N (k:Int) x st)) l (k:Int) N 0 (none,())=some (bif b then (none,()) else (some .ret,())):=j;rw [d,c,bs];exact ⟨b,by cases b<;>rfl,rfl,fun _=>h⟩
 rw [cE W];exact ⟨false,J,J,fun h=>by cases h⟩
end
section
open Go.RowKit
theorem aaZ (N:Nat)(e:6500<N)(c:VL)(f:c.XP.length<=2900):uC N c.no c.XP=pW N c:=by
 obtain ⟨b2,j,d, -⟩:=Ax N e 2 (.inl rfl) c.XP f;obtain ⟨b4,i,a, -⟩:=Ax N e 4 (.inr rfl) ((c.XP.drop ((1:Int).toNat)).take (c.XP.length - (1:Int).toNat)) (by rw [XJ,WQ];omega);have m:ph N c.XP 2=jX N c.XP 2:=j.trans d.symm;have l:ph N ((c.XP.drop ((1:Int).toNat)).take (c.XP.length - (1:Int).toNat)) 4=jX N ((c.XP.drop ((1:Int).toNat)).take (c.XP.length - (1:Int).toNat)) 4:=i.trans a.symm;unfold uC pW yj pL;rw [m,l];rfl
theorem LT (N:Nat)(c:VL)(b:Bool)(v:VH): ∃y,iG N v=some y/\dA (fun x st=>nO N c x st) (b,v) (none,())=some (y,(bif y then none else some Exit.ret,())):=by
 obtain ⟨y,a⟩:=Lp N v;refine ⟨y,a,?_⟩;unfold dA nO;simp only [acp,a,bs];cases y<;>rfl
theorem J7 (N:Nat)(c:VL)(f:c.XP.length<=2900): ∀(m i:Nat),c.XP.length<m+i->i<=c.XP.length-> ∃b,uZ N c m (i:Int)=(bif b then lH N c else some false)/\
  uH N (dA (fun x st=>nO N c x st)) c m (i:Int) (none,())=some (bif b then none else some Exit.ret,())
 |0,i,h,n=>by omega
 | m+1,i,h,n=>by
  rw [uZ.eq_2,uH.eq_2];by_cases hi:i<c.XP.length
  ·rw [bG W,ct,ct,bz hi,bs,bs]
   have e:(bif !decide (c.no=8) then ((bif !decide (c.no=10) then (some true) else (some (decide ((i:Int).tmod 2=0)))).bind fun a6=>some a6) else (some false))=some (iX c.no i):=by
    unfold iX;cases decide (c.no=8)<;>cases decide (c.no=10)<;>rfl
   obtain ⟨y,l,j⟩:=LT N c (iX c.no i) c.XP[i];rw [e,bs,l,j,bs,bs];cases y
   ·simp only [nf,nt,ct,cf];exact ⟨false,cf.symm,by rw [cf]⟩
   obtain ⟨b,d,a⟩:=J7 N c f m (i+1) W hi;simp only [Int.natCast_add,Wc] at d a;simp only [nt,cf,ct];rw [r64 W W,r64 W W];exact ⟨b,d,a⟩
  rw [bI W,cf,cf];exact ⟨true,ct.symm,by rw [ct]⟩
theorem E1 (N:Nat)(j:6500<N)(c:VL)(f:c.XQ.length<=1000)(a:c.XP.length<=2900): ∀(m i:Nat),c.XQ.length<m+i->i<=c.XQ.length-> ∃b,pF N c m (i:Int)=(bif b then lH N c else some false)/\
  rC N (dA (fun x st=>nO N c x st)) c m (i:Int) (none,())=some (bif b then none else some Exit.ret,())
 |0,i,h,o=>by omega
 | m+1,i,h,o=>by
  rw [pF.eq_2,rC.eq_2];by_cases hi:i<c.XQ.length
  ·rw [bG W,ct,ct,bz hi,bs,bs];obtain ⟨y,n,l⟩:=LT N c true c.XQ[i];rw [n,l,bs,bs];cases y
   ·simp only [nf,nt,ct,cf];exact ⟨false,cf.symm,by rw [cf]⟩
   obtain ⟨b,e,d⟩:=E1 N j c f a m (i+1) W hi;simp only [Int.natCast_add,Wc] at e d;simp only [nt,cf,ct];rw [r64 W W,r64 W W];exact ⟨b,e,d⟩
  rw [bI W,cf,cf];exact J7 N c a N 0 W W
theorem FJ (N:Nat)(m:6500<N)(c:VL)(o:c.XQ.length<=1000)(l:c.XP.length<=2900):lL N c=mP N c:=by
 unfold lL mP uY
 have hAge:((bif !decide (c.XW=0) then (some (!decide (c.XW=1))) else (some false)).bind fun a6=>some a6)=(some (decide (c.XW<0)||decide (1<c.XW)):Option Bool):=by
  by_cases n:c.XW=0
  ·rw [n];rfl
  by_cases d:c.XW=1
  ·rw [d];rfl
  rw [cE n,cE d];by_cases i:c.XW<0
  ·rw [bG i];rfl
  rw [bG (a:=1) (b:=c.XW) W,bI (a:=c.XW) W];rfl
 obtain ⟨b,d,i⟩:=E1 N m c o l N 0 W W;have j:pF N c N 0=(bif b then lH N c else some false):=d;have f:rC N (dA (fun x st=>nO N c x st)) c N 0 (none,())=some (bif b then none else some Exit.ret,()):=i;have e:vy N c=some ():=rfl;rw [hAge,j,f,e]
 have tail:((some ()).bind fun (u:Unit)=>(some ((bif b then none else some Exit.ret:Option Exit),())).bind fun a8=>jp a8.1 ((uz N c).bind fun t=>(bif t then ((uC N c.no c.XP).bind fun q=>some q) else (some false)).bind fun p=>some p) (some false) (fun _=>none))=(bif b then lH N c else some false):=by
  cases b
  ·rfl
  rw [aat,aaZ N m c l];rfl
 rw [tail];cases decide (c.no<1)<;>cases decide (11<c.no)<;>cases decide (c.XV<0)<;>cases decide (c.XU<0)<;>cases decide (63<c.XU)<;>cases decide (c.XW<0)<;>cases decide (1<c.XW)<;>rfl
def jO (c:VL):Bool:=decide (c.no=8)&&(mP N c).getD false
end
section
open Go.RowKit
abbrev gz (m:Option ρ):Prop:=Sat m fun _=>True
theorem cN (x:ρ):gz (some x):=ar trivial
theorem jb {b:Bool}{x y:Option ρ}(c:b=true->gz x)(a:b=false->gz y):gz (bif b then x else y):=gn c a
theorem wb (N:Nat)(v:VH)(a b:Int):gz (iQ N v a b):=by
 unfold iQ;refine Sat.bind (P:=fun _=>True) (jb (fun _=>cN _) fun _=>cN _) fun x _=>Sat.bind (P:=fun _=>True) (jb (fun _=>cN _) fun _=>cN _) fun y _=>cN _
theorem vS (N:Nat)(v:VH)(a:Int):gz (io N v a):=by
 unfold io;exact Sat.bind (P:=fun _=>True) (jb (fun _=>cN _) fun _=>cN _) fun x _=>cN _
theorem sK {c:Bool}(h:c=true->gz m):gz (bif c then m else some false):=jb h fun _=>cN _
theorem oN {f:VH->Option Bool}(hi:i<l.length)(h:∀v,gz (f v)):gz ((ak l (i:Int)).bind f):=by
 rw [bz hi,bs];exact h _
theorem gp (h:gz m)(k:∀b,gz (f b)):gz (m.bind f):=Sat.bind h fun b _=>k b
theorem sk (h:Sat m fun b=>b=true->p)(k:∀b,(b=true->p)->gz (f b)):gz (m.bind f):=Sat.bind h k
theorem TC (N:Nat)(c:VL):gz (pM N c):=by
 unfold pM
 have e:gz (pQ N c.no):=by
  unfold pQ
  iterate 6 refine gp (jb (fun _=>cN _) fun _=>cN _) fun _=> ?_
  exact cN _
 refine gp e fun y=>gp (jb (fun _=>cN _) fun _=>gp (jb (fun _=>cN _) fun _=>cN _) fun _=>cN _) fun b=> ?_
 refine jb (fun _=> ?_) fun _=> ?_
 ·refine sk (p:=0<c.XQ.length) (bq (fun h=>ar fun _=>by omega) fun _=>ar fun h=>by cases h) fun b hb=>gp (sK fun h=> ?_) fun _=>cN _
  have a:=hb h
  refine oN (i:=0) a fun v=>gp (jb (fun _=>cN _) fun _=>oN (i:=0) a fun _=>cN _) fun _=>cN _
 refine jb (fun _=>cN _) fun _=>gp (jb (fun _=>cN _) fun _=>cN _) fun _=>jb (fun _=>cN _) fun _=>gn (fun _=> ?_) fun _=>cN _
 refine sk (p:=1<c.XQ.length) (bq (fun h=> ?_) fun _=>ar fun h=>by cases h) fun b hb=>gp (sK fun h=> ?_) fun _=>cN _
 ·rw [show ((0:Int))=((0:Nat):Int) from rfl,bz W,bs];obtain ⟨x,d, -⟩:=vS N c.XQ[0] 7;rw [d,bs];exact ar fun _=>by omega
 refine oN (i:=1) (hb h) fun v=>gp (vS N v 7) fun _=>cN _
theorem GF {m:VH->Option Bool}(hi:i<l.length)(h:∀v,gz (m v))(c:p):Sat ((ak l (i:Int)).bind fun x=>(m x).bind fun y=>some y) fun b=>b=true->p:=by
 rw [bz hi,bs];obtain ⟨x,a, -⟩:=h l[i];rw [a,bs];exact ar fun _=>c
def qm (c:VL):Prop:=(c.no=8->c.XP.length%2=0)/\(c.no=10->1<=c.XP.length/\(c.XP.length - 1)%4=0)
theorem UT (N:Nat)(t:6500<N)(c:VL)(z:c.XP.length<=2900):Sat (pW N c) fun b=>b=true->qm c:=by
 have n: ∀p,(p=true->c.no=1\/c.no=5)->Sat (pL N c p) fun b=>b=true->qm c:=by
  intro p o
  have other: ∀{m:Option Bool},c.no≠8->c.no≠10->gz m->Sat m fun b=>b=true->qm c:=fun A l h=>h.mono fun _ _ _=>⟨fun e=>absurd e A,fun e=>absurd e l⟩
  unfold pL;refine gn (fun h=>other (by rcases o h with e|e<;>omega) (by rcases o h with e|e<;>omega) (cN _)) fun _=> ?_
  refine bq (fun a=>other W W ?_) fun _=> ?_
  ·refine sk (p:=1<c.XP.length) (bq (fun h=>GF (i:=0) W (fun v=>wb N v _ _) W) fun _=>ar fun h=>by cases h) fun b hb=>gp (sK fun h=>oN (i:=1) (hb h) fun v=>gp (vS N v 9) fun _=>cN _) fun _=>cN _
  refine bq (fun a=>other W W ?_) fun _=> ?_
  ·refine sk (p:=0<c.XP.length) (bq (fun h=>ar fun _=>by omega) fun _=>ar fun h=>by cases h) fun b hb=>gp (sK fun h=>oN (i:=0) (hb h) fun v=>gp (vS N v 9) fun _=>cN _) fun _=>cN _
  refine bq (fun a=>other W W ?_) fun _=> ?_
  ·refine sk (p:=1<c.XP.length) (bq (fun h=>GF (i:=0) W (fun v=>wb N v _ _) W) fun _=>ar fun h=>by cases h) fun b hb=>gp (sK fun h=>oN (i:=1) (hb h) fun v=>gp (vS N v 9) fun _=>cN _) fun _=>cN _
  refine bq (fun a=>other W W ?_) fun _=> ?_
  ·refine sk (p:=3<c.XP.length) (bq (fun h=>GF (i:=2) W (fun v=>wb N v _ _) W) fun _=>ar fun h=>by cases h) fun b hb=>gp (sK fun h=>oN (i:=3) (hb h) fun v=>gp (wb N v _ _) fun _=>cN _) fun _=>cN _
  refine bq (fun a=> ?_) fun a8=> ?_
  ·obtain ⟨b, -,j,f⟩:=Ax N t 2 (.inl rfl) c.XP z;have d:jX N c.XP 2=some b:=j;rw [d,bs];exact ar fun hb=>⟨fun _=>f hb,fun e=>absurd e W⟩
  refine bq (fun a=> ?_) fun a6=> ?_
  ·refine Sat.bind (P:=fun b=>b=true->1<=c.XP.length) (bq (fun h=> ?_) fun _=>ar fun h=>by cases h) fun b hb=> ?_
   ·rw [show ((0:Int))=((0:Nat):Int) from rfl,bz W,bs];exact ar fun _=>by omega
   refine Sat.bind (P:=fun b=>b=true->qm c) (gn (fun h=> ?_) fun _=>ar fun h=>by cases h) fun C hb'=>ar hb'
   have u:=hb h;rw [BS ⟨by omega,by show (1:Int).toNat<=_;exact u,Xm _⟩]
   have q:((c.XP.drop ((1:Int).toNat)).take (c.XP.length - (1:Int).toNat)).length=c.XP.length - 1:=by
    rw [XJ,WQ];show min (c.XP.length - 1) (c.XP.length - 1)=_;omega
   obtain ⟨b2, -,j,f⟩:=Ax N t 4 (.inr rfl) ((c.XP.drop ((1:Int).toNat)).take (c.XP.length - (1:Int).toNat)) (by rw [q];omega);have d:jX N ((c.XP.drop ((1:Int).toNat)).take (c.XP.length - (1:Int).toNat)) 4=some b2:=j;rw [d,bs];exact ar fun B=>⟨fun e=>absurd e W,fun _=>⟨u,by have:=f B;rw [q] at this;exact this⟩⟩
  refine bq (fun a=>other W W ?_) fun _=>other a8 a6 (cN _)
  refine gp ?_ fun _=>cN _
  exact jb (fun h=>oN (i:=0) (by have:=XG h;omega) fun v=>gp (wb N v _ _) fun _=>cN _) fun _=>cN _
 unfold pW;refine bq (fun _=>ar fun h=>by cases h) fun _=>bq (fun a=>ar fun _=>⟨fun e=>absurd e W,fun e=>absurd e W⟩) fun _=>bq (fun a=>n _ fun _=> .inl a) fun _=>n _ fun h=> .inr (XG h)
theorem K8 (N:Nat)(e:6500<N)(c:VL)(i:c.XQ.length<=1000)(d:c.XP.length<=2900):Sat (mP N c) fun b=>b=true->qm c:=by
 obtain ⟨b1,j, -⟩:=E1 N e c i d N 0 W W;have a:pF N c N 0=(bif b1 then lH N c else some false):=j
 have f:Sat (lH N c) fun b=>b=true->qm c:=by
  unfold lH;refine Sat.bind (TC N c) fun y _=> ?_
  refine Sat.bind (P:=fun b=>b=true->qm c) (gn (fun _=>Sat.bind (UT N e c d) fun _ h=>ar h) fun _=>ar fun h=>by cases h) fun _ h=>ar h
 unfold mP;rw [a]
 iterate 6 refine Sat.bind (P:=fun _=>True) (jb (fun _=>cN _) fun _=>cN _) fun _ _=> ?_
 refine gn (fun _=>ar fun h=>by cases h) fun _=>gn (fun _=>f) fun _=>ar fun h=>by cases h
end
section
open Go.RowKit
theorem AA (L:Nat->Int->Option ρ)(l:List α)(p:α->Bool)(bad k:Option ρ)(step:∀m (i:Nat) (h:i<l.length),L (m+1) (i:Int)=bif p l[i] then L m ((i:Int)+1) else bad)(fin:∀m,L (m+1) (l.length:Int)=k)(N:Nat)(j:l.length<N):L N 0=bif l.all p then k else bad:=by
 have key: ∀m i:Nat,l.length<m+i->i<=l.length->L m (i:Int)=bif (l.drop i).all p then k else bad:=by
  intro m
  induction m with
  |zero=>intro i f d;omega
  | succ m c=>
   intro i f d;by_cases hi:i<l.length
   ·rw [step m i hi,Wn hi,List.all_cons];have a:=c (i+1) W hi;rw [show (((i+1:Nat)):Int)=(i:Int)+1 by omega] at a;rw [a];cases p l[i]<;>rfl
   have e:i=l.length:=by omega
   subst e;rw [fin,List.drop_length];rfl
 have:=key N 0 W W;simpa using this
theorem Li (L:Nat->Int->Option Bool)(l:List α)(p:α->Bool)(step:∀m (i:Nat) (h:i<l.length),L (m+1) (i:Int)=bif p l[i] then L m ((i:Int)+1) else some false)(fin:∀m,L (m+1) (l.length:Int)=some true)(N:Nat)(a:l.length<N):L N 0=some (l.all p):=by
 rw [AA L l p _ _ step fin N a];cases l.all p<;>rfl
theorem all_map (f:α->β)(p:β->Bool)(l:List α):(l.map f).all p=l.all fun x=>p (f x):=by rw [List.all_map];rfl
theorem Kd (q p:α->Bool): ∀l:List α,(l.filter q).all p=l.all fun x=> !q x||p x
 | []=>rfl
 |x::l=>by
  rw [Ww,List.all_cons, <-Kd q p l];cases h:q x<;>simp
def ny {α β:Type}[DecidableEq α](a:α)(b:β):List (α×β)->List (α×β)
 | []=> [(a,b)]
 |p::l=>if p.1=a then (a,b)::l else p::ny a b l
theorem aaG [DecidableEq α](L:List (α×β))(a:α)(b:β):dp L a b=ny a b L:=by
 have key: ∀(L:List (α×β)) (j:Nat),(∃i c,fp a L j=some (i,c)/\j<=i/\L.set (i - j) (a,b)=ny a b L)\/(fp a L j=none/\L++ [(a,b)]=ny a b L):=by
  intro L
  induction L with
  |nil=>intro j;exact .inr ⟨J,J⟩
  | cons p l o=>
   intro j;obtain ⟨x,y⟩:=p;by_cases e:a=x
   ·refine .inl ⟨j,y,by simp [fp,e],Xm _,?_⟩;rw [Xr];simp [ny,e]
   have n: ¬x=a:=fun h=>e h.symm
   rcases o (j+1) with ⟨i,c,d,f,m⟩|⟨d,f⟩
   ·refine .inl ⟨i,c,by simp [fp,e,d],by omega,?_⟩;rw [show i - j=(i - (j+1))+1 by omega,List.set_cons_succ,m];simp [ny,n]
   exact .inr ⟨by simp [fp,e,d],by simp [ny,n,f]⟩
 unfold dp;rcases key L 0 with ⟨i,c,d, -,m⟩|⟨d,f⟩
 ·rw [d];exact m
 rw [d];exact f
theorem wj [DecidableEq α](p:α×β)(l:List (α×β))(x:α):lk (p::l) x=if p.1=x then some p.2 else lk l x:=by
 unfold lk;rw [List.find?_cons];by_cases e:p.1=x<;>simp [e]
theorem qt [DecidableEq α](L:List (α×β))(a:α)(b:β)(x:α):lk (dp L a b) x=if a=x then some b else lk L x:=by
 rw [aaG]
 induction L with
 |nil=>rw [ny,wj]
 | cons p l d=>
  unfold ny;by_cases e:p.1=a
  ·rw [if_pos e,wj,wj,e];by_cases c:a=x<;>simp [c]
  rw [if_neg e,wj,wj,d];by_cases c:p.1=x
  ·rw [if_pos c,if_pos c,if_neg (fun h=>e (by rw [c,h]))]
  rw [if_neg c,if_neg c]
end
section
open Go.RowKit
abbrev vZ:VH:=⟨0,0,⟨#[]⟩⟩
def cm (l:List VH)(i:Nat):VH:=l.getD i vZ
theorem kk (h:i<l.length):ak l (i:Int)=some (cm l i):=by
 rw [bz h];unfold cm;simp [List.getD,h]
def dm (v:VH):Bool:=(iG 0 v).getD false
theorem LE (N:Nat)(v:VH):iG N v=some (dm v):=by
 obtain ⟨b,hb⟩:=Lp 0 v;have e:iG N v=iG 0 v:=Eq.trans rfl rfl;unfold dm;rw [e,hb];rfl
def numB (v:VH)(a b:Int):Bool:=decide (v.no=3)&&(decide (a<=v.N)&&decide (v.N<=b))
def noneB (v:VH)(k:Int):Bool:=decide (v.no=0)||decide (v.no=k)
theorem vO (N:Nat)(v:VH)(a b:Int):iQ N v a b=some (numB v a b):=by
 unfold iQ numB;cases decide (v.no=3)<;>cases decide (a<=v.N)<;>cases decide (v.N<=b)<;>rfl
theorem vE (N:Nat)(v:VH)(k:Int):io N v k=some (noneB v k):=by
 unfold io noneB;cases decide (v.no=0)<;>cases decide (v.no=k)<;>rfl
def sP (k:Int):Bool:=decide (k=1)||decide (k=2)||decide (k=3)||decide (k=6)||decide (k=8)||decide (k=9)||decide (k=10)
theorem R8 (N:Nat)(k:Int):pQ N k=some (sP k):=by
 unfold pQ sP;cases decide (k=1)<;>cases decide (k=2)<;>cases decide (k=3)<;>cases decide (k=6)<;>cases decide (k=8)<;>cases decide (k=9)<;>cases decide (k=10)<;>rfl
def ic (k sh fl:Int)(l:List VH):Bool:=
 bif sP k||(decide (k=7)&&decide (0<l.length)) then decide (1<=l.length)&&decide (l.length<=1025)&&(decide ((cm l 0).no=1)||decide ((cm l 0).no=7))
 else bif decide (k=7) then decide (sh=0) else bif !decide (sh=0)|| !decide (fl=0) then false else bif decide (k=5) then decide (l.length=2)&&noneB (cm l 0) 7&&noneB (cm l 1) 7 else decide (l.length=0)
theorem ir {q:Prop}[Decidable p][Decidable q](h:p↔q):decide p=decide q:=by
 by_cases a:p
 ·rw [VQ a,VQ (h.1 a)]
 rw [VR a,VR fun c=>a (h.2 c)]
theorem SL (N:Nat)(c:VL):pM N c=some (ic c.no c.XV c.XU c.XQ):=by
 unfold pM ic;rw [R8,bs,ir (p:=(0:Int)<(c.XQ.length:Int)) (q:=0<c.XQ.length) W,ir (p:=(1:Int)<=(c.XQ.length:Int)) (q:=1<=c.XQ.length) W,ir (p:=(c.XQ.length:Int)<=1025) (q:=c.XQ.length<=1025) W,ir (p:=(c.XQ.length:Int)=2) (q:=c.XQ.length=2) W,ir (p:=(c.XQ.length:Int)=0) (q:=c.XQ.length=0) W]
 have d: ∀b:Bool,((bif decide (1<=c.XQ.length) then some (decide (c.XQ.length<=1025)) else some false).bind fun b8=>(bif b8 then ((ak c.XQ 0).bind fun a6=>(bif decide (a6.no=1) then (some true) else ((ak c.XQ 0).bind fun a8=>some (decide (a8.no=7)))).bind fun u=>some u) else (some false)).bind fun m=>some m)=some (decide (1<=c.XQ.length)&&decide (c.XQ.length<=1025)&&(decide ((cm c.XQ 0).no=1)||decide ((cm c.XQ 0).no=7))):=fun _=>by
  by_cases h:1<=c.XQ.length
  ·have g:ak c.XQ 0=some (cm c.XQ 0):=kk (i:=0) W;rw [VQ h,g];simp only [bs];cases decide (c.XQ.length<=1025)<;>cases decide ((cm c.XQ 0).no=1)<;>cases decide ((cm c.XQ 0).no=7)<;>rfl
  rw [VR h];rfl
 have a:((bif decide (c.XQ.length=2) then ((ak c.XQ 0).bind fun t=>(io N t 7).bind fun o=>some o) else (some false)).bind fun n=>(bif n then ((ak c.XQ 1).bind fun l=>(io N l 7).bind fun j=>some j) else (some false)).bind fun f=>some f)=some (decide (c.XQ.length=2)&&noneB (cm c.XQ 0) 7&&noneB (cm c.XQ 1) 7):=by
  by_cases h:c.XQ.length=2
  ·have g:ak c.XQ 0=some (cm c.XQ 0):=kk (i:=0) W;have e:ak c.XQ 1=some (cm c.XQ 1):=kk (i:=1) W;rw [VQ h,g,e];simp only [bs,vE];cases noneB (cm c.XQ 0) 7<;>cases noneB (cm c.XQ 1) 7<;>rfl
  rw [VR h];rfl
 rw [d true,a];cases sP c.no<;>cases decide (c.no=7)<;>cases decide (0<c.XQ.length)<;>cases decide (c.XV=0)<;>cases decide (c.XU=0)<;>cases decide (c.no=5)<;>rfl
def iC:List VH->Bool
 |k::v::r=>decide (k.no=7)&& !decide (v.no=8)&&iC r
 | [_]=>false
 | []=>true
def fD:List VH->Bool
 |t::h::k::s::r=>decide (t.no=7)&& !decide (h.no=8)&&(noneB k 7&&numB s 0 9007199254740992)&&fD r
 | []=>true
 |_=>false
theorem pR (k v:VH)(r:List VH):iC (k::v::r)=(decide (k.no=7)&& !decide (v.no=8)&&iC r):=Eq.trans rfl rfl
theorem pS (t h k s:VH)(r:List VH):fD (t::h::k::s::r)=(decide (t.no=7)&& !decide (h.no=8)&&(noneB k 7&&numB s 0 9007199254740992)&&fD r):=Eq.trans rfl rfl
theorem Kp: ∀{l:List VH},iC l=true->l.length%2=0
 | [],_=>rfl
 | [_],h=>by cases h
 |k::v::r,h=>by
  rw [pR] at h;rw [XM] at h;have:=Kp h.2;simp only [WP];omega
theorem Kl: ∀{l:List VH},fD l=true->l.length%4=0
 | [],_=>rfl
 | [_],h=>by cases h
 | [_,_],h=>by cases h
 | [_,_,_],h=>by cases h
 |t::a::k::s::r,h=>by
  rw [pS] at h;rw [XM] at h;have:=Kl h.2;simp only [WP];omega
theorem sJ {r:List VH}{v:VH}(h:l.drop i=v::r):ak l (i:Int)=some v/\l.drop (i+1)=r:=by
 have c:i<l.length:=by
  rcases Xp i l.length with a|a
  ·exact a
  rw [Wo a] at h;cases h
 rw [Wn c] at h;obtain ⟨e,d⟩:=Wk h;exact ⟨by rw [bz c,e],d⟩
theorem KL (N:Nat)(l:List VH)(e:l.length<=2900): ∀(m i:Nat),l.length<m+i->i<=l.length->(l.length - i)%2=0->nN N 2 l m (i:Int)=some (iC (l.drop i))
 |0,i,h,f,_=>by omega
 | m+1,i,h,f,q=>by
  rw [nN.eq_2]
  match a:l.drop i with
  | []=>
   have hi:l.length<=i:=by have:=congrArg List.length a;rw [WQ] at this;simp at this;omega
   rw [bI W,cf];rfl
  | [x]=>have:=congrArg List.length a;rw [WQ] at this;simp at this;omega
  |k::v::r=>
   have hlen:=congrArg List.length a;rw [WQ] at hlen;simp only [WP] at hlen;obtain ⟨j,o⟩:=sJ a;obtain ⟨d,n⟩:=sJ o;rw [show (((i+1:Nat)):Int)=(i:Int)+1 by omega] at d;have c:=KL N l e m (i+2) W W W;rw [show (((i+2:Nat)):Int)=(i:Int)+2 by omega,n] at c;rw [bG W,ct,j,bs,r64 W W,d,bs,VR (p:=(2:Int)=4) (by decide),cf,bs,cf,r64 W W,c];simp only [pR];cases decide (k.no=7)<;>cases decide (v.no=8)<;>rfl
theorem KH (N:Nat)(l:List VH)(j:l.length<=2900): ∀(m i:Nat),l.length<m+i->i<=l.length->(l.length - i)%4=0->nN N 4 l m (i:Int)=some (fD (l.drop i))
 |0,i,h,n,_=>by omega
 | m+1,i,h,n,C=>by
  rw [nN.eq_2]
  match a:l.drop i with
  | []=>
   have hi:l.length<=i:=by have:=congrArg List.length a;rw [WQ] at this;simp at this;omega
   rw [bI W,cf];rfl
  | [x]=>have:=congrArg List.length a;rw [WQ] at this;simp at this;omega
  | [x,y]=>have:=congrArg List.length a;rw [WQ] at this;simp at this;omega
  | [x,y,z]=>have:=congrArg List.length a;rw [WQ] at this;simp at this;omega
  |t::v::k::s::r=>
   have hlen:=congrArg List.length a;rw [WQ] at hlen;simp only [WP] at hlen;obtain ⟨o,B⟩:=sJ a;obtain ⟨f,A⟩:=sJ B;obtain ⟨e,u⟩:=sJ A;obtain ⟨d,q⟩:=sJ u;rw [show (((i+1:Nat)):Int)=(i:Int)+1 by omega] at f;rw [show (((i+1+1:Nat)):Int)=(i:Int)+2 by omega] at e;rw [show (((i+1+1+1:Nat)):Int)=(i:Int)+3 by omega] at d;have c:=KH N l j m (i+4) W W W;rw [show (((i+4:Nat)):Int)=(i:Int)+4 by omega,q] at c;rw [bG W,ct,o,bs,r64 W W,f,bs,VQ (p:=(4:Int)=4) rfl,ct,r64 W W,e,bs,vE,bs,r64 W W,d,bs,vO,bs,r64 W W,c];simp only [pS];cases decide (t.no=7)<;>cases decide (v.no=8)<;>cases noneB k 7<;>cases numB s 0 9007199254740992<;>rfl
theorem aau (N:Nat)(c:6500<N)(l:List VH)(a:l.length<=2900):jX N l 2=some (iC l):=by
 unfold jX;rw [ce (by decide)]
 have e:(l.length:Int).tmod 2=((l.length%2:Nat):Int):=by rw [Wf W];omega
 rw [e];by_cases h:l.length%2=0
 ·rw [h,VQ (p:=((0:Nat):Int)=0) rfl,nt,cf];exact KL N l a N 0 W W W
 rw [VR W,nf,ct]
 cases hb:iC l with
 |false=>rfl
 |true=>exact absurd (Kp hb) h
theorem UJ (N:Nat)(c:6500<N)(l:List VH)(a:l.length<=2900):jX N l 4=some (fD l):=by
 unfold jX;rw [ce (by decide)]
 have e:(l.length:Int).tmod 4=((l.length%4:Nat):Int):=by rw [Wf W];omega
 rw [e];by_cases h:l.length%4=0
 ·rw [h,VQ (p:=((0:Nat):Int)=0) rfl,nt,cf];exact KH N l a N 0 W W W
 rw [VR W,nf,ct]
 cases hb:fD l with
 |false=>rfl
 |true=>exact absurd (Kl hb) h
def ii (k:Int)(l:List VH):Bool:=
 bif decide (k=2) then decide (l.length<=4096)
 else bif decide (k=1)||decide (k=5) then decide (l.length=0)
 else bif decide (k=3) then decide (l.length=3)&&numB (cm l 0) 0 9007199254740992&&noneB (cm l 1) 9
 else bif decide (k=4) then decide (1<=l.length)&&decide (l.length<=4097)&&noneB (cm l 0) 9
 else bif decide (k=6) then decide (l.length=2)&&numB (cm l 0) 0 3&&noneB (cm l 1) 9
 else bif decide (k=7) then decide (4<=l.length)&&numB (cm l 2) 0 1&&numB (cm l 3) 0 9007199254740992
 else bif decide (k=8) then iC l
 else bif decide (k=10) then decide (1<=l.length)&&decide ((cm l 0).no=7)&&fD (l.drop 1)
 else bif decide (k=9) then decide (2<=l.length)&&numB (cm l 0) 0 2
 else true
theorem SV (N:Nat)(t:6500<N)(c:VL)(B:c.XP.length<=2900):pW N c=some (ii c.no c.XP):=by
 have u: ∀p:Bool,p=(decide (c.no=1)||decide (c.no=5))->c.no≠2->pL N c p=some (ii c.no c.XP):=by
  intro p z C;subst z;unfold pL ii;rw [cE C,cf];rcases Bool.eq_false_or_eq_true (decide (c.no=1)||decide (c.no=5)) with d|d
  ·rw [d,ct,ct,ir (p:=(c.XP.length:Int)=0) (q:=c.XP.length=0) W]
  rw [d,cf,cf];by_cases o:c.no=3
  ·rw [fj o,ct,ct,ir (p:=(c.XP.length:Int)=3) (q:=c.XP.length=3) W];by_cases h:c.XP.length=3
   ·have a:ak c.XP 0=some (cm c.XP 0):=kk (i:=0) W;have e:ak c.XP 1=some (cm c.XP 1):=kk (i:=1) W;rw [VQ h,a,e];simp only [bs,vO,vE];cases numB (cm c.XP 0) 0 9007199254740992<;>cases noneB (cm c.XP 1) 9<;>rfl
   rw [VR h];rfl
  rw [cE o,cf,cf];by_cases n:c.no=4
  ·rw [fj n,ct,ct,ir (p:=(1:Int)<=(c.XP.length:Int)) (q:=1<=c.XP.length) W,ir (p:=(c.XP.length:Int)<=4097) (q:=c.XP.length<=4097) W];by_cases h:1<=c.XP.length
   ·have a:ak c.XP 0=some (cm c.XP 0):=kk (i:=0) W;rw [VQ h,a];simp only [bs,vE];cases decide (c.XP.length<=4097)<;>cases noneB (cm c.XP 0) 9<;>rfl
   rw [VR h];rfl
  rw [cE n,cf,cf];by_cases m:c.no=6
  ·rw [fj m,ct,ct,ir (p:=(c.XP.length:Int)=2) (q:=c.XP.length=2) W];by_cases h:c.XP.length=2
   ·have a:ak c.XP 0=some (cm c.XP 0):=kk (i:=0) W;have e:ak c.XP 1=some (cm c.XP 1):=kk (i:=1) W;rw [VQ h,a,e];simp only [bs,vO,vE];cases numB (cm c.XP 0) 0 3<;>cases noneB (cm c.XP 1) 9<;>rfl
   rw [VR h];rfl
  rw [cE m,cf,cf];by_cases l:c.no=7
  ·rw [fj l,ct,ct,ir (p:=(4:Int)<=(c.XP.length:Int)) (q:=4<=c.XP.length) W];by_cases h:4<=c.XP.length
   ·have E:ak c.XP 2=some (cm c.XP 2):=kk (i:=2) W;have D:ak c.XP 3=some (cm c.XP 3):=kk (i:=3) W;rw [VQ h,E,D];simp only [bs,vO];cases numB (cm c.XP 2) 0 1<;>cases numB (cm c.XP 3) 0 9007199254740992<;>rfl
   rw [VR h];rfl
  rw [cE l,cf,cf];by_cases j:c.no=8
  ·rw [fj j,ct,ct,aau N t _ B,bs]
  rw [cE j,cf,cf];by_cases a6:c.no=10
  ·rw [fj a6,ct,ct,ir (p:=(1:Int)<=(c.XP.length:Int)) (q:=1<=c.XP.length) W];by_cases h:1<=c.XP.length
   ·have a:ak c.XP 0=some (cm c.XP 0):=kk (i:=0) W;have A:((c.XP.drop ((1:Int).toNat)).take (c.XP.length - (1:Int).toNat))=c.XP.drop 1:=Xf (by rw [WQ];exact Xm _);rw [VQ h,a,A,ce ⟨by omega,by show 1<=_;omega,Xm _⟩,UJ N t _ (by rw [WQ];omega)];simp only [bs];cases decide ((cm c.XP 0).no=7)<;>cases fD (c.XP.drop 1)<;>rfl
   rw [VR h];rfl
  rw [cE a6,cf,cf];by_cases f:c.no=9
  ·rw [fj f,ct,ct,ir (p:=(2:Int)<=(c.XP.length:Int)) (q:=2<=c.XP.length) W];by_cases h:2<=c.XP.length
   ·have a:ak c.XP 0=some (cm c.XP 0):=kk (i:=0) W;rw [VQ h,a];simp only [bs,vO];cases numB (cm c.XP 0) 0 2<;>rfl
   rw [VR h];rfl
  rw [cE f,cf,cf]
 unfold pW;rw [bI W,cf];by_cases k2:c.no=2
 ·rw [fj k2,ct];unfold ii;rw [fj k2,ct,ir (p:=(c.XP.length:Int)<=4096) (q:=c.XP.length<=4096) W]
 rw [cE k2,cf];by_cases k1:c.no=1
 ·rw [fj k1,ct];exact u _ (by rw [fj k1];rfl) k2
 rw [cE k1,cf];exact u _ (by rw [cE k1];rfl) k2
def bT (c:VL):Bool:=
 (!decide (c.no<1)&& !decide (11<c.no)&& !decide (c.XV<0)&& !decide (c.XU<0)&& !decide (63<c.XU)&& !decide (c.XW<0)&& !decide (1<c.XW))&&(c.XQ.all dm&&(c.XP.all dm&&(ic c.no c.XV c.XU c.XQ&&ii c.no c.XP)))
theorem vu (N:Nat)(j:6500<N)(c:VL)(l:c.XQ.length<=1000)(f:c.XP.length<=2900):mP N c=some (bT c):=by
 have d:lH N c=some (ic c.no c.XV c.XU c.XQ&&ii c.no c.XP):=by
  unfold lH;rw [SL,SV N j c f,bs];cases ic c.no c.XV c.XU c.XQ<;>rfl
 have a:uZ N c N 0=some (c.XP.all dm&&(ic c.no c.XV c.XU c.XQ&&ii c.no c.XP)):=by
  rw [AA (fun k i=>uZ N c k i) c.XP dm (some false) (some (ic c.no c.XV c.XU c.XQ&&ii c.no c.XP)) (fun k i h=> ?_) (fun k=> ?_) N W]
  ·cases c.XP.all dm<;>rfl
  ·rw [uZ.eq_2,bG W,ct,bz h,bs,LE,bs,r64 W W];cases dm c.XP[i]<;>rfl
  rw [uZ.eq_2,bI W,cf,d]
 have e:pF N c N 0=some (c.XQ.all dm&&(c.XP.all dm&&(ic c.no c.XV c.XU c.XQ&&ii c.no c.XP))):=by
  rw [AA (fun k i=>pF N c k i) c.XQ dm (some false) (some (c.XP.all dm&&(ic c.no c.XV c.XU c.XQ&&ii c.no c.XP))) (fun k i h=> ?_) (fun k=> ?_) N W]
  ·cases c.XQ.all dm<;>rfl
  ·rw [pF.eq_2,bG W,ct,bz h,bs,LE,bs,r64 W W];cases dm c.XQ[i]<;>rfl
  rw [pF.eq_2,bI W,cf];unfold Jc;exact a
 unfold mP bT;rw [e];cases decide (c.no<1)<;>cases decide (11<c.no)<;>cases decide (c.XV<0)<;>cases decide (c.XU<0)<;>cases decide (63<c.XU)<;>cases decide (c.XW<0)<;>cases decide (1<c.XW)<;>rfl
end
