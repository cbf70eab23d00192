/- Merged texts: part 7. No conditions of their own. -/
import Derived.Test.YthhiddkljcacaaaGreatG6
set_option maxHeartbeats 4000000
namespace Go.Proofs.YthhiddkljcacaaaGreat
variable (N:Nat){a1:Int}{a2:VW}{c:Vz}
theorem Vp:type_of% Tryz.underlying171:=Tryz.underlying171
theorem Vo:type_of% Tryz.underlying230:=Tryz.underlying230
variable {A1 A2 A3 A4 A5 A6 f:Option Addr}{B1 B2 a B6 l m e M7 n c1 c2 c3 c4 c5 c6 i d n2 n3 n4 n5 n6 j:Nat}
open Go.RowKit Asn
set_option maxRecDepth 20000
def xE (N:Nat)(a:VX):Option VX:=
 some a
def DH (a1:Int):Option VX:=
 bif decide (a1<0) then none else (ae (in64 (0 - 0)) (ae (in64 (a1 - (0 - 0))) (bif decide (0<a1 - (0 - 0)) then (ae ((0:Int)<(a1 - (0 - 0))/\(a1 - (0 - 0))<=1099511627776) (xE N ([]:List VL))) else (xE N []))))
theorem Pm {N:Nat}{r:VX}(h:DH N a1=some r):Okc V5 116 [Y none 0 0,iV a1] ([]) (fun u p=> ∃f d e,u=Y f d e/\p=[aC f d e r]):=by
 refine av Tryz.func116 ?_;refine sZ ?_;refine gH J h ?_ ?_<;>intro h
 ·exact bO h
 refine aa ?_;refine aF (fun s L=> ∃a A3 n3 c3,xE N a=some r/\s=[(0,Y A3 n3 c3),(4,Y none 0 0)]/\L=[aC A3 n3 c3 a]) ?_ ?_
 ·refine aa ?_;refine aJ (sH J Ve) ?_;refine gE (jc J Ve) ?_;obtain ⟨j,h⟩:=ai h;refine aa ?_;obtain ⟨i,h⟩:=ai h;refine aG h ?_ ?_<;>intro h
  ·refine aa ?_;refine gE (sH J Ve) ?_;refine aJ (Fi J Ve size45.out J) ?_;obtain ⟨c,h⟩:=ai h;refine bN (Fd J J Ve Ex oZ J c.1 c.2) fun t m o=> ?_
   refine gE (jc J Ve) ?_;refine bN (F1 (R:=dL) 0 J J Ve size45.out J J) fun q l n=> ?_
   exact jN
  refine aa ?_;exact ⟨_,_,⟨[],none,0,0,h,J,J⟩,sA,(ck dL 45 _).trans (cS [0] 1)⟩
 rintro _ _ ⟨a,A3,n3,c3,h,rfl,rfl⟩;exact eY
def Dq (N:Nat)(a6:VX):Option VX:=
 some a6
def Dx (a0_0 a0_1:VX):Option VX:=
 (DH N ((0+(a0_0.length:Int))+(a0_1.length:Int))).bind fun a=>ae (bC (a.length+a0_0.length)) (ae (bC ((a++a0_0).length+a0_1.length)) (Dq N ((a++a0_0)++a0_1)))
def ua (a0_0 a0_1:VX):Option VX:=
 ae (in64 (0+(a0_0.length:Int))) (bif decide (0+(a0_0.length:Int)<0) then none else (ae (in64 ((0+(a0_0.length:Int))+(a0_1.length:Int))) (bif decide ((0+(a0_0.length:Int))+(a0_1.length:Int)<0) then none else (Dx N a0_0 a0_1))))
theorem HQ {N:Nat}{a0_0 a0_1 r:VX}(h:ua N a0_0 a0_1=some r):Okc V5 71 [.slice (some ⟨B1,0,none⟩) 2 2] ([aQ B1 123 [Y A2 n2 c2,Y A3 n3 c3],aq A2 n2 c2 a0_0,aq A3 n3 c3 a0_1]) (fun u p=> ∃f d e,u=Y f d e/\p=[aC f d e r]):=by
 refine av Tryz.func71 ?_;refine aF (fun s L=>Dx N a0_0 a0_1=some r/\s=[(0,.slice (some ⟨B1,0,none⟩) 2 2),(2,Y none 0 0),(3,iV ((0+(a0_0.length:Int))+(a0_1.length:Int)))]/\L=[aq A2 n2 c2 a0_0,aq A3 n3 c3 a0_1,aQ B1 123 [Y A2 n2 c2,Y A3 n3 c3]]) ?_ ?_
 ·refine aa ?_;refine aJ (jc J Vg) ?_;refine qg 3 ?_;refine fR ?_;refine aa ?_;refine aH ?_;refine d9 J ?_;refine sY ?_;refine aJ (iK J J Vg size123.out (by decide) (by decide)) ?_;obtain ⟨n,h⟩:=ai h;refine aG h ?_ ?_<;>intro h
  ·exact bO h
  refine aa ?_;refine aJ (cY J J (by decide) (by decide)) ?_;refine fR ?_;refine aa ?_;refine aH ?_;refine d9 J ?_;refine sY ?_;refine aJ (iK J J Vg size123.out (by decide) (by decide)) ?_;obtain ⟨m,h⟩:=ai h;refine aG h ?_ ?_<;>intro h
  ·exact bO h
  refine aa ?_;refine aJ (cY J J (by decide) (by decide)) ?_;refine fR ?_;refine aa ?_;refine aH ?_;refine d8 J ?_;exact jY
 rintro _ _ ⟨h,rfl,rfl⟩;refine Hj h (fun _ k=>Pm k) fun l E D C h=> ?_
 refine aF (fun s L=> ∃a6 a8 c a,Dq N a6=some r/\s=[(2,Y none 0 0),(6,Y a8 c a)]/\L=[aC a8 c a a6]) ?_ ?_
 ·refine aa ?_;refine aJ (jc J Vg) ?_;refine qg 3 ?_;refine fR ?_;refine aa ?_;refine aH ?_;refine d9 J ?_;refine sY ?_;refine aJ (iK J J Vg size123.out (by decide) (by decide)) ?_;obtain ⟨j,h⟩:=ai h;refine bN (cG 0 1 J J bA J J Ve oZ J J j) fun B A z=> ?_
  refine aJ (cY J J (by decide) (by decide)) ?_;refine fR ?_;refine aa ?_;refine aH ?_;refine d9 J ?_;refine sY ?_;refine aJ (iK J J Vg size123.out (by decide) (by decide)) ?_;obtain ⟨i,h⟩:=ai h;refine bN (cG 0 2 J J bA J J Ve oZ J J i) fun t q o=> ?_
  refine aJ (cY J J (by decide) (by decide)) ?_;refine fR ?_;refine aa ?_;refine aH ?_;refine d8 J ?_;exact jY
 rintro _ _ ⟨a6,a8,c,a,h,rfl,rfl⟩;exact eY
def uy (c:VL):Option VW:=
 (lO N c).bind fun d=>(pE N c).bind fun a=>ae (bC (d.length+a.length)) (some (d++a))
theorem Ib {N:Nat}{c:VL}{r:VW}(h:uy N c=some r):Okc V5 204 [.agg #[iV c.no,iV c.XV,iV c.XU,iV c.XW,Y A1 d c1,Y A2 n2 c2]] ([ap A1 d c1 c.XQ,ap A2 n2 c2 c.XP]) (fun u p=> ∃m e l,u=Y m e l/\p=[aR m e l r]):=by
 refine av Tryz.func204 ?_;intro a;refine aa ?_;refine dY [0,2] ?_;obtain ⟨q,k,h⟩:=ad h;refine fk 1 J (oR (pG k)) fun A5 n5 c5=> ?_
 obtain ⟨o,k,h⟩:=ad h;refine fk 3 J (oR (yW k)) fun f j i=> ?_
 obtain ⟨n,h⟩:=ai h;refine fk 4 J (cG 1 0 J J aw J J Vd iE J J n) fun A t z=> ?_
 refine zX [5] ?_;exact eY
def D4 (c:Int)(a1:Vw):Option Bool:=
 (mO N a1 c).bind fun a=>some (!a)
theorem Qh {N:Nat}{c:Int}{a1:Vw}{r:Bool}(h:D4 N c a1=some r):Okc V5 228 [iV c,pV B1 0] ([aQ B1 125 [Y A2 n2 c2,Y A3 n3 c3],aq A2 n2 c2 a1.XS,aq A3 n3 c3 a1.XR]) (fun u p=>u=.bool r/\p=[]):=by
 refine av Tryz.func228 ?_;refine cR h (fun _ k=>rR k) fun a h=> ?_
 exact eN
def IN (N:Nat):Option Bool:=
 some true
def zm (N:Nat)(d:VX)(c:Vw):Nat->Int->Option Bool
 |0,_=>none
 |e+1,a=>bif decide (a<(d.length:Int)) then ((ak d a).bind fun a6=>(lL N a6).bind fun a8=>(bif !a8 then (some true) else ((uy N a6).bind fun i=>(kH N i (fun x=>D4 N x c)).bind fun f=>some f)).bind fun b16=>bif b16 then (some false) else (ae (in64 (a+1)) ((zm N d c e) (a+1)))) else (IN N)
def zo (c:Vw):Option Bool:=
 (ua N c.XS c.XR).bind fun a=>zm N a c N 0
theorem QR {N:Nat}{c:Vw}{r:Bool}(h:zo N c=some r):Okc V5 203 [.agg #[Y A1 d c1,Y A2 n2 c2]] ([aq A1 d c1 c.XS,aq A2 n2 c2 c.XR]) (fun u p=>u=.bool r/\p=[]):=by
 refine av Tryz.func203 ?_;intro a;refine aa ?_;refine aF (fun s L=>IN N=some r/\s=[(2,.bool false)]/\L=[]) ?_ ?_
 ·refine aa ?_;refine gB (ke (cs:=[Y A1 d c1,Y A2 n2 c2]) J (Fo _ _ _ _ _ _)) fun U=> ?_
  obtain ⟨e,k,h⟩:=ad h;refine d6 (kO 0 J) ?_;refine bN (oC (HQ k)) fun f j i=> ?_
  refine lK (fun m s L=> ∃(l:Int),zm N e c m l=some r/\s=[(1,pV a 0),(2,.bool false),(10,Y f j i),(11,iV (e.length:Int)),(12,iV l)]/\L=[aC f j i e,aq A1 d c1 c.XS,aq A2 n2 c2 c.XR,ab a 125 [Y A1 d c1,Y A2 n2 c2]]) N ?_;rintro E _ _ ⟨l,h,rfl,rfl⟩;rw [zm.eq_2] at h;refine aa ?_;refine aH ?_;refine gH J h ?_ ?_<;>intro h
  ·refine sY ?_;obtain ⟨a6,T,S,a8,h⟩:=aI h;refine aa ?_;refine gD (aaj 0 J aw J a8 agg45.out J (kc a6)) ?_;rintro u _ ⟨_,_,⟨D,C,B,A,z,t,rfl,rfl⟩,o,rfl⟩;obtain rfl:u=.agg #[iV a6.no,iV a6.XV,iV a6.XU,iV a6.XW,Y D C B,Y A z t]:=o;refine bB fun R=> ?_
   refine cR h (fun _ k=>rI k) fun Q h=> ?_
   refine dJ 5 24 19 h (fun _ n h=> ?_) fun b16 h=> ?_
   ·refine aa ?_;obtain ⟨P,k,h⟩:=ad h;refine tl (oR (Ib k)) J (bY n J) J ?_;rintro _ _ ⟨_,⟨O,M,K,rfl,rfl⟩,rfl⟩;refine bR (jZ J) J (bY n J) J ?_;obtain ⟨H,k,h⟩:=ad h;refine gU (oR (qN k ⟨t9 J (t9 J (t9 J aW)),228, #[], #[pV a 0],J,call228.out,fun _ _ q=>Qh q⟩)) (bY n J) ?_;exact gY
   refine aG h ?_ ?_<;>intro h
   ·exact eY
   refine aa ?_;obtain ⟨F,h⟩:=ai h;exact lY
  exact jY
 rintro _ _ ⟨h,rfl,rfl⟩;exact eY
def mL (N:Nat)(c:Int):Option Bool:=
 (bif decide (0<c) then (some (decide (c.tmod 2=1))) else (some false)).bind fun b1=>some b1
theorem uP {N:Nat}{c:Int}{r:Bool}(h:mL N c=some r):Okc V5 162 [iV c] ([]) (fun u p=>u=.bool r/\p=[]):=by
 refine av Tryz.func162 ?_;refine bF 4 9 5 h (fun _ a h=> ?_) fun b1 h=> ?_
 ·refine aa ?_;refine bR (iz J J (by decide)) J (be a J) J ?_;exact gY
 exact eY
theorem Qk {r:Bool}: ∀v post,((fun (u:Value) (post:V3)=>u=.bool r/\post=[])) v post-> ∀c∈post,bP c:=by
 rintro _ _ ⟨rfl,rfl⟩;exact aW
def I8 (N:Nat):Option Bool:=
 some true
def zw (N:Nat)(c:Vw)(a2:VW):Nat->Int->Option Bool
 |0,_=>none
 |a8+1,a6=>bif decide (a6<(c.XR.length:Int)) then ((ak c.XR a6).bind fun i=>(uy N i).bind fun f=>(kH N f (fun x=>mL N x)).bind fun e=>(bif e then (ae (in64 (2*a6)) (ae (in64 ((2*a6)+2)) ((py N a2 ((2*a6)+2)).bind fun d=>some (!d)))) else (some false)).bind fun a=>bif a then (some false) else (ae (in64 (a6+1)) ((zw N c a2 a8) (a6+1)))) else (I8 N)
def rK (a2:VW)(c:Vw):Option Bool:=
 zw N c a2 N 0
def uU (N:Nat)(a2:VW)(c:Vw):Nat->Int->Option Bool
 |0,_=>none
 |j+1,a6=>bif decide (a6<(a2.length:Int)) then ((ak a2 a6).bind fun a8=>(mL N a8).bind fun i=>(bif i then (some true) else ((mO N c a8).bind fun f=>some (!f))).bind fun b16=>(bif b16 then (some true) else ((bif decide (0<a6) then (ae (in64 (a6 - 1)) ((ak a2 (a6 - 1)).bind fun e=>some (decide (a8<=e)))) else (some false)).bind fun d=>some d)).bind fun a=>bif a then (some false) else (ae (in64 (a6+1)) ((uU N a2 c j) (a6+1)))) else (rK N a2 c)
def vi (c:Vw)(a1:VO)(a2:VW):Option Bool:=
 (qK N a1 (fun x=>zi N x c)).bind fun d=>(bif d then (some true) else ((zo N c).bind fun a=>some (!a))).bind fun e=>bif e then (some false) else (uU N a2 c N 0)
theorem Ry {N:Nat}{c:Vw}{a1:VO}{r:Bool}(h:vi N c a1 a2=some r):Okc V5 154 [.agg #[Y A1 d c1,Y A2 n2 c2],Y A3 n3 c3,Y A4 n4 c4] ([aq A1 d c1 c.XS,aq A2 n2 c2 c.XR,ap A3 n3 c3 a1,aX A4 n4 c4 a2]) (fun u p=>u=.bool r/\p=[]):=by
 refine av Tryz.func154 ?_;intro a;refine aa ?_;refine aJ (jZ J) ?_;refine sZ ?_;obtain ⟨C,k,h⟩:=ad h;refine cV (oR (HA k ⟨t9 J (t9 J (t9 J aW)),201, #[], #[pV a 0],J,call201.out,fun _ _ e=>Qw e⟩)) ?_;refine dJ 4 20 16 h (fun _ Q h=> ?_) fun b7 h=> ?_
 ·refine cR h (fun _ k=>QR k) fun B h=> ?_
  exact gY
 refine aG h ?_ ?_<;>intro h
 ·exact eY
 refine aa ?_;refine aF (fun s L=>rK N a2 c=some r/\s=[(2,Y A4 n4 c4),(3,pV a 0),(6,.bool false)]/\L=[aX A4 n4 c4 a2,aq A1 d c1 c.XS,aq A2 n2 c2 c.XR,ab a 125 [Y A1 d c1,Y A2 n2 c2]]) ?_ ?_
 ·refine aa ?_;refine lK (fun m s L=> ∃(a6:Int),uU N a2 c m a6=some r/\s=[(2,Y A4 n4 c4),(3,pV a 0),(6,.bool false),(21,Y A4 n4 c4),(22,iV (a2.length:Int)),(23,iV a6)]/\L=[aX A4 n4 c4 a2,aq A1 d c1 c.XS,aq A2 n2 c2 c.XR,ab a 125 [Y A1 d c1,Y A2 n2 c2]]) N ?_;rintro e6 _ _ ⟨a6,h,rfl,rfl⟩;rw [uU.eq_2] at h;refine aa ?_;refine aH ?_;refine gH J h ?_ ?_<;>intro h
  ·refine sY ?_;obtain ⟨e7,b9,c0,c8,h⟩:=aI h;refine cR h (fun _ k=>uP k) fun e8 h=> ?_
   refine dJ 5 35 30 h (fun _ e9 h=> ?_) fun b16 h=> ?_
   ·refine cR h (fun _ k=>rR k) fun f1 h=> ?_
    exact gY
   refine aa ?_;refine dJ 12 48 36 h (fun _ f2 h=> ?_) fun f3 h=> ?_
   ·refine aa ?_;refine bF 8 47 39 h (fun _ f9 h=> ?_) fun Z h=> ?_
    ·refine aa ?_;obtain ⟨X,h⟩:=ai h;refine aa ?_;obtain ⟨V,c9,d0,d1,h⟩:=aI h;exact gY
    exact gY
   refine aG h ?_ ?_<;>intro h
   ·exact eY
   refine aa ?_;obtain ⟨U,h⟩:=ai h;exact lY
  exact jY
 rintro _ _ ⟨h,rfl,rfl⟩;refine aF (fun s L=>I8 N=some r/\s=[(6,.bool false)]/\L=[]) ?_ ?_
 ·refine aa ?_;refine lK (fun m s L=> ∃(a8:Int),zw N c a2 m a8=some r/\s=[(2,Y A4 n4 c4),(6,.bool false),(51,Y A2 n2 c2),(52,iV (c.XR.length:Int)),(53,iV a8)]/\L=[aX A4 n4 c4 a2,aq A2 n2 c2 c.XR]) N ?_;rintro T _ _ ⟨a8,h,rfl,rfl⟩;rw [zw.eq_2] at h;refine aa ?_;refine aH ?_;refine gH J h ?_ ?_<;>intro h
  ·refine sY ?_;obtain ⟨i,d2,d3,A,h⟩:=aI h;refine aa ?_;refine kW 1 J A (kc i) ?_;rintro _ _ ⟨z,t,q,o,n,l,rfl,rfl⟩;refine fS (kl (us:=(bw i z t q o n l)) 0 J J agg45.out J) ?_;intro S;refine aa ?_;obtain ⟨R,k,h⟩:=ad h;refine gD (oR (Ib k)) ?_;rintro _ _ ⟨_,⟨P,O,M,rfl,rfl⟩,rfl⟩;obtain ⟨K,k,h⟩:=ad h;refine cV (oR (qN k ⟨aW,162, #[], #[],J,call162.out,fun _ _ e=>uP e⟩)) ?_;refine bF 7 68 61 h (fun _ j h=> ?_) fun H h=> ?_
   ·refine aa ?_;obtain ⟨f,h⟩:=ai h;refine bR (gq J J f.1 f.2) J (be j J) J ?_;obtain ⟨F,h⟩:=ai h;refine cR h (fun _ k=>DS k) fun E h=> ?_
    exact gY
   refine aG h ?_ ?_<;>intro h
   ·exact eY
   refine aa ?_;obtain ⟨D,h⟩:=ai h;exact lY
  exact jY
 rintro _ _ ⟨h,rfl,rfl⟩;exact eY
def mC (c:VG)(a1:Int):Option VG:=
 (mL N a1).bind fun a=>(bif a then (some (!((lk c.Yu a1).getD false))) else (some false)).bind fun b8=>bif b8 then (ae (bC (c.Yi.length+([a1]:List Int).length)) (some (⟨c.m_,c.Yv,c.Yi++([a1]:List Int),dp c.Yu a1 true,c.Yn⟩:VG))) else (some c)
theorem DF {N:Nat}{c r:VG}(h:mC N c a1=some r):Okc V5 205 [pV B1 0,iV a1] ([aq A2 n2 c2 c.m_.XS,aq A3 n3 c3 c.m_.XR,aX A4 n4 c4 c.Yv,ab B1 223 [Y A2 n2 c2,Y A3 n3 c3,Y A4 n4 c4,Y A5 n5 c5,.map (some e),iV c.Yn],aR A5 n5 c5 c.Yi,aA ax aU e c.Yu]) (fun u p=> ∃l f i A1 d c1 A2 n2 c2 A3 n3 c3 j,u=.tuple #[]/\p=[ab B1 223 [Y l f i,Y A1 d c1,Y A2 n2 c2,Y A3 n3 c3,.map (some j),iV r.Yn],aq l f i r.m_.XS,aq A1 d c1 r.m_.XR,aX A2 n2 c2 r.Yv,aR A3 n3 c3 r.Yi,aA ax aU j r.Yu]):=by
 refine av Tryz.func205 ?_;refine cR h (fun _ k=>uP k) fun n h=> ?_
 refine bF 8 14 6 h (fun _ m h=> ?_) fun b8 h=> ?_
 ·refine aa ?_;refine dF (Uz (a:=a1) (z:=false) 5 J sN J J Vl (jy Ex) zero4.out) J (be m J) J ?_;exact gY
 refine aG h ?_ ?_<;>intro h
 ·refine aa ?_;refine fm (pJ (a:=a1) (b:=true) 5 J J J J Vl (jy Ex)) ?_;refine gD (cB (R:=(df .i64)) (vss:=[[iV a1]]) (xs:=[a1]) J (lQ _) J J (fun _ _ hr=> .cons J All2.nil)) ?_;rintro _ _ ⟨a8,B,A,rfl,rfl⟩;obtain ⟨a6,h⟩:=ai h;refine bN (cG 5 0 J J aw J J Vd iE J J a6) fun t q o=> ?_
  exact eN
 exact eY
def jV (c:VG)(a1:Int):Option VL:=
 (mL N a1).bind fun a=>bif a then (ae (in64 (a1.tdiv 2)) ((ak c.m_.XS (a1.tdiv 2)).bind fun a6=>some a6)) else (ae (in64 (a1.tdiv 2)) (ae (in64 ((a1.tdiv 2) - 1)) ((ak c.m_.XR ((a1.tdiv 2) - 1)).bind fun a8=>some a8)))
theorem ud {N:Nat}{c:VG}{r:VL}(h:jV N c a1=some r):Okc V5 161 [pV B1 0,iV a1] ([aq A2 n2 c2 c.m_.XS,aq A3 n3 c3 c.m_.XR,aX A4 n4 c4 c.Yv,ab B1 223 [Y A2 n2 c2,Y A3 n3 c3,Y A4 n4 c4,Y A5 n5 c5,.map (some e),iV c.Yn],aR A5 n5 c5 c.Yi,aA ax aU e c.Yu]) (fun u p=> ∃L K H F E D,u=.agg #[iV r.no,iV r.XV,iV r.XU,iV r.XW,Y L K H,Y F E D]/\p=[ap L K H r.XQ,ap F E D r.XP,ab B1 223 [Y A2 n2 c2,Y A3 n3 c3,Y A4 n4 c4,Y A5 n5 c5,.map (some e),iV c.Yn],aR A5 n5 c5 c.Yi,aA ax aU e c.Yu]):=by
 refine gQ Tryz.func161 J J ?_;simp only [fe];refine G ?_;refine gB (iq zero45.out J) fun U=> ?_
 refine G ?_;refine aH ?_;refine G ?_;obtain ⟨T,k,h⟩:=ad h;refine gV (co (uP k) J (aW) Qk) ?_;refine G ?_;refine gH J h ?_ ?_<;>intro h
 ·refine G ?_;obtain ⟨C,h⟩:=ai h;refine gE (mb J J (by decide) C.1 C.2) ?_;obtain ⟨a6,S,R,Q,h⟩:=aI h;refine gR (cH 1 J bA J J Ve size45.out S R) ?_;refine kW 1 J Q (kc a6) ?_;rintro _ _ ⟨z,t,q,o,n,m,rfl,rfl⟩;refine gR (kl (us:=(bw a6 z t q o n m)) 0 J J agg45.out J) ?_;refine gW (bL (us:=(bw a6 z t q o n m)) (cs':=(bw a6 z t q o n m)) 3 J J J J size45.out J J J) ?_;refine G ?_;obtain rfl:=bn h;exact me (rs:=[.cell 4 45]) (vs:=[.agg #[iV a6.no,iV a6.XV,iV a6.XU,iV a6.XW,Y z t q,Y o n m]]) J (.cons (lV 3 J J agg45.out) .nil) J (cS [1,2,7,8,9] 10) ⟨_,_,_,_,_,_,J,J⟩
 refine G ?_;obtain ⟨B,h⟩:=ai h;refine gE (mb J J (by decide) B.1 B.2) ?_;obtain ⟨A,h⟩:=ai h;refine gE (ne J J A.1 A.2) ?_;obtain ⟨a8,P,O,M,h⟩:=aI h;refine gR (cH 2 J bA J J Ve size45.out P O) ?_;refine kW 2 J M (kc a8) ?_;rintro _ _ ⟨l,j,i,f,d,a,rfl,rfl⟩;refine gR (kl (us:=(bw a8 l j i f d a)) 0 J J agg45.out J) ?_;refine gW (bL (us:=(bw a8 l j i f d a)) (cs':=(bw a8 l j i f d a)) 3 J J J J size45.out J J J) ?_;refine G ?_;obtain rfl:=bn h;exact me (rs:=[.cell 4 45]) (vs:=[.agg #[iV a8.no,iV a8.XV,iV a8.XU,iV a8.XW,Y l j i,Y f d a]]) J (.cons (lV 3 J J agg45.out) .nil) J (cS [1,2,7,8,9] 10) ⟨_,_,_,_,_,_,J,J⟩
def xy (N:Nat)(a6:VX->VX->VW->VW->VY->Int->Option VG)(a8 f:VX)(e d:VW)(c:VY)(a:Int):Option VG:=
 ae (in64 (a+1)) (a6 a8 f e d c (a+1))
def xz (N:Nat)(l:VX->VX->VW->VW->VY->Int->Option VG)(a:VW):Nat->Int->VX->VX->VW->VW->VY->Int->Option VG
 |0,_,_,_,_,_,_,_=>none
 |n+1,a8,j,i,f,e,d,c=>bif decide (a8<(a.length:Int)) then ((ak a a8).bind fun m=>(mC N (⟨(⟨j,i⟩:Vw),f,e,d,c⟩:VG) m).bind fun a6=>ae (in64 (a8+1)) ((xz N l a n) (a8+1) a6.m_.XS a6.m_.XR a6.Yv a6.Yi a6.Yu a6.Yn)) else (xy N l j i f e d c)
def mw (N:Nat):Nat->VX->VX->VW->VW->VY->Int->Option VG
 |0,_,_,_,_,_,_=>none
 |f+1,d,c,a8,a6,e,a=>bif decide (a<(a6.length:Int)) then ((ak a6 a).bind fun l=>(jV N (⟨(⟨d,c⟩:Vw),a8,a6,e,a⟩:VG) l).bind fun j=>(lO N j).bind fun i=>xz N (mw N f) i N 0 d c a8 a6 e a) else (some (⟨(⟨d,c⟩:Vw),a8,a6,e,a⟩:VG))
def tY (c:VG):Option VG:=
 mw N N c.m_.XS c.m_.XR c.Yv c.Yi c.Yu c.Yn
theorem HG {N:Nat}{c r:VG}(h:tY N c=some r):Okc V5 206 [pV B1 0] ([aq A2 n2 c2 c.m_.XS,aq A3 n3 c3 c.m_.XR,aX A4 n4 c4 c.Yv,ab B1 223 [Y A2 n2 c2,Y A3 n3 c3,Y A4 n4 c4,Y A5 n5 c5,.map (some e),iV c.Yn],aR A5 n5 c5 c.Yi,aA ax aU e c.Yu]) (fun u p=> ∃A0 n0 c0 A1 d c1 A2 n2 c2 A3 n3 c3 M4,u=.tuple #[]/\p=[ab B1 223 [Y A0 n0 c0,Y A1 d c1,Y A2 n2 c2,Y A3 n3 c3,.map (some M4),iV r.Yn],aq A0 n0 c0 r.m_.XS,aq A1 d c1 r.m_.XR,aX A2 n2 c2 r.Yv,aR A3 n3 c3 r.Yi,aA ax aU M4 r.Yu]):=by
 refine av Tryz.func206 ?_;refine lK (fun m s L=> ∃(P:VX) (O:VX) (e0:VW) (Z:VW) (X:VY) (a:Int) (M:Option Addr) (A H:Nat) (K:Option Addr) (z F:Nat) (E:Option Addr) (D C:Nat) (o:Option Addr) (n l:Nat) (B:Nat),mw N m P O e0 Z X a=some r/\s=[(0,pV B1 0)]/\L=[aq M A H P,aq K z F O,aX E D C e0,aR o n l Z,aA ax aU B X,ab B1 223 [Y M A H,Y K z F,Y E D C,Y o n l,.map (some B),iV a]]) N ?_;intro m7;refine fun s L=>Zb fun P O e0 Z X a=>Zb fun M A H K z F=>Zb fun E D C o n l=>ac fun B=>d7 fun h=> ?_
 rw [mw.eq_2] at h;refine aH ?_;refine dY [] ?_;refine aG h ?_ ?_<;>intro h
 ·refine aa ?_;refine aF (fun s L=> ∃e9 f1 f2 f3 f9 i g0 g1 g2 g3 g4 g5 g6 g7 g8 g9 h0 h1 h2,xy N (mw N m7) e9 f1 f2 f3 f9 i=some r/\s=[(0,pV B1 0)]/\L=[aq g0 g1 g2 e9,aq g3 g4 g5 f1,aX g6 g7 g8 f2,aR g9 h0 h1 f3,aA ax aU h2 f9,ab B1 223 [Y g0 g1 g2,Y g3 g4 g5,Y g6 g7 g8,Y g9 h0 h1,.map (some h2),iV i]]) ?_ ?_
  ·refine aa ?_;refine aH ?_;obtain ⟨j8,h3,h4,h5,h⟩:=aI h;obtain ⟨q,h6,h⟩:=ad h;obtain ⟨j,h7,h⟩:=ad h;refine dx (t:=[(0,pV B1 0)]) ?_ cL (ah _);refine fv I 15 [] [12,13,14] [21,22,23,24,25,26,27,28,29,30,31,32,33,34,35] [[],[],[1],[2],[3],[],[5],[6],[7],[4,8],[9],[0,10],[11],[12],[]] [aV (pV B1 0),
 aV (pV B1 0),
 aV (pV B1 0),
 aV (pV B1 3),
 aV (Y o n l),
 aV (pV B1 0),
 aV (pV B1 0),
 aV (pV B1 5),
 aV (iV a),
 aV (bD (Y o n l) a.toNat 1 0),
 aV (iV j8),
 aX6 (fun (V:Option Addr) (U T:Nat) (S:Option Addr) (R Q:Nat)=> .agg #[iV q.no,iV q.XV,iV q.XU,iV q.XW,Y V U T,Y S R Q]) (fun V U T S R Q=> [ap V U T q.XQ,ap S R Q q.XP]),
 aX3 (fun (a6:Option Addr) (a8 f:Nat)=> Y a6 a8 f) (fun a6 a8 f=> [aR a6 a8 f j]),
 aV (iV (j.length:Int)),
 aV (iV 0)] [] (ah _) (fB) I rfl rfl ?_ ?_ ?_
   ·exact fz
   ·refine qE (ay J) ?_;refine bl J ?_ ?_
    ·intro a6 a8 f;exact dj (ie 0 J aw J Vd) J (bj J (ah _))
    refine bl J ?_ ?_
    ·intro V U T S R Q;refine fi (oR (pG h7)) J ?_;rintro _ _ ⟨_,⟨j9,k0,k2,rfl,rfl⟩,rfl⟩;exact lp j9 k0 k2 (ah _)
    refine bl J ?_ ?_
    ·refine fi (oC (ud h6)) J ?_;rintro _ _ ⟨_,⟨k3,k4,k5,k6,k7,k8,rfl,rfl⟩,rfl⟩;exact G4 k3 k4 k5 k6 k7 k8 (cS [0,1,5,6,7,3,4,2] 8)
    refine bl J ?_ ?_
    ·exact dj (fZ (u:=iV j8) 3 J aw J h5 eo (fun _ _ _ h=>by rw [show _=_ from h];rfl)) J (bj J (ah _))
    refine qR (cH 3 J aw J J Vd size3.out h3 h4) ?_;refine qR (cn 5 J J eo J) ?_;refine qE (bW J Lj) ?_;refine qE (cr J) ?_;refine qE (ay J) ?_;refine qR (cn 5 J J tj J) ?_;refine qE (bW J Bg) ?_;refine qE (cr J) ?_;refine qE (ay J) ?_;refine qE (ay J) ?_;exact fq
   intro a6 a8 f;refine eF (t:=[(33,Y a6 a8 f),(34,iV (j.length:Int)),(35,iV 0),(0,pV B1 0)]) (L':=[aR a6 a8 f j,aq M A H P,aq K z F O,aX E D C e0,aR o n l Z,aA ax aU B X,ab B1 223 [Y M A H,Y K z F,Y E D C,Y o n l,.map (some B),iV a]]) ?_ cL (ah _);refine fw I ?_;refine aa ?_;refine lK (fun m s L=> ∃(h8:Int) (h9:VX) (i0:VX) (i1:VW) (i2:VW) (i3:VY) (i4:Int) (i5:Option Addr) (i6 i7:Nat) (i8:Option Addr) (i9 j0:Nat) (j1:Option Addr) (j2 j3:Nat) (j4:Option Addr) (j5 j6:Nat) (j7:Nat),xz N (mw N m7) j m h8 h9 i0 i1 i2 i3 i4=some r/\s=[(0,pV B1 0),(33,Y a6 a8 f),(34,iV (j.length:Int)),(35,iV h8)]/\L=[aR a6 a8 f j,aq i5 i6 i7 h9,aq i8 i9 j0 i0,aX j1 j2 j3 i1,aR j4 j5 j6 i2,aA ax aU j7 i3,ab B1 223 [Y i5 i6 i7,Y i8 i9 j0,Y j1 j2 j3,Y j4 j5 j6,.map (some j7),iV i4]]) N ?_;intro l2;refine fun s L=>Zb fun h8 h9 i0 i1 i2 i3=>Zb fun i4 i5 i6 i7 i8 i9=>Zb fun j0 j1 j2 j3 j4 j5=>ac fun j6=>ac fun j7=>d7 fun h=> ?_
   rw [xz.eq_2] at h;refine aa ?_;refine aH ?_;refine gH J h ?_ ?_<;>intro h
   ·refine sY ?_;obtain ⟨l3,k9,l0,l1,h⟩:=aI h;refine aa ?_;obtain ⟨l4,k,h⟩:=ad h;refine gD (oC (DF k)) ?_;rintro _ _ ⟨_,⟨l5,l6,l7,l8,l9,m0,m1,m2,m3,m4,m5,m6,m8,rfl,rfl⟩,rfl⟩;refine aa ?_;obtain ⟨m9,h⟩:=ai h;exact lY
   exact jY
  refine fun s L=>Zb fun e9 f1 f2 f3 f9 i=>Zb fun g0 g1 g2 g3 g4 g5=>Zb fun g6 g7 g8 g9 h0 h1=>ac fun h2=>d7 fun h=> ?_
  refine aa ?_;obtain ⟨o0,h⟩:=ai h;exact lY
 exact eY
def DE (N:Nat)(c:VG)(a:VW):Option VW:=
 ae (bC (a.length+c.Yi.length)) (some (a++c.Yi))
def qQ (N:Nat)(c:VG):Nat->VW->Int->Option VW
 |0,_,_=>none
 |a+1,a8,a6=>bif decide (a6<(c.m_.XR.length:Int)) then (ae (in64 (2*a6)) (ae (in64 ((2*a6)+2)) (ae (bC (a8.length+([(2*a6)+2]:List Int).length)) (ae (in64 (a6+1)) ((qQ N c a) (a8++([(2*a6)+2]:List Int)) (a6+1)))))) else (DE N c a8)
def qU (c:VG):Option VW:=
 qQ N c N [] 0
theorem HX {N:Nat}{c:VG}{r:VW}(h:qU N c=some r):Okc V5 157 [pV B1 0] ([aQ B1 223 [Y A2 n2 c2,Y A3 n3 c3,Y A4 n4 c4,Y A5 n5 c5,.map (some e),iV c.Yn],aq A2 n2 c2 c.m_.XS,aq A3 n3 c3 c.m_.XR,aX A4 n4 c4 c.Yv,aX A5 n5 c5 c.Yi,cK ax aU e c.Yu]) (fun u p=> ∃z o q,u=Y z o q/\p=[aR z o q r]):=by
 refine av Tryz.func157 ?_;refine aF (fun s L=> ∃a n d f,DE N c a=some r/\s=[(0,pV B1 0),(2,Y none 0 0),(3,Y n d f)]/\L=[aR n d f a,aq A2 n2 c2 c.m_.XS,aq A3 n3 c3 c.m_.XR,aX A4 n4 c4 c.Yv,aX A5 n5 c5 c.Yi,cK ax aU e c.Yu,aQ B1 223 [Y A2 n2 c2,Y A3 n3 c3,Y A4 n4 c4,Y A5 n5 c5,.map (some e),iV c.Yn]]) ?_ ?_
 ·refine aa ?_;refine dU (fun m s L=> ∃a8 a6 l j i,qQ N c m a8 a6=some r/\s=[(0,pV B1 0),(2,Y none 0 0),(3,Y l j i),(10,iV (c.m_.XR.length:Int)),(11,iV a6)]/\L=[aR l j i a8,aq A2 n2 c2 c.m_.XS,aq A3 n3 c3 c.m_.XR,aX A4 n4 c4 c.Yv,aX A5 n5 c5 c.Yi,cK ax aU e c.Yu,aQ B1 223 [Y A2 n2 c2,Y A3 n3 c3,Y A4 n4 c4,Y A5 n5 c5,.map (some e),iV c.Yn]]) N _ _ ⟨[],0,none,0,0,h,J,J⟩ sA ((ck (df .i64) 3 _).trans (cS [0,2,3,4,5,6,1] 7)) ?_;rintro (_|C) _ _ ⟨a8,a6,l,j,i,h,rfl,rfl⟩
  ·exact bO h
  rw [qQ.eq_2] at h;refine aa ?_;refine aH ?_;refine gH J h ?_ ?_<;>intro h
  ·refine sY ?_;obtain ⟨t,h⟩:=ai h;refine gE (gq J J t.1 t.2) ?_;obtain ⟨T,h⟩:=ai h;refine aa ?_;refine gD (cB (R:=(df .i64)) (vss:=[[iV ((2*a6)+2)]]) (xs:=[(2*a6)+2]) J (lQ _) J J (fun _ _ hr=> .cons J All2.nil)) ?_;rintro _ _ ⟨S,Q,P,rfl,rfl⟩;obtain ⟨B,h⟩:=ai h;refine bN (cG 1 0 J J aw J J Vd iE J J B) fun O M K=> ?_
   obtain ⟨H,h⟩:=ai h;exact lY
  exact jY
 rintro _ _ ⟨a,n,d,f,h,rfl,rfl⟩;refine aa ?_;obtain ⟨A,h⟩:=ai h;refine bN (cG 0 4 J J bA J J Vd iE J J A) fun F E D=> ?_
 exact eN
def yy (N:Nat)(a:VW):Option VW:=
 some a
def Eb (a1:Int):Option VW:=
 bif decide (a1<0) then none else (ae (in64 (0 - 0)) (ae (in64 (a1 - (0 - 0))) (bif decide (0<a1 - (0 - 0)) then (ae ((0:Int)<(a1 - (0 - 0))/\(a1 - (0 - 0))<=1099511627776) (yy N ([]:List Int))) else (yy N []))))
theorem Qm {N:Nat}{r:VW}(h:Eb N a1=some r):Okc V5 169 [Y none 0 0,iV a1] ([]) (fun u p=> ∃f d e,u=Y f d e/\p=[aR f d e r]):=by
 refine av Tryz.func169 ?_;refine sZ ?_;refine gH J h ?_ ?_<;>intro h
 ·exact bO h
 refine aa ?_;refine aF (fun s L=> ∃a A3 n3 c3,yy N a=some r/\s=[(0,Y A3 n3 c3),(4,Y none 0 0)]/\L=[aR A3 n3 c3 a]) ?_ ?_
 ·refine aa ?_;refine aJ (sH J Vd) ?_;refine gE (jc J Vd) ?_;obtain ⟨j,h⟩:=ai h;refine aa ?_;obtain ⟨i,h⟩:=ai h;refine aG h ?_ ?_<;>intro h
  ·refine aa ?_;refine gE (sH J Vd) ?_;refine aJ (Fi J Vd size3.out J) ?_;obtain ⟨c,h⟩:=ai h;refine bN (Fd J J Vd Ex iE J c.1 c.2) fun t m o=> ?_
   refine gE (jc J Vd) ?_;refine bN (F1 (R:=(df .i64)) 0 J J Vd size3.out J J) fun q l n=> ?_
   exact jN
  refine aa ?_;exact ⟨_,_,⟨[],none,0,0,h,J,J⟩,sA,(ck (df .i64) 3 _).trans (cS [0] 1)⟩
 rintro _ _ ⟨a,A3,n3,c3,h,rfl,rfl⟩;exact eY
def D0 (N:Nat)(a6:VW):Option VW:=
 some a6
def D5 (a0_0 a0_1:VW):Option VW:=
 (Eb N ((0+(a0_0.length:Int))+(a0_1.length:Int))).bind fun a=>ae (bC (a.length+a0_0.length)) (ae (bC ((a++a0_0).length+a0_1.length)) (D0 N ((a++a0_0)++a0_1)))
def uI (a0_0 a0_1:VW):Option VW:=
 ae (in64 (0+(a0_0.length:Int))) (bif decide (0+(a0_0.length:Int)<0) then none else (ae (in64 ((0+(a0_0.length:Int))+(a0_1.length:Int))) (bif decide ((0+(a0_0.length:Int))+(a0_1.length:Int)<0) then none else (D5 N a0_0 a0_1))))
theorem In {N:Nat}{a0_0 a0_1 r:VW}(h:uI N a0_0 a0_1=some r):Okc V5 118 [.slice (some ⟨B1,0,none⟩) 2 2] ([aQ B1 99 [Y A2 n2 c2,Y A3 n3 c3],aX A2 n2 c2 a0_0,aX A3 n3 c3 a0_1]) (fun u p=> ∃f d e,u=Y f d e/\p=[aR f d e r]):=by
 refine av Tryz.func118 ?_;refine aF (fun s L=>D5 N a0_0 a0_1=some r/\s=[(0,.slice (some ⟨B1,0,none⟩) 2 2),(2,Y none 0 0),(3,iV ((0+(a0_0.length:Int))+(a0_1.length:Int)))]/\L=[aX A2 n2 c2 a0_0,aX A3 n3 c3 a0_1,aQ B1 99 [Y A2 n2 c2,Y A3 n3 c3]]) ?_ ?_
 ·refine aa ?_;refine aJ (jc J Vo) ?_;refine qg 3 ?_;refine fR ?_;refine aa ?_;refine aH ?_;refine d9 J ?_;refine sY ?_;refine aJ (iK J J Vo size99.out (by decide) (by decide)) ?_;obtain ⟨n,h⟩:=ai h;refine aG h ?_ ?_<;>intro h
  ·exact bO h
  refine aa ?_;refine aJ (cY J J (by decide) (by decide)) ?_;refine fR ?_;refine aa ?_;refine aH ?_;refine d9 J ?_;refine sY ?_;refine aJ (iK J J Vo size99.out (by decide) (by decide)) ?_;obtain ⟨m,h⟩:=ai h;refine aG h ?_ ?_<;>intro h
  ·exact bO h
  refine aa ?_;refine aJ (cY J J (by decide) (by decide)) ?_;refine fR ?_;refine aa ?_;refine aH ?_;refine d8 J ?_;exact jY
 rintro _ _ ⟨h,rfl,rfl⟩;refine kG h (fun _ k=>Qm k) fun l E D C h=> ?_
 refine aF (fun s L=> ∃a6 a8 c a,D0 N a6=some r/\s=[(2,Y none 0 0),(6,Y a8 c a)]/\L=[aR a8 c a a6]) ?_ ?_
 ·refine aa ?_;refine aJ (jc J Vo) ?_;refine qg 3 ?_;refine fR ?_;refine aa ?_;refine aH ?_;refine d9 J ?_;refine sY ?_;refine aJ (iK J J Vo size99.out (by decide) (by decide)) ?_;obtain ⟨j,h⟩:=ai h;refine bN (cG 0 1 J J bA J J Vd iE J J j) fun B A z=> ?_
  refine aJ (cY J J (by decide) (by decide)) ?_;refine fR ?_;refine aa ?_;refine aH ?_;refine d9 J ?_;refine sY ?_;refine aJ (iK J J Vo size99.out (by decide) (by decide)) ?_;obtain ⟨i,h⟩:=ai h;refine bN (cG 0 2 J J bA J J Vd iE J J i) fun t q o=> ?_
  refine aJ (cY J J (by decide) (by decide)) ?_;refine fR ?_;refine aa ?_;refine aH ?_;refine d8 J ?_;exact jY
 rintro _ _ ⟨a6,a8,c,a,h,rfl,rfl⟩;exact eY
def DC (N:Nat)(c:VG):Option Bool:=
 some (decide ((c.Yi.length:Int)<(c.Yi.length:Int)))
def Dw (N:Nat)(a6:Int->Option Bool)(c:VG)(d:VW)(a8:Int)(a:VW):Option Bool:=
 ae (in64 (a8+1)) (a6 (a8+1))
def HP (a6:Int->Option Bool)(c:VG)(a8:VW)(e:Int)(d a:VW):Nat->Option Bool
 |0=>none
 |f+1=>bif decide (0<(d.length:Int)) then none else (Dw N a6 c a8 e a)
def qP (N:Nat)(c:VG)(a6 a:VW):Nat->Int->Option Bool
 |0,_=>none
 |i+1,a8=>bif decide (a8<(a6.length:Int)) then ((ak a6 a8).bind fun f=>(jV N c f).bind fun e=>(zQ N e a).bind fun d=>HP N (qP N c a6 a i) c a6 a8 d a N) else (DC N c)
def uk (c:VG):Option Bool:=
 (qU N c).bind fun a=>(uI N c.Yv c.Yi).bind fun a6=>qP N c a6 a N 0
theorem PA {N:Nat}{c:VG}{r:Bool}(h:uk N c=some r):Okc V5 207 [pV B1 0] ([aq A2 n2 c2 c.m_.XS,aq A3 n3 c3 c.m_.XR,aX A4 n4 c4 c.Yv,ab B1 223 [Y A2 n2 c2,Y A3 n3 c3,Y A4 n4 c4,Y A5 n5 c5,.map (some e),iV c.Yn],aR A5 n5 c5 c.Yi,aA ax aU e c.Yu]) (fun u p=>u=.bool r/\p=[ab B1 223 [Y A2 n2 c2,Y A3 n3 c3,Y A4 n4 c4,Y A5 n5 c5,.map (some e),iV c.Yn],aR A5 n5 c5 c.Yi,aA ax aU e c.Yu]):=by
 refine av Tryz.func207 ?_;refine kG h (fun _ k=>HX k) fun f l i j h=> ?_
 refine aF (fun s L=>DC N c=some r/\s=[(0,pV B1 0),(2,.bool false),(3,iV (c.Yi.length:Int))]/\L=[aq A2 n2 c2 c.m_.XS,aq A3 n3 c3 c.m_.XR,aX A4 n4 c4 c.Yv,aR A5 n5 c5 c.Yi,aA ax aU e c.Yu,ab B1 223 [Y A2 n2 c2,Y A3 n3 c3,Y A4 n4 c4,Y A5 n5 c5,.map (some e),iV c.Yn]]) ?_ ?_
 ·refine aH ?_;obtain ⟨a6,K,h⟩:=ad h;refine dx (t:=[(0,pV B1 0),(2,.bool false),(3,iV (c.Yi.length:Int)),(4,Y l i j)]) ?_ cL (ah _);refine fv I 12 [] [9,10,11] [16,17,18,19,20,21,22,23,24,25,26,27] [[],[0],[1],[2],[],[4],[5],[6],[3,7],[8],[9],[]] [aV (pV B1 0),
 aV (pV B1 0),
 aV (pV B1 2),
 aV (Y A4 n4 c4),
 aV (pV B1 0),
 aV (pV B1 0),
 aV (pV B1 3),
 aV (Y A5 n5 c5),
 aX1 (fun (o:Nat)=> .slice (some ⟨o,0,none⟩) 2 2) (fun o=> [ab o 99 [Y A4 n4 c4,Y A5 n5 c5]]),
 aX3 (fun (a8:Option Addr) (d a:Nat)=> Y a8 d a) (fun a8 d a=> [aR a8 d a a6]),
 aV (iV (a6.length:Int)),
 aV (iV 0)] [] (ah _) (fB) I rfl rfl ?_ ?_ ?_
  ·exact fz
  ·refine qE (ay J) ?_;refine bl J ?_ ?_
   ·intro a8 d a;exact dj (ie 0 J aw J Vd) J (bj J (ah _))
   refine bl J ?_ ?_
   ·intro o;refine fi (oR (In K)) J ?_;rintro _ _ ⟨_,⟨H,F,E,rfl,rfl⟩,rfl⟩;exact lp H F E (ah _)
   refine bl J ?_ ?_
   ·refine fi (ke (cs:=[Y A4 n4 c4,Y A5 n5 c5]) J (Kn _ _ _ _ _ _)) J ?_;rintro _ _ ⟨D,rfl,rfl⟩;exact wU D (ah _)
   refine qR (cn 4 J J tj J) ?_;refine qE (bW J Bg) ?_;refine qE (cr J) ?_;refine qE (ay J) ?_;refine qR (cn 4 J J tj J) ?_;refine qE (bW J LK) ?_;refine qE (cr J) ?_;refine qE (ay J) ?_;exact fq
  intro a8 d a;refine eF (t:=[(25,Y a8 d a),(26,iV (a6.length:Int)),(27,iV 0),(0,pV B1 0),(2,.bool false),(3,iV (c.Yi.length:Int)),(4,Y l i j)]) (L':=[aR a8 d a a6,aR l i j f,aq A2 n2 c2 c.m_.XS,aq A3 n3 c3 c.m_.XR,aX A4 n4 c4 c.Yv,ab B1 223 [Y A2 n2 c2,Y A3 n3 c3,Y A4 n4 c4,Y A5 n5 c5,.map (some e),iV c.Yn],aR A5 n5 c5 c.Yi,aA ax aU e c.Yu]) ?_ cL (ah _);refine fw I ?_;refine aa ?_;refine lK (fun m s L=> ∃(n:Int),qP N c a6 f m n=some r/\s=[(0,pV B1 0),(2,.bool false),(3,iV (c.Yi.length:Int)),(4,Y l i j),(25,Y a8 d a),(26,iV (a6.length:Int)),(27,iV n)]/\L=[aR l i j f,aR a8 d a a6,aq A2 n2 c2 c.m_.XS,aq A3 n3 c3 c.m_.XR,aX A4 n4 c4 c.Yv,aR A5 n5 c5 c.Yi,aA ax aU e c.Yu,ab B1 223 [Y A2 n2 c2,Y A3 n3 c3,Y A4 n4 c4,Y A5 n5 c5,.map (some e),iV c.Yn]]) N ?_;rintro C _ _ ⟨n,h,rfl,rfl⟩;rw [qP.eq_2] at h;refine aa ?_;refine aH ?_;refine gH J h ?_ ?_<;>intro h
  ·refine aa ?_;refine aF (fun s L=>Dw N (qP N c a6 f C) c a6 n f=some r/\s=[(0,pV B1 0),(2,.bool false),(3,iV (c.Yi.length:Int)),(4,Y l i j),(25,Y a8 d a),(26,iV (a6.length:Int)),(27,iV n)]/\L=[aR l i j f,aR a8 d a a6,aq A2 n2 c2 c.m_.XS,aq A3 n3 c3 c.m_.XR,aX A4 n4 c4 c.Yv,aR A5 n5 c5 c.Yi,aA ax aU e c.Yu,ab B1 223 [Y A2 n2 c2,Y A3 n3 c3,Y A4 n4 c4,Y A5 n5 c5,.map (some e),iV c.Yn]]) ?_ ?_
   ·refine aa ?_;obtain ⟨X,e2,e3,Z,h⟩:=aI h;refine qy h (fun _ k=>ud k) fun V U T S R Q P h=> ?_
    refine kG h (fun _ k=>Q7 k) fun q B A z h=> ?_
    refine lK (fun m s L=>HP N (qP N c a6 f C) c a6 n q f m=some r/\s=[(0,pV B1 0),(2,.bool false),(3,iV (c.Yi.length:Int)),(4,Y l i j),(25,Y a8 d a),(26,iV (a6.length:Int)),(27,iV n),(35,Y B A z),(36,iV (q.length:Int)),(37,iV 0)]/\L=[aR l i j f,aR a8 d a a6,aR B A z q,aq A2 n2 c2 c.m_.XS,aq A3 n3 c3 c.m_.XR,aX A4 n4 c4 c.Yv,aR A5 n5 c5 c.Yi,aA ax aU e c.Yu,ab B1 223 [Y A2 n2 c2,Y A3 n3 c3,Y A4 n4 c4,Y A5 n5 c5,.map (some e),iV c.Yn]]) N ?_;rintro O _ _ ⟨h,rfl,rfl⟩;rw [HP.eq_2] at h;refine aa ?_;refine aH ?_;refine gH J h ?_ ?_<;>intro h
    ·exact bO h
    exact jY
   rintro _ _ ⟨h,rfl,rfl⟩;refine aa ?_;obtain ⟨M,h⟩:=ai h;exact lY
  exact jY
 rintro _ _ ⟨h,rfl,rfl⟩;exact eY
def IZ (N:Nat)(c a:VX)(a6 a8:VW)(e:VY)(d:Int):Option VG:=
 some (⟨(⟨c,a⟩:Vw),a6,a8,e,d⟩:VG)
def zk (N:Nat):Nat->VX->VX->VW->VW->VY->Int->Option VG
 |0,_,_,_,_,_,_=>none
 |j+1,a8,f,e,d,c,a=>(uk N (⟨(⟨a8,f⟩:Vw),e,d,c,a⟩:VG)).bind fun i=>bif i then ((tY N (⟨(⟨a8,f⟩:Vw),e,d,c,a⟩:VG)).bind fun a6=>(zk N j) a6.m_.XS a6.m_.XR a6.Yv a6.Yi a6.Yu a6.Yn) else (IZ N a8 f e d c a)
def Ew (a8 f:VX)(e d:VW)(c:VY)(a:Int):Option VG:=
 (tY N (⟨(⟨a8,f⟩:Vw),e,d,c,a⟩:VG)).bind fun a6=>zk N N a6.m_.XS a6.m_.XR a6.Yv a6.Yi a6.Yu a6.Yn
def zr (N:Nat)(a6:Int->VX->VX->VW->VW->VY->Int->Option VG)(a2:VW)(a8:Int)(i f:VX)(e d:VW)(c:VY)(a:Int):Option VG:=
 ae (in64 (a8+1)) (a6 (a8+1) i f e d c a)
def zx (N:Nat)(a8:Int->VX->VX->VW->VW->VY->Int->Option VG)(a2:VW)(m:Int)(c:VW):Nat->Int->VX->VX->VW->VW->VY->Int->Option VG
 |0,_,_,_,_,_,_,_=>none
 |o+1,a,l,j,i,f,e,d=>bif decide (a<(c.length:Int)) then ((ak c a).bind fun n=>(mC N (⟨(⟨l,j⟩:Vw),i,f,e,d⟩:VG) n).bind fun a6=>ae (in64 (a+1)) ((zx N a8 a2 m c o) (a+1) a6.m_.XS a6.m_.XR a6.Yv a6.Yi a6.Yu a6.Yn)) else (zr N a8 a2 m l j i f e d)
def kM (N:Nat)(a2:VW):Nat->Int->VX->VX->VW->VW->VY->Int->Option VG
 |0,_,_,_,_,_,_,_=>none
 |m+1,a6,a8,f,e,d,c,a=>bif decide (a6<(a2.length:Int)) then ((ak a2 a6).bind fun l=>(jV N (⟨(⟨a8,f⟩:Vw),e,d,c,a⟩:VG) l).bind fun j=>(lO N j).bind fun i=>zx N (kM N a2 m) a2 a6 i N 0 a8 f e d c a) else (Ew N a8 f e d c a)
def EE (a2:VW)(c a6:VX)(a8 e:VW)(a:VY)(d:Int):Option VG:=
 kM N a2 N 0 c a6 a8 e a d
def zu (N:Nat)(a6:Int->VX->VX->VW->VW->VY->Int->Option VG)(a1:VO)(a8:Int)(a2:VW)(i a:VX)(f e:VW)(d:VY)(c:Int):Option VG:=
 ae (in64 (a8+1)) (a6 (a8+1) i a f e d c)
def nU (N:Nat)(a1:VO)(a2:VW):Nat->Int->VX->VX->VW->VW->VY->Int->Option VG
 |0,_,_,_,_,_,_,_=>none
 |l+1,a8,i,f,e,d,a,c=>bif decide (a8<(a1.length:Int)) then ((ak a1 a8).bind fun m=>(uF N m).bind fun j=>bif j.2 then ((mC N (⟨(⟨i,f⟩:Vw),e,d,a,c⟩:VG) j.1).bind fun a6=>zu N (nU N a1 a2 l) a1 a8 a2 a6.m_.XS a6.m_.XR a6.Yv a6.Yi a6.Yu a6.Yn) else (zu N (nU N a1 a2 l) a1 a8 a2 i f e d a c)) else (EE N a2 i f e d a c)
def r9 (c:Vw)(a1:VO)(a2:VW):Option VG:=
 nU N a1 a2 N 0 c.XS c.XR a2 [] ([]:VY) 0
theorem Rx {N:Nat}{c:Vw}{a1:VO}{r:VG}(h:r9 N c a1 a2=some r):Okc V5 155 [.agg #[Y A1 d c1,Y A2 n2 c2],Y A3 n3 c3,Y A4 n4 c4] ([aq A1 d c1 c.XS,aq A2 n2 c2 c.XR,ap A3 n3 c3 a1,aX A4 n4 c4 a2]) (fun u p=> ∃B0 A1 d c1 A2 n2 c2 A3 n3 c3 A4 n4 c4 M5,u=pV B0 0/\p=[ab B0 223 [Y A1 d c1,Y A2 n2 c2,Y A3 n3 c3,Y A4 n4 c4,.map (some M5),iV r.Yn],aq A1 d c1 r.m_.XS,aq A2 n2 c2 r.m_.XR,aX A3 n3 c3 r.Yv,aR A4 n4 c4 r.Yi,aA ax aU M5 r.Yu]):=by
 refine av Tryz.func155 ?_;intro B5;refine aa ?_;refine gD (vq (ek:=ax) (ev:=aU)) ?_;rintro _ _ ⟨e,rfl,rfl⟩;refine bB fun a=> ?_
 refine aF (fun s L=> ∃o g5 g6 g7 f g8 A9 q c9 g9 h0 h1 h2 h3 h4 h5 h6 Z X,EE N a2 o g5 g6 g7 f g8=some r/\s=[(2,Y A4 n4 c4),(6,.pointer none),(7,pV a 0)]/\L=[aX A4 n4 c4 a2,aq A9 q c9 o,aq g9 h0 h1 g5,aX h2 h3 h4 g6,aR h5 h6 Z g7,aA ax aU X f,ab a 223 [Y A9 q c9,Y g9 h0 h1,Y h2 h3 h4,Y h5 h6 Z,.map (some X),iV g8]]) ?_ ?_
 ·refine aa ?_;refine dU (fun m s L=> ∃n j8 j9 k0 k2 j k3 k4 k5 k6 k7 k8 k9 l0 l1 l2 l3 l4 l5 l6,nU N a1 a2 m n j8 j9 k0 k2 j k3=some r/\s=[(2,Y A4 n4 c4),(6,.pointer none),(7,pV a 0),(21,Y A3 n3 c3),(22,iV (a1.length:Int)),(23,iV n)]/\L=[aX A4 n4 c4 a2,ap A3 n3 c3 a1,aq k4 k5 k6 j8,aq k7 k8 k9 j9,aX l0 l1 l2 k0,aR l3 l4 l5 k2,aA ax aU l6 j,ab a 223 [Y k4 k5 k6,Y k7 k8 k9,Y l0 l1 l2,Y l3 l4 l5,.map (some l6),iV k3]]) N _ _ ⟨0,c.XS,c.XR,a2,[],([]:VY),0,A1,d,c1,A2,n2,c2,A4,n4,c4,none,0,0,e,h,J,J⟩ sA ((Gq 6 J J).trans ((ck (df .i64) 3 _).trans (cS [8,7,5,6,1,0,3,2] 9))) ?_;rintro (_|x6)
  all_goals (refine fun s L=>Zb fun n j8 j9 k0 k2 j=>Zb fun k3 k4 k5 k6 k7 k8=>Zb fun k9 l0 l1 l2 l3 l4=>ac fun l5=>ac fun l6=>d7 fun h=> ?_)
  ·exact bO h
  rw [nU.eq_2] at h;refine aa ?_;refine aH ?_;refine gH J h ?_ ?_<;>intro h
  ·refine aa ?_;refine aF (fun s L=> ∃l7 i l8 l9 m0 m1 m2 m3 m4 m5 m6 m7 m8 m9 n0 n8 o0 o1 o2,zu N (nU N a1 a2 x6) a1 n a2 l7 i l8 l9 m0 m1=some r/\s=[(2,Y A4 n4 c4),(6,.pointer none),(7,pV a 0),(21,Y A3 n3 c3),(22,iV (a1.length:Int)),(23,iV n)]/\L=[aX A4 n4 c4 a2,ap A3 n3 c3 a1,aq m2 m3 m4 l7,aq m5 m6 m7 i,aX m8 m9 n0 l8,aR n8 o0 o1 l9,aA ax aU o2 m0,ab a 223 [Y m2 m3 m4,Y m5 m6 m7,Y m8 m9 n0,Y n8 o0 o1,.map (some o2),iV m1]]) ?_ ?_
   ·refine aa ?_;obtain ⟨S1,x7,x8,x9,h⟩:=aI h;refine bB fun S2=> ?_
    obtain ⟨S3,k,h⟩:=ad h;refine cV (oR (Im k)) ?_;refine gH J h ?_ ?_<;>intro h
    ·refine aa ?_;obtain ⟨S4,k,h⟩:=ad h;refine gD (oC (DF k)) ?_;rintro _ _ ⟨_,⟨S5,S6,S7,S8,S9,T0,T1,T2,T3,T4,T5,T6,T7,rfl,rfl⟩,rfl⟩;exact jY
    exact jY
   refine fun s L=>Zb fun l7 i l8 l9 m0 m1=>Zb fun m2 m3 m4 m5 m6 m7=>Zb fun m8 m9 n0 n8 o0 o1=>ac fun o2=>d7 fun h=> ?_
   refine aa ?_;obtain ⟨T8,h⟩:=ai h;exact lY
  exact jY
 refine fun s L=>Zb fun o g5 g6 g7 f g8=>Zb fun A9 q c9 g9 h0 h1=>Zb fun h2 h3 h4 h5 h6 Z=>ac fun X=>d7 fun h=> ?_
 refine aF (fun s L=> ∃o3 o4 o5 p0 p1 p2 p3 p4 p5 p6 p7 p8 q0 q1 q2 q3 q4 q5 q6,Ew N o3 o4 o5 p0 p1 p2=some r/\s=[(6,.pointer none),(7,pV a 0)]/\L=[aq p3 p4 p5 o3,aq p6 p7 p8 o4,aX q0 q1 q2 o5,aR q3 q4 q5 p0,aA ax aU q6 p1,ab a 223 [Y p3 p4 p5,Y p6 p7 p8,Y q0 q1 q2,Y q3 q4 q5,.map (some q6),iV p2]]) ?_ ?_
 ·refine aa ?_;refine dU (fun m s L=> ∃a6 V U T S R Q P O M K H F E D C B A z t,kM N a2 m a6 V U T S R Q=some r/\s=[(6,.pointer none),(7,pV a 0),(37,Y A4 n4 c4),(38,iV (a2.length:Int)),(39,iV a6)]/\L=[aX A4 n4 c4 a2,aq P O M V,aq K H F U,aX E D C T,aR B A z S,aA ax aU t R,ab a 223 [Y P O M,Y K H F,Y E D C,Y B A z,.map (some t),iV Q]]) N _ _ ⟨0,o,g5,g6,g7,f,g8,A9,q,c9,g9,h0,h1,h2,h3,h4,h5,h6,Z,X,h,J,J⟩ sA (cS [0,1,2,3,4,5,6] 7) ?_;rintro (_|x2)
  all_goals (refine fun s L=>Zb fun a6 V U T S R=>Zb fun Q P O M K H=>Zb fun F E D C B A=>ac fun z=>ac fun t=>d7 fun h=> ?_)
  ·exact bO h
  rw [kM.eq_2] at h;refine aa ?_;refine aH ?_;refine gH J h ?_ ?_<;>intro h
  ·refine aa ?_;refine aF (fun s L=> ∃q7 q8 q9 r0 r1 r2 r3 r4 r5 r6 s0 s1 s2 s3 s4 s5 s6 s7 s8,zr N (kM N a2 x2) a2 a6 q7 q8 q9 r0 r1 r2=some r/\s=[(6,.pointer none),(7,pV a 0),(37,Y A4 n4 c4),(38,iV (a2.length:Int)),(39,iV a6)]/\L=[aX A4 n4 c4 a2,aq r3 r4 r5 q7,aq r6 s0 s1 q8,aX s2 s3 s4 q9,aR s5 s6 s7 r0,aA ax aU s8 r1,ab a 223 [Y r3 r4 r5,Y r6 s0 s1,Y s2 s3 s4,Y s5 s6 s7,.map (some s8),iV r2]]) ?_ ?_
   ·refine aa ?_;obtain ⟨T9,y0,y1,y2,h⟩:=aI h;refine aa ?_;obtain ⟨U1,k,h⟩:=ad h;refine OE (oC (ud k)) fun U2 V1 V2 V6 V7 V8=> ?_
    obtain ⟨s9,k,h⟩:=ad h;refine bN (oR (pG k)) fun x3 x4 x5=> ?_
    refine dU (fun m s L=> ∃t1 t2 u0 u1 u2 u3 u4 u5 u6 u7 u8 u9 v1 v2 v6 v7 v8 w0 w1 w2,zx N (kM N a2 x2) a2 a6 s9 m t1 t2 u0 u1 u2 u3 u4=some r/\s=[(6,.pointer none),(7,pV a 0),(37,Y A4 n4 c4),(38,iV (a2.length:Int)),(39,iV a6),(46,Y x3 x4 x5),(47,iV (s9.length:Int)),(48,iV t1)]/\L=[aX A4 n4 c4 a2,aR x3 x4 x5 s9,aq u5 u6 u7 t2,aq u8 u9 v1 u0,aX v2 v6 v7 u1,aR v8 w0 w1 u2,aA ax aU w2 u3,ab a 223 [Y u5 u6 u7,Y u8 u9 v1,Y v2 v6 v7,Y v8 w0 w1,.map (some w2),iV u4]]) N _ _ ⟨0,V,U,T,S,R,Q,P,O,M,K,H,F,E,D,C,B,A,z,t,h,J,J⟩ sA (cS [6,0,7,8,9,4,5,3] 10) ?_;rintro (_|V9)
    all_goals (refine fun s L=>Zb fun t1 t2 u0 u1 u2 u3=>Zb fun u4 u5 u6 u7 u8 u9=>Zb fun v1 v2 v6 v7 v8 w0=>ac fun w1=>ac fun w2=>d7 fun h=> ?_)
    ·exact bO h
    rw [zx.eq_2] at h;refine aa ?_;refine aH ?_;refine gH J h ?_ ?_<;>intro h
    ·refine sY ?_;obtain ⟨W0,y3,y4,y5,h⟩:=aI h;refine aa ?_;obtain ⟨W1,k,h⟩:=ad h;refine gD (oC (DF k)) ?_;rintro _ _ ⟨_,⟨W2,W3,W4,W5,W6,W8,W9,X0,X1,X2,X3,X4,X5,rfl,rfl⟩,rfl⟩;refine aa ?_;obtain ⟨X6,h⟩:=ai h;exact lY
    exact jY
   refine fun s L=>Zb fun q7 q8 q9 r0 r1 r2=>Zb fun r3 r4 r5 r6 s0 s1=>Zb fun s2 s3 s4 s5 s6 s7=>ac fun s8=>d7 fun h=> ?_
   refine aa ?_;obtain ⟨X7,h⟩:=ai h;exact lY
  exact jY
 refine fun s L=>Zb fun o3 o4 o5 p0 p1 p2=>Zb fun p3 p4 p5 p6 p7 p8=>Zb fun q0 q1 q2 q3 q4 q5=>ac fun q6=>d7 fun h=> ?_
 refine aa ?_;obtain ⟨l,k,h⟩:=ad h;refine gD (oC (HG k)) ?_;rintro _ _ ⟨_,⟨y6,y7,y8,y9,z1,z2,z6,A0,A8,B4,B9,C1,C2,rfl,rfl⟩,rfl⟩;refine aa ?_;refine aF (fun s L=> ∃w3 w4 a8 b0 b5 b6 w5 w6 w7 w8 w9 x1 b7 b9 c0 c8 d0 d1 d2,IZ N w3 w4 a8 b0 b5 b6=some r/\s=[(6,.pointer none),(7,pV a 0)]/\L=[aq w5 w6 w7 w3,aq w8 w9 x1 w4,aX b7 b9 c0 a8,aR c8 d0 d1 b0,aA ax aU d2 b5,ab a 223 [Y w5 w6 w7,Y w8 w9 x1,Y b7 b9 c0,Y c8 d0 d1,.map (some d2),iV b6]]) ?_ ?_
 ·refine aa ?_;refine dU (fun m s L=> ∃d3 d4 e0 e1 e2 e3 e4 e5 e6 e7 e8 e9 f1 f2 f3 f9 g0 g1 g2,zk N m d3 d4 e0 e1 e2 e3=some r/\s=[(6,.pointer none),(7,pV a 0)]/\L=[aq e4 e5 e6 d3,aq e7 e8 e9 d4,aX f1 f2 f3 e0,aR f9 g0 g1 e1,aA ax aU g2 e2,ab a 223 [Y e4 e5 e6,Y e7 e8 e9,Y f1 f2 f3,Y f9 g0 g1,.map (some g2),iV e3]]) N _ _ ⟨l.m_.XS,l.m_.XR,l.Yv,l.Yi,l.Yu,l.Yn,y6,y7,y8,y9,z1,z2,z6,A0,A8,B4,B9,C1,C2,h,J,J⟩ sA (cS [1,2,3,4,5,0] 9) ?_;rintro (_|L0)
  all_goals (refine fun s L=>Zb fun d3 d4 e0 e1 e2 e3=>Zb fun e4 e5 e6 e7 e8 e9=>Zb fun f1 f2 f3 f9 g0 g1=>ac fun g2=>d7 fun h=> ?_)
  ·exact bO h
  rw [zk.eq_2] at h;refine sZ ?_;obtain ⟨L1,k,h⟩:=ad h;refine cV (oC (PA k)) ?_;refine gH J h ?_ ?_<;>intro h
  ·refine aa ?_;obtain ⟨L2,k,h⟩:=ad h;refine gD (oC (HG k)) ?_;rintro _ _ ⟨_,⟨L3,L4,L5,L6,L7,L8,L9,M0,M1,M4,M8,Q1,S0,rfl,rfl⟩,rfl⟩;exact lY
  exact jY
 refine fun s L=>Zb fun w3 w4 a8 b0 b5 b6=>Zb fun w5 w6 w7 w8 w9 x1=>Zb fun b7 b9 c0 c8 d0 d1=>ac fun d2=>d7 fun h=> ?_
 exact eY
def HI (N:Nat)(c:VG)(a:VW):Option VW:=
 some a
def xA (N:Nat)(a6:VW->Int->Int->Int->Option VW)(c:VG)(a:Int)(a8:VW)(e d:Int):Option VW:=
 ae (in64 (a+1)) (a6 a8 e d (a+1))
def nB (N:Nat)(c:VG):Nat->VW->Int->Int->Int->Option VW
 |0,_,_,_,_=>none
 |e+1,d,a6,a8,a=>bif decide (a<(c.Yi.length:Int)) then ((ak c.Yi a).bind fun i=>(jV N c i).bind fun f=>bif decide (f.XW=0) then (ae (in64 (2*a6)) (ae (in64 ((2*a6)+1)) (ae (bC (d.length+([(2*a6)+1]:List Int).length)) (ae (in64 (a6+1)) (xA N (nB N c e) c a (d++([(2*a6)+1]:List Int)) (a6+1) a8))))) else (ae (in64 (2*a8)) (ae (in64 ((2*a8)+2)) (ae (bC (d.length+([(2*a8)+2]:List Int).length)) (ae (in64 (a8+1)) (xA N (nB N c e) c a (d++([(2*a8)+2]:List Int)) a6 (a8+1))))))) else (HI N c d)
def t7 (c:VG):Option VW:=
 nB N c N [] 0 (c.m_.XR.length:Int) 0
theorem O5 {N:Nat}{c:VG}{r:VW}(h:t7 N c=some r):Okc V5 156 [pV B1 0] ([aq A2 n2 c2 c.m_.XS,aq A3 n3 c3 c.m_.XR,aX A4 n4 c4 c.Yv,ab B1 223 [Y A2 n2 c2,Y A3 n3 c3,Y A4 n4 c4,Y A5 n5 c5,.map (some e),iV c.Yn],aR A5 n5 c5 c.Yi,aA ax aU e c.Yu]) (fun u p=> ∃a6 a8 M,u=Y a6 a8 M/\p=[aR a6 a8 M r,ab B1 223 [Y A2 n2 c2,Y A3 n3 c3,Y A4 n4 c4,Y A5 n5 c5,.map (some e),iV c.Yn],aR A5 n5 c5 c.Yi,aA ax aU e c.Yu]):=by
 refine av Tryz.func156 ?_;refine dY [] ?_;refine aa ?_;refine aF (fun s L=> ∃i F j B,HI N c i=some r/\s=[(2,Y none 0 0),(3,Y F j B)]/\L=[aR F j B i,aq A2 n2 c2 c.m_.XS,aq A3 n3 c3 c.m_.XR,aX A4 n4 c4 c.Yv,aR A5 n5 c5 c.Yi,aA ax aU e c.Yu,ab B1 223 [Y A2 n2 c2,Y A3 n3 c3,Y A4 n4 c4,Y A5 n5 c5,.map (some e),iV c.Yn]]) ?_ ?_
 ·refine aa ?_;refine dU (fun m s L=> ∃E f d a D C A,nB N c m E f d a=some r/\s=[(0,pV B1 0),(2,Y none 0 0),(3,Y D C A),(4,iV f),(5,iV d),(17,Y A5 n5 c5),(18,iV (c.Yi.length:Int)),(19,iV a)]/\L=[aR D C A E,aR A5 n5 c5 c.Yi,aq A2 n2 c2 c.m_.XS,aq A3 n3 c3 c.m_.XR,aX A4 n4 c4 c.Yv,aA ax aU e c.Yu,ab B1 223 [Y A2 n2 c2,Y A3 n3 c3,Y A4 n4 c4,Y A5 n5 c5,.map (some e),iV c.Yn]]) N _ _ ⟨[],0,(c.m_.XR.length:Int),0,none,0,0,h,J,J⟩ sA ((ck (df .i64) 3 _).trans (cS [0,5,1,2,3,6,4] 7)) ?_;rintro (_|O) _ _ ⟨E,f,d,a,D,C,A,h,rfl,rfl⟩
  ·exact bO h
  rw [nB.eq_2] at h;refine aa ?_;refine aH ?_;refine gH J h ?_ ?_<;>intro h
  ·refine aa ?_;refine aF (fun s L=> ∃z t q o n l,xA N (nB N c O) c a z t q=some r/\s=[(0,pV B1 0),(2,Y none 0 0),(3,Y o n l),(4,iV t),(5,iV q),(17,Y A5 n5 c5),(18,iV (c.Yi.length:Int)),(19,iV a)]/\L=[aR o n l z,aR A5 n5 c5 c.Yi,aq A2 n2 c2 c.m_.XS,aq A3 n3 c3 c.m_.XR,aX A4 n4 c4 c.Yv,aA ax aU e c.Yu,ab B1 223 [Y A2 n2 c2,Y A3 n3 c3,Y A4 n4 c4,Y A5 n5 c5,.map (some e),iV c.Yn]]) ?_ ?_
   ·refine aa ?_;obtain ⟨e8,e3,e4,e5,h⟩:=aI h;refine aa ?_;obtain ⟨e9,k,h⟩:=ad h;refine gD (oC (ud k)) ?_;rintro _ _ ⟨_,⟨f1,f2,f3,f9,g0,g1,rfl,rfl⟩,rfl⟩;refine aJ (vV J (aan _ _ _ _ _ _ _ _ _ _)) ?_;refine gH J h ?_ ?_<;>intro h
    ·refine aa ?_;obtain ⟨K,h⟩:=ai h;refine gE (gq J J K.1 K.2) ?_;obtain ⟨g2,h⟩:=ai h;refine aa ?_;refine gD (cB (R:=(df .i64)) (vss:=[[iV ((2*f)+1)]]) (xs:=[(2*f)+1]) J (lQ _) J J (fun _ _ hr=> .cons J All2.nil)) ?_;rintro _ _ ⟨g3,g4,g5,rfl,rfl⟩;obtain ⟨Q,h⟩:=ai h;refine bN (cG 6 0 J J aw J J Vd iE J J Q) fun g6 g7 g8=> ?_
     obtain ⟨g9,h⟩:=ai h;exact jY
    refine aa ?_;obtain ⟨H,h⟩:=ai h;refine gE (gq J J H.1 H.2) ?_;obtain ⟨h0,h⟩:=ai h;refine aa ?_;refine gD (cB (R:=(df .i64)) (vss:=[[iV ((2*d)+2)]]) (xs:=[(2*d)+2]) J (lQ _) J J (fun _ _ hr=> .cons J All2.nil)) ?_;rintro _ _ ⟨h1,h2,Z,rfl,rfl⟩;obtain ⟨P,h⟩:=ai h;refine bN (cG 6 0 J J aw J J Vd iE J J P) fun X V U=> ?_
    obtain ⟨T,h⟩:=ai h;exact jY
   rintro _ _ ⟨z,t,q,o,n,l,h,rfl,rfl⟩;refine aa ?_;obtain ⟨S,h⟩:=ai h;exact lY
  exact jY
 rintro _ _ ⟨i,F,j,B,h,rfl,rfl⟩;exact eY
def pB (N:Nat)(c:VL)(a1:VW)(a2:VO):Option (VL×VO):=
 bif decide (c.no=8) then none else (bif decide (c.no=10) then none else (some (c,a2)))
theorem IM {N:Nat}{c:VL}{a1:VW}{a2:VO}{r:VL×VO}(h:pB N c a1 a2=some r):Okc V5 159 [.agg #[iV c.no,iV c.XV,iV c.XU,iV c.XW,Y A1 d c1,Y A2 n2 c2],Y A3 n3 c3,Y A4 n4 c4] ([ap A1 d c1 c.XQ,ap A2 n2 c2 c.XP,aX A3 n3 c3 a1,ap A4 n4 c4 a2]) (fun u p=> ∃f a e A1 d c1 A2 n2 c2,u=.tuple #[.agg #[iV r.1.no,iV r.1.XV,iV r.1.XU,iV r.1.XW,Y f a e,Y A1 d c1],Y A2 n2 c2]/\p=[ap f a e r.1.XQ,ap A1 d c1 r.1.XP,ap A2 n2 c2 r.2]):=by
 refine av Tryz.func159 ?_;intro i;refine bB fun B6=> ?_
 refine sZ ?_;refine gH J h ?_ ?_<;>intro h
 ·exact bO h
 refine aG h ?_ ?_<;>intro h
 ·exact bO h
 exact eY
def Eh (N:Nat)(a6:VL)(a8 a:VO):Option VL:=
 some (⟨a6.no,a6.XV,a6.XU,a6.XW,a8,a⟩:VL)
def Ek (c:V0)(a6:VO)(a8:VL)(a:VO):Option VL:=
 Eh N a8 a6 a
def yT (N:Nat)(a6:VO->Int->Option VL)(e:VL)(a8:Int)(c:V0)(d a:VO):Option VL:=
 ae (in64 (a8+1)) (a6 a (a8+1))
def nR (N:Nat)(a6:VL)(a:V0)(d:VO):Nat->VO->Int->Option VL
 |0,_,_=>none
 |i+1,c,a8=>bif decide (a8<(a6.XP.length:Int)) then ((ak c a8).bind fun e=>(bif (lk a e.N).isSome then ((rQ N e).bind fun l=>some l) else (some false)).bind fun j=>bif j then ((ak c a8).bind fun f=>yT N (nR N a6 a d i) a6 a8 a d (List.set c a8.toNat (⟨f.no,(lk a e.N).getD 0,f.S⟩:VH))) else (yT N (nR N a6 a d i) a6 a8 a d c)) else (Ek N a d a6 c)
def En (a:V0)(a6:VL)(a8:VO):Option VL:=
 nR N a6 a a8 N a6.XP 0
def ze (N:Nat)(a6:VO->Int->Option VL)(d:VL)(a8:Int)(c:V0)(a:VO):Option VL:=
 ae (in64 (a8+1)) (a6 a (a8+1))
def nQ (N:Nat)(a6:VL)(a:V0):Nat->VO->Int->Option VL
 |0,_,_=>none
 |f+1,c,a8=>bif decide (a8<(a6.XQ.length:Int)) then ((ak c a8).bind fun d=>(bif (lk a d.N).isSome then ((rQ N d).bind fun j=>some j) else (some false)).bind fun i=>bif i then ((ak c a8).bind fun e=>ze N (nQ N a6 a f) a6 a8 a (List.set c a8.toNat (⟨e.no,(lk a d.N).getD 0,e.S⟩:VH))) else (ze N (nQ N a6 a f) a6 a8 a c)) else (En N a a6 c)
def zA (c:VL)(a:V0):Option VL:=
 (iP N c).bind fun a6=>nQ N a6 a N a6.XQ 0
def uO (N:Nat)(a6:V0->Int->Option VL)(a1:VW)(a8:Int)(a2:VW)(c:VL)(a:V0):Option VL:=
 ae (in64 (a8+1)) (a6 a (a8+1))
def mK (N:Nat)(a1 a2:VW)(c:VL):Nat->V0->Int->Option VL
 |0,_,_=>none
 |d+1,a,a6=>bif decide (a6<(a1.length:Int)) then ((ak a1 a6).bind fun a8=>bif (lk a a8).isSome then (uO N (mK N a1 a2 c d) a1 a6 a2 c a) else (bif decide (a6<(a2.length:Int)) then ((ak a2 a6).bind fun e=>uO N (mK N a1 a2 c d) a1 a6 a2 c (dp (dp a a8 a8) a8 e)) else (uO N (mK N a1 a2 c d) a1 a6 a2 c (dp a a8 a8)))) else (zA N c a)
def lJ (c:VL)(a1 a2:VW):Option VL:=
 mK N a1 a2 c N ([]:V0) 0
theorem Es {N:Nat}{c:VL}{a1:VW}{r:VL}(h:lJ N c a1 a2=some r):Okc V5 160 [.agg #[iV c.no,iV c.XV,iV c.XU,iV c.XW,Y A1 d c1,Y A2 n2 c2],Y A3 n3 c3,Y A4 n4 c4] ([ap A1 d c1 c.XQ,ap A2 n2 c2 c.XP,aX A3 n3 c3 a1,aX A4 n4 c4 a2]) (fun u p=> ∃A0 n0 c0 A1 d c1,u=.agg #[iV r.no,iV r.XV,iV r.XU,iV r.XW,Y A0 n0 c0,Y A1 d c1]/\p=[aj A0 n0 c0 r.XQ,aj A1 d c1 r.XP]):=by
 refine av Tryz.func160 ?_;intro f;refine bB fun B6=> ?_
 refine gD (R4 (ek:=ax) (ev:=cp) J Vn) ?_;rintro _ _ ⟨M7,rfl,rfl⟩;refine aa ?_;refine aF (fun s L=> ∃e,zA N c e=some r/\s=[(3,pV f 0),(6,pV B6 0),(7,.map (some M7))]/\L=[aA ax cp M7 e,ap A1 d c1 c.XQ,ap A2 n2 c2 c.XP,ab f 45 (bw c A1 d c1 A2 n2 c2),ab B6 45 [iV 0,iV 0,iV 0,iV 0,Y none 0 0,Y none 0 0]]) ?_ ?_
 ·refine aa ?_;refine lK (fun m s L=> ∃(g4:V0) (U:Int),mK N a1 a2 c m g4 U=some r/\s=[(2,Y A4 n4 c4),(3,pV f 0),(6,pV B6 0),(7,.map (some M7)),(21,Y A3 n3 c3),(22,iV (a1.length:Int)),(23,iV U)]/\L=[aX A4 n4 c4 a2,aA ax cp M7 g4,aX A3 n3 c3 a1,ap A1 d c1 c.XQ,ap A2 n2 c2 c.XP,ab f 45 (bw c A1 d c1 A2 n2 c2),ab B6 45 [iV 0,iV 0,iV 0,iV 0,Y none 0 0,Y none 0 0]]) N ?_;rintro i5 _ _ ⟨g4,U,h,rfl,rfl⟩;rw [mK.eq_2] at h;refine aa ?_;refine aH ?_;refine gH J h ?_ ?_<;>intro h
  ·refine aa ?_;refine aF (fun s L=> ∃g5,uO N (mK N a1 a2 c i5) a1 U a2 c g5=some r/\s=[(2,Y A4 n4 c4),(3,pV f 0),(6,pV B6 0),(7,.map (some M7)),(21,Y A3 n3 c3),(22,iV (a1.length:Int)),(23,iV U)]/\L=[aX A4 n4 c4 a2,aA ax cp M7 g5,aX A3 n3 c3 a1,ap A1 d c1 c.XQ,ap A2 n2 c2 c.XP,ab f 45 (bw c A1 d c1 A2 n2 c2),ab B6 45 [iV 0,iV 0,iV 0,iV 0,Y none 0 0,Y none 0 0]]) ?_ ?_
   ·refine aa ?_;obtain ⟨g0,i6,i7,i8,h⟩:=aI h;refine sY ?_;refine fS (sC (a:=g0) (z:=0) 1 J sN J J Vn (jy Ex) zero3.out) ?_;refine gH J h ?_ ?_<;>intro h
    ·exact jY
    refine aa ?_;refine fm (pJ (a:=g0) (b:=g0) 1 J J J J Vn (jy Ex)) ?_;refine gH J h ?_ ?_<;>intro h
    ·refine aa ?_;obtain ⟨i9,j0,j1,j2,h⟩:=aI h;refine aa ?_;refine fm (pJ (a:=g0) (b:=i9) 1 J J J J Vn (jy Ex)) ?_;exact jN
    exact jY
   rintro _ _ ⟨g5,h,rfl,rfl⟩;refine aa ?_;obtain ⟨k5,h⟩:=ai h;exact lY
  exact jY
 rintro _ _ ⟨e,h,rfl,rfl⟩;refine qA h (fun _ k=>mN k) fun a6 j3 j4 j5 t q o h=> ?_
 refine aF (fun s L=> ∃g6 g7 g8 g9 h0 h1 h2 h3,Eh N a6 g6 g7=some r/\s=[(3,pV f 0),(6,pV B6 0)]/\L=[aj g8 g9 h0 g6,aj h1 h2 h3 g7,ab f 45 (bw a6 g8 g9 h0 h1 h2 h3),ab B6 45 [iV 0,iV 0,iV 0,iV 0,Y none 0 0,Y none 0 0]]) ?_ ?_
 ·refine aa ?_;refine gB (ke (cs:=[Y j3 j4 j5,Y t q o]) J (ox _ _ _ _ _ _)) fun l=> ?_
  refine aJ (jc J Vp) ?_;refine qg 3 ?_;refine fR ?_;refine aa ?_;refine aH ?_;refine d9 J ?_;refine aa ?_;refine aF (fun s L=> ∃n a8 j i,En N e a6 n=some r/\s=[(3,pV f 0),(6,pV B6 0),(7,.map (some M7)),(55,.slice (some ⟨l,0,none⟩) 2 2),(56,iV 2),(57,iV 0)]/\L=[aA ax cp M7 e,aj a8 j i n,aj t q o a6.XP,ab f 45 (bw a6 a8 j i t q o),ab B6 45 [iV 0,iV 0,iV 0,iV 0,Y none 0 0,Y none 0 0],ab l 43 [Y a8 j i,Y t q o]]) ?_ ?_
  ·refine aa ?_;refine aJ (iK J J Vp size43.out (by decide) (by decide)) ?_;refine lK (fun m s L=> ∃(h4:VO) (T:Int) (Q:Option Addr) (P O:Nat),nQ N a6 e m h4 T=some r/\s=[(3,pV f 0),(6,pV B6 0),(7,.map (some M7)),(13,Y Q P O),(55,.slice (some ⟨l,0,none⟩) 2 2),(56,iV 2),(57,iV 0),(61,Y Q P O),(62,iV (a6.XQ.length:Int)),(63,iV T)]/\L=[aA ax cp M7 e,aj Q P O h4,aj t q o a6.XP,ab f 45 (bw a6 Q P O t q o),ab B6 45 [iV 0,iV 0,iV 0,iV 0,Y none 0 0,Y none 0 0],ab l 43 [Y Q P O,Y t q o]]) N ?_;rintro j6 _ _ ⟨h4,T,Q,P,O,h,rfl,rfl⟩;rw [nQ.eq_2] at h;refine aa ?_;refine aH ?_;refine gH J h ?_ ?_<;>intro h
   ·refine aa ?_;refine aF (fun s L=> ∃h5 M K H,ze N (nQ N a6 e j6) a6 T e h5=some r/\s=[(3,pV f 0),(6,pV B6 0),(7,.map (some M7)),(13,Y M K H),(55,.slice (some ⟨l,0,none⟩) 2 2),(56,iV 2),(57,iV 0),(61,Y M K H),(62,iV (a6.XQ.length:Int)),(63,iV T)]/\L=[aA ax cp M7 e,aj M K H h5,aj t q o a6.XP,ab f 45 (bw a6 M K H t q o),ab B6 45 [iV 0,iV 0,iV 0,iV 0,Y none 0 0,Y none 0 0],ab l 43 [Y M K H,Y t q o]]) ?_ ?_
    ·refine aa ?_;obtain ⟨h6,j7,j8,j9,h⟩:=aI h;refine bB fun k6=> ?_
     refine fS (sC (a:=h6.N) (z:=0) 1 J sN J J Vn (jy Ex) zero3.out) ?_;refine bF 3 79 76 h (fun _ k7 h=> ?_) fun k8 h=> ?_
     ·refine cR h (fun _ k=>EB k) fun k9 h=> ?_
      exact gY
     refine aG h ?_ ?_<;>intro h
     ·refine aa ?_;obtain ⟨i3,e9,f1,h7,h⟩:=aI h;refine aa ?_;refine gR (dc 2 J aw J (toNat_lt e9 f1) wr) ?_;refine fm (dX (us:=[iV ((lk e h6.N).getD 0)]) (z:=(⟨i3.no,(lk e h6.N).getD 0,i3.S⟩:VH)) 2 J J J J size3.out J (toNat_lt e9 f1) J (fun S w vs xk hk hr ho=>by obtain rfl:=Xx (hk.symm.trans h7);rw [show _=_ from hr];rfl)) ?_;exact jN
     exact jY
    rintro _ _ ⟨h5,M,K,H,h,rfl,rfl⟩;refine aa ?_;obtain ⟨l0,h⟩:=ai h;exact lY
   exact jY
  rintro _ _ ⟨n,a8,j,i,h,rfl,rfl⟩;refine aa ?_;refine aJ (cY J J (by decide) (by decide)) ?_;refine fR ?_;refine aa ?_;refine aH ?_;refine d9 J ?_;refine aa ?_;refine aF (fun s L=> ∃h8 Z X V,Ek N e n a6 h8=some r/\s=[(3,pV f 0),(6,pV B6 0),(7,.map (some M7)),(55,.slice (some ⟨l,0,none⟩) 2 2),(56,iV 2),(57,iV 1)]/\L=[aA ax cp M7 e,aj a8 j i n,aj Z X V h8,ab f 45 (bw a6 a8 j i Z X V),ab B6 45 [iV 0,iV 0,iV 0,iV 0,Y none 0 0,Y none 0 0],ab l 43 [Y a8 j i,Y Z X V]]) ?_ ?_
  ·refine aa ?_;refine aJ (iK J J Vp size43.out (by decide) (by decide)) ?_;refine lK (fun m s L=> ∃(h9:VO) (R:Int) (F:Option Addr) (E D:Nat),nR N a6 e n m h9 R=some r/\s=[(3,pV f 0),(6,pV B6 0),(7,.map (some M7)),(13,Y F E D),(55,.slice (some ⟨l,0,none⟩) 2 2),(56,iV 2),(57,iV 1),(61,Y F E D),(62,iV (a6.XP.length:Int)),(63,iV R)]/\L=[aA ax cp M7 e,aj F E D h9,aj a8 j i n,ab f 45 (bw a6 a8 j i F E D),ab B6 45 [iV 0,iV 0,iV 0,iV 0,Y none 0 0,Y none 0 0],ab l 43 [Y a8 j i,Y F E D]]) N ?_;rintro k0 _ _ ⟨h9,R,F,E,D,h,rfl,rfl⟩;rw [nR.eq_2] at h;refine aa ?_;refine aH ?_;refine gH J h ?_ ?_<;>intro h
   ·refine aa ?_;refine aF (fun s L=> ∃i0 C B A,yT N (nR N a6 e n k0) a6 R e n i0=some r/\s=[(3,pV f 0),(6,pV B6 0),(7,.map (some M7)),(13,Y C B A),(55,.slice (some ⟨l,0,none⟩) 2 2),(56,iV 2),(57,iV 1),(61,Y C B A),(62,iV (a6.XP.length:Int)),(63,iV R)]/\L=[aA ax cp M7 e,aj C B A i0,aj a8 j i n,ab f 45 (bw a6 a8 j i C B A),ab B6 45 [iV 0,iV 0,iV 0,iV 0,Y none 0 0,Y none 0 0],ab l 43 [Y a8 j i,Y C B A]]) ?_ ?_
    ·refine aa ?_;obtain ⟨i1,k2,k3,k4,h⟩:=aI h;refine bB fun l1=> ?_
     refine fS (sC (a:=i1.N) (z:=0) 1 J sN J J Vn (jy Ex) zero3.out) ?_;refine bF 3 79 76 h (fun _ l2 h=> ?_) fun l3 h=> ?_
     ·refine cR h (fun _ k=>EB k) fun l4 h=> ?_
      exact gY
     refine aG h ?_ ?_<;>intro h
     ·refine aa ?_;obtain ⟨i4,f3,f9,i2,h⟩:=aI h;refine aa ?_;refine gR (dc 2 J aw J (toNat_lt f3 f9) wr) ?_;refine fm (dX (us:=[iV ((lk e i1.N).getD 0)]) (z:=(⟨i4.no,(lk e i1.N).getD 0,i4.S⟩:VH)) 2 J J J J size3.out J (toNat_lt f3 f9) J (fun S w vs xk hk hr ho=>by obtain rfl:=Xx (hk.symm.trans i2);rw [show _=_ from hr];rfl)) ?_;exact jN
     exact jY
    rintro _ _ ⟨i0,C,B,A,h,rfl,rfl⟩;refine aa ?_;obtain ⟨l5,h⟩:=ai h;exact lY
   exact jY
  rintro _ _ ⟨h8,Z,X,V,h,rfl,rfl⟩;refine aa ?_;refine aJ (cY J J (by decide) (by decide)) ?_;refine fR ?_;refine aa ?_;refine aH ?_;refine d8 J ?_;exact jY
 rintro _ _ ⟨g6,g7,g8,g9,h0,h1,h2,h3,h,rfl,rfl⟩;exact eY
theorem Qu {r:VL}: ∀v post,((fun (u:Value) (post:V3)=> ∃f a e A1 d c1,u=.agg #[iV r.no,iV r.XV,iV r.XU,iV r.XW,Y f a e,Y A1 d c1]/\post=[aj f a e r.XQ,aj A1 d c1 r.XP])) v post-> ∀c∈post,bP c:=by
 rintro _ _ ⟨_,_,_,_,_,_,rfl,rfl⟩;exact t9 iU (t9 iU (aW))
def pD (c:VO)(a1 a2:VW):Option VO:=
 (lJ N (⟨0,0,0,0,[],c⟩:VL) a1 a2).bind fun a=>some a.XP
theorem IS {N:Nat}{c:VO}{a1:VW}{r:VO}(h:pD N c a1 a2=some r):Okc V5 163 [Y A1 d c1,Y A2 n2 c2,Y A3 n3 c3] ([ap A1 d c1 c,aX A2 n2 c2 a1,aX A3 n3 c3 a2]) (fun u p=> ∃f a e,u=Y f a e/\p=[aj f a e r]):=by
 refine gQ Tryz.func163 J J ?_;simp only [fe];refine G ?_;refine gE (iW J (bld_45_5 _ _ _).out) ?_;refine G ?_;obtain ⟨j,k,h⟩:=ad h;refine gD (co (Es k) J (t9 (LL) (t9 (bK (i:=0) J J) (t9 (bK (i:=1) J J) (t9 (bK (i:=2) J J) aW)))) Qu) ?_;rintro _ _ ⟨_,⟨A5,n5,c5,A6,n6,c6,rfl,rfl⟩,rfl⟩;refine gE (vV J (FZ _ _ _ _ _ _ _ _ _ _)) ?_;refine G ?_;obtain rfl:=bn h;exact dV J J (cS [1] 5) ⟨_,_,_,J,J⟩
end Go.Proofs.YthhiddkljcacaaaGreat
namespace Go.Proofs.YthhiddkljcacaaaGreat
variable (N:Nat){a1:Int}{a2:VW}{a:Vz}
variable {A1 A2 A3 A4 A5 A6 e:Option Addr}{B1 B2 l B6 d n M7 f c1 c2 c3 c4 c5 c6 i c n2 n3 n4 n5 n6 j:Nat}
open Go.RowKit Asn
set_option maxRecDepth 20000
def D2 (a1:VO)(c:VW)(a:VG)(f:VO)(e d:VX):Option (Vw×VO×VO×Int):=
 (pD N a1 a.Yi c).bind fun a6=>(pD N f a.Yi c).bind fun a8=>some ((⟨e,d⟩:Vw),a6,a8,0)
def yq (N:Nat)(a6:VO->Int->VX->VX->Option (Vw×VO×VO×Int))(i:VG)(a8:Int)(a1:VO)(f e:VW)(d:VO)(c a:VX):Option (Vw×VO×VO×Int):=
 ae (in64 (a8+1)) (a6 d (a8+1) c a)
def nG (N:Nat)(a8:VG)(a1:VO)(a d:VW):Nat->VO->Int->VX->VX->Option (Vw×VO×VO×Int)
 |0,_,_,_,_=>none
 |l+1,j,c,f,e=>bif decide (c<(a8.Yi.length:Int)) then ((ak a8.Yi c).bind fun p=>(jV N a8 p).bind fun o=>(pB N o d j).bind fun i=>(lJ N i.1 a8.Yi a).bind fun a6=>(ak a c).bind fun n=>(mL N n).bind fun m=>bif m then (ae (bC (f.length+([(⟨a6.no,a6.XV,a6.XU,1,a6.XQ,a6.XP⟩:VL)]:List VL).length)) (yq N (nG N a8 a1 a d l) a8 c a1 a d i.2 (f++([(⟨a6.no,a6.XV,a6.XU,1,a6.XQ,a6.XP⟩:VL)]:List VL)) e)) else (ae (bC (e.length+([(⟨a6.no,a6.XV,a6.XU,1,a6.XQ,a6.XP⟩:VL)]:List VL).length)) (yq N (nG N a8 a1 a d l) a8 c a1 a d i.2 f (e++([(⟨a6.no,a6.XV,a6.XU,1,a6.XQ,a6.XP⟩:VL)]:List VL))))) else (D2 N a1 a a8 j f e)
def D1 (a1:VO)(a6:VW)(a8:VG)(d:VO)(c:VW)(a:VX):Option (Vw×VO×VO×Int):=
 nG N a8 a1 a6 c N d 0 [] a
def ux (a6:VO->VW->Int->VX->Option (Vw×VO×VO×Int))(a:Vw)(a8:Int)(a1:VO)(a2 q p:VW)(d:VX)(o:VG)(n:VO)(m l j i:Int)(f e:VO):Option (Vw×VO×VO×Int):=
 (lJ N (⟨m,l,j,i,f,e⟩:VL) o.Yi q).bind fun c=>ae (bC (d.length+([c]:List VL).length)) (ae (in64 (a8+1)) (a6 n p (a8+1) (d++([c]:List VL))))
def pu (N:Nat)(a:Vw)(a1:VO)(a2 e:VW)(d:VG):Nat->VO->VW->Int->VX->Option (Vw×VO×VO×Int)
 |0,_,_,_,_=>none
 |l+1,j,f,a6,i=>bif decide (a6<(a.XR.length:Int)) then ((ak a.XR a6).bind fun a8=>ae (in64 (2*a6)) (ae (in64 ((2*a6)+2)) ((py N a2 ((2*a6)+2)).bind fun m=>bif m then ((pB N a8 f j).bind fun c=>ux N (pu N a a1 a2 e d l) a a6 a1 a2 e f i d c.2 c.1.no c.1.XV c.1.XU c.1.XW c.1.XQ c.1.XP) else (ux N (pu N a a1 a2 e d l) a a6 a1 a2 e f i d j a8.no a8.XV a8.XU a8.XW a8.XQ a8.XP)))) else (D1 N a1 e d j f i)
def rv (a:Vw)(a1:VO)(a2:VW):Option (Vw×VO×VO×Int):=
 (vi N a a1 a2).bind fun c=>bif !c then (some ((⟨[],[]⟩:Vw),[],[],1)) else ((r9 N a a1 a2).bind fun a6=>(t7 N a6).bind fun a8=>(qU N a6).bind fun d=>pu N a a1 a2 a8 a6 N [] d 0 [])
def DJ (a1:VO)(d:VW)(c:VG)(a:Vw)(i:VO)(f e:VX):Option ((Vw×VO×VO) ⊕ (Vw×VO×VO)):=
 (pD N a1 c.Yi d).bind fun a6=>(pD N i c.Yi d).bind fun a8=>some (.inr ((⟨f,e⟩:Vw),a6,a8))
def xM (N:Nat)(a6:VO->Int->VX->VX->Option ((Vw×VO×VO) ⊕ (Vw×VO×VO)))(j:VG)(a8:Int)(a1:VO)(i f:VW)(a:Vw)(e:VO)(d c:VX):Option ((Vw×VO×VO) ⊕ (Vw×VO×VO)):=
 ae (in64 (a8+1)) (a6 e (a8+1) d c)
def qV (N:Nat)(a8:VG)(a1:VO)(c e:VW)(a:Vw):Nat->VO->Int->VX->VX->Option ((Vw×VO×VO) ⊕ (Vw×VO×VO))
 |0,_,_,_,_=>none
 |m+1,l,d,i,f=>bif decide (d<(a8.Yi.length:Int)) then ((ak a8.Yi d).bind fun q=>(jV N a8 q).bind fun p=>(pB N p e l).bind fun j=>(lJ N j.1 a8.Yi c).bind fun a6=>(ak c d).bind fun o=>(mL N o).bind fun n=>bif n then (ae (bC (i.length+([(⟨a6.no,a6.XV,a6.XU,1,a6.XQ,a6.XP⟩:VL)]:List VL).length)) (xM N (qV N a8 a1 c e a m) a8 d a1 c e a j.2 (i++([(⟨a6.no,a6.XV,a6.XU,1,a6.XQ,a6.XP⟩:VL)]:List VL)) f)) else (ae (bC (f.length+([(⟨a6.no,a6.XV,a6.XU,1,a6.XQ,a6.XP⟩:VL)]:List VL).length)) (xM N (qV N a8 a1 c e a m) a8 d a1 c e a j.2 i (f++([(⟨a6.no,a6.XV,a6.XU,1,a6.XQ,a6.XP⟩:VL)]:List VL))))) else (DJ N a1 c a8 a l i f)
def DL (a1:VO)(a6:VW)(a8:VG)(a:Vw)(e:VO)(d:VW)(c:VX):Option ((Vw×VO×VO) ⊕ (Vw×VO×VO)):=
 qV N a8 a1 a6 d a N e 0 [] c
def xI (a6:VO->VW->Int->VX->Option ((Vw×VO×VO) ⊕ (Vw×VO×VO)))(a:Vw)(a8:Int)(a1:VO)(a2 q p:VW)(d:VX)(o:VG)(n:VO)(m l j i:Int)(f e:VO):Option ((Vw×VO×VO) ⊕ (Vw×VO×VO)):=
 (lJ N (⟨m,l,j,i,f,e⟩:VL) o.Yi q).bind fun c=>ae (bC (d.length+([c]:List VL).length)) (ae (in64 (a8+1)) (a6 n p (a8+1) (d++([c]:List VL))))
def qX (N:Nat)(a:Vw)(a1:VO)(a2 e:VW)(d:VG):Nat->VO->VW->Int->VX->Option ((Vw×VO×VO) ⊕ (Vw×VO×VO))
 |0,_,_,_,_=>none
 |l+1,j,f,a6,i=>bif decide (a6<(a.XR.length:Int)) then ((ak a.XR a6).bind fun a8=>ae (in64 (2*a6)) (ae (in64 ((2*a6)+2)) ((py N a2 ((2*a6)+2)).bind fun m=>bif m then ((pB N a8 f j).bind fun c=>xI N (qX N a a1 a2 e d l) a a6 a1 a2 e f i d c.2 c.1.no c.1.XV c.1.XU c.1.XW c.1.XQ c.1.XP) else (xI N (qX N a a1 a2 e d l) a a6 a1 a2 e f i d j a8.no a8.XV a8.XU a8.XW a8.XQ a8.XP)))) else (DL N a1 e d a j f i)
def nH (a:Vw)(a1:VO)(a2:VW):Option ((Vw×VO×VO) ⊕ (Vw×VO×VO)):=
 (vi N a a1 a2).bind fun c=>bif !c then (some (.inl ((⟨[],[]⟩:Vw),[],[]))) else ((r9 N a a1 a2).bind fun a6=>(t7 N a6).bind fun a8=>(qU N a6).bind fun d=>qX N a a1 a2 a8 a6 N [] d 0 [])
theorem H5 {N:Nat}{a:Vw}{a1:VO}{r:((Vw×VO×VO) ⊕ (Vw×VO×VO))}(h:nH N a a1 a2=some r):Okc V5 101 [.agg #[Y A1 c c1,Y A2 n2 c2],Y A3 n3 c3,Y A4 n4 c4] ([ap A3 n3 c3 a1,aX A4 n4 c4 a2,aC A1 c c1 a.XS,aC A2 n2 c2 a.XR]) (fun u p=>nu (fun (r:Vw×VO×VO)=> ∃e5 e6 e7 e8 e9 f1 f2 f3 f9 g0 g1 g2,u=.tuple #[.agg #[Y e5 e6 e7,Y e8 e9 f1],Y f2 f3 f9,Y g0 g1 g2,iV 1]/\p=[aC e5 e6 e7 r.1.XS,aC e8 e9 f1 r.1.XR,aj f2 f3 f9 r.2.1,aj g0 g1 g2 r.2.2,aC A1 c c1 a.XS,aC A2 n2 c2 a.XR]) (fun (r:Vw×VO×VO)=> ∃e5 e6 e7 e8 e9 f1 f2 f3 f9 g0 g1 g2,u=.tuple #[.agg #[Y e5 e6 e7,Y e8 e9 f1],Y f2 f3 f9,Y g0 g1 g2,iV 0]/\p=[aC e5 e6 e7 r.1.XS,aC e8 e9 f1 r.1.XR,aj f2 f3 f9 r.2.1,aj g0 g1 g2 r.2.2]) r):=by
 refine av Tryz.func101 ?_;intro B5;refine bB fun B6=> ?_
 refine sZ ?_;obtain ⟨y7,k,h⟩:=ad h;refine cV (oR (Ry k)) ?_;refine gH J h ?_ ?_<;>intro h
 ·refine aa ?_;obtain rfl:=bn h;exact me (rs:=[.cell 6 125,.tmp 7,.tmp 8,.tmp 9]) (vs:=[.agg #[Y none 0 0,Y none 0 0],Y none 0 0,Y none 0 0,iV 1]) J (.cons (lV 0 J J agg125.out) (.cons (ng J) (.cons (ng J) (.cons (ng J) .nil)))) J ((ck dL 45 _).trans ((ck dL 45 _).trans ((ck ca 29 _).trans ((ck ca 29 _).trans (cS [3,2,1,0,8,9] 10))))) ⟨_,_,_,_,_,_,_,_,_,_,_,_,J,J⟩
 refine aa ?_;obtain ⟨a6,m5,h⟩:=ad h;refine d6 (cu 4 J) ?_;refine d6 (cu 5 J) ?_;refine aa ?_;refine gD (oC (Rx m5)) ?_;rintro _ _ ⟨_,⟨a8,K,H,F,E,D,C,B,A,z,i,f,e,q,rfl,rfl⟩,rfl⟩;refine aa ?_;obtain ⟨o,k,h⟩:=ad h;refine bN (oC (O5 k)) fun n l j=> ?_
 obtain ⟨s3,k,h⟩:=ad h;refine bN (oR (HX k)) fun s4 s5 s6=> ?_
 refine aF (fun s L=> ∃k8 V k9 l0 l1 l2 h1 h2 h3 l3 l4 l5,DL N a1 o a6 a k8 V k9=some r/\s=[(1,Y A3 n3 c3),(6,pV B6 0),(7,Y none 0 0),(8,Y l0 l1 l2),(9,iV 0),(10,pV a8 0),(11,Y n l j),(12,Y h1 h2 h3)]/\L=[ap A3 n3 c3 a1,ap l0 l1 l2 k8,aR n l j o,aX h1 h2 h3 V,aC l3 l4 l5 k9,ab B6 125 [Y none 0 0,Y l3 l4 l5],aq K H F a6.m_.XS,aq E D C a6.m_.XR,aX B A z a6.Yv,aR i f e a6.Yi,aA ax aU q a6.Yu,ab a8 223 [Y K H F,Y E D C,Y B A z,Y i f e,.map (some q),iV a6.Yn],aq A1 c c1 a.XS,aq A2 n2 c2 a.XR]) ?_ ?_
 ·refine aa ?_;refine dU (fun m s L=> ∃m6 i1 h4 i2 m7 m8 m9 U T S Q P O,qX N a a1 a2 o a6 m m6 i1 h4 i2=some r/\s=[(1,Y A3 n3 c3),(2,Y A4 n4 c4),(6,pV B6 0),(7,Y none 0 0),(8,Y m7 m8 m9),(9,iV 0),(10,pV a8 0),(11,Y n l j),(12,Y U T S),(33,Y A2 n2 c2),(34,iV (a.XR.length:Int)),(35,iV h4)]/\L=[ap A3 n3 c3 a1,aX A4 n4 c4 a2,ap m7 m8 m9 m6,aR n l j o,aX U T S i1,aq A2 n2 c2 a.XR,aC Q P O i2,ab B6 125 [Y none 0 0,Y Q P O],aq K H F a6.m_.XS,aq E D C a6.m_.XR,aX B A z a6.Yv,aR i f e a6.Yi,aA ax aU q a6.Yu,ab a8 223 [Y K H F,Y E D C,Y B A z,Y i f e,.map (some q),iV a6.Yn],aq A1 c c1 a.XS]) N _ _ ⟨[],s3,0,[],none,0,0,s4,s5,s6,none,0,0,h,J,J⟩ sA ((km ca _).trans ((cu 1 J).trans ((ck dL 45 _).trans (cS [12,13,1,3,2,15,0,10,7,8,9,5,6,4,14] 16)))) ?_;rintro (_|s7)
  all_goals (refine fun s L=>Zb fun m6 i1 h4 i2 m7 m8=>Zb fun m9 U T S Q P=>ac fun O=>d7 fun h=> ?_)
  ·exact bO h
  rw [qX.eq_2] at h;refine aa ?_;refine aH ?_;refine gH J h ?_ ?_<;>intro h
  ·refine sY ?_;obtain ⟨r5,s8,s9,n0,h⟩:=aI h;refine aa ?_;refine kW 5 J n0 (kc r5) ?_;rintro _ _ ⟨t1,t2,u0,u1,u2,u3,rfl,rfl⟩;refine fS (kl (us:=(bw r5 t1 t2 u0 u1 u2 u3)) 0 J J agg45.out J) ?_;intro j3;refine aa ?_;refine aF (fun s L=> ∃l6 i3 i4 i5 i6 l7 l8 i7 i8 i9 h5 h6 h7 h8 Z X,xI N (qX N a a1 a2 o a6 s7) a h4 a1 a2 o i1 i2 a6 l6 i3 i4 i5 i6 l7 l8=some r/\s=[(1,Y A3 n3 c3),(2,Y A4 n4 c4),(6,pV B6 0),(7,Y none 0 0),(8,Y i7 i8 i9),(9,iV 0),(10,pV a8 0),(11,Y n l j),(12,Y U T S),(14,pV j3 0),(33,Y A2 n2 c2),(34,iV (a.XR.length:Int)),(35,iV h4)]/\L=[ap A3 n3 c3 a1,aX A4 n4 c4 a2,ap i7 i8 i9 l6,aR n l j o,aX U T S i1,aq A2 n2 c2 a.XR,aC Q P O i2,ab B6 125 [Y none 0 0,Y Q P O],aq K H F a6.m_.XS,aq E D C a6.m_.XR,aX B A z a6.Yv,aR i f e a6.Yi,aA ax aU q a6.Yu,ab a8 223 [Y K H F,Y E D C,Y B A z,Y i f e,.map (some q),iV a6.Yn],ap h5 h6 h7 l7,ap h8 Z X l8,ab j3 45 [iV i3,iV i4,iV i5,iV i6,Y h5 h6 h7,Y h8 Z X],aq A1 c c1 a.XS]) ?_ ?_
   ·refine aa ?_;obtain ⟨r6,h⟩:=ai h;refine gE (gq J J r6.1 r6.2) ?_;obtain ⟨y3,h⟩:=ai h;refine aa ?_;obtain ⟨y4,k,h⟩:=ad h;refine cV (oR (DS k)) ?_;refine gH J h ?_ ?_<;>intro h
    ·refine aa ?_;obtain ⟨y5,k,h⟩:=ad h;refine OC (oC (IM k)) fun y6 y8 y9 z1 z2 z6 A0 A8 A9=> ?_
     exact jN
    exact jY
   refine fun s L=>Zb fun l6 i3 i4 i5 i6 l7=>Zb fun l8 i7 i8 i9 h5 h6=>Za fun h7 h8 Z=>ac fun X=>d7 fun h=> ?_
   obtain ⟨M,n8,h⟩:=ad h;refine dx (t:=[(1,Y A3 n3 c3),(2,Y A4 n4 c4),(6,pV B6 0),(7,Y none 0 0),(8,Y i7 i8 i9),(9,iV 0),(10,pV a8 0),(11,Y n l j),(12,Y U T S),(14,pV j3 0),(33,Y A2 n2 c2),(34,iV (a.XR.length:Int)),(35,iV h4)]) ?_ cL (ah _);refine fv I 10 [] [1,9] [52,53,54,55,56,57,58,59,60,61] [[],[0],[],[],[3],[4],[5],[],[2,6,7],[8]] [aV (pV B6 1),
aV (Y Q P O),
aV (.agg #[iV i3,iV i4,iV i5,iV i6,Y h5 h6 h7,Y h8 Z X]),
aV (pV a8 0),
aV (pV a8 0),
aV (pV a8 3),
aV (Y i f e),
aV (Y n l j),
aX6 (fun (j4:Option Addr) (j5 j6:Nat) (j7:Option Addr) (j8 j9:Nat)=> .agg #[iV M.no,iV M.XV,iV M.XU,iV M.XW,Y j4 j5 j6,Y j7 j8 j9]) (fun j4 j5 j6 j7 j8 j9=> [ap j4 j5 j6 M.XQ,ap j7 j8 j9 M.XP]),
aX3 (fun (j0:Option Addr) (j1 j2:Nat)=> Y j0 j1 j2) (fun j0 j1 j2=> [aC j0 j1 j2 ([M]:List VL)])] [] (ah _) (fB) I rfl rfl ?_ ?_ ?_
   ·exact fz
   ·refine bl J ?_ ?_
    ·intro j4 j5 j6 j7 j8 j9;refine fi (cB (R:=dL) (vss:=[(bw M j4 j5 j6 j7 j8 j9)]) (xs:=[M]) J (vJ _ _ _ _ _ _ _ _ _ _) J J (fun _ _ hr=> .cons (⟨_,_,_,_,_,_,J,hr 0 _ J J,hr 1 _ J J⟩) All2.nil)) J ?_;rintro _ _ ⟨u4,u5,u6,rfl,rfl⟩;exact lp u4 u5 u6 (ah _)
    refine bl J ?_ ?_
    ·refine fi (oR (Es n8)) J ?_;rintro _ _ ⟨_,⟨u7,u8,u9,v1,v2,v6,rfl,rfl⟩,rfl⟩;exact G4 u7 u8 u9 v1 v2 v6 ((cu 0 J).trans ((cu 1 J).trans (ah _)))
    refine qE (ay J) ?_;refine qR (cn 13 J J tj J) ?_;refine qE (bW J Bg) ?_;refine qE (cr J) ?_;refine qE (ay J) ?_;refine qR (db (us:=[iV i3,iV i4,iV i5,iV i6,Y h5 h6 h7,Y h8 Z X]) 16 J J agg45.out J) ?_;refine qR (cn 7 J J sR J) ?_;refine qE (bW J AY) ?_;exact fq
   intro j0 j1 j2;refine eF (t:=[(53,Y Q P O),(61,Y j0 j1 j2),(1,Y A3 n3 c3),(2,Y A4 n4 c4),(6,pV B6 0),(7,Y none 0 0),(8,Y i7 i8 i9),(9,iV 0),(10,pV a8 0),(11,Y n l j),(12,Y U T S),(14,pV j3 0),(33,Y A2 n2 c2),(34,iV (a.XR.length:Int)),(35,iV h4)]) (L':=[aC j0 j1 j2 ([M]:List VL),ap A3 n3 c3 a1,aX A4 n4 c4 a2,ap i7 i8 i9 l6,aR n l j o,aX U T S i1,aq A2 n2 c2 a.XR,aC Q P O i2,ab B6 125 [Y none 0 0,Y Q P O],aq K H F a6.m_.XS,aq E D C a6.m_.XR,aX B A z a6.Yv,aR i f e a6.Yi,aA ax aU q a6.Yu,ab a8 223 [Y K H F,Y E D C,Y B A z,Y i f e,.map (some q),iV a6.Yn],ap h5 h6 h7 l7,ap h8 Z X l8,ab j3 45 [iV i3,iV i4,iV i5,iV i6,Y h5 h6 h7,Y h8 Z X],aq A1 c c1 a.XS]) ?_ cL (ah _);obtain ⟨v7,h⟩:=ai h;refine gP 10 J I (cG 7 0 J J aw J J Ve oZ J J v7) J J J ?_;rintro _ _ ⟨s0,s1,s2,rfl,rfl⟩;refine jo ?_;refine jt 11 J I (bW J AY) J J J ?_;refine gv 12 J I (bL (us:=[Y s0 s1 s2]) (cs':=[Y none 0 0,Y s0 s1 s2]) 8 J J J J size123.out J J J) J J ?_;rintro _ _ rfl;refine fw I ?_;refine aa ?_;obtain ⟨B0,h⟩:=ai h;exact lY
  exact jY
 rintro _ _ ⟨k8,V,k9,l0,l1,l2,h1,h2,h3,l3,l4,l5,h,rfl,rfl⟩;refine aF (fun s L=> ∃n9 o0 o1 o2 o3 o4 k0 k2 k3 k4 k5 k6,DJ N a1 o a6 a n9 o0 o1=some r/\s=[(1,Y A3 n3 c3),(6,pV B6 0),(7,Y none 0 0),(8,Y o2 o3 o4),(9,iV 0),(10,pV a8 0),(11,Y n l j)]/\L=[ap A3 n3 c3 a1,ap o2 o3 o4 n9,aR n l j o,aC k0 k2 k3 o0,aC k4 k5 k6 o1,ab B6 125 [Y k0 k2 k3,Y k4 k5 k6],aq K H F a6.m_.XS,aq E D C a6.m_.XR,aX B A z a6.Yv,aR i f e a6.Yi,aA ax aU q a6.Yu,ab a8 223 [Y K H F,Y E D C,Y B A z,Y i f e,.map (some q),iV a6.Yn],aq A1 c c1 a.XS,aq A2 n2 c2 a.XR]) ?_ ?_
 ·refine aa ?_;refine dU (fun m s L=> ∃o5 k7 p0 p1 p2 p3 p4 p5 p6 p7 p8 q0 q1,qV N a6 a1 o V a m o5 k7 p0 p1=some r/\s=[(1,Y A3 n3 c3),(6,pV B6 0),(7,Y none 0 0),(8,Y p2 p3 p4),(9,iV 0),(10,pV a8 0),(11,Y n l j),(12,Y h1 h2 h3),(68,Y i f e),(69,iV (a6.Yi.length:Int)),(70,iV k7)]/\L=[ap A3 n3 c3 a1,ap p2 p3 p4 o5,aR n l j o,aX h1 h2 h3 V,aR i f e a6.Yi,aC p5 p6 p7 p0,aC p8 q0 q1 p1,ab B6 125 [Y p5 p6 p7,Y p8 q0 q1],aq K H F a6.m_.XS,aq E D C a6.m_.XR,aX B A z a6.Yv,aA ax aU q a6.Yu,ab a8 223 [Y K H F,Y E D C,Y B A z,Y i f e,.map (some q),iV a6.Yn],aq A1 c c1 a.XS,aq A2 n2 c2 a.XR]) N _ _ ⟨k8,0,[],k9,l0,l1,l2,none,0,0,l3,l4,l5,h,J,J⟩ sA ((ck dL 45 _).trans (cS [1,2,3,4,10,0,5,6,7,8,9,11,12,13,14] 15)) ?_;rintro (_|v8)
  all_goals (refine fun s L=>Zb fun o5 k7 p0 p1 p2 p3=>Zb fun p4 p5 p6 p7 p8 q0=>ac fun q1=>d7 fun h=> ?_)
  ·exact bO h
  rw [qV.eq_2] at h;refine aa ?_;refine aH ?_;refine gH J h ?_ ?_<;>intro h
  ·refine aa ?_;refine aF (fun s L=> ∃q2 q3 q4 q5 q6 q7 q8 q9 r0 r1 r2 r3,xM N (qV N a6 a1 o V a v8) a6 k7 a1 o V a q2 q3 q4=some r/\s=[(1,Y A3 n3 c3),(6,pV B6 0),(7,Y none 0 0),(8,Y q5 q6 q7),(9,iV 0),(10,pV a8 0),(11,Y n l j),(12,Y h1 h2 h3),(68,Y i f e),(69,iV (a6.Yi.length:Int)),(70,iV k7)]/\L=[ap A3 n3 c3 a1,ap q5 q6 q7 q2,aR n l j o,aX h1 h2 h3 V,aR i f e a6.Yi,aC q8 q9 r0 q3,aC r1 r2 r3 q4,ab B6 125 [Y q8 q9 r0,Y r1 r2 r3],aq K H F a6.m_.XS,aq E D C a6.m_.XR,aX B A z a6.Yv,aA ax aU q a6.Yu,ab a8 223 [Y K H F,Y E D C,Y B A z,Y i f e,.map (some q),iV a6.Yn],aq A1 c c1 a.XS,aq A2 n2 c2 a.XR]) ?_ ?_
   ·refine aa ?_;obtain ⟨B4,w0,w1,w2,h⟩:=aI h;refine aa ?_;obtain ⟨B7,k,h⟩:=ad h;refine OE (oC (ud k)) fun B9 C1 C2 L0 L1 L2=> ?_
    intro L3;refine aa ?_;obtain ⟨L4,k,h⟩:=ad h;refine OC (oC (IM k)) fun L5 L6 L7 L8 L9 M0 M1 M4 M5=> ?_
    refine dY [] ?_;refine aa ?_;obtain ⟨d,k,h⟩:=ad h;refine zT6 6 J (oR (Es k)) fun l9 m0 m1 m2 m3 m4=> ?_
    refine iu 7 J I I (bL (us:=(bw d l9 m0 m1 m2 m3 m4)) (cs':=(bw d l9 m0 m1 m2 m3 m4)) 5 J J J J size45.out J J J) ?_;rintro _ _ rfl;refine bX ?_;refine aa ?_;obtain ⟨M8,w3,w4,w5,h⟩:=aI h;refine aa ?_;obtain ⟨Q1,k,h⟩:=ad h;refine cV (oR (uP k)) ?_;refine gH J h ?_ ?_<;>intro h
    ·refine aa ?_;refine d6 (cu 0 J) ?_;refine d6 (cu 1 J) ?_;refine gD (cB (R:=dL) (vss:=[[iV d.no,iV d.XV,iV d.XU,iV 1,Y l9 m0 m1,Y m2 m3 m4]]) (xs:=[(⟨d.no,d.XV,d.XU,1,d.XQ,d.XP⟩:VL)]) J (vJ _ _ _ _ _ _ _ _ _ _) J J (fun _ _ hr=> .cons (⟨_,_,_,_,_,_,J,hr 0 _ J J,hr 1 _ J J⟩) All2.nil)) ?_;rintro _ _ ⟨S0,S1,S2,rfl,rfl⟩;obtain ⟨w6,h⟩:=ai h;refine bN (cG 16 0 J J aw J J Ve oZ J J w6) fun S3 S4 S5=> ?_
     exact jN
    refine aa ?_;refine d6 (cu 0 J) ?_;refine d6 (cu 1 J) ?_;refine aa ?_;refine gD (cB (R:=dL) (vss:=[[iV d.no,iV d.XV,iV d.XU,iV 1,Y l9 m0 m1,Y m2 m3 m4]]) (xs:=[(⟨d.no,d.XV,d.XU,1,d.XQ,d.XP⟩:VL)]) J (vJ _ _ _ _ _ _ _ _ _ _) J J (fun _ _ hr=> .cons (⟨_,_,_,_,_,_,J,hr 0 _ J J,hr 1 _ J J⟩) All2.nil)) ?_;rintro _ _ ⟨w7,w8,w9,rfl,rfl⟩;obtain ⟨r4,h⟩:=ai h;refine bN (cG 17 0 J J aw J J Ve oZ J J r4) fun x1 x2 x3=> ?_
    exact jN
   rintro _ _ ⟨q2,q3,q4,q5,q6,q7,q8,q9,r0,r1,r2,r3,h,rfl,rfl⟩;refine aa ?_;obtain ⟨x4,h⟩:=ai h;exact lY
  exact jY
 rintro _ _ ⟨n9,o0,o1,o2,o3,o4,k0,k2,k3,k4,k5,k6,h,rfl,rfl⟩;refine dY [0,1,2,3,4,5,6,8,9,10,11,12,13] ?_;obtain ⟨x5,k,h⟩:=ad h;refine fk 7 J (oR (IS k)) fun x6 x7 x8=> ?_
 obtain ⟨x9,k,h⟩:=ad h;refine fk 14 J (oR (IS k)) fun y0 y1 y2=> ?_
 refine zO 15 J (bL (us:=[Y k0 k2 k3,Y k4 k5 k6]) (cs':=[Y k0 k2 k3,Y k4 k5 k6]) 7 J J J J size125.out J J J) ?_;rintro _ _ rfl;refine bE ?_;refine bX ?_;refine zX [16,17,18] ?_;exact eY
def DA (a:VO)(a1:Vz):Option ((Vw×VO×VO) ⊕ (Vw×VO×VO)):=
 (uu N a1.Yf).bind fun a6=>(nH N a1.m_ a a6).bind fun a8=>dB a8 (fun y13_0=>some (.inl (y13_0.1,y13_0.2.1,y13_0.2.2))) (fun y13_1=>some (.inr (y13_1.1,y13_1.2.1,y13_1.2.2)))
theorem HL {N:Nat}{a:VO}{a1:Vz}{r:((Vw×VO×VO) ⊕ (Vw×VO×VO))}(h:DA N a a1=some r):Okc V5 100 [Y A1 c c1,pV B2 0] ([ap A1 c c1 a,aQ B2 60 [pV l 0],ab l 128 [Y A4 n4 c4,Y A5 n5 c5,Y A6 n6 c6,Y e j i,pV d 0],aC A4 n4 c4 a1.m_.XS,aC A5 n5 c5 a1.m_.XR,aj A6 n6 c6 a1.Yb,aj e j i a1.Yg,ab d 186 [.map (some f)],aA ax aU f a1.Yf.at_]) (fun u p=>nu (fun (r:Vw×VO×VO)=> ∃a6 a8 D C B A z t q o n m,u=.tuple #[.agg #[Y a6 a8 D,Y C B A],Y z t q,Y o n m,iV 1]/\p=[aC a6 a8 D r.1.XS,aC C B A r.1.XR,aj z t q r.2.1,aj o n m r.2.2,aC A4 n4 c4 a1.m_.XS,aC A5 n5 c5 a1.m_.XR,aj A6 n6 c6 a1.Yb,aj e j i a1.Yg,ab l 128 [Y A4 n4 c4,Y A5 n5 c5,Y A6 n6 c6,Y e j i,pV d 0],ab d 186 [.map (some f)],aA ax aU f a1.Yf.at_]) (fun (r:Vw×VO×VO)=> ∃a6 a8 D C B A z t q o n m,u=.tuple #[.agg #[Y a6 a8 D,Y C B A],Y z t q,Y o n m,iV 0]/\p=[aC a6 a8 D r.1.XS,aC C B A r.1.XR,aj z t q r.2.1,aj o n m r.2.2,aj A6 n6 c6 a1.Yb,aj e j i a1.Yg,ab l 128 [Y A4 n4 c4,Y A5 n5 c5,Y A6 n6 c6,Y e j i,pV d 0],ab d 186 [.map (some f)],aA ax aU f a1.Yf.at_]) r):=by
 refine av Tryz.func100 ?_;intro X;refine aa ?_;refine aH ?_;refine cy I ([ab X 125 [Y none 0 0,Y none 0 0],ap A1 c c1 a,aQ B2 60 [pV l 0],ab l 128 [Y A4 n4 c4,Y A5 n5 c5,Y A6 n6 c6,Y e j i,pV d 0],aj A6 n6 c6 a1.Yb,aj e j i a1.Yg,ab d 186 [.map (some f)],aA ax aU f a1.Yf.at_]) (cS [0,1,2,3,6,7,8,9] 10) ?_;refine zY [0,1,2,3,4,5,6,7,8] ?_;obtain ⟨f3,k,h⟩:=ad h;refine fk 9 J (oR (H6 k)) fun f9 g0 g1=> ?_
 refine fg (cu 0 J) (cS [1,2,3,4,7,8,9,10] 11) ?_;obtain ⟨V,U,h⟩:=ad h;rcases V with y13_0|y13_1
 ·replace h:=gk h;refine Ok 10 J (oC (H5 U)) fun T S R Q P O g2 g3 g4 g5 g6 g7=> ?_
  refine zY [11,12,13,14] ?_;refine iu 15 J I I (bL (us:=[Y T S R,Y Q P O]) (cs':=[Y T S R,Y Q P O]) 7 J J J J size125.out J J J) ?_;rintro _ _ rfl;refine bX ?_;refine zX [16,17,18] ?_;exact eY
 replace h:=gj h;refine Ok 10 J (oC (H5 U)) fun M L K H F E g8 g9 h0 h1 h2 Z=> ?_
 refine zY [11,12,13,14] ?_;refine iu 15 J I I (bL (us:=[Y M L K,Y H F E]) (cs':=[Y M L K,Y H F E]) 5 J J J J size125.out J J J) ?_;rintro _ _ rfl;refine zX [16,17,18] ?_;exact eY
def xB (N:Nat)(a:VO):Option VO:=
 some a
def Du (a1:Int):Option VO:=
 bif decide (a1<0) then none else (ae (in64 (0 - 0)) (ae (in64 (a1 - (0 - 0))) (bif decide (0<a1 - (0 - 0)) then (ae ((0:Int)<(a1 - (0 - 0))/\(a1 - (0 - 0))<=1099511627776) (xB N ([]:List VH))) else (xB N []))))
theorem Pa {N:Nat}{r:VO}(h:Du N a1=some r):Okc V5 114 [Y none 0 0,iV a1] ([]) (fun u p=> ∃f d e,u=Y f d e/\p=[aj f d e r]):=by
 refine av Tryz.func114 ?_;refine sZ ?_;refine gH J h ?_ ?_<;>intro h
 ·exact bO h
 refine aa ?_;refine aF (fun s L=> ∃a A3 n3 c3,xB N a=some r/\s=[(0,Y A3 n3 c3),(4,Y none 0 0)]/\L=[aj A3 n3 c3 a]) ?_ ?_
 ·refine aa ?_;refine aJ (sH J z9) ?_;refine gE (jc J z9) ?_;obtain ⟨j,h⟩:=ai h;refine aa ?_;obtain ⟨i,h⟩:=ai h;refine aG h ?_ ?_<;>intro h
  ·refine aa ?_;refine gE (sH J z9) ?_;refine aJ (Fi J z9 size29.out J) ?_;obtain ⟨c,h⟩:=ai h;refine bN (Fd J J z9 Ex nm J c.1 c.2) fun t m o=> ?_
   refine gE (jc J z9) ?_;refine bN (F1 (R:=ca) 0 J J z9 size29.out J J) fun q l n=> ?_
   exact jN
  refine aa ?_;exact ⟨_,_,⟨[],none,0,0,h,J,J⟩,sA,(ck ca 29 _).trans (cS [0] 1)⟩
 rintro _ _ ⟨a,A3,n3,c3,h,rfl,rfl⟩;exact eY
def Do (N:Nat)(a6:VO):Option VO:=
 some a6
def Dp (a0_0 a0_1:VO):Option VO:=
 (Du N ((0+(a0_0.length:Int))+(a0_1.length:Int))).bind fun a=>ae (bC (a.length+a0_0.length)) (ae (bC ((a++a0_0).length+a0_1.length)) (Do N ((a++a0_0)++a0_1)))
def mx (a0_0 a0_1:VO):Option VO:=
 ae (in64 (0+(a0_0.length:Int))) (bif decide (0+(a0_0.length:Int)<0) then none else (ae (in64 ((0+(a0_0.length:Int))+(a0_1.length:Int))) (bif decide ((0+(a0_0.length:Int))+(a0_1.length:Int)<0) then none else (Dp N a0_0 a0_1))))
theorem pf {N:Nat}{a0_0 a0_1 r:VO}(h:mx N a0_0 a0_1=some r):Okc V5 68 [.slice (some ⟨B1,0,none⟩) 2 2] ([aQ B1 43 [Y A2 n2 c2,Y A3 n3 c3],ap A2 n2 c2 a0_0,ap A3 n3 c3 a0_1]) (fun u p=> ∃f d e,u=Y f d e/\p=[aj f d e r]):=by
 refine av Tryz.func68 ?_;refine aF (fun s L=>Dp N a0_0 a0_1=some r/\s=[(0,.slice (some ⟨B1,0,none⟩) 2 2),(2,Y none 0 0),(3,iV ((0+(a0_0.length:Int))+(a0_1.length:Int)))]/\L=[ap A2 n2 c2 a0_0,ap A3 n3 c3 a0_1,aQ B1 43 [Y A2 n2 c2,Y A3 n3 c3]]) ?_ ?_
 ·refine aa ?_;refine aJ (jc J Vp) ?_;refine qg 3 ?_;refine fR ?_;refine aa ?_;refine aH ?_;refine d9 J ?_;refine sY ?_;refine aJ (iK J J Vp size43.out (by decide) (by decide)) ?_;obtain ⟨n,h⟩:=ai h;refine aG h ?_ ?_<;>intro h
  ·exact bO h
  refine aa ?_;refine aJ (cY J J (by decide) (by decide)) ?_;refine fR ?_;refine aa ?_;refine aH ?_;refine d9 J ?_;refine sY ?_;refine aJ (iK J J Vp size43.out (by decide) (by decide)) ?_;obtain ⟨m,h⟩:=ai h;refine aG h ?_ ?_<;>intro h
  ·exact bO h
  refine aa ?_;refine aJ (cY J J (by decide) (by decide)) ?_;refine fR ?_;refine aa ?_;refine aH ?_;refine d8 J ?_;exact jY
 rintro _ _ ⟨h,rfl,rfl⟩;refine kG h (fun _ k=>Pa k) fun l E D C h=> ?_
 refine aF (fun s L=> ∃a6 a8 c a,Do N a6=some r/\s=[(2,Y none 0 0),(6,Y a8 c a)]/\L=[aj a8 c a a6]) ?_ ?_
 ·refine aa ?_;refine aJ (jc J Vp) ?_;refine qg 3 ?_;refine fR ?_;refine aa ?_;refine aH ?_;refine d9 J ?_;refine sY ?_;refine aJ (iK J J Vp size43.out (by decide) (by decide)) ?_;obtain ⟨j,h⟩:=ai h;refine bN (cG 0 1 J J bA J J z9 nm J J j) fun B A z=> ?_
  refine aJ (cY J J (by decide) (by decide)) ?_;refine fR ?_;refine aa ?_;refine aH ?_;refine d9 J ?_;refine sY ?_;refine aJ (iK J J Vp size43.out (by decide) (by decide)) ?_;obtain ⟨i,h⟩:=ai h;refine bN (cG 0 2 J J bA J J z9 nm J J i) fun t q o=> ?_
  refine aJ (cY J J (by decide) (by decide)) ?_;refine fR ?_;refine aa ?_;refine aH ?_;refine d8 J ?_;exact jY
 rintro _ _ ⟨a6,a8,c,a,h,rfl,rfl⟩;exact eY
theorem pe {r:VO}: ∀v post,((fun (u:Value) (post:V3)=> ∃e a d,u=Y e a d/\post=[aj e a d r])) v post-> ∀c∈post,bP c:=by
 rintro _ _ ⟨_,_,_,rfl,rfl⟩;exact t9 iU (aW)
def DX (N:Nat)(a:Vu):Option Vu:=
 some (⟨[]⟩:Vu)
theorem PM {N:Nat}{a r:Vu}(h:DX N a=some r):Okc V5 190 [pV B1 0] ([ab B1 186 [.map (some n)],aA ax aU n a.at_]) (fun u p=> ∃c,u=.tuple #[]/\p=[ab B1 186 [.map (some c)],aA ax aU c r.at_]):=by
 refine av Tryz.func190 ?_;refine aJ (sr J Vh) ?_;refine d9 J ?_;refine aa ?_;refine fm (aas 1 J J Vl) ?_;exact eN
def qT (N:Nat)(a1:Vw):Nat->Int->VY->Option Vu
 |0,_,_=>none
 |c+1,a,a6=>bif decide (a<(a1.XR.length:Int)) then ((ak a1.XR a).bind fun a8=>ae (in64 (2*a)) (ae (in64 ((2*a)+2)) ((lE N (⟨a6⟩:Vu) ((2*a)+2) a8).bind fun d=>ae (in64 (a+1)) ((qT N a1 c) (a+1) d.2.at_)))) else (some (⟨a6⟩:Vu))
def mF (a:Vu)(a1:Vw):Option Vu:=
 (DX N a).bind fun c=>qT N a1 N 0 c.at_
theorem H1 {N:Nat}{a:Vu}{a1:Vw}{r:Vu}(h:mF N a a1=some r):Okc V5 146 [pV B1 0,.agg #[Y A3 n3 c3,Y A4 n4 c4]] ([aq A3 n3 c3 a1.XS,aq A4 n4 c4 a1.XR,ab B1 186 [.map (some n)],aA ax aU n a.at_]) (fun u p=> ∃f,u=.tuple #[]/\p=[ab B1 186 [.map (some f)],aA ax aU f r.at_]):=by
 refine av Tryz.func146 ?_;intro O;refine sY ?_;refine aJ (gC J Vh) ?_;refine d8 J ?_;refine aa ?_;obtain ⟨A,k,h⟩:=ad h;refine gD (oC (PM k)) ?_;rintro _ _ ⟨_,⟨M7,rfl,rfl⟩,rfl⟩;refine aa ?_;refine lK (fun m s L=> ∃(c:Int) (a6:VY) (a8:Nat),qT N a1 m c a6=some r/\s=[(0,pV B1 0),(11,Y A4 n4 c4),(12,iV (a1.XR.length:Int)),(13,iV c)]/\L=[aq A4 n4 c4 a1.XR,aA ax aU a8 a6,ab B1 186 [.map (some a8)]]) N ?_;rintro B _ _ ⟨c,a6,a8,h,rfl,rfl⟩;rw [qT.eq_2] at h;refine aa ?_;refine aH ?_;refine gH J h ?_ ?_<;>intro h
 ·refine sY ?_;obtain ⟨e,M,K,z,h⟩:=aI h;refine aa ?_;refine kW 0 J z (kc e) ?_;rintro _ _ ⟨t,q,o,l,j,i,rfl,rfl⟩;refine fS (kl (us:=(bw e t q o l j i)) 0 J J agg45.out J) ?_;intro H;refine aa ?_;obtain ⟨d,h⟩:=ai h;refine gE (gq J J d.1 d.2) ?_;obtain ⟨F,h⟩:=ai h;refine aa ?_;obtain ⟨E,k,h⟩:=ad h;refine gD (oC (uq k)) ?_;rintro _ _ ⟨_,⟨D,rfl,rfl⟩,rfl⟩;refine aa ?_;obtain ⟨C,h⟩:=ai h;exact lY
 exact eY
theorem HH {r:Vu}{B1:Nat}: ∀v post,((fun (u:Value) (post:V3)=> ∃a,u=.tuple #[]/\post=[ab B1 186 [.map (some a)],aA ax aU a r.at_])) v post-> ∀c∈post,bP c:=by
 rintro _ _ ⟨_,rfl,rfl⟩;exact t9 Bn (t9 Fs (aW))
def Da (N:Nat)(a:Vz)(c a6:VX)(a8 d:VO):Option (Int×Vz):=
 some (1,a)
def Dc (a6 a8:VX)(a:Vz)(e d:VO):Option (Int×Vz):=
 (mF N a.Yf (⟨a6,a8⟩:Vw)).bind fun c=>some (0,(⟨(⟨a6,a8⟩:Vw),e,d,c⟩:Vz))
def xo (a:Vz)(a6 a8:VX)(c f:VO):Option (Int×Vz):=
 ae ((0:Int)<=(a.Yb.length:Int)/\0<=(a.Yb.length:Int).toNat/\(a.Yb.length:Int).toNat<=c.length) (ae ((0:Int)<=(a.Yb.length:Int)/\(a.Yb.length:Int).toNat<=c.length/\c.length<=c.length) ((kK N ((c.drop 0).take ((a.Yb.length:Int).toNat - 0))).bind fun e=>(mx N ((c.drop ((a.Yb.length:Int).toNat)).take (c.length - (a.Yb.length:Int).toNat)) f).bind fun d=>Dc N a6 a8 a e d))
def Dk (a:Vz):Option (Int×Vz):=
 (fJ N a).bind fun c=>bif c then (some (1,a)) else ((mx N a.Yb a.Yg).bind fun a6=>(DA N a6 a).bind fun a8=>dB a8 (fun y26_0=>Da N a y26_0.1.XS y26_0.1.XR y26_0.2.1 y26_0.2.2) (fun y26_1=>xo N a y26_1.1.XS y26_1.1.XR y26_1.2.1 y26_1.2.2))
theorem OX {N:Nat}{r:Int×Vz}(h:Dk N a=some r):Okc V5 97 [pV B1 0,.func (.func 100) #[] #[pV d 0]] ([aQ d 60 [pV B1 0],ab B1 128 [Y A2 n2 c2,Y A3 n3 c3,Y A4 n4 c4,Y A5 n5 c5,pV B6 0],aC A2 n2 c2 a.m_.XS,aC A3 n3 c3 a.m_.XR,aj A4 n4 c4 a.Yb,aj A5 n5 c5 a.Yg,ab B6 186 [.map (some M7)],aA ax aU M7 a.Yf.at_]) (fun u p=> ∃A0 n0 c0 A1 c c1 A2 n2 c2 A3 n3 c3 M4,u=iV r.1/\p=[ab B1 128 [Y A0 n0 c0,Y A1 c c1,Y A2 n2 c2,Y A3 n3 c3,pV B6 0],aC A0 n0 c0 r.2.m_.XS,aC A1 c c1 r.2.m_.XR,aj A2 n2 c2 r.2.Yb,aj A3 n3 c3 r.2.Yg,ab B6 186 [.map (some M4)],aA ax aU M4 r.2.Yf.at_]):=by
 refine gQ Tryz.func97 J J ?_;simp only [fe];refine G ?_;refine aH ?_;refine G ?_;obtain ⟨y9,k,h⟩:=ad h;refine gV (co (kI k) J (t9 (fY (i:=1) J) (t9 (cM (i:=2) J) (t9 (cM (i:=3) J) (t9 (cM (i:=4) J) (t9 (cM (i:=5) J) (t9 (fY (i:=6) J) (t9 (mY (i:=7) J) aW))))))) Dv) ?_;refine G ?_;refine gH J h ?_ ?_<;>intro h
 ·refine G ?_;obtain rfl:=bn h;exact dV J J (cS [1,2,3,4,5,6,7] 8) ⟨_,_,_,_,_,_,_,_,_,_,_,_,_,J,J⟩
 refine G ?_;refine aF (fun s L=>(∃o g9 h0 h1 h2 h3 h4 h5 h6 h7 h8 h9 i0 i1 i2 i3 i4,Da N a o g9 h0 h1=some r/\s=[(0,pV B1 0),(4,iV 0),(5,pV h2 0),(6,Y h9 i0 i1),(7,Y i2 i3 i4),(8,iV 1)]/\L=[aC h3 h4 h5 o,aC h6 h7 h8 g9,ab h2 125 [Y h3 h4 h5,Y h6 h7 h8],aj h9 i0 i1 h0,aj i2 i3 i4 h1,aC A2 n2 c2 a.m_.XS,aC A3 n3 c3 a.m_.XR,aj A4 n4 c4 a.Yb,aj A5 n5 c5 a.Yg,ab B1 128 [Y A2 n2 c2,Y A3 n3 c3,Y A4 n4 c4,Y A5 n5 c5,pV B6 0],aA ax aU M7 a.Yf.at_,ab B6 186 [.map (some M7)]])\/(∃(B:VX) (A:VX) (n:VO) (e9:VO) (f1:Nat) (a6:Option Addr) (a8 m:Nat) (j:Option Addr) (f e:Nat) (f2:Option Addr) (f3 f9:Nat) (E:Option Addr) (D C:Nat),xo N a B A n e9=some r/\s=[(0,pV B1 0),(4,iV 0),(5,pV f1 0),(6,Y f2 f3 f9),(7,Y E D C),(8,iV 0)]/\L=[aC a6 a8 m B,aC j f e A,ab f1 125 [Y a6 a8 m,Y j f e],aj f2 f3 f9 n,aj E D C e9,aj A4 n4 c4 a.Yb,aj A5 n5 c5 a.Yg,ab B1 128 [Y A2 n2 c2,Y A3 n3 c3,Y A4 n4 c4,Y A5 n5 c5,pV B6 0],aA ax aU M7 a.Yf.at_,ab B6 186 [.map (some M7)]])) ?_ ?_
 ·refine cy I ([aQ d 60 [pV B1 0],ab B1 128 [Y A2 n2 c2,Y A3 n3 c3,Y A4 n4 c4,Y A5 n5 c5,pV B6 0],aj A4 n4 c4 a.Yb,aj A5 n5 c5 a.Yg,ab B6 186 [.map (some M7)],aA ax aU M7 a.Yf.at_]) (cS [0,1,4,5,6,7] 8) ?_;refine zE 0 J (ay J) ?_;refine zE 1 J (ay J) ?_;refine zE 2 J (cr J) ?_;refine zE 3 J (bW J lS) ?_;refine zR 4 J (cn 1 J J gt J) ?_;refine zE 5 J (ay J) ?_;refine zE 6 J (cr J) ?_;refine zE 7 J (bW J oB) ?_;refine zR 8 J (cn 1 J J gt J) ?_;refine aB 17 J J ?_;refine aD 9 (ke (cs:=[Y A4 n4 c4,Y A5 n5 c5]) J (ox _ _ _ _ _ _)) ?_;rintro _ _ ⟨m1,rfl,rfl⟩;refine cj (cS [1,2,5,6,7,8] 9) ?_;obtain ⟨m2,k,h⟩:=ad h;refine aD 10 (co (pf k) J (t9 (fY (i:=0) J) (t9 (cM (i:=5) J) (t9 (cM (i:=6) J) aW))) pe) ?_;rintro _ _ ⟨_,⟨m3,m4,m5,rfl,rfl⟩,rfl⟩;refine cj (cS [2,3,6,7,8,9] 10) ?_;refine NI (cu 0 J) (cS [2,3,6,7,8,9] 10) ?_;refine tg ?_;obtain ⟨k3,e1,h⟩:=ad h;rcases k3 with y26_0|y26_1
  ·replace h:=gk h;refine aD 11 (vU (HL e1) J J J (f0 [0,2] [3,4,5,6,7,8,9] [0,1,2] 10 J)) ?_;rintro _ _ ⟨_,⟨i5,i6,i7,i8,i9,j0,k4,k5,k6,k7,k8,k9,rfl,rfl⟩,rfl⟩;refine cj (cS [13,8,6,7,9,10] 14) ?_;refine tg ?_;refine aY [12,13,14,15,16] ?_;refine aE 17 fun l0=> ?_
   refine zO 18 J (bL (us:=[Y i5 i6 i7,Y i8 i9 j0]) (cs':=[Y i5 i6 i7,Y i8 i9 j0]) 0 J J J J size125.out J J J) ?_;rintro _ _ rfl;refine cj (cS [14,9,7,8,10,11] 15) ?_;refine bX ?_;refine zE 19 J (dQ J) ?_;refine zE 20 J (dQ J) ?_;refine zE 21 J (dQ J) ?_;refine cJ I ?_;refine d5 ?_;exact ⟨_,_,.inl (⟨y26_0.1.XS,y26_0.1.XR,y26_0.2.1,y26_0.2.2,l0,i5,i6,i7,i8,i9,j0,k4,k5,k6,k7,k8,k9,h,J,J⟩),sA,cS [1,2,0,3,4,5,6,7,8,9,11,10] 15⟩
  replace h:=gj h;refine aD 11 (vU (HL e1) J J J (f0 [0,2] [3,4,5,6,7,8,9] [0,1,2] 10 J)) ?_;rintro _ _ ⟨_,⟨j1,j2,j3,j4,j5,j6,l1,l2,l3,l4,l5,l6,rfl,rfl⟩,rfl⟩;refine cj (cS [11,6,4,5,7,8] 12) ?_;refine tg ?_;refine aY [12,13,14,15,16] ?_;refine aE 17 fun l7=> ?_
  refine zO 18 J (bL (us:=[Y j1 j2 j3,Y j4 j5 j6]) (cs':=[Y j1 j2 j3,Y j4 j5 j6]) 0 J J J J size125.out J J J) ?_;rintro _ _ rfl;refine cj (cS [12,7,5,6,8,9] 13) ?_;refine bX ?_;refine zE 19 J (dQ J) ?_;refine zE 20 J (dQ J) ?_;refine zE 21 J (dQ J) ?_;refine cJ I ?_;refine d5 ?_;exact ⟨_,_,.inr (⟨y26_1.1.XS,y26_1.1.XR,y26_1.2.1,y26_1.2.2,l7,j1,j2,j3,j4,j5,j6,l1,l2,l3,l4,l5,l6,h,J,J⟩),sA,cS [1,2,0,3,4,5,6,7,9,8] 13⟩
 rintro _ _ (⟨o,g9,h0,h1,h2,h3,h4,h5,h6,h7,h8,h9,i0,i1,i2,i3,i4,h,rfl,rfl⟩|⟨B,A,n,e9,f1,a6,a8,m,j,f,e,f2,f3,f9,E,D,C,h,rfl,rfl⟩)
 ·refine aH ?_;refine G ?_;refine d9 J ?_;refine G ?_;obtain rfl:=bn h;exact dV J J (cS [9,5,6,7,8,11,10] 12) ⟨_,_,_,_,_,_,_,_,_,_,_,_,_,J,J⟩
 refine aH ?_;refine G ?_;refine d8 J ?_;refine G ?_;refine gR (ie 5 J aw J z9) ?_;refine G ?_;refine aF (fun s L=> ∃g0 g1 Q P O M K H,Dc N B A a g0 g1=some r/\s=[(0,pV B1 0),(4,iV 0)]/\L=[aC a6 a8 m B,aC j f e A,aj Q P O g0,aj M K H g1,ab B1 128 [Y a6 a8 m,Y j f e,Y Q P O,Y M K H,pV B6 0],aA ax aU M7 a.Yf.at_,ab B6 186 [.map (some M7)]]) ?_ ?_
 ·refine dx ?_ dG (cu 3 J);refine Cr ?_;refine cy I ([aC a6 a8 m B,aC j f e A,ab f1 125 [Y a6 a8 m,Y j f e],ap f2 f3 f9 n,aj E D C e9,aj A4 n4 c4 a.Yb,aj A5 n5 c5 a.Yg,aA ax aU M7 a.Yf.at_,ab B6 186 [.map (some M7)]]) (cS [0,1,2,3,4,5,6,8,9] 10) ?_;refine zE 0 J (ay J) ?_;refine zE 1 J (ay J) ?_;refine zE 2 J (ay J) ?_;refine zR 3 J (db (us:=[Y a6 a8 m,Y j f e]) 2 J J agg125.out J) ?_;refine zE 4 J (ay J) ?_;refine zE 5 J (ay J) ?_;obtain ⟨F,h⟩:=ai h;refine oM 3 J (l:=0) (h:=(a.Yb.length:Int).toNat) F.2.1 F.2.2 ?_;rintro m6 m7 m8 l8;refine zR 6 J (Gu 4 J l8 J z9 size29.out J J (by rw [Wh F.1];rfl) F.2.1 F.2.2) ?_;refine zE 8 J (ay J) ?_;refine zE 9 J (ay J) ?_;obtain ⟨Z,h⟩:=ai h;refine oM 4 J (l:=(a.Yb.length:Int).toNat) (h:=n.length) Z.2.1 Z.2.2 ?_;rintro j9 k0 k2 l9;refine zR 10 J (oJ 5 J l9 J z9 size29.out J (by rw [Wh Z.1];rfl) Z.2.1) ?_;refine zE 11 J (ay J) ?_;refine nh 7 12 I ?_ ?_
  ·obtain ⟨m0,k,h⟩:=ad h;refine iS J (co (pA k) J (t9 (bK (i:=1) J J) aW) yn) J J J ?_;rintro _ _ ⟨_,⟨X,V,U,rfl,rfl⟩,rfl⟩;refine cj (cS [1,2,3,4,5,6,7,8,9,11,12] 13) ?_;refine zD 12 J (ke (cs:=[Y j9 k0 k2,Y E D C]) J (ox _ _ _ _ _ _)) ?_;rintro _ _ ⟨m9,rfl,rfl⟩;refine cj (cS [2,3,4,5,6,7,8,9,10,12,13] 14) ?_;obtain ⟨j7,c9,h⟩:=ad h;refine zD 13 J (co (pf c9) J (t9 (fY (i:=0) J) (t9 (bK (i:=2) J J) (t9 (cM (i:=8) J) aW))) pe) ?_;rintro _ _ ⟨_,⟨z,t,q,rfl,rfl⟩,rfl⟩;refine cj (cS [3,4,5,6,7,8,9,10,11,13,14] 15) ?_;refine zE 14 J (cr J) ?_;refine zE 15 J (fb J kj) ?_;refine zO 16 J (bL (us:=[Y a6 a8 m,Y j f e]) (cs':=[Y a6 a8 m,Y j f e,Y A4 n4 c4,Y A5 n5 c5,pV B6 0]) 12 J J J J size125.out J J J) ?_;rintro _ _ rfl;refine cj (cS [3,4,5,6,7,8,9,10,11,13,14] 15) ?_;refine bX ?_;refine zE 17 J (cr J) ?_;refine zE 18 J (bW J lS) ?_;refine zO 19 J (bL (us:=[Y X V U]) (cs':=[Y a6 a8 m,Y j f e,Y X V U,Y A5 n5 c5,pV B6 0]) 12 J J J J size43.out J J J) ?_;rintro _ _ rfl;refine cj (cS [3,4,5,6,7,8,9,10,11,13,14] 15) ?_;refine bX ?_;refine zE 20 J (cr J) ?_;refine zE 21 J (bW J oB) ?_;refine zO 22 J (bL (us:=[Y z t q]) (cs':=[Y a6 a8 m,Y j f e,Y X V U,Y z t q,pV B6 0]) 12 J J J J size43.out J J J) ?_;rintro _ _ rfl;refine cj (cS [3,4,5,6,7,8,9,10,11,13,14] 15) ?_;refine bX ?_;refine cJ I ?_;refine d5 ?_;exact ⟨_,_,⟨m0,j7,X,V,U,z,t,q,h,J,J⟩,sA,cS [5,6,2,0,12,13,14] 15⟩
  refine iS J (ke (cs:=[Y j9 k0 k2,Y E D C]) J (ox _ _ _ _ _ _)) J J J ?_;rintro _ _ ⟨n8,rfl,rfl⟩;refine cj (cS [1,2,3,4,5,6,7,8,9,11,12] 13) ?_;obtain ⟨y45,k,h⟩:=ad h;refine zD 7 J (co (pA k) J (t9 (bK (i:=2) J J) aW) yn) ?_;rintro _ _ ⟨_,⟨T,S,R,rfl,rfl⟩,rfl⟩;refine cj (cS [2,3,4,5,6,7,8,9,10,12,13] 14) ?_;obtain ⟨j7,c9,h⟩:=ad h;refine zD 13 J (co (pf c9) J (t9 (fY (i:=1) J) (t9 (bK (i:=2) J J) (t9 (cM (i:=8) J) aW))) pe) ?_;rintro _ _ ⟨_,⟨z,t,q,rfl,rfl⟩,rfl⟩;refine cj (cS [3,4,5,6,7,8,9,10,11,13,14] 15) ?_;refine zE 14 J (cr J) ?_;refine zE 15 J (fb J kj) ?_;refine zO 16 J (bL (us:=[Y a6 a8 m,Y j f e]) (cs':=[Y a6 a8 m,Y j f e,Y A4 n4 c4,Y A5 n5 c5,pV B6 0]) 12 J J J J size125.out J J J) ?_;rintro _ _ rfl;refine cj (cS [3,4,5,6,7,8,9,10,11,13,14] 15) ?_;refine bX ?_;refine zE 17 J (cr J) ?_;refine zE 18 J (bW J lS) ?_;refine zO 19 J (bL (us:=[Y T S R]) (cs':=[Y a6 a8 m,Y j f e,Y T S R,Y A5 n5 c5,pV B6 0]) 12 J J J J size43.out J J J) ?_;rintro _ _ rfl;refine cj (cS [3,4,5,6,7,8,9,10,11,13,14] 15) ?_;refine bX ?_;refine zE 20 J (cr J) ?_;refine zE 21 J (bW J oB) ?_;refine zO 22 J (bL (us:=[Y z t q]) (cs':=[Y a6 a8 m,Y j f e,Y T S R,Y z t q,pV B6 0]) 12 J J J J size43.out J J J) ?_;rintro _ _ rfl;refine cj (cS [3,4,5,6,7,8,9,10,11,13,14] 15) ?_;refine bX ?_;refine cJ I ?_;refine d5 ?_;exact ⟨_,_,⟨y45,j7,T,S,R,z,t,q,h,J,J⟩,sA,cS [5,6,1,0,12,13,14] 15⟩
 rintro _ _ ⟨g0,g1,Q,P,O,M,K,H,h,rfl,rfl⟩;refine aH ?_;refine cy I ([aC a6 a8 m B,aC j f e A,aj Q P O g0,aj M K H g1,ab B1 128 [Y a6 a8 m,Y j f e,Y Q P O,Y M K H,pV B6 0]]) (cS [0,1,2,3,4] 7) ?_;refine zE 0 J (ay J) ?_;refine zE 1 J (cr J) ?_;refine zE 2 J (bW J Bb) ?_;refine zR 3 J (cn 4 J J Ce J) ?_;refine zE 4 J (ay J) ?_;refine zE 5 J (cr J) ?_;refine zE 6 J (fb J kj) ?_;refine zR 7 J (db (us:=[Y a6 a8 m,Y j f e]) 4 J J agg125.out J) ?_;obtain ⟨n9,j8,h⟩:=ad h;refine fg (cS [6,5,0,1,2,3,4] 7) (cS [2,3,4,5,6] 7) ?_;refine bX ?_;refine zD 8 J (Bj 2 2 (H1 j8) J J J J (t9 (ot (i:=2) J J) (t9 (ot (i:=3) J J) aW)) HH) ?_;rintro _ _ ⟨_,⟨o0,rfl,rfl⟩,rfl⟩;refine cj (cS [2,3,4,5,6] 7) ?_;refine bX ?_;refine cJ I ?_;refine G ?_;obtain rfl:=bn h;exact dV J J (cS [6,2,3,4,5,0,1] 7) ⟨_,_,_,_,_,_,_,_,_,_,_,_,_,J,J⟩
def xp (N:Nat)(a:Vz)(c a8:VX)(e d:VO)(a6:Int):Option (Int×Vz):=
 bif !decide (a6=0) then (some (a6,a)) else none
def C8 (a6 c:VX)(a:Vz)(a8 e:VO):Option (Int×Vz):=
 (mF N a.Yf (⟨a6,c⟩:Vw)).bind fun d=>some (0,(⟨(⟨a6,c⟩:Vw),a8,e,d⟩:Vz))
def xq (a:Vz)(a8 c:VX)(a6 f:VO):Option (Int×Vz):=
 ae ((0:Int)<=(a.Yb.length:Int)/\0<=(a.Yb.length:Int).toNat/\(a.Yb.length:Int).toNat<=a6.length) (ae ((0:Int)<=(a.Yb.length:Int)/\(a.Yb.length:Int).toNat<=a6.length/\a6.length<=a6.length) ((kK N ((a6.drop 0).take ((a.Yb.length:Int).toNat - 0))).bind fun e=>(mx N ((a6.drop ((a.Yb.length:Int).toNat)).take (a6.length - (a.Yb.length:Int).toNat)) f).bind fun d=>C8 N a8 c a e d))
def Dj (a:Vz):Option (Int×Vz):=
 (fJ N a).bind fun c=>bif c then (some (1,a)) else ((mx N a.Yb a.Yg).bind fun a6=>(Dz N a6 a).bind fun a8=>dB a8 (fun y27_0=>xp N a y27_0.1.XS y27_0.1.XR y27_0.2.1 y27_0.2.2.1 y27_0.2.2.2) (fun y27_1=>xq N a y27_1.1.XS y27_1.1.XR y27_1.2.1 y27_1.2.2))
theorem OU {N:Nat}{r:Int×Vz}(h:Dj N a=some r):Okc V5 97 [pV B1 0,.func (.func 98) #[] #[pV d 0]] ([aQ d 60 [pV B1 0],ab B1 128 [Y A2 n2 c2,Y A3 n3 c3,Y A4 n4 c4,Y A5 n5 c5,pV B6 0],aC A2 n2 c2 a.m_.XS,aC A3 n3 c3 a.m_.XR,aj A4 n4 c4 a.Yb,aj A5 n5 c5 a.Yg,ab B6 186 [.map (some M7)],aA ax aU M7 a.Yf.at_]) (fun u p=> ∃A0 n0 c0 A1 c c1 A2 n2 c2 A3 n3 c3 M4,u=iV r.1/\p=[ab B1 128 [Y A0 n0 c0,Y A1 c c1,Y A2 n2 c2,Y A3 n3 c3,pV B6 0],aC A0 n0 c0 r.2.m_.XS,aC A1 c c1 r.2.m_.XR,aj A2 n2 c2 r.2.Yb,aj A3 n3 c3 r.2.Yg,ab B6 186 [.map (some M4)],aA ax aU M4 r.2.Yf.at_]):=by
 refine gQ Tryz.func97 J J ?_;simp only [fe];refine G ?_;refine aH ?_;refine G ?_;obtain ⟨y9,k,h⟩:=ad h;refine gV (co (kI k) J (t9 (fY (i:=1) J) (t9 (cM (i:=2) J) (t9 (cM (i:=3) J) (t9 (cM (i:=4) J) (t9 (cM (i:=5) J) (t9 (fY (i:=6) J) (t9 (mY (i:=7) J) aW))))))) Dv) ?_;refine G ?_;refine gH J h ?_ ?_<;>intro h
 ·refine G ?_;obtain rfl:=bn h;exact dV J J (cS [1,2,3,4,5,6,7] 8) ⟨_,_,_,_,_,_,_,_,_,_,_,_,_,J,J⟩
 refine G ?_;refine aF (fun s L=>(∃o g9 h0 h1 h2 h3 h4 h5 h6 h7 h8 h9 i0 i1 i2 i3 i4 i5,xp N a o g9 h0 h1 h2=some r/\s=[(0,pV B1 0),(4,iV 0),(5,pV h3 0),(6,Y i0 i1 i2),(7,Y i3 i4 i5),(8,iV h2)]/\L=[aC h4 h5 h6 o,aC h7 h8 h9 g9,ab h3 125 [Y h4 h5 h6,Y h7 h8 h9],aj i0 i1 i2 h0,aj i3 i4 i5 h1,aC A2 n2 c2 a.m_.XS,aC A3 n3 c3 a.m_.XR,aj A4 n4 c4 a.Yb,aj A5 n5 c5 a.Yg,ab B1 128 [Y A2 n2 c2,Y A3 n3 c3,Y A4 n4 c4,Y A5 n5 c5,pV B6 0],aA ax aU M7 a.Yf.at_,ab B6 186 [.map (some M7)]])\/(∃(A:VX) (n:VX) (Q:VO) (e9:VO) (f1:Nat) (a6:Option Addr) (a8 m:Nat) (j:Option Addr) (f e:Nat) (f2:Option Addr) (f3 f9:Nat) (D:Option Addr) (C B:Nat),xq N a A n Q e9=some r/\s=[(0,pV B1 0),(4,iV 0),(5,pV f1 0),(6,Y f2 f3 f9),(7,Y D C B),(8,iV 0)]/\L=[aC a6 a8 m A,aC j f e n,ab f1 125 [Y a6 a8 m,Y j f e],aj f2 f3 f9 Q,aj D C B e9,aC A2 n2 c2 a.m_.XS,aC A3 n3 c3 a.m_.XR,aj A4 n4 c4 a.Yb,aj A5 n5 c5 a.Yg,ab B1 128 [Y A2 n2 c2,Y A3 n3 c3,Y A4 n4 c4,Y A5 n5 c5,pV B6 0],aA ax aU M7 a.Yf.at_,ab B6 186 [.map (some M7)]])) ?_ ?_
 ·refine cy I _ (ah _) ?_;refine zE 0 J (ay J) ?_;refine zE 1 J (ay J) ?_;refine zE 2 J (cr J) ?_;refine zE 3 J (bW J lS) ?_;refine zR 4 J (cn 1 J J gt J) ?_;refine zE 5 J (ay J) ?_;refine zE 6 J (cr J) ?_;refine zE 7 J (bW J oB) ?_;refine zR 8 J (cn 1 J J gt J) ?_;refine aB 17 J J ?_;refine aD 9 (ke (cs:=[Y A4 n4 c4,Y A5 n5 c5]) J (ox _ _ _ _ _ _)) ?_;rintro _ _ ⟨m3,rfl,rfl⟩;refine cj (cS [1,2,3,4,5,6,7,8] 9) ?_;obtain ⟨m4,k,h⟩:=ad h;refine aD 10 (co (pf k) J (t9 (fY (i:=0) J) (t9 (cM (i:=5) J) (t9 (cM (i:=6) J) aW))) pe) ?_;rintro _ _ ⟨_,⟨m5,m6,m7,rfl,rfl⟩,rfl⟩;refine cj (cS [2,3,4,5,6,7,8,9] 10) ?_;refine NI (cu 0 J) (cS [2,3,4,5,6,7,8,9] 10) ?_;refine tg ?_;obtain ⟨k4,e1,h⟩:=ad h;rcases k4 with y27_0|y27_1
  ·replace h:=gk h;refine aD 11 (vU (HR e1) J J J (f0 [0,2] [3,4,5,6,7,8,9] [0,1,2] 10 J)) ?_;rintro _ _ ⟨_,⟨i6,i7,i8,i9,j0,j1,k5,k6,k7,k8,k9,l0,rfl,rfl⟩,rfl⟩;refine cj (cS [13,8,4,5,6,7,9,10] 14) ?_;refine tg ?_;refine aY [12,13,14,15,16] ?_;refine aE 17 fun l1=> ?_
   refine zO 18 J (bL (us:=[Y i6 i7 i8,Y i9 j0 j1]) (cs':=[Y i6 i7 i8,Y i9 j0 j1]) 0 J J J J size125.out J J J) ?_;rintro _ _ rfl;refine cj (cS [14,9,5,6,7,8,10,11] 15) ?_;refine bX ?_;refine zE 19 J (dQ J) ?_;refine zE 20 J (dQ J) ?_;refine zE 21 J (dQ J) ?_;refine cJ I ?_;refine d5 ?_;exact ⟨_,_,.inl (⟨y27_0.1.XS,y27_0.1.XR,y27_0.2.1,y27_0.2.2.1,y27_0.2.2.2,l1,i6,i7,i8,i9,j0,j1,k5,k6,k7,k8,k9,l0,h,J,J⟩),sA,cS [1,2,0,3,4,5,6,7,8,9,11,10] 15⟩
  replace h:=gj h;refine aD 11 (vU (HR e1) J J J (f0 [0,2] [3,4,5,6,7,8,9] [0,1,2] 10 J)) ?_;rintro _ _ ⟨_,⟨j2,j3,j4,j5,j6,j7,l2,l3,l4,l5,l6,l7,rfl,rfl⟩,rfl⟩;refine cj (cS [13,8,4,5,6,7,9,10] 14) ?_;refine tg ?_;refine aY [12,13,14,15,16] ?_;refine aE 17 fun l8=> ?_
  refine zO 18 J (bL (us:=[Y j2 j3 j4,Y j5 j6 j7]) (cs':=[Y j2 j3 j4,Y j5 j6 j7]) 0 J J J J size125.out J J J) ?_;rintro _ _ rfl;refine cj (cS [14,9,5,6,7,8,10,11] 15) ?_;refine bX ?_;refine zE 19 J (dQ J) ?_;refine zE 20 J (dQ J) ?_;refine zE 21 J (dQ J) ?_;refine cJ I ?_;refine d5 ?_;exact ⟨_,_,.inr (⟨y27_1.1.XS,y27_1.1.XR,y27_1.2.1,y27_1.2.2,l8,j2,j3,j4,j5,j6,j7,l2,l3,l4,l5,l6,l7,h,J,J⟩),sA,cS [1,2,0,3,4,5,6,7,8,9,11,10] 15⟩
 rintro _ _ (⟨o,g9,h0,h1,h2,h3,h4,h5,h6,h7,h8,h9,i0,i1,i2,i3,i4,i5,h,rfl,rfl⟩|⟨A,n,Q,e9,f1,a6,a8,m,j,f,e,f2,f3,f9,D,C,B,h,rfl,rfl⟩)
 ·refine aH ?_;refine G ?_;refine gH J h ?_ ?_<;>intro h
  ·refine G ?_;obtain rfl:=bn h;exact dV J J (cS [9,5,6,7,8,11,10] 12) ⟨_,_,_,_,_,_,_,_,_,_,_,_,_,J,J⟩
  exact bO h
 refine aH ?_;refine G ?_;refine d8 J ?_;refine G ?_;refine gR (cn 9 J J gt J) ?_;refine gR (ie 7 J aw J z9) ?_;refine G ?_;refine aF (fun s L=> ∃g0 g1 P O M K H F,C8 N A n a g0 g1=some r/\s=[(0,pV B1 0),(4,iV 0)]/\L=[aC a6 a8 m A,aC j f e n,aj P O M g0,aj K H F g1,ab B1 128 [Y a6 a8 m,Y j f e,Y P O M,Y K H F,pV B6 0],aA ax aU M7 a.Yf.at_,ab B6 186 [.map (some M7)]]) ?_ ?_
 ·refine dx ?_ dG (cu 3 J);refine Cr ?_;refine cy I ([aC a6 a8 m A,aC j f e n,ab f1 125 [Y a6 a8 m,Y j f e],ap f2 f3 f9 Q,aj D C B e9,aC A2 n2 c2 a.m_.XS,aC A3 n3 c3 a.m_.XR,aj A4 n4 c4 a.Yb,aj A5 n5 c5 a.Yg,aA ax aU M7 a.Yf.at_,ab B6 186 [.map (some M7)]]) (cS [0,1,2,3,4,5,6,7,8,10,11] 12) ?_;refine zE 0 J (ay J) ?_;refine zE 1 J (ay J) ?_;refine zE 2 J (ay J) ?_;refine zR 3 J (db (us:=[Y a6 a8 m,Y j f e]) 2 J J agg125.out J) ?_;refine zE 4 J (ay J) ?_;refine zE 5 J (ay J) ?_;obtain ⟨E,h⟩:=ai h;refine oM 3 J (l:=0) (h:=(a.Yb.length:Int).toNat) E.2.1 E.2.2 ?_;rintro m8 m9 n8 l9;refine zR 6 J (Gu 4 J l9 J z9 size29.out J J (by rw [Wh E.1];rfl) E.2.1 E.2.2) ?_;refine zE 8 J (ay J) ?_;refine zE 9 J (ay J) ?_;obtain ⟨Z,h⟩:=ai h;refine oM 4 J (l:=(a.Yb.length:Int).toNat) (h:=Q.length) Z.2.1 Z.2.2 ?_;rintro k0 k2 k3 m0;refine zR 10 J (oJ 5 J m0 J z9 size29.out J (by rw [Wh Z.1];rfl) Z.2.1) ?_;refine zE 11 J (ay J) ?_;refine nh 7 12 I ?_ ?_
  ·obtain ⟨m1,k,h⟩:=ad h;refine iS J (co (pA k) J (t9 (bK (i:=1) J J) aW) yn) J J J ?_;rintro _ _ ⟨_,⟨X,V,U,rfl,rfl⟩,rfl⟩;refine cj (cS [1,2,3,4,5,6,7,8,9,10,11,13,14] 15) ?_;refine zD 12 J (ke (cs:=[Y k0 k2 k3,Y D C B]) J (ox _ _ _ _ _ _)) ?_;rintro _ _ ⟨n9,rfl,rfl⟩;refine cj (cS [2,3,4,5,6,7,8,9,10,11,12,14,15] 16) ?_;obtain ⟨j8,c8,h⟩:=ad h;refine zD 13 J (co (pf c8) J (t9 (fY (i:=0) J) (t9 (bK (i:=2) J J) (t9 (cM (i:=8) J) aW))) pe) ?_;rintro _ _ ⟨_,⟨z,t,q,rfl,rfl⟩,rfl⟩;refine cj (cS [3,4,5,6,7,8,9,10,11,12,13,15,16] 17) ?_;refine zE 14 J (cr J) ?_;refine zE 15 J (fb J kj) ?_;refine zO 16 J (bL (us:=[Y a6 a8 m,Y j f e]) (cs':=[Y a6 a8 m,Y j f e,Y A4 n4 c4,Y A5 n5 c5,pV B6 0]) 14 J J J J size125.out J J J) ?_;rintro _ _ rfl;refine cj (cS [3,4,5,6,7,8,9,10,11,12,13,15,16] 17) ?_;refine bX ?_;refine zE 17 J (cr J) ?_;refine zE 18 J (bW J lS) ?_;refine zO 19 J (bL (us:=[Y X V U]) (cs':=[Y a6 a8 m,Y j f e,Y X V U,Y A5 n5 c5,pV B6 0]) 14 J J J J size43.out J J J) ?_;rintro _ _ rfl;refine cj (cS [3,4,5,6,7,8,9,10,11,12,13,15,16] 17) ?_;refine bX ?_;refine zE 20 J (cr J) ?_;refine zE 21 J (bW J oB) ?_;refine zO 22 J (bL (us:=[Y z t q]) (cs':=[Y a6 a8 m,Y j f e,Y X V U,Y z t q,pV B6 0]) 14 J J J J size43.out J J J) ?_;rintro _ _ rfl;refine cj (cS [3,4,5,6,7,8,9,10,11,12,13,15,16] 17) ?_;refine bX ?_;refine cJ I ?_;refine d5 ?_;exact ⟨_,_,⟨m1,j8,X,V,U,z,t,q,h,J,J⟩,sA,cS [5,6,2,0,14,15,16] 17⟩
  refine iS J (ke (cs:=[Y k0 k2 k3,Y D C B]) J (ox _ _ _ _ _ _)) J J J ?_;rintro _ _ ⟨o0,rfl,rfl⟩;refine cj (cS [1,2,3,4,5,6,7,8,9,10,11,13,14] 15) ?_;obtain ⟨m2,k,h⟩:=ad h;refine zD 7 J (co (pA k) J (t9 (bK (i:=2) J J) aW) yn) ?_;rintro _ _ ⟨_,⟨T,S,R,rfl,rfl⟩,rfl⟩;refine cj (cS [2,3,4,5,6,7,8,9,10,11,12,14,15] 16) ?_;obtain ⟨j8,c8,h⟩:=ad h;refine zD 13 J (co (pf c8) J (t9 (fY (i:=1) J) (t9 (bK (i:=2) J J) (t9 (cM (i:=8) J) aW))) pe) ?_;rintro _ _ ⟨_,⟨z,t,q,rfl,rfl⟩,rfl⟩;refine cj (cS [3,4,5,6,7,8,9,10,11,12,13,15,16] 17) ?_;refine zE 14 J (cr J) ?_;refine zE 15 J (fb J kj) ?_;refine zO 16 J (bL (us:=[Y a6 a8 m,Y j f e]) (cs':=[Y a6 a8 m,Y j f e,Y A4 n4 c4,Y A5 n5 c5,pV B6 0]) 14 J J J J size125.out J J J) ?_;rintro _ _ rfl;refine cj (cS [3,4,5,6,7,8,9,10,11,12,13,15,16] 17) ?_;refine bX ?_;refine zE 17 J (cr J) ?_;refine zE 18 J (bW J lS) ?_;refine zO 19 J (bL (us:=[Y T S R]) (cs':=[Y a6 a8 m,Y j f e,Y T S R,Y A5 n5 c5,pV B6 0]) 14 J J J J size43.out J J J) ?_;rintro _ _ rfl;refine cj (cS [3,4,5,6,7,8,9,10,11,12,13,15,16] 17) ?_;refine bX ?_;refine zE 20 J (cr J) ?_;refine zE 21 J (bW J oB) ?_;refine zO 22 J (bL (us:=[Y z t q]) (cs':=[Y a6 a8 m,Y j f e,Y T S R,Y z t q,pV B6 0]) 14 J J J J size43.out J J J) ?_;rintro _ _ rfl;refine cj (cS [3,4,5,6,7,8,9,10,11,12,13,15,16] 17) ?_;refine bX ?_;refine cJ I ?_;refine d5 ?_;exact ⟨_,_,⟨m2,j8,T,S,R,z,t,q,h,J,J⟩,sA,cS [5,6,1,0,14,15,16] 17⟩
 rintro _ _ ⟨g0,g1,P,O,M,K,H,F,h,rfl,rfl⟩;refine aH ?_;refine cy I ([aC a6 a8 m A,aC j f e n,aj P O M g0,aj K H F g1,ab B1 128 [Y a6 a8 m,Y j f e,Y P O M,Y K H F,pV B6 0]]) (cS [0,1,2,3,4] 7) ?_;refine zE 0 J (ay J) ?_;refine zE 1 J (cr J) ?_;refine zE 2 J (bW J Bb) ?_;refine zR 3 J (cn 4 J J Ce J) ?_;refine zE 4 J (ay J) ?_;refine zE 5 J (cr J) ?_;refine zE 6 J (fb J kj) ?_;refine zR 7 J (db (us:=[Y a6 a8 m,Y j f e]) 4 J J agg125.out J) ?_;obtain ⟨o1,j9,h⟩:=ad h;refine fg (cS [6,5,0,1,2,3,4] 7) (cS [2,3,4,5,6] 7) ?_;refine bX ?_;refine zD 8 J (Bj 2 2 (H1 j9) J J J J (t9 (ot (i:=2) J J) (t9 (ot (i:=3) J J) aW)) HH) ?_;rintro _ _ ⟨_,⟨o2,rfl,rfl⟩,rfl⟩;refine cj (cS [2,3,4,5,6] 7) ?_;refine bX ?_;refine cJ I ?_;refine G ?_;obtain rfl:=bn h;exact dV J J (cS [6,2,3,4,5,0,1] 7) ⟨_,_,_,_,_,_,_,_,_,_,_,_,_,J,J⟩
def mH (a:Vz):Option (Int×Vz):=
 (Dj N a).bind fun c=>some (c.1,c.2)
theorem PW {N:Nat}{r:Int×Vz}(h:mH N a=some r):Okc V5 46 [pV B1 0] ([ab B1 128 [Y A2 n2 c2,Y A3 n3 c3,Y A4 n4 c4,Y A5 n5 c5,pV B6 0],aC A2 n2 c2 a.m_.XS,aC A3 n3 c3 a.m_.XR,aj A4 n4 c4 a.Yb,aj A5 n5 c5 a.Yg,ab B6 186 [.map (some M7)],aA ax aU M7 a.Yf.at_]) (fun u p=> ∃j e f A1 c c1 A2 n2 c2 A3 n3 c3 i,u=iV r.1/\p=[ab B1 128 [Y j e f,Y A1 c c1,Y A2 n2 c2,Y A3 n3 c3,pV B6 0],aC j e f r.2.m_.XS,aC A1 c c1 r.2.m_.XR,aj A2 n2 c2 r.2.Yb,aj A3 n3 c3 r.2.Yg,ab B6 186 [.map (some i)],aA ax aU i r.2.Yf.at_]):=by
 refine av Tryz.func46 ?_;intro d;refine aa ?_;refine gE (jZ J) ?_;obtain ⟨l,k,h⟩:=ad h;refine d6 (kO 0 J) ?_;refine gD (oC (OU k)) ?_;rintro _ _ ⟨_,⟨a6,a8,E,D,C,B,A,z,t,q,o,n,m,rfl,rfl⟩,rfl⟩;exact eY
theorem PD {N:Nat}{r:Int×Vz}(h:mH N a=some r):Okc V5 46 [pV B1 0] ([oDHeap B1 a]) (fun u p=>u=iV r.1/\p=[oDHeap B1 r.2]):=il 0 rfl (fun _=>PW h)
def mJ (a:Vz):Option (Int×Vz):=
 (Dk N a).bind fun c=>some (c.1,c.2)
theorem PX {N:Nat}{r:Int×Vz}(h:mJ N a=some r):Okc V5 47 [pV B1 0] ([ab B1 128 [Y A2 n2 c2,Y A3 n3 c3,Y A4 n4 c4,Y A5 n5 c5,pV B6 0],aC A2 n2 c2 a.m_.XS,aC A3 n3 c3 a.m_.XR,aj A4 n4 c4 a.Yb,aj A5 n5 c5 a.Yg,ab B6 186 [.map (some M7)],aA ax aU M7 a.Yf.at_]) (fun u p=> ∃j e f A1 c c1 A2 n2 c2 A3 n3 c3 i,u=iV r.1/\p=[ab B1 128 [Y j e f,Y A1 c c1,Y A2 n2 c2,Y A3 n3 c3,pV B6 0],aC j e f r.2.m_.XS,aC A1 c c1 r.2.m_.XR,aj A2 n2 c2 r.2.Yb,aj A3 n3 c3 r.2.Yg,ab B6 186 [.map (some i)],aA ax aU i r.2.Yf.at_]):=by
 refine av Tryz.func47 ?_;intro d;refine aa ?_;refine gE (jZ J) ?_;obtain ⟨l,k,h⟩:=ad h;refine d6 (kO 0 J) ?_;refine gD (oC (OX k)) ?_;rintro _ _ ⟨_,⟨a6,a8,E,D,C,B,A,z,t,q,o,n,m,rfl,rfl⟩,rfl⟩;exact eY
theorem Pw {N:Nat}{r:Int×Vz}(h:mJ N a=some r):Okc V5 47 [pV B1 0] ([oDHeap B1 a]) (fun u p=>u=iV r.1/\p=[oDHeap B1 r.2]):=il 0 rfl (fun _=>PX h)
def nL (a:Vz)(a1:Int):Option Vz:=
 (fJ N a).bind fun c=>(bif !c then (some (decide (max a1 0<(a.Yb.length:Int)))) else (some false)).bind fun d=>bif d then (ae ((0:Int)<=max a1 0/\(max a1 0).toNat<=a.Yb.length) (some (⟨a.m_,List.take ((max a1 0).toNat) a.Yb,a.Yg,a.Yf⟩:Vz))) else (some a)
theorem Qn {N:Nat}{r:Vz}(h:nL N a a1=some r):Okc V5 96 [pV B1 0,iV a1] ([ab B1 128 [Y A2 n2 c2,Y A3 n3 c3,Y A4 n4 c4,Y A5 n5 c5,pV B6 0],aC A2 n2 c2 a.m_.XS,aC A3 n3 c3 a.m_.XR,aj A4 n4 c4 a.Yb,aj A5 n5 c5 a.Yg,ab B6 186 [.map (some M7)],aA ax aU M7 a.Yf.at_]) (fun u p=> ∃i d e A1 c c1 A2 n2 c2 A3 n3 c3 f,u=.tuple #[]/\p=[ab B1 128 [Y i d e,Y A1 c c1,Y A2 n2 c2,Y A3 n3 c3,pV B6 0],aC i d e r.m_.XS,aC A1 c c1 r.m_.XR,aj A2 n2 c2 r.Yb,aj A3 n3 c3 r.Yg,ab B6 186 [.map (some f)],aA ax aU f r.Yf.at_]):=by
 refine av Tryz.func96 ?_;refine aJ (ab9 J J Ex Ex) ?_;refine cR h (fun _ k=>kI k) fun l h=> ?_
 refine iF 8 17 9 h (fun _ j h=> ?_) (fun _ j h=> ?_) fun m h=> ?_
 ·refine aa ?_;obtain rfl:=bn h;exact fN (jB J (bc (bc (bc (bc (bc (bc (bc (bc dG J) J) J) J) J) J) J) J)) (cS [0,1,2,3,4,5,6] 7)
 ·refine aa ?_;obtain rfl:=bn h;exact fN (jB J (bc (bc (bc (bc (bc (bc (bc (bc dG J) J) J) J) J) J) J) J)) (cS [0,1,2,3,4,5,6] 7)
 refine aG h ?_ ?_<;>intro h
 ·refine aa ?_;obtain ⟨a6,h⟩:=ai h;refine bN (aaD (k:=(max a1 0).toNat) 3 J J z9 size29.out J (by rw [Wh a6.1];rfl) (by rw [Wh a6.1];rfl) a6.2) fun a8 o n=> ?_
  exact eN
 exact eY
theorem H7 {N:Nat}{r:Vz}(h:nL N a a1=some r):Okc V5 96 [pV B1 0,iV a1] ([oDHeap B1 a]) (fun u p=>u=.tuple #[]/\p=[oDHeap B1 r]):=il 0 rfl (fun _=>Qn h)
