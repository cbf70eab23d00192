/- Merged texts: part 6. No conditions of their own. -/
import Derived.Test.YthhiddkljcacaaaGreatG5
set_option maxHeartbeats 4000000
namespace Go.Proofs.YthhiddkljcacaaaGreat
variable (N:Nat){a2:Bool}{a1:Int}{l:Nat}{σ:Type}{j:V3}{a4:VE}{ff:VH->Option Bool}{c:VK}{vf:Value}{a:Vy}
section
theorem Vn:type_of% Tryz.underlying207:=Tryz.underlying207
variable {A1 A2 A3 A4 A5 A6 m:Option Addr}{B1 B2 d e B6 f M7 c1 c2 c3 c4 c5 c6 n i n2 n3 n4 n5 n6 o:Nat}
open Go.RowKit Asn
set_option maxRecDepth 20000
def yV (N:Nat)(a6:Int):Option Int:=
 some a6
def zp (c:VE)(a:Int):Option Int:=
 (eC N c 32).bind fun a6=>bif a6 then (yV N (dD .i64 a 4)) else (yV N a)
def zt (c:VE)(a:Int):Option Int:=
 (eC N c 16).bind fun d=>bif d then (zp N c (dD .i64 a 2)) else (zp N c a)
def zC (c:VE):Option Int:=
 (eC N c 2).bind fun a=>bif a then (zt N c (dD .i64 0 1)) else (zt N c 0)
theorem Q2 {N:Nat}{c:VE}{r:Int}(h:zC N c=some r):Okc V5 183 [(gL c)] ([]) (fun u p=>u=iV r/\p=[]):=by
 refine av Tryz.func183 ?_;intro B1;refine aa ?_;refine aF (fun s L=> ∃d,zt N c d=some r/\s=[(1,pV B1 0),(2,iV 0),(3,iV d)]/\L=[ab B1 36 (iJ c)]) ?_ ?_
 ·refine cR h (fun _ k=>im k) fun f h=> ?_
  refine gH J h ?_ ?_<;>intro h
  ·refine aa ?_;refine aJ (qc J J) ?_;exact jN
  exact jY
 rintro _ _ ⟨d,h,rfl,rfl⟩;refine aF (fun s L=> ∃a,zp N c a=some r/\s=[(1,pV B1 0),(2,iV 0),(3,iV a)]/\L=[ab B1 36 (iJ c)]) ?_ ?_
 ·refine cR h (fun _ k=>im k) fun e h=> ?_
  refine gH J h ?_ ?_<;>intro h
  ·refine aa ?_;refine aJ (qc J J) ?_;exact jN
  exact jY
 rintro _ _ ⟨a,h,rfl,rfl⟩;refine aF (fun s L=> ∃a6,yV N a6=some r/\s=[(2,iV 0),(3,iV a6)]/\L=[]) ?_ ?_
 ·refine cR h (fun _ k=>im k) fun a8 h=> ?_
  refine gH J h ?_ ?_<;>intro h
  ·refine aa ?_;refine aJ (qc J J) ?_;exact jN
  exact jY
 rintro _ _ ⟨a6,h,rfl,rfl⟩;exact eY
def yA (N:Nat)(a1:Vy)(a8 a6:Int)(a2:VE)(m l:Int)(j:ByteArray)(i f:Int)(e:ByteArray)(d c:Int)(a:ByteArray):Option VN:=
 some (⟨a1,dD .i64 (eZ .i64 a8 a6) (aM .i64 a2.XT a6),(⟨m,l,j⟩:VH),(⟨i,f,e⟩:VH),(⟨d,c,a⟩:VH)⟩:VN)
def yQ (a2:VE)(a1:Vy)(a6 a8 i f:Int)(e:ByteArray)(n m:Int)(l:ByteArray)(d c:Int)(a:ByteArray):Option VN:=
 (eC N a2 8).bind fun j=>bif j then (yA N a1 a6 a8 a2 i f e d c a a2.Yd.no a2.Yd.N a2.Yd.S) else (yA N a1 a6 a8 a2 i f e d c a n m l)
def yC (a2:VE)(a1:Vy)(a6 a8 n m:Int)(a:ByteArray)(j i:Int)(f:ByteArray)(e d:Int)(c:ByteArray):Option VN:=
 (eC N a2 4).bind fun l=>bif l then (yQ N a2 a1 a6 a8 e d c j i f a2.Yc.no a2.Yc.N a2.Yc.S) else (yQ N a2 a1 a6 a8 e d c j i f n m a)
def yG (a2:VE)(a1:Vy)(c n:Int)(m:ByteArray)(a6 a8:Int)(a:ByteArray)(j i:Int)(f:ByteArray)(e:Int):Option VN:=
 (zC N a2).bind fun d=>(eC N a2 1).bind fun l=>bif l then (yC N a2 a1 e d a6 a8 a j i f a2.Value.no a2.Value.N a2.Value.S) else (yC N a2 a1 e d a6 a8 a j i f c n m)
def yz (n:Bool)(c:VN)(a2:VE)(a1:Vy)(a6 a8:Int)(d:ByteArray)(m l:Int)(j:ByteArray)(i a f:Int)(e:ByteArray):Option VN:=
 bif n then (yG N a2 a1 a f e a6 a8 d m l j (dD .i64 (dD .i64 i (aM .i64 c.XT 6)) 8)) else (yG N a2 a1 a f e a6 a8 d m l j (dD .i64 i (aM .i64 c.XT 6)))
def yH (c:VN)(d:Bool)(a2:VE)(a1:Vy)(a6 a8:Int)(a:ByteArray)(i f:Int)(e:ByteArray):Option VN:=
 (bif !d then (some (!(!decide (aM .i64 c.XT 8=0)))) else (some false)).bind fun j=>bif j then (yz N d c a2 a1 a6 a8 a i f e (aM .i64 c.XT 1) c.Value.no c.Value.N c.Value.S) else (yz N d c a2 a1 a6 a8 a i f e 0 0 0 (⟨#[]⟩))
def uX (c:VN)(a1:Vy)(a2:VE):Option VN:=
 (eC N a2 12).bind fun e=>(bif e then (some true) else ((bif !decide (aM .i64 c.XT 8=0) then ((eC N a2 3).bind fun d=>some (!d)) else (some false)).bind fun f=>some f)).bind fun a=>(bif a then (some (!decide (aM .i64 c.XT 8=0))) else (some false)).bind fun a6=>bif a6 then (yH N c a a2 a1 c.Yc.no c.Yc.N c.Yc.S c.Yd.no c.Yd.N c.Yd.S) else (yH N c a a2 a1 0 0 (⟨#[]⟩) 0 0 (⟨#[]⟩))
theorem IT {N:Nat}{c:VN}{a1:Vy}{a2:VE}{r:VN}(h:uX N c a1 a2=some r):Okc V5 140 [(dw c),(dN a1),(gL a2)] ([]) (fun u p=>u=(dw r)/\p=[]):=by
 refine av Tryz.func140 ?_;intro B1;refine bB fun B2=> ?_
 intro d;refine bB fun e=> ?_
 refine aJ (fL J J) ?_;refine cR h (fun _ k=>im k) fun Q h=> ?_
 refine dJ 7 24 17 h (fun _ S h=> ?_) fun F h=> ?_
 ·refine aa ?_;refine bF 4 23 19 h (fun _ R h=> ?_) fun b7 h=> ?_
  ·refine cR h (fun _ k=>im k) fun P h=> ?_
   exact gY
  exact gY
 refine bB fun f=> ?_
 refine aF (fun s L=> ∃o n a a6 a8 j,yH N c F a2 a1 o n a a6 a8 j=some r/\s=[(3,pV B1 0),(5,pV d 0),(6,pV e 0),(7,.bool (!decide (aM .i64 c.XT 8=0))),(8,.bool F),(9,pV f 0)]/\L=[ab B1 48 (dS c),ab d 36 (iJ a2),ab e 48 [iV 0,iV 0,.string (⟨#[]⟩),iV 0,iV 0,iV 0,.string (⟨#[]⟩),iV 0,iV 0,.string (⟨#[]⟩),iV 0,iV 0,.string (⟨#[]⟩)],ab f 48 [iV a1.no,iV a1.N,.string a1.S,iV 0,iV 0,iV 0,.string (⟨#[]⟩),iV o,iV n,.string a,iV a6,iV a8,.string j]]) ?_ ?_
 ·refine aa ?_;refine gS 2 30 28 h ?_;intro Z h;refine aG h ?_ ?_<;>intro h
  ·refine cy I ([ab e 48 [iV 0,iV 0,.string (⟨#[]⟩),iV 0,iV 0,iV 0,.string (⟨#[]⟩),iV 0,iV 0,.string (⟨#[]⟩),iV 0,iV 0,.string (⟨#[]⟩)],ab d 36 (iJ a2),ab B2 34 (ij a1),ab B1 48 (dS c)]) (cS [1,2,3,4] 5) ?_;refine aa ?_;refine zO 5 J (bL (us:=ee c.Yc) (cs':=[iV a1.no,iV a1.N,.string a1.S,iV 0,iV 0,iV 0,.string (⟨#[]⟩),iV c.Yc.no,iV c.Yc.N,.string c.Yc.S,iV 0,iV 0,.string (⟨#[]⟩)]) 0 J J J J size29.out J J J) ?_;rintro _ _ rfl;refine bE ?_;refine aa ?_;refine zO 7 J (bL (us:=ee c.Yd) (cs':=[iV a1.no,iV a1.N,.string a1.S,iV 0,iV 0,iV 0,.string (⟨#[]⟩),iV c.Yc.no,iV c.Yc.N,.string c.Yc.S,iV c.Yd.no,iV c.Yd.N,.string c.Yd.S]) 0 J J J J size29.out J J J) ?_;rintro _ _ rfl;refine bE ?_;exact jY
  exact jY
 rintro _ _ ⟨o,n,a,a6,a8,j,h,rfl,rfl⟩;refine aF (fun s L=> ∃O i E D,yz N F c a2 a1 o n a a6 a8 j O i E D=some r/\s=[(3,pV B1 0),(5,pV d 0),(6,pV e 0),(8,.bool F),(9,pV f 0)]/\L=[ab B1 48 (dS c),ab d 36 (iJ a2),ab e 48 [iV 0,iV 0,.string (⟨#[]⟩),iV 0,iV 0,iV 0,.string (⟨#[]⟩),iV 0,iV 0,.string (⟨#[]⟩),iV 0,iV 0,.string (⟨#[]⟩)],ab f 48 [iV a1.no,iV a1.N,.string a1.S,iV O,iV i,iV E,.string D,iV o,iV n,.string a,iV a6,iV a8,.string j]]) ?_ ?_
 ·refine aa ?_;refine gS 3 42 39 h ?_;intro X h;refine aG h ?_ ?_<;>intro h
  ·refine aa ?_;refine aJ (fL J J) ?_;exact jN
  exact jY
 rintro _ _ ⟨O,i,E,D,h,rfl,rfl⟩;refine aa ?_;refine gE (fL J J) ?_;refine aJ (qc J J) ?_;refine aF (fun s L=> ∃m,yG N a2 a1 i E D o n a a6 a8 j m=some r/\s=[(5,pV d 0),(6,pV e 0),(9,pV f 0)]/\L=[ab d 36 (iJ a2),ab e 48 [iV 0,iV 0,.string (⟨#[]⟩),iV 0,iV 0,iV 0,.string (⟨#[]⟩),iV 0,iV 0,.string (⟨#[]⟩),iV 0,iV 0,.string (⟨#[]⟩)],ab f 48 [iV a1.no,iV a1.N,.string a1.S,iV m,iV i,iV E,.string D,iV o,iV n,.string a,iV a6,iV a8,.string j]]) ?_ ?_
 ·refine aG h ?_ ?_<;>intro h
  ·refine aa ?_;refine aJ (qc J J) ?_;exact jN
  exact jY
 rintro _ _ ⟨m,h,rfl,rfl⟩;refine cR h (fun _ k=>Q2 k) fun l h=> ?_
 refine aJ (I6 J J) ?_;refine gE (fL J J) ?_;refine aJ (qc J J) ?_;refine aF (fun s L=> ∃z t q,yC N a2 a1 m l o n a a6 a8 j z t q=some r/\s=[(5,pV d 0),(6,pV e 0),(9,pV f 0)]/\L=[ab d 36 (iJ a2),ab e 48 [iV 0,iV 0,.string (⟨#[]⟩),iV 0,iV 0,iV 0,.string (⟨#[]⟩),iV 0,iV 0,.string (⟨#[]⟩),iV 0,iV 0,.string (⟨#[]⟩)],ab f 48 [iV a1.no,iV a1.N,.string a1.S,iV (dD .i64 (eZ .i64 m l) (aM .i64 a2.XT l)),iV z,iV t,.string q,iV o,iV n,.string a,iV a6,iV a8,.string j]]) ?_ ?_
 ·refine cR h (fun _ k=>im k) fun V h=> ?_
  refine gH J h ?_ ?_<;>intro h
  ·exact jY
  exact jY
 rintro _ _ ⟨z,t,q,h,rfl,rfl⟩;refine aF (fun s L=> ∃C B A,yQ N a2 a1 m l z t q a6 a8 j C B A=some r/\s=[(5,pV d 0),(6,pV e 0),(9,pV f 0)]/\L=[ab d 36 (iJ a2),ab e 48 [iV 0,iV 0,.string (⟨#[]⟩),iV 0,iV 0,iV 0,.string (⟨#[]⟩),iV 0,iV 0,.string (⟨#[]⟩),iV 0,iV 0,.string (⟨#[]⟩)],ab f 48 [iV a1.no,iV a1.N,.string a1.S,iV (dD .i64 (eZ .i64 m l) (aM .i64 a2.XT l)),iV z,iV t,.string q,iV C,iV B,.string A,iV a6,iV a8,.string j]]) ?_ ?_
 ·refine cR h (fun _ k=>im k) fun U h=> ?_
  refine gH J h ?_ ?_<;>intro h
  ·exact jY
  exact jY
 rintro _ _ ⟨C,B,A,h,rfl,rfl⟩;refine aF (fun s L=> ∃M K H,yA N a1 m l a2 z t q C B A M K H=some r/\s=[(6,pV e 0),(9,pV f 0)]/\L=[ab e 48 [iV 0,iV 0,.string (⟨#[]⟩),iV 0,iV 0,iV 0,.string (⟨#[]⟩),iV 0,iV 0,.string (⟨#[]⟩),iV 0,iV 0,.string (⟨#[]⟩)],ab f 48 [iV a1.no,iV a1.N,.string a1.S,iV (dD .i64 (eZ .i64 m l) (aM .i64 a2.XT l)),iV z,iV t,.string q,iV C,iV B,.string A,iV M,iV K,.string H]]) ?_ ?_
 ·refine cR h (fun _ k=>im k) fun T h=> ?_
  refine gH J h ?_ ?_<;>intro h
  ·exact jY
  exact jY
 rintro _ _ ⟨M,K,H,h,rfl,rfl⟩;exact eY
def Af (c:VE)(a1:Vy):Option VN:=
 (uX N (⟨(⟨0,0,⟨#[]⟩⟩:Vy),0,(⟨0,0,⟨#[]⟩⟩:VH),(⟨0,0,⟨#[]⟩⟩:VH),(⟨0,0,⟨#[]⟩⟩:VH)⟩:VN) a1 c).bind fun a=>some a
theorem RC {N:Nat}{c:VE}{a1:Vy}{r:VN}(h:Af N c a1=some r):Okc V5 138 [(gL c),(dN a1)] ([]) (fun u p=>u=(dw r)/\p=[]):=by
 refine av Tryz.func138 ?_;intro B1;refine bB fun B2=> ?_
 intro d;refine cR h (fun _ k=>IT k) fun a h=> ?_
 exact eN
def nW (N:Nat)(c a1:VH):Option Bool:=
 some (decide (c=a1))
theorem Ez {N:Nat}{c a1:VH}{r:Bool}(h:nW N c a1=some r):Okc V5 182 [(bS c),(bS a1)] ([]) (fun u p=>u=.bool r/\p=[]):=by
 refine av Tryz.func182 ?_;intro B1;refine bB fun B2=> ?_
 refine aJ (vN (x:=c) (y:=a1) J J) ?_;exact eN
def mR (c:VN)(a1:VE):Option Bool:=
 (eC N a1 32).bind fun d=>(bif d then (some (!decide (aM .i64 a1.XT 4=0))) else (some false)).bind fun b4=>(bif b4 then (some true) else ((eC N a1 16).bind fun a=>(bif a then (some (!decide (aM .i64 (BP .i64 a1.XT c.XT) 2=0))) else (some false)).bind fun A=>some A)).bind fun C=>bif C then (some true) else (bif !decide (aM .i64 c.XT 8=0) then ((eC N a1 3).bind fun a6=>(bif a6 then (some true) else ((eC N a1 4).bind fun a8=>(bif a8 then ((nW N a1.Yc c.Yc).bind fun D=>some (!D)) else (some false)).bind fun B=>some B)).bind fun z=>(bif z then (some true) else ((eC N a1 8).bind fun u=>(bif u then ((nW N a1.Yd c.Yd).bind fun t=>some (!t)) else (some false)).bind fun q=>some q)).bind fun p=>some p) else ((eC N a1 12).bind fun o=>bif o then (some true) else ((bif decide (aM .i64 c.XT 1=0) then ((eC N a1 2).bind fun n=>(bif n then (some (!decide (aM .i64 a1.XT 1=0))) else (some false)).bind fun m=>(bif m then (some true) else ((eC N a1 1).bind fun l=>(bif l then ((nW N a1.Value c.Value).bind fun j=>some (!j)) else (some false)).bind fun i=>some i)).bind fun f=>some f) else (some false)).bind fun e=>some e)))
theorem Rm {N:Nat}{c:VN}{a1:VE}{r:Bool}(h:mR N c a1=some r):Okc V5 139 [(dw c),(gL a1)] ([]) (fun u p=>u=.bool r/\p=[]):=by
 refine av Tryz.func139 ?_;intro B1;refine bB fun B2=> ?_
 refine sZ ?_;refine cR h (fun _ k=>im k) fun f h=> ?_
 refine bF 5 12 7 h (fun _ d h=> ?_) fun b4 h=> ?_
 ·refine aa ?_;refine bR (fL J J) J (be d J) J ?_;exact gY
 refine aa ?_;refine dJ 12 25 13 h (fun _ i h=> ?_) fun T h=> ?_
 ·refine cR h (fun _ k=>im k) fun e h=> ?_
  refine bF 8 24 16 h (fun _ a h=> ?_) fun R h=> ?_
  ·refine aa ?_;refine bR (Sd J J) J (be a J) J ?_;refine bR (fL J J) J (be a J) J ?_;exact gY
  exact gY
 refine aG h ?_ ?_<;>intro h
 ·exact eY
 refine sY ?_;refine aJ (fL J J) ?_;refine gH J h ?_ ?_<;>intro h
 ·refine cR h (fun _ k=>im k) fun a8 h=> ?_
  refine dJ 11 43 32 h (fun _ U h=> ?_) fun S h=> ?_
  ·refine cR h (fun _ k=>im k) fun Q h=> ?_
   refine bF 7 42 35 h (fun _ P h=> ?_) fun O h=> ?_
   ·refine cR h (fun _ k=>Ez k) fun M h=> ?_
    exact gY
   exact gY
  refine aa ?_;refine dJ 11 55 44 h (fun _ L h=> ?_) fun K h=> ?_
  ·refine cR h (fun _ k=>im k) fun H h=> ?_
   refine bF 7 54 47 h (fun _ F h=> ?_) fun E h=> ?_
   ·refine cR h (fun _ k=>Ez k) fun D h=> ?_
    exact gY
   exact gY
  exact eY
 refine sY ?_;refine cR h (fun _ k=>im k) fun C h=> ?_
 refine gH J h ?_ ?_<;>intro h
 ·exact eY
 refine aa ?_;refine aJ (fL J J) ?_;refine bF 21 83 62 h (fun _ B h=> ?_) fun A h=> ?_
 ·refine cR h (fun _ k=>im k) fun z h=> ?_
  refine bF 5 70 65 h (fun _ a6 h=> ?_) fun t h=> ?_
  ·refine aa ?_;refine bR (fL J J) J (be a6 J) J ?_;exact gY
  refine aa ?_;refine dJ 11 82 71 h (fun _ q h=> ?_) fun o h=> ?_
  ·refine cR h (fun _ k=>im k) fun n h=> ?_
   refine bF 7 81 74 h (fun _ m h=> ?_) fun l h=> ?_
   ·refine cR h (fun _ k=>Ez k) fun j h=> ?_
    exact gY
   exact gY
  exact gY
 exact eY
def nX (c:VN)(a1 a2:Bool)(a:Vy)(a4:VE):Option (VN×Bool):=
 bif !a1 then (bif !a2 then (some ((⟨(⟨0,0,⟨#[]⟩⟩:Vy),0,(⟨0,0,⟨#[]⟩⟩:VH),(⟨0,0,⟨#[]⟩⟩:VH),(⟨0,0,⟨#[]⟩⟩:VH)⟩:VN),false)) else ((Af N a4 a).bind fun e=>some (e,true))) else ((bif decide (aM .i64 c.XT 4=0) then ((mR N c a4).bind fun d=>some d) else (some false)).bind fun b8=>bif b8 then (some ((⟨(⟨0,0,⟨#[]⟩⟩:Vy),0,(⟨0,0,⟨#[]⟩⟩:VH),(⟨0,0,⟨#[]⟩⟩:VH),(⟨0,0,⟨#[]⟩⟩:VH)⟩:VN),false)) else ((uX N c a a4).bind fun a6=>some (a6,true)))
theorem QY {N:Nat}{c:VN}{a1:Bool}{r:VN×Bool}(h:nX N c a1 a2 a a4=some r):Okc V5 90 [(dw c),.bool a1,.bool a2,(dN a),(gL a4)] ([]) (fun u p=>u=.tuple #[(dw r.1),.bool r.2]/\p=[]):=by
 refine av Tryz.func90 ?_;intro B1;refine bB fun B2=> ?_
 intro d;refine bB fun e=> ?_
 refine sZ ?_;refine gH J h ?_ ?_<;>intro h
 ·refine sZ ?_;refine gH J h ?_ ?_<;>intro h
  ·exact eY
  refine cR h (fun _ k=>RC k) fun i h=> ?_
  exact eN
 refine sY ?_;refine aJ (fL J J) ?_;refine bF 4 28 24 h (fun _ j h=> ?_) fun b8 h=> ?_
 ·refine cR h (fun _ k=>Rm k) fun f h=> ?_
  exact gY
 refine aG h ?_ ?_<;>intro h
 ·exact eY
 refine cR h (fun _ k=>IT k) fun a6 h=> ?_
 exact eN
def rt (c:VK)(a1:VH)(a2:Vy)(a:VE):Option (Bool×VK):=
 (ia N c a1).bind fun e=>dB e (fun y7_0=>some (false,c)) (fun y7_1=>(fW N a2).bind fun f=>bif !f then (some (false,c)) else ((kJ N (⟨y7_1.XY,c,y7_1.at_⟩:VA) a2).bind fun a6=>(nX N a6.1 a6.2.2 (!decide (aM .i64 y7_1.XY.XU 1=0)) a2 a).bind fun a8=>bif a8.2 then ((rf N (⟨y7_1.XY,c,y7_1.at_⟩:VA) a8.1).bind fun d=>some (d.1,d.2.w_)) else (some (false,c))))
theorem Ii {N:Nat}{a1:VH}{a2:Vy}{a:VE}{r:Bool×VK}(h:rt N c a1 a2 a=some r){B1 B2 d:Nat}:Okc V5 32 [pV B1 0,(bS a1),(dN a2),(gL a)] ([oDWorld B1 B2 d c]) (fun u p=>u=.bool r.1/\p=[oDWorld B1 B2 d r.2]):=by
 refine av Tryz.func32 ?_;intro e;refine bB fun m=> ?_
 intro B6;refine aa ?_;obtain ⟨D,B,h⟩:=ad h;rcases D with y7_0|y7_1
 ·replace h:=gk h;refine gD (oR (eP B)) ?_;rintro _ _ ⟨_,⟨rfl,rfl⟩,rfl⟩;refine sY ?_;refine d9 J ?_;exact eY
 replace h:=gj h;refine gD (oR (eP B)) ?_;rintro _ _ ⟨_,⟨f,C,n,q,A,z,o,rfl,rfl⟩,rfl⟩;refine sY ?_;refine cR h (fun _ k=>zG k) fun R h=> ?_
 refine gH J h ?_ ?_<;>intro h
 ·exact eY
 refine cR h (fun _ k=>xT k) fun a8 h=> ?_
 intro l;refine aa ?_;refine aH ?_;obtain ⟨a6,F,h⟩:=ad h;refine dx (t:=[(6,pV m 0),(7,pV B6 0),(8,.bool false),(9,pV f 0),(10,.bool true),(11,pV l 0),(13,.bool a8.2.2)]) ?_ cL (ah _);refine fv I 16 [14] [13,14,15] [36,37,38,39,40,41,42,43,44,45,46,47,35,48,49,14] [[],[],[],[2],[3],[4],[5],[6],[7],[],[],[0,1,8,9,10],[11],[12],[12],[]] [aV ((dw a8.1)),
aV (.bool a8.2.2),
aV (pV f 0),
aV (pV f 0),
aV (pV f 0),
aV (pV f 2),
aV (iV y7_1.XY.XU),
aV (iV (aM .i64 y7_1.XY.XU 1)),
aV (.bool (!decide (aM .i64 y7_1.XY.XU 1=0))),
aV ((dN a2)),
aV ((gL a)),
aV (.tuple #[(dw a6.1),.bool a6.2]),
aV (.tuple #[(dw a6.1),.bool a6.2]),
aV ((dw a6.1)),
aV (.bool a6.2),
aX1 (fun (i:Nat)=>pV i 0) (fun i=> [ab i 48 [iV 0,iV 0,.string (⟨#[]⟩),iV 0,iV 0,iV 0,.string (⟨#[]⟩),iV 0,iV 0,.string (⟨#[]⟩),iV 0,iV 0,.string (⟨#[]⟩)]])] [] (ah _) (ft rfl fB) I rfl rfl ?_ ?_ ?_
 ·refine fu J ?_ ?_
  ·exact fC (oo J J) J (bj J (ah _))
  exact fz
 ·refine bl J ?_ ?_
  ·refine fi (iq zero48.out J) J ?_;rintro _ _ ⟨E,rfl,rfl⟩;exact wU E (ah _)
  refine qE (oo J J) ?_;refine qE (oo J J) ?_;refine qE (ay J) ?_;refine bl J ?_ ?_
  ·refine fi (oR (QY F)) J ?_;rintro _ _ ⟨_,⟨rfl,rfl⟩,rfl⟩;exact bj J (ah _)
  refine qR (db (us:=iJ a) 4 J J agg36.out J) ?_;refine qR (db (us:=ij a2) 5 J J agg34.out J) ?_;refine qE (N9 J J) ?_;refine qE (fL J J) ?_;refine qR (cn 1 J J eo J) ?_;refine qE (bW J Mn) ?_;refine qE (fb J Ly) ?_;refine qE (cr J) ?_;refine qE (ay J) ?_;refine qE (ay J) ?_;refine qR (db (us:=dS a8.1) 0 J J agg48.out J) ?_;exact fq
 intro i;refine eF (t:=[(48,(dw a6.1)),(49,.bool a6.2),(14,pV i 0),(6,pV m 0),(7,pV B6 0),(8,.bool false),(9,pV f 0),(10,.bool true),(11,pV l 0),(13,.bool a8.2.2)]) (L':=[ab i 48 [iV 0,iV 0,.string (⟨#[]⟩),iV 0,iV 0,iV 0,.string (⟨#[]⟩),iV 0,iV 0,.string (⟨#[]⟩),iV 0,iV 0,.string (⟨#[]⟩)],ab l 48 (dS a8.1),ab f 103 [iV y7_1.XY.no,iV y7_1.XY.XV,iV y7_1.XY.XU,iV y7_1.XY.XW,Y C n q,Y A z o,pV B1 0,iV y7_1.at_.no,iV y7_1.at_.N,.string y7_1.at_.S],aj C n q y7_1.XY.XQ,aj A z o y7_1.XY.XP,ab B6 36 (iJ a),ab m 34 (ij a2),ab e 29 (ee a1),oDWorld B1 B2 d c]) ?_ cL (ah _);refine gv 16 J I (bL (us:=dS a6.1) (cs':=dS a6.1) 0 J J J J size48.out J J J) J J ?_;rintro _ _ rfl;refine jt 17 J I (dQ J) J J J ?_;refine fw I ?_;refine aa ?_;refine eE 51 J (fun j=> ?_) (fun j=> ?_)
 ·replace h:=du j h;refine aa ?_;obtain ⟨Q,k,h⟩:=ad h;refine tl (oC (H0 k)) J (be j J) J ?_;rintro _ _ ⟨_,⟨P,O,M,L,K,H,rfl,rfl⟩,rfl⟩;exact eY
 replace h:=dt j h;exact eY
def vc (c:VK)(a1:VH):Option Bool:=
 (ia N c a1).bind fun a=>dB a (fun y5_0=>some false) (fun y5_1=>some (!decide (aM .i64 y5_1.XY.XU 1=0)))
theorem I5 {N:Nat}{a1:VH}{r:Bool}(h:vc N c a1=some r){B1 B2 d:Nat}:Okc V5 18 [pV B1 0,(bS a1)] ([pDWorld B1 B2 d c]) (fun u p=>u=.bool r/\p=[]):=by
 refine av Tryz.func18 ?_;intro e;refine aa ?_;obtain ⟨a,a6,h⟩:=ad h;rcases a with y5_0|y5_1
 ·replace h:=gk h;refine gD (oR (eP a6)) ?_;rintro _ _ ⟨_,⟨rfl,rfl⟩,rfl⟩;exact eY
 replace h:=gj h;refine gD (oR (eP a6)) ?_;rintro _ _ ⟨_,⟨B6,m,o,n,j,f,i,rfl,rfl⟩,rfl⟩;refine aa ?_;refine aJ (fL J J) ?_;exact eN
def vh:Option Bool:=
 (rN N).bind fun i=>(pI N i (⟨1,0,⟨#[]⟩⟩:VH) 1).bind fun a=>(Fa N (⟨#[97]⟩:ByteArray)).bind fun f=>(nZ N a.2.2 a.1 f (⟨3,1,⟨#[]⟩⟩:VH) 7).bind fun d=>(nZ N d.2 a.1 (⟨0,5,⟨#[]⟩⟩:Vy) (⟨0,0,⟨#[]⟩⟩:VH) 7).bind fun c=>(uQ N c.2 a.1).bind fun a6=>(rH N c.2 a.1).bind fun a8=>(uM N c.2 a.1).bind fun K=>(Fa N (⟨#[98]⟩:ByteArray)).bind fun H=>(JK N (⟨0,0,⟨#[]⟩⟩:VH) 7).bind fun F=>(rt N K a.1 H F).bind fun e=>(bif a.2.1 then (some d.1) else (some false)).bind fun E=>(bif E then (some c.1) else (some false)).bind fun D=>(bif D then (some (!e.1)) else (some false)).bind fun C=>(bif C then (some (decide ((a6.length:Int)=2))) else (some false)).bind fun B=>(bif B then ((ak a6 0).bind fun A=>some (decide (A.N=5))) else (some false)).bind fun z=>(bif z then ((ak a6 1).bind fun u=>some (u.S.toList==(⟨#[97]⟩:ByteArray).toList)) else (some false)).bind fun t=>(bif t then (some (decide ((a8.length:Int)=2))) else (some false)).bind fun q=>(bif q then ((ak a8 0).bind fun p=>some (p.XZ.S.toList==(⟨#[97]⟩:ByteArray).toList)) else (some false)).bind fun o=>(bif o then ((ak a8 0).bind fun n=>some (decide (n.Value.N=1))) else (some false)).bind fun m=>(bif m then ((vc N e.2 a.1).bind fun l=>some (!l)) else (some false)).bind fun j=>some j
theorem Jg {N:Nat}{r:Bool}(h:vh N=some r):Okc V5 8 [] ([]) (fun u p=>u=.bool r/\p=[]):=by
 refine av Tryz.func8 ?_;obtain ⟨P,k,h⟩:=ad h;refine gD (oC (IH k)) ?_;rintro _ _ ⟨_,⟨B2,d,e,rfl,rfl⟩,rfl⟩;refine sY ?_;refine aJ (gC J Vj) ?_;refine d8 J ?_;refine aa ?_;obtain ⟨c,k,h⟩:=ad h;refine cV (oC (I2 k)) ?_;intro B6;refine aa ?_;refine dY [0,1] ?_;refine zE 3 J (iW J (bld_29_0_1 _ _).out) ?_;obtain ⟨O,k,h⟩:=ad h;refine zD 2 J (oR (Jw k)) ?_;rintro _ _ ⟨_,⟨rfl,rfl⟩,rfl⟩;refine ⟨_,ah _,ah _,?_⟩;obtain ⟨M,k,h⟩:=ad h;refine aa3 4 J I I (oC (Et k)) ?_;rintro _ _ ⟨_,⟨rfl,rfl⟩,rfl⟩;refine zX [5] ?_;refine aa ?_;obtain ⟨L,k,h⟩:=ad h;refine cV (oC (Et k)) ?_;refine dY [0,1,3,4] ?_;obtain ⟨D,k,h⟩:=ad h;refine fk 2 J (oR (IA k)) fun C B A=> ?_
 obtain ⟨z,k,h⟩:=ad h;refine fk 5 J (oR (Iu k)) fun t q o=> ?_
 refine zX [6,7] ?_;refine aa ?_;obtain ⟨f1,k,h⟩:=ad h;refine cV (oC (Ir k)) ?_;refine aH ?_;refine cy I ([aK cI 48 (Y t q o) z,bp C B A D,ab B6 29 [iV c.1.no,iV c.1.N,.string c.1.S]]) (cS [1,2,3] 4) ?_;refine zY [0,1] ?_;refine zE 3 J (iW J bld_29_.out) ?_;obtain ⟨f2,k,h⟩:=ad h;refine zD 2 J (oR (Jw k)) ?_;rintro _ _ ⟨_,⟨rfl,rfl⟩,rfl⟩;refine bE ?_;obtain ⟨f3,k,h⟩:=ad h;refine zD 4 J (oR (RU k)) ?_;rintro _ _ ⟨_,⟨rfl,rfl⟩,rfl⟩;refine bE ?_;obtain ⟨f9,k,h⟩:=ad h;refine zD 5 J (oC (Ii k)) ?_;rintro _ _ ⟨_,⟨rfl,rfl⟩,rfl⟩;refine bE ?_;refine zX [6] ?_;refine aa ?_;refine gS 2 46 44 h ?_;intro g0 h;refine aa ?_;refine gS 2 49 47 h ?_;intro g1 h;refine aa ?_;refine gS 3 53 50 h ?_;intro g2 h;refine aa ?_;refine gS 4 58 54 h ?_;intro g3 h;refine aa ?_;refine iF 6 65 59 h (fun _ l h=> ?_) (fun _ l h=> ?_) fun g4 h=> ?_
 ·refine aa ?_;obtain ⟨g5,K,H,e6,h⟩:=aI h;refine aa ?_;refine dF (dc 2 J aw J (toNat_lt K H) Bp) J (be l J) J ?_;exact gY
 ·exact gY
 refine aa ?_;refine iF 6 72 66 h (fun _ i h=> ?_) (fun _ i h=> ?_) fun g6 h=> ?_
 ·refine aa ?_;obtain ⟨Z,F,E,e7,h⟩:=aI h;refine aa ?_;refine dF (dc 2 J aw J (toNat_lt F E) Gn) J (be i J) J ?_;refine aa ?_;refine bR (kh J J) J (be i J) J ?_;exact gY
 ·exact gY
 refine aa ?_;refine gS 4 77 73 h ?_;intro X h;refine aa ?_;refine iF 7 85 78 h (fun _ a h=> ?_) (fun _ a h=> ?_) fun V h=> ?_
 ·refine aa ?_;obtain ⟨U,a6,a8,e8,h⟩:=aI h;refine aa ?_;refine dF (iA 1 J aw J (toNat_lt a6 a8) BK) J (be a J) J ?_;refine dF (dc 1 J aw J (toNat_lt a6 a8) Gn) J (be a J) J ?_;refine aa ?_;refine bR (kh J J) J (be a J) J ?_;exact gY
 ·exact gY
 refine aa ?_;refine iF 7 93 86 h (fun _ f h=> ?_) (fun _ f h=> ?_) fun T h=> ?_
 ·refine aa ?_;obtain ⟨S,n,m,e9,h⟩:=aI h;refine aa ?_;refine dF (dc 1 J aw J (toNat_lt n m) MU) J (be f J) J ?_;refine dF (dc 1 J aw J (toNat_lt n m) wr) J (be f J) J ?_;exact gY
 ·exact gY
 refine aa ?_;refine iF 5 99 94 h (fun _ j h=> ?_) (fun _ j h=> ?_) fun R h=> ?_
 ·refine aa ?_;obtain ⟨Q,k,h⟩:=ad h;refine gU (oR (I5 k)) (be j J) ?_;exact gY
 ·exact gY
 exact eY
theorem IK {r:Bool}: ∀v post,((fun (u:Value) (post:V3)=>u=.bool r/\post=[])) v post-> ∀c∈post,bP c:=by
 rintro _ _ ⟨rfl,rfl⟩;exact aW
def ut (c:Vz):Option VO:=
 (fJ N c).bind fun a=>bif a then (some []) else ((kK N c.Yb).bind fun a6=>some a6)
theorem P1 {N:Nat}{c:Vz}{r:VO}(h:ut N c=some r):Okc V5 34 [pV B1 0] ([aQ B1 128 [Y A2 n2 c2,Y A3 n3 c3,Y A4 n4 c4,Y A5 n5 c5,pV B6 0],aq A2 n2 c2 c.m_.XS,aq A3 n3 c3 c.m_.XR,ap A4 n4 c4 c.Yb,ap A5 n5 c5 c.Yg,aQ B6 186 [.map (some M7)],cK ax aU M7 c.Yf.at_]) (fun u p=> ∃e a d,u=Y e a d/\p=[aj e a d r]):=by
 refine av Tryz.func34 ?_;refine sZ ?_;refine cR h (fun _ k=>kI k) fun f h=> ?_
 refine gH J h ?_ ?_<;>intro h
 ·refine aa ?_;obtain rfl:=bn h;exact dV J J ((ck ca 29 _).trans (cS [0] 8)) ⟨_,_,_,J,J⟩
 refine kG h (fun _ k=>pA k) fun a6 a8 j i h=> ?_
 exact eN
theorem PC {N:Nat}{c:Vz}{r:VO}(h:ut N c=some r):Okc V5 34 [pV B1 0] ([pDHeap B1 c]) (fun u p=> ∃e a d,u=Y e a d/\p=[aj e a d r]):=jR 0 rfl (fun _=>P1 h)
def mE (c:VK):Option Int:=
 (ut N c.XX).bind fun a=>some (a.length:Int)
theorem DK {N:Nat}{r:Int}(h:mE N c=some r):Okc V5 9 [pV B1 0] ([aQ B1 85 (cF c B2 d A4 n4 c4 A5 n5 c5 A6 n6 c6),pDHeap B2 c.XX,pDTable d c.Ya,aL eS (Y A4 n4 c4) c.Yk,aL jE (Y A5 n5 c5) c.Yl,aL eS (Y A6 n6 c6) c.Ym]) (fun u p=>u=iV r/\p=[]):=by
 refine av Tryz.func9 ?_;refine sZ ?_;refine aJ (gC J Vj) ?_;refine d8 J ?_;refine kG h (fun _ k=>PC k) fun a i e f h=> ?_
 exact eN
theorem Pj {r:Int}: ∀v post,((fun (u:Value) (post:V3)=>u=iV r/\post=[])) v post-> ∀c∈post,bP c:=by
 rintro _ _ ⟨rfl,rfl⟩;exact aW
theorem Pd {N:Nat}{r:Int}(h:mE N c=some r){B1 B2 d:Nat}:Okc V5 9 [pV B1 0] ([pDWorld B1 B2 d c]) (fun u p=>u=iV r/\p=[]):=jR 0 rfl (fun _=>DK h)
theorem O1 {r:Int}: ∀v post,((fun (u:Value) (post:V3)=>u=iV r/\post=[])) v post-> ∀c∈post,bP c:=Pj
def uo (c:VK)(a1:VH):Option (Int×VK):=
 (rp N c.XX a1).bind fun a=>some (a.1,(⟨c.Yj,c.Ye,(),a.2,c.Ya,c.Yk,c.Yh,c.Yr,c.Ys,c.Yl,c.Ym⟩:VK))
theorem PI {N:Nat}{a1:VH}{r:Int×VK}(h:uo N c a1=some r):Okc V5 11 [pV B1 0,(bS a1)] ([ab B1 85 (cF c B2 d A4 n4 c4 A5 n5 c5 A6 n6 c6),oDHeap B2 c.XX,oDTable d c.Ya,bi A4 n4 c4 c.Yk,cx A5 n5 c5 c.Yl,bi A6 n6 c6 c.Ym]) (fun u p=> ∃f a e A1 i c1 A2 n2 c2,u=iV r.1/\p=[ab B1 85 (cF r.2 B2 d f a e A1 i c1 A2 n2 c2),oDHeap B2 r.2.XX,oDTable d r.2.Ya,bi f a e r.2.Yk,cx A1 i c1 r.2.Yl,bi A2 n2 c2 r.2.Ym]):=by
 refine av Tryz.func11 ?_;intro j;refine sY ?_;refine aJ (gC J Vj) ?_;refine d8 J ?_;refine aa ?_;refine aH ?_;refine cy I ([ab j 29 (ee a1),ab B1 85 (cF c B2 d A4 n4 c4 A5 n5 c5 A6 n6 c6),oDTable d c.Ya,bi A4 n4 c4 c.Yk,cx A5 n5 c5 c.Yl,bi A6 n6 c6 c.Ym]) (cS [0,1,3,4,5,6] 7) ?_;refine aa ?_;obtain ⟨l,k,h⟩:=ad h;refine zD 5 J (oC (pj k)) ?_;rintro _ _ ⟨_,⟨rfl,rfl⟩,rfl⟩;refine bE ?_;exact eY
theorem Pq {N:Nat}{a1:VH}{r:Int×VK}(h:uo N c a1=some r){B1 B2 d:Nat}:Okc V5 11 [pV B1 0,(bS a1)] ([oDWorld B1 B2 d c]) (fun u p=>u=iV r.1/\p=[oDWorld B1 B2 d r.2]):=il 0 rfl (fun _=>PI h)
def JI (N:Nat):Option Int:=
 some (-1)
def ve (N:Nat)(c:VZ)(a1:Vy):Nat->Int->Option Int
 |0,_=>none
 |d+1,a=>bif decide (a<(c.length:Int)) then ((ak c a).bind fun x7=>bif decide (x7.XZ=a1) then (some a) else (ae (in64 (a+1)) ((ve N c a1 d) (a+1)))) else (JI N)
def si (c:VZ)(a1:Vy):Option Int:=
 ve N c a1 N 0
theorem JD {N:Nat}{c:VZ}{a1:Vy}{r:Int}(h:si N c a1=some r):Okc V5 56 [Y A1 i c1,(dN a1)] ([aL cI (Y A1 i c1) c]) (fun u p=>u=iV r/\p=[]):=by
 refine av Tryz.func56 ?_;intro B2;refine aa ?_;refine aF (fun s L=>JI N=some r/\s=[(4,iV 0)]/\L=[]) ?_ ?_
 ·refine aa ?_;refine lK (fun m s L=> ∃(a:Int),ve N c a1 m a=some r/\s=[(0,Y A1 i c1),(3,pV B2 0),(4,iV 0),(5,iV a)]/\L=[aL cI (Y A1 i c1) c,ab B2 34 (ij a1)]) N ?_;rintro e _ _ ⟨a,h,rfl,rfl⟩;rw [ve.eq_2] at h;refine sZ ?_;refine gH J h ?_ ?_<;>intro h
  ·refine sY ?_;refine dY [] ?_;refine aa ?_;obtain ⟨x7,a6,a8,f,h⟩:=aI h;refine aa ?_;refine zR 3 J (iA 0 J bA J (toNat_lt a6 a8) BK) ?_;refine aa ?_;refine zE 6 J (Mk (x:=x7.XZ) (y:=a1) J J) ?_;refine aG h ?_ ?_<;>intro h
   ·exact eY
   refine aa ?_;obtain ⟨d,h⟩:=ai h;exact lY
  exact jY
 rintro _ _ ⟨h,rfl,rfl⟩;exact eY
def uS (N:Nat)(a1 a:Int):Option Int:=
 bif decide (a1<=a) then (some (-1)) else (some a)
def va (c a1 a:Int):Option Int:=
 (bif decide (65<=c) then (some (decide (c<=70))) else (some false)).bind fun a6=>bif a6 then (ae (in64 ((IntKind.i64.wrap c) - 65)) (ae (in64 (((IntKind.i64.wrap c) - 65)+10)) (uS N a1 (((IntKind.i64.wrap c) - 65)+10)))) else (uS N a1 a)
def vb (c a1 a:Int):Option Int:=
 (bif decide (97<=c) then (some (decide (c<=102))) else (some false)).bind fun b8=>bif b8 then (ae (in64 ((IntKind.i64.wrap c) - 97)) (ae (in64 (((IntKind.i64.wrap c) - 97)+10)) (va N c a1 (((IntKind.i64.wrap c) - 97)+10)))) else (va N c a1 a)
def Ad (c a1:Int):Option Int:=
 (bif decide (48<=c) then (some (decide (c<=57))) else (some false)).bind fun b3=>bif b3 then (ae (in64 ((IntKind.i64.wrap c) - 48)) (vb N c a1 ((IntKind.i64.wrap c) - 48))) else (vb N c a1 (-1))
theorem RE {N:Nat}{c r:Int}(h:Ad N c a1=some r):Okc V5 210 [.int .u8 c,iV a1] ([]) (fun u p=>u=iV r/\p=[]):=by
 refine av Tryz.func210 ?_;refine aF (fun s L=> ∃e,vb N c a1 e=some r/\s=[(0,.int .u8 c),(1,iV a1),(4,iV 0),(5,iV e)]/\L=[]) ?_ ?_
 ·refine aa ?_;refine gS 3 11 8 h ?_;intro b3 h;refine aG h ?_ ?_<;>intro h
  ·refine aa ?_;refine gE (jl J J Ex) ?_;obtain ⟨f,h⟩:=ai h;exact jY
  exact jY
 rintro _ _ ⟨e,h,rfl,rfl⟩;refine aF (fun s L=> ∃d,va N c a1 d=some r/\s=[(0,.int .u8 c),(1,iV a1),(4,iV 0),(5,iV d)]/\L=[]) ?_ ?_
 ·refine aa ?_;refine gS 3 20 17 h ?_;intro b8 h;refine aG h ?_ ?_<;>intro h
  ·refine aa ?_;refine gE (jl J J Ex) ?_;obtain ⟨a6,h⟩:=ai h;refine aa ?_;obtain ⟨a8,h⟩:=ai h;exact jY
  exact jY
 rintro _ _ ⟨d,h,rfl,rfl⟩;refine aF (fun s L=> ∃a,uS N a1 a=some r/\s=[(1,iV a1),(4,iV 0),(5,iV a)]/\L=[]) ?_ ?_
 ·refine aa ?_;refine gS 3 30 27 h ?_;intro l h;refine aG h ?_ ?_<;>intro h
  ·refine aa ?_;refine gE (jl J J Ex) ?_;obtain ⟨j,h⟩:=ai h;refine aa ?_;obtain ⟨i,h⟩:=ai h;exact jY
  exact jY
 rintro _ _ ⟨a,h,rfl,rfl⟩;refine sZ ?_;refine gH J h ?_ ?_<;>intro h
 ·exact eY
 exact eY
def ED (N:Nat)(c:ByteArray)(a:Int):Option (Int×Bool):=
 some (a,!(c.toList==(⟨#[]⟩:ByteArray).toList))
def zI (N:Nat)(a6:Int->Int->Option (Int×Bool))(c:ByteArray)(a1 a d:Int):Option (Int×Bool):=
 ae (in64 (a+1)) (a6 d (a+1))
def zq (a6:Int->Int->Option (Int×Bool))(c:ByteArray)(a1 d a:Int):Option (Int×Bool):=
 bif decide (9007199254740992<a) then (zI N a6 c a1 d (-1)) else (zI N a6 c a1 d a)
def pH (N:Nat)(c:ByteArray)(a1:Int):Nat->Int->Int->Option (Int×Bool)
 |0,_,_=>none
 |e+1,a,d=>bif decide (d<(c.size:Int)) then ((lr c d).bind fun x9=>(Ad N x9 a1).bind fun a6=>bif decide (a6<0) then (some (0,false)) else (bif decide (0<=a) then (ae (in64 (a*a1)) (ae (in64 ((a*a1)+a6)) (zq N (pH N c a1 e) c a1 d ((a*a1)+a6)))) else (zq N (pH N c a1 e) c a1 d a))) else (ED N c a)
def EY (c:ByteArray)(a1:Int):Option (Int×Bool):=
 pH N c a1 N 0 0
theorem Rn {N:Nat}{c:ByteArray}{r:Int×Bool}(h:EY N c a1=some r):Okc V5 165 [.string c,iV a1] ([]) (fun u p=>u=.tuple #[iV r.1,.bool r.2]/\p=[]):=by
 refine av Tryz.func165 ?_;refine aF (fun s L=> ∃i,ED N c i=some r/\s=[(0,.string c),(4,iV 0),(5,.bool false),(6,iV i)]/\L=[]) ?_ ?_
 ·refine aa ?_;refine lK (fun m s L=> ∃(f:Int) (a:Int),pH N c a1 m f a=some r/\s=[(0,.string c),(1,iV a1),(4,iV 0),(5,.bool false),(6,iV f),(7,iV a)]/\L=[]) N ?_;rintro j _ _ ⟨f,a,h,rfl,rfl⟩;rw [pH.eq_2] at h;refine sZ ?_;refine aJ (jD J Vi) ?_;refine gH J h ?_ ?_<;>intro h
  ·refine aa ?_;refine aF (fun s L=> ∃e,zI N (pH N c a1 j) c a1 a e=some r/\s=[(0,.string c),(1,iV a1),(4,iV 0),(5,.bool false),(6,iV e),(7,iV a)]/\L=[]) ?_ ?_
   ·refine aa ?_;obtain ⟨x9,a8,h⟩:=ad h;refine aJ (sq J J Vi a8) ?_;refine cR h (fun _ k=>RE k) fun o h=> ?_
    refine sZ ?_;refine gH J h ?_ ?_<;>intro h
    ·exact eY
    refine aa ?_;refine aF (fun s L=> ∃d,zq N (pH N c a1 j) c a1 a d=some r/\s=[(0,.string c),(1,iV a1),(4,iV 0),(5,.bool false),(6,iV d),(7,iV a)]/\L=[]) ?_ ?_
    ·refine aG h ?_ ?_<;>intro h
     ·refine aa ?_;obtain ⟨a6,h⟩:=ai h;refine aJ (gq J J a6.1 a6.2) ?_;obtain ⟨n,h⟩:=ai h;exact jY
     exact jY
    rintro _ _ ⟨d,h,rfl,rfl⟩;refine aG h ?_ ?_<;>intro h
    ·exact jY
    exact jY
   rintro _ _ ⟨e,h,rfl,rfl⟩;refine aa ?_;obtain ⟨l,h⟩:=ai h;exact lY
  exact jY
 rintro _ _ ⟨i,h,rfl,rfl⟩;refine aa ?_;refine aJ (Me J J) ?_;exact eN
def Aa (c:ByteArray):Option (Int×Bool):=
 (bif c.toList==(⟨#[]⟩:ByteArray).toList then (some true) else (some (decide (10<(c.size:Int))))).bind fun b1=>(bif b1 then (some true) else ((lr c 0).bind fun x3=>(bif decide (x3=48) then (some (decide (1<(c.size:Int)))) else (some false)).bind fun b4=>some b4)).bind fun b2=>bif b2 then (some (0,false)) else ((EY N c 10).bind fun a=>(bif !a.2 then (some true) else (some (decide (4294967294<a.1)))).bind fun d=>bif d then (some (0,false)) else (some (a.1,true)))
theorem RF {N:Nat}{c:ByteArray}{r:Int×Bool}(h:Aa N c=some r):Okc V5 106 [.string c] ([]) (fun u p=>u=.tuple #[iV r.1,.bool r.2]/\p=[]):=by
 refine av Tryz.func106 ?_;refine sZ ?_;refine aJ (kh J J) ?_;refine dJ 4 12 8 h (fun _ e h=> ?_) fun b1 h=> ?_
 ·refine aa ?_;refine bR (jD J Vi) J (bY e J) J ?_;exact gY
 refine aa ?_;refine dJ 9 22 13 h (fun _ d h=> ?_) fun b2 h=> ?_
 ·refine aa ?_;obtain ⟨x3,a6,h⟩:=ad h;refine bR (sq J J Vi a6) J (bY d J) J ?_;refine aa ?_;refine bF 4 21 17 h (fun _ a h=> ?_) fun b4 h=> ?_
  ·refine aa ?_;refine bR (jD J Vi) J (be a J) J ?_;exact gY
  exact gY
 refine aG h ?_ ?_<;>intro h
 ·exact eY
 refine cR h (fun _ k=>Rn k) fun f h=> ?_
 refine sZ ?_;refine gS 3 33 30 h ?_;intro i h;refine aG h ?_ ?_<;>intro h
 ·exact eY
 exact eY
def og (c:Vy):Option Bool:=
 bif decide (c.no=0) then ((bif decide (0<=c.N) then (some (decide (c.N<=4294967294))) else (some false)).bind fun b3=>(bif b3 then (some (c.S.toList==(⟨#[]⟩:ByteArray).toList)) else (some false)).bind fun b4=>some b4) else (bif decide (c.no=1) then ((Aa N c.S).bind fun a=>(bif decide (c.N=0) then (some (!a.2)) else (some false)).bind fun d=>(bif d then (some (decide ((c.S.size:Int)<=65536))) else (some false)).bind fun b8=>some b8) else (bif decide (c.no=2) then ((bif decide (1<=c.N) then (some (c.S.toList==(⟨#[]⟩:ByteArray).toList)) else (some false)).bind fun a6=>some a6) else (some false)))
theorem EG {N:Nat}{c:Vy}{r:Bool}(h:og N c=some r):Okc V5 57 [(dN c)] ([]) (fun u p=>u=.bool r/\p=[]):=by
 refine av Tryz.func57 ?_;intro B1;refine sY ?_;refine gH J h ?_ ?_<;>intro h
 ·refine aa ?_;refine gS 4 16 12 h ?_;intro b3 h;refine aa ?_;refine bF 4 21 17 h (fun _ d h=> ?_) fun b4 h=> ?_
  ·refine aa ?_;refine bR (kh J J) J (be d J) J ?_;exact gY
  exact eY
 refine aG h ?_ ?_<;>intro h
 ·refine cR h (fun _ k=>RF k) fun e h=> ?_
  refine gS 3 36 33 h ?_;intro f h;refine aa ?_;refine bF 5 42 37 h (fun _ a h=> ?_) fun b8 h=> ?_
  ·refine aa ?_;refine bR (jD J Vi) J (be a J) J ?_;exact gY
  exact eY
 refine aG h ?_ ?_<;>intro h
 ·refine aa ?_;refine bF 4 52 48 h (fun _ a6 h=> ?_) fun a8 h=> ?_
  ·refine aa ?_;refine bR (kh J J) J (be a6 J) J ?_;exact gY
  exact eY
 exact eY
theorem QW {r:Bool}: ∀v post,((fun (u:Value) (post:V3)=>u=.bool r/\post=[])) v post-> ∀c∈post,bP c:=by
 rintro _ _ ⟨rfl,rfl⟩;exact aW
def zS (N:Nat)(c:VE)(a1:Vy)(a6:Int):Option VN:=
 some (⟨a1,a6,c.Value,(⟨0,0,⟨#[]⟩⟩:VH),(⟨0,0,⟨#[]⟩⟩:VH)⟩:VN)
def zJ (c:VE)(a1:Vy)(a:Int):Option VN:=
 (lG N c).bind fun a6=>bif a6 then (ae (in64 (a+8)) (some (⟨a1,a+8,(⟨0,0,⟨#[]⟩⟩:VH),c.Yc,c.Yd⟩:VN))) else ((dC N c 2).bind fun a8=>(bif a8 then ((dW N c.XT 1).bind fun e=>some e) else (some false)).bind fun d=>bif d then (ae (in64 (a+1)) (zS N c a1 (a+1))) else (zS N c a1 a))
def Ae (c:VE)(a1:Vy)(a:Int):Option VN:=
 (dC N c 32).bind fun a6=>(bif a6 then ((dW N c.XT 4).bind fun a8=>some a8) else (some false)).bind fun d=>bif d then (ae (in64 (a+4)) (zJ N c a1 (a+4))) else (zJ N c a1 a)
def An (c:VE)(a1:Vy):Option VN:=
 (dC N c 16).bind fun d=>(bif d then ((dW N c.XT 2).bind fun a=>some a) else (some false)).bind fun b8=>bif b8 then (ae (in64 (0+2)) (Ae N c a1 (0+2))) else (Ae N c a1 0)
theorem RX {N:Nat}{c:VE}{a1:Vy}{r:VN}(h:An N c a1=some r):Okc V5 107 [(gL c),(dN a1)] ([]) (fun u p=>u=(dw r)/\p=[]):=by
 refine av Tryz.func107 ?_;intro B1;refine bB fun B2=> ?_
 intro d;refine bB fun e=> ?_
 refine aF (fun s L=> ∃f,Ae N c a1 f=some r/\s=[(2,pV B1 0),(4,pV d 0),(5,pV e 0)]/\L=[ab B1 36 (iJ c),ab d 48 [iV 0,iV 0,.string (⟨#[]⟩),iV 0,iV 0,iV 0,.string (⟨#[]⟩),iV 0,iV 0,.string (⟨#[]⟩),iV 0,iV 0,.string (⟨#[]⟩)],ab e 48 [iV a1.no,iV a1.N,.string a1.S,iV f,iV 0,iV 0,.string (⟨#[]⟩),iV 0,iV 0,.string (⟨#[]⟩),iV 0,iV 0,.string (⟨#[]⟩)]]) ?_ ?_
 ·refine cR h (fun _ k=>eW k) fun j h=> ?_
  refine bF 4 14 10 h (fun _ l h=> ?_) fun b8 h=> ?_
  ·refine cR h (fun _ k=>gl k) fun i h=> ?_
   exact gY
  refine aG h ?_ ?_<;>intro h
  ·refine aa ?_;obtain ⟨a8,h⟩:=ai h;exact jY
  exact jY
 rintro _ _ ⟨f,h,rfl,rfl⟩;refine aF (fun s L=> ∃a,zJ N c a1 a=some r/\s=[(2,pV B1 0),(4,pV d 0),(5,pV e 0)]/\L=[ab B1 36 (iJ c),ab d 48 [iV 0,iV 0,.string (⟨#[]⟩),iV 0,iV 0,iV 0,.string (⟨#[]⟩),iV 0,iV 0,.string (⟨#[]⟩),iV 0,iV 0,.string (⟨#[]⟩)],ab e 48 [iV a1.no,iV a1.N,.string a1.S,iV a,iV 0,iV 0,.string (⟨#[]⟩),iV 0,iV 0,.string (⟨#[]⟩),iV 0,iV 0,.string (⟨#[]⟩)]]) ?_ ?_
 ·refine cR h (fun _ k=>eW k) fun F h=> ?_
  refine bF 4 25 21 h (fun _ E h=> ?_) fun D h=> ?_
  ·refine cR h (fun _ k=>gl k) fun C h=> ?_
   exact gY
  refine aG h ?_ ?_<;>intro h
  ·refine aa ?_;obtain ⟨B,h⟩:=ai h;exact jY
  exact jY
 rintro _ _ ⟨a,h,rfl,rfl⟩;refine sZ ?_;refine cR h (fun _ k=>yE k) fun A h=> ?_
 refine gH J h ?_ ?_<;>intro h
 ·refine aa ?_;obtain ⟨z,h⟩:=ai h;exact eY
 refine aa ?_;refine aF (fun s L=> ∃a6,zS N c a1 a6=some r/\s=[(2,pV B1 0),(4,pV d 0),(5,pV e 0)]/\L=[ab B1 36 (iJ c),ab d 48 [iV 0,iV 0,.string (⟨#[]⟩),iV 0,iV 0,iV 0,.string (⟨#[]⟩),iV 0,iV 0,.string (⟨#[]⟩),iV 0,iV 0,.string (⟨#[]⟩)],ab e 48 [iV a1.no,iV a1.N,.string a1.S,iV a6,iV 0,iV 0,.string (⟨#[]⟩),iV 0,iV 0,.string (⟨#[]⟩),iV 0,iV 0,.string (⟨#[]⟩)]]) ?_ ?_
 ·refine cR h (fun _ k=>eW k) fun t h=> ?_
  refine bF 4 49 45 h (fun _ q h=> ?_) fun o h=> ?_
  ·refine cR h (fun _ k=>gl k) fun n h=> ?_
   exact gY
  refine aG h ?_ ?_<;>intro h
  ·refine aa ?_;obtain ⟨m,h⟩:=ai h;exact jY
  exact jY
 rintro _ _ ⟨a6,h,rfl,rfl⟩;exact eY
def rY (N:Nat)(c a1:VH):Option Bool:=
 (bif decide (c.no=a1.no) then (some (decide (c.N=a1.N))) else (some false)).bind fun b3=>(bif b3 then (some (c.S.toList==a1.S.toList)) else (some false)).bind fun b4=>some b4
theorem EJ {N:Nat}{c a1:VH}{r:Bool}(h:rY N c a1=some r):Okc V5 166 [(bS c),(bS a1)] ([]) (fun u p=>u=.bool r/\p=[]):=by
 refine av Tryz.func166 ?_;intro B1;refine bB fun B2=> ?_
 refine gS 6 16 10 h ?_;intro b3 h;refine aa ?_;refine bF 6 23 17 h (fun _ a h=> ?_) fun b4 h=> ?_
 ·refine aa ?_;refine bR (kh J J) J (be a J) J ?_;exact gY
 exact eY
def Aw (c:VN)(a1:VE):Option Bool:=
 (dC N a1 32).bind fun f=>(bif f then ((dW N a1.XT 4).bind fun e=>some e) else (some false)).bind fun b4=>bif b4 then (some true) else ((dC N a1 16).bind fun d=>(bif d then ((dW N a1.XT 2).bind fun a=>(dW N c.XT 2).bind fun a6=>some (!(a==a6))) else (some false)).bind fun b8=>bif b8 then (some true) else ((dW N c.XT 8).bind fun a8=>bif a8 then ((mU N a1).bind fun F=>(bif F then (some true) else ((dC N a1 4).bind fun E=>(bif E then ((rY N a1.Yc c.Yc).bind fun D=>some (!D)) else (some false)).bind fun C=>some C)).bind fun B=>(bif B then (some true) else ((dC N a1 8).bind fun A=>(bif A then ((rY N a1.Yd c.Yd).bind fun z=>some (!z)) else (some false)).bind fun u=>some u)).bind fun t=>some t) else ((lG N a1).bind fun q=>bif q then (some true) else ((dW N c.XT 1).bind fun p=>bif p then (some false) else ((dC N a1 2).bind fun o=>(bif o then ((dW N a1.XT 1).bind fun n=>some n) else (some false)).bind fun m=>(bif m then (some true) else ((dC N a1 1).bind fun l=>(bif l then ((rY N a1.Value c.Value).bind fun j=>some (!j)) else (some false)).bind fun b32=>some b32)).bind fun i=>some i)))))
theorem RY {N:Nat}{c:VN}{a1:VE}{r:Bool}(h:Aw N c a1=some r):Okc V5 108 [(dw c),(gL a1)] ([]) (fun u p=>u=.bool r/\p=[]):=by
 refine av Tryz.func108 ?_;intro B1;refine bB fun B2=> ?_
 refine sZ ?_;obtain ⟨R,k,h⟩:=ad h;refine cV (oR (eW k)) ?_;obtain ⟨b4,t,h⟩:=ad h;refine eD 4 11 b4 ?_ ?_
 ·clear h;refine eE 7 J (fun d=> ?_) (fun d=> ?_)
  ·have h:=du d t;refine aa ?_;obtain ⟨Q,k,h⟩:=ad h;refine gU (oR (gl k)) (be d J) ?_;exact gY
  have h:=dt d t;exact gY
 refine aG h ?_ ?_<;>intro h
 ·exact eY
 refine aa ?_;refine aH ?_;refine dY [0] ?_;obtain ⟨P,k,h⟩:=ad h;refine zD 1 J (oR (eW k)) ?_;rintro _ _ ⟨_,⟨rfl,rfl⟩,rfl⟩;refine ⟨_,ah _,ah _,?_⟩;refine zY [2] ?_;obtain ⟨b8,q,h⟩:=ad h;refine vR (fun l=>((((((((l.setIfInBounds 3 true).setIfInBounds 4 true).setIfInBounds 6 true).setIfInBounds 7 true).setIfInBounds 5 true).setIfInBounds 8 true).setIfInBounds 9 true).setIfInBounds 10 true)) 0 22 b8 (fun rest=> ?_) ?_
 ·clear h;refine wq 14 J (fun a=> ?_) (fun a=> ?_)
  ·have h:=du a q;refine ei 3 J I (bW J MW) (be a J) J ?_;refine gb 4 J I (cn 0 J J eo J) (be a J) J ?_;refine ei 6 J I (bW J F4) (be a J) J ?_;refine gb 7 J I (cn 1 J J eo J) (be a J) J ?_;obtain ⟨O,k,h⟩:=ad h;refine iI 5 J I (oR (gl k)) J (be a J) J ?_;rintro _ _ ⟨_,⟨rfl,rfl⟩,rfl⟩;refine ⟨_,ah _,ah _,?_⟩;obtain ⟨e7,k,h⟩:=ad h;refine iI 8 J I (oR (gl k)) J (be a J) J ?_;rintro _ _ ⟨_,⟨rfl,rfl⟩,rfl⟩;refine ⟨_,ah _,ah _,?_⟩;refine ei 9 J I (GL J J Vk) (be a J) J ?_;refine zE 10 J (oh a J J) ?_;obtain rfl:=bn h;exact jg rest (jB J (bc (bc (bc (bc (bc (bc (bc (bc dG J) J) J) J) J) J) J) J)) (ah _) (ah _)
  have h:=dt a q;refine cT 3 J I (eK a J) J ?_;refine cT 4 J I (eK a J) J ?_;refine cT 6 J I (eK a J) J ?_;refine cT 7 J I (eK a J) J ?_;refine cT 5 J I (eK a J) J ?_;refine cT 8 J I (eK a J) J ?_;refine cT 9 J I (eK a J) J ?_;refine zE 10 J (pY a J J) ?_;obtain rfl:=bn h;exact jg rest (jB J (bc (bc (bc (bc (bc (bc (bc (bc dG J) J) J) J) J) J) J) J)) (ah _) (ah _)
 refine cJ I ?_;refine aG h ?_ ?_<;>intro h
 ·exact eY
 refine sY ?_;obtain ⟨e8,k,h⟩:=ad h;refine cV (oR (gl k)) ?_;refine gH J h ?_ ?_<;>intro h
 ·refine aa ?_;obtain ⟨e9,k,h⟩:=ad h;refine cV (oR (ES k)) ?_;obtain ⟨M,a6,h⟩:=ad h;refine eD 11 39 M ?_ ?_
  ·clear h;refine eE 28 J (fun o=> ?_) (fun o=> ?_)
   ·have h:=du o a6;exact gY
   have h:=dt o a6;refine aa ?_;obtain ⟨f1,k,h⟩:=ad h;refine gU (oR (eW k)) (bY o J) ?_;refine aa ?_;obtain ⟨L,a8,h⟩:=ad h;refine eD 7 38 L ?_ ?_
   ·clear h;refine eE 31 J (fun n=> ?_) (fun n=> ?_)
    ·have h:=du n a8;refine aa ?_;obtain ⟨f2,k,h⟩:=ad h;refine gU (oR (EJ k)) (be n J) ?_;exact gY
    have h:=dt n a8;exact gY
   exact gY
  refine aa ?_;obtain ⟨K,D,h⟩:=ad h;refine eD 11 51 K ?_ ?_
  ·clear h;refine eE 40 J (fun m=> ?_) (fun m=> ?_)
   ·have h:=du m D;exact gY
   have h:=dt m D;refine aa ?_;obtain ⟨f3,k,h⟩:=ad h;refine gU (oR (eW k)) (bY m J) ?_;refine aa ?_;obtain ⟨H,C,h⟩:=ad h;refine eD 7 50 H ?_ ?_
   ·clear h;refine eE 43 J (fun j=> ?_) (fun j=> ?_)
    ·have h:=du j C;refine aa ?_;obtain ⟨f9,k,h⟩:=ad h;refine gU (oR (EJ k)) (be j J) ?_;exact gY
    have h:=dt j C;exact gY
   exact gY
  exact eY
 refine sY ?_;obtain ⟨Z,k,h⟩:=ad h;refine cV (oR (yE k)) ?_;refine gH J h ?_ ?_<;>intro h
 ·exact eY
 refine sY ?_;obtain ⟨X,k,h⟩:=ad h;refine cV (oR (gl k)) ?_;refine gH J h ?_ ?_<;>intro h
 ·exact eY
 refine aa ?_;obtain ⟨V,k,h⟩:=ad h;refine cV (oR (eW k)) ?_;obtain ⟨F,B,h⟩:=ad h;refine eD 4 63 F ?_ ?_
 ·clear h;refine eE 59 J (fun i=> ?_) (fun i=> ?_)
  ·have h:=du i B;refine aa ?_;obtain ⟨U,k,h⟩:=ad h;refine gU (oR (gl k)) (be i J) ?_;exact gY
  have h:=dt i B;exact gY
 refine aa ?_;obtain ⟨E,A,h⟩:=ad h;refine eD 11 75 E ?_ ?_
 ·clear h;refine eE 64 J (fun f=> ?_) (fun f=> ?_)
  ·have h:=du f A;exact gY
  have h:=dt f A;refine aa ?_;obtain ⟨T,k,h⟩:=ad h;refine gU (oR (eW k)) (bY f J) ?_;refine aa ?_;obtain ⟨b32,z,h⟩:=ad h;refine eD 7 74 b32 ?_ ?_
  ·clear h;refine eE 67 J (fun e=> ?_) (fun e=> ?_)
   ·have h:=du e z;refine aa ?_;obtain ⟨S,k,h⟩:=ad h;refine gU (oR (EJ k)) (be e J) ?_;exact gY
   have h:=dt e z;exact gY
  exact gY
 exact eY
def Ag (N:Nat)(a2:Int)(a:Bool):Option Int:=
 bif a then (some a2) else (some 0)
def mW (c:VE)(a1 a2:Int)(a:Bool):Option Int:=
 (dC N c a1).bind fun e=>bif e then ((dW N c.XT a2).bind fun d=>Ag N a2 d) else (Ag N a2 a)
theorem EL {N:Nat}{c:VE}{a2:Int}{a:Bool}{r:Int}(h:mW N c a1 a2 a=some r):Okc V5 109 [(gL c),iV a1,iV a2,.bool a] ([]) (fun u p=>u=iV r/\p=[]):=by
 refine av Tryz.func109 ?_;intro B1;refine aa ?_;refine aF (fun s L=> ∃d,Ag N a2 d=some r/\s=[(2,iV a2),(8,iV 0),(9,.bool d)]/\L=[]) ?_ ?_
 ·refine cR h (fun _ k=>eW k) fun f h=> ?_
  refine gH J h ?_ ?_<;>intro h
  ·refine cR h (fun _ k=>gl k) fun e h=> ?_
   exact jN
  exact jY
 rintro _ _ ⟨d,h,rfl,rfl⟩;refine sZ ?_;refine gH J h ?_ ?_<;>intro h
 ·exact eY
 exact eY
def oq (N:Nat)(c:Bool)(a1:VH)(a2:Bool)(a:VH):Option VH:=
 bif c then (some a1) else (bif a2 then (some a) else (some (⟨0,0,⟨#[]⟩⟩:VH)))
theorem EN {N:Nat}{c:Bool}{a1 a r:VH}(h:oq N c a1 a2 a=some r):Okc V5 110 [.bool c,(bS a1),.bool a2,(bS a)] ([]) (fun u p=>u=(bS r)/\p=[]):=by
 refine av Tryz.func110 ?_;intro B1;refine bB fun B2=> ?_
 intro d;refine sY ?_;refine gH J h ?_ ?_<;>intro h
 ·exact eY
 refine sY ?_;refine gH J h ?_ ?_<;>intro h
 ·exact eY
 exact eY
end
section
variable {A1 A2 A3 A4 A5 A6 i:Option Addr}{B1 B2 e f M3 c1 c2 c3 c4 c5 c6 n d n2 n3 n4 n5 n6 o:Nat}
open Go.RowKit Asn
set_option maxRecDepth 20000
def sc (c:VN)(a1 a2:Bool)(a:Vy)(a4:VE):Option (VN×Bool):=
 bif !a1 then (bif !a2 then (some ((⟨(⟨0,0,⟨#[]⟩⟩:Vy),0,(⟨0,0,⟨#[]⟩⟩:VH),(⟨0,0,⟨#[]⟩⟩:VH),(⟨0,0,⟨#[]⟩⟩:VH)⟩:VN),false)) else ((An N a4 a).bind fun i=>some (i,true))) else ((dW N c.XT 4).bind fun f=>(bif !f then ((Aw N c a4).bind fun F=>some F) else (some false)).bind fun D=>bif D then (some ((⟨(⟨0,0,⟨#[]⟩⟩:Vy),0,(⟨0,0,⟨#[]⟩⟩:VH),(⟨0,0,⟨#[]⟩⟩:VH),(⟨0,0,⟨#[]⟩⟩:VH)⟩:VN),false)) else ((dW N c.XT 2).bind fun E=>(mW N a4 16 2 E).bind fun a6=>(dW N c.XT 4).bind fun C=>(mW N a4 32 4 C).bind fun a8=>ae (in64 (a6+a8)) ((dW N c.XT 8).bind fun d=>(lG N a4).bind fun B=>(bif B then (some true) else ((bif d then ((mU N a4).bind fun A=>some (!A)) else (some false)).bind fun z=>some z)).bind fun u=>bif u then (ae (in64 ((a6+a8)+8)) ((dC N a4 4).bind fun t=>(oq N t a4.Yc d c.Yc).bind fun q=>(dC N a4 8).bind fun p=>(oq N p a4.Yd d c.Yd).bind fun o=>some ((⟨a,(a6+a8)+8,(⟨0,0,⟨#[]⟩⟩:VH),q,o⟩:VN),true))) else ((bif !d then ((dW N c.XT 1).bind fun n=>some n) else (some false)).bind fun m=>(mW N a4 2 1 m).bind fun e=>ae (in64 ((a6+a8)+e)) ((dC N a4 1).bind fun l=>(oq N l a4.Value (!d) c.Value).bind fun j=>some ((⟨a,(a6+a8)+e,j,(⟨0,0,⟨#[]⟩⟩:VH),(⟨0,0,⟨#[]⟩⟩:VH)⟩:VN),true))))))
theorem Rv {N:Nat}{c:VN}{a1:Bool}{r:VN×Bool}(h:sc N c a1 a2 a a4=some r):Okc V5 58 [(dw c),.bool a1,.bool a2,(dN a),(gL a4)] ([]) (fun u p=>u=.tuple #[(dw r.1),.bool r.2]/\p=[]):=by
 refine av Tryz.func58 ?_;intro B1;refine bB fun B2=> ?_
 intro e;refine bB fun f=> ?_
 refine sZ ?_;refine gH J h ?_ ?_<;>intro h
 ·refine sZ ?_;refine gH J h ?_ ?_<;>intro h
  ·exact eY
  refine cR h (fun _ k=>RX k) fun t h=> ?_
  exact eN
 refine sY ?_;refine cR h (fun _ k=>gl k) fun q h=> ?_
 refine bF 4 30 26 h (fun _ z h=> ?_) fun V h=> ?_
 ·refine cR h (fun _ k=>RY k) fun U h=> ?_
  exact gY
 refine aG h ?_ ?_<;>intro h
 ·exact eY
 refine bB fun T=> ?_
 refine dY [0,1,2,5,6,7] ?_;obtain ⟨S,k,h⟩:=ad h;refine zD 3 J (oR (gl k)) ?_;rintro _ _ ⟨_,⟨rfl,rfl⟩,rfl⟩;refine ⟨_,ah _,ah _,?_⟩;obtain ⟨a8,k,h⟩:=ad h;refine zD 4 J (oR (EL k)) ?_;rintro _ _ ⟨_,⟨rfl,rfl⟩,rfl⟩;refine ⟨_,ah _,ah _,?_⟩;obtain ⟨R,k,h⟩:=ad h;refine zD 8 J (oR (gl k)) ?_;rintro _ _ ⟨_,⟨rfl,rfl⟩,rfl⟩;refine ⟨_,ah _,ah _,?_⟩;obtain ⟨d,k,h⟩:=ad h;refine zD 9 J (oR (EL k)) ?_;rintro _ _ ⟨_,⟨rfl,rfl⟩,rfl⟩;refine ⟨_,ah _,ah _,?_⟩;obtain ⟨o,h⟩:=ai h;refine zE 10 J (cY J J o.1 o.2) ?_;refine zY [11] ?_;refine iu 12 J I I (bL (us:=[iV (a8+d)]) (cs':=[iV a.no,iV a.N,.string a.S,iV (a8+d),iV 0,iV 0,.string (⟨#[]⟩),iV 0,iV 0,.string (⟨#[]⟩),iV 0,iV 0,.string (⟨#[]⟩)]) 0 J J J J size3.out J J J) ?_;rintro _ _ rfl;refine cJ I ?_;refine cR h (fun _ k=>gl k) fun Q h=> ?_
 refine sZ ?_;refine cR h (fun _ k=>yE k) fun P h=> ?_
 refine dJ 7 58 51 h (fun _ O h=> ?_) fun M h=> ?_
 ·refine aa ?_;refine bF 4 57 53 h (fun _ L h=> ?_) fun K h=> ?_
  ·refine cR h (fun _ k=>ES k) fun H h=> ?_
   exact gY
  exact gY
 refine aG h ?_ ?_<;>intro h
 ·refine aa ?_;obtain ⟨F,h⟩:=ai h;refine aa ?_;refine dY [0,2,3,4,5,6] ?_;obtain ⟨E,k,h⟩:=ad h;refine zD 1 J (oR (eW k)) ?_;rintro _ _ ⟨_,⟨rfl,rfl⟩,rfl⟩;refine ⟨_,ah _,ah _,?_⟩;obtain ⟨a6,k,h⟩:=ad h;refine zD 7 J (oR (EN k)) ?_;rintro _ _ ⟨_,⟨rfl,rfl⟩,rfl⟩;refine ⟨_,ah _,ah _,?_⟩;refine zY [8] ?_;refine iu 9 J I I (bL (us:=[iV a6.no,iV a6.N,.string a6.S]) (cs':=[iV a.no,iV a.N,.string a.S,iV ((a8+d)+8),iV 0,iV 0,.string (⟨#[]⟩),iV a6.no,iV a6.N,.string a6.S,iV 0,iV 0,.string (⟨#[]⟩)]) 0 J J J J size29.out J J J) ?_;rintro _ _ rfl;refine cJ I ?_;refine aa ?_;refine dY [0,2,3,4,5,6] ?_;obtain ⟨D,k,h⟩:=ad h;refine zD 1 J (oR (eW k)) ?_;rintro _ _ ⟨_,⟨rfl,rfl⟩,rfl⟩;refine ⟨_,ah _,ah _,?_⟩;obtain ⟨j,k,h⟩:=ad h;refine zD 7 J (oR (EN k)) ?_;rintro _ _ ⟨_,⟨rfl,rfl⟩,rfl⟩;refine ⟨_,ah _,ah _,?_⟩;refine zY [8] ?_;refine iu 9 J I I (bL (us:=[iV j.no,iV j.N,.string j.S]) (cs':=[iV a.no,iV a.N,.string a.S,iV ((a8+d)+8),iV 0,iV 0,.string (⟨#[]⟩),iV a6.no,iV a6.N,.string a6.S,iV j.no,iV j.N,.string j.S]) 0 J J J J size29.out J J J) ?_;rintro _ _ rfl;refine cJ I ?_;exact eY
 refine aa ?_;refine dY [0,1,2,3,4,5] ?_;refine yJ [6,7,8,9] 4 87 91 h (fun _ m h rest=> ?_) (fun _ m h rest=> ?_) fun C h=> ?_
 ·refine yY [6,7] ?_;obtain ⟨B,k,h⟩:=ad h;refine iI 8 J I (oR (gl k)) J (be m J) J ?_;rintro _ _ ⟨_,⟨rfl,rfl⟩,rfl⟩;refine ⟨_,ah _,ah _,?_⟩;refine zE 9 J (oh m J J) ?_;exact yS rest h
 ·refine yY [6,7,8,9] ?_;exact yS rest h
 obtain ⟨l,k,h⟩:=ad h;refine zD 10 J (oR (EL k)) ?_;rintro _ _ ⟨_,⟨rfl,rfl⟩,rfl⟩;refine ⟨_,ah _,ah _,?_⟩;obtain ⟨n,h⟩:=ai h;refine zE 11 J (cY J J n.1 n.2) ?_;refine zY [12] ?_;refine iu 13 J I I (bL (us:=[iV ((a8+d)+l)]) (cs':=[iV a.no,iV a.N,.string a.S,iV ((a8+d)+l),iV 0,iV 0,.string (⟨#[]⟩),iV 0,iV 0,.string (⟨#[]⟩),iV 0,iV 0,.string (⟨#[]⟩)]) 0 J J J J size3.out J J J) ?_;rintro _ _ rfl;refine cJ I ?_;refine aa ?_;refine dY [0,2,3,4,5,6,7] ?_;obtain ⟨A,k,h⟩:=ad h;refine zD 1 J (oR (eW k)) ?_;rintro _ _ ⟨_,⟨rfl,rfl⟩,rfl⟩;refine ⟨_,ah _,ah _,?_⟩;obtain ⟨i,k,h⟩:=ad h;refine zD 8 J (oR (EN k)) ?_;rintro _ _ ⟨_,⟨rfl,rfl⟩,rfl⟩;refine ⟨_,ah _,ah _,?_⟩;refine zY [9] ?_;refine iu 10 J I I (bL (us:=[iV i.no,iV i.N,.string i.S]) (cs':=[iV a.no,iV a.N,.string a.S,iV ((a8+d)+l),iV i.no,iV i.N,.string i.S,iV 0,iV 0,.string (⟨#[]⟩),iV 0,iV 0,.string (⟨#[]⟩)]) 0 J J J J size29.out J J J) ?_;rintro _ _ rfl;refine cJ I ?_;exact eY
def pZ (N:Nat)(c:VZ)(a1:Int)(a2:VN):Option VZ:=
 ae ((([]:List VN).length+c.length)<=549755813888) (bif decide (a1<0) then (ae (((([]:List VN)++c).length+([a2]:List VN).length)<=549755813888) (some ((([]:List VN)++c)++([a2]:List VN)))) else ((ak (([]:List VN)++c) a1).bind fun a6=>some (List.set (([]:List VN)++c) a1.toNat (⟨(⟨a2.XZ.no,a2.XZ.N,a2.XZ.S⟩:Vy),a2.XT,(⟨a2.Value.no,a2.Value.N,a2.Value.S⟩:VH),(⟨a2.Yc.no,a2.Yc.N,a2.Yc.S⟩:VH),(⟨a2.Yd.no,a2.Yd.N,a2.Yd.S⟩:VH)⟩:VN))))
theorem Jy {N:Nat}{c:VZ}{a2:VN}{r:VZ}(h:pZ N c a1 a2=some r):Okc V5 59 [Y A1 d c1,iV a1,(dw a2)] ([aL cI (Y A1 d c1) c]) (fun u p=> ∃f a e,u=Y f a e/\p=[aK cI 48 (Y f a e) r]):=by
 refine av Tryz.func59 ?_;intro B2;refine aa ?_;refine bN (cB (R:=cI) (vss:=[]) (xs:=[]) J (UM) J J (fun _ _ hr=>All2.nil)) fun A3 n3 c3=> ?_
 obtain ⟨l,h⟩:=ai h;refine bN (vo 0 2 J J bA J J Va CC J J J l) fun A5 n5 c5=> ?_
 refine sZ ?_;refine gH J h ?_ ?_<;>intro h
 ·refine aa ?_;refine gD (cB (R:=cI) (vss:=[(dS a2)]) (xs:=[a2]) J (FG _ _ _ _ _ _ _ _ _ _ _ _ _) J J (fun _ _ hr=> .cons J All2.nil)) ?_;rintro _ _ ⟨i,o,n,rfl,rfl⟩;obtain ⟨j,h⟩:=ai h;refine bN (vo 1 0 J J aw J J Va CC J J J j) fun D t B=> ?_
  exact eN
 refine aa ?_;obtain ⟨C,a6,a8,q,h⟩:=aI h;refine aa ?_;refine fm (dX (us:=dS a2) (z:=(⟨(⟨a2.XZ.no,a2.XZ.N,a2.XZ.S⟩:Vy),a2.XT,(⟨a2.Value.no,a2.Value.N,a2.Value.S⟩:VH),(⟨a2.Yc.no,a2.Yc.N,a2.Yc.S⟩:VH),(⟨a2.Yd.no,a2.Yd.N,a2.Yd.S⟩:VH)⟩:VN)) 0 J J J J size48.out J (toNat_lt a6 a8) J (fun S w vs xk m hr A=>by obtain rfl:=Xx (m.symm.trans q);rw [show _=_ from hr];rfl)) ?_;exact eN
def Ee (N:Nat)(a:VZ):Option VZ:=
 some a
def yX (N:Nat)(a6:VZ->Int->Option VZ)(a1 a:Int)(c a8:VZ):Option VZ:=
 ae (in64 (a+1)) (a6 a8 (a+1))
def rB (N:Nat)(a1:Int)(c:VZ):Nat->VZ->Int->Option VZ
 |0,_,_=>none
 |e+1,d,a=>bif decide (a<(c.length:Int)) then (bif !decide (a=a1) then ((ak c a).bind fun a6=>ae ((d.length+([a6]:List VN).length)<=549755813888) (yX N (rB N a1 c e) a1 a c (d++([a6]:List VN)))) else (yX N (rB N a1 c e) a1 a c d)) else (Ee N d)
def Ey (c:VZ)(a1:Int):Option VZ:=
 rB N a1 c N [] 0
theorem QH {N:Nat}{c r:VZ}(h:Ey N c a1=some r):Okc V5 60 [Y A1 d c1,iV a1] ([aL cI (Y A1 d c1) c]) (fun u p=> ∃q l n,u=Y q l n/\p=[aK cI 48 (Y q l n) r]):=by
 refine av Tryz.func60 ?_;refine aF (fun s L=> ∃f A3 n3 c3,Ee N f=some r/\s=[(4,Y none 0 0),(5,Y A3 n3 c3)]/\L=[aK cI 48 (Y A3 n3 c3) f]) ?_ ?_
 ·refine aa ?_;refine dU (fun m s L=> ∃e a A5 n5 c5,rB N a1 c m e a=some r/\s=[(0,Y A1 d c1),(1,iV a1),(4,Y none 0 0),(5,Y A5 n5 c5),(6,iV a)]/\L=[aL cI (Y A1 d c1) c,aK cI 48 (Y A5 n5 c5) e]) N _ _ ⟨[],0,none,0,0,h,J,J⟩ sA ((ck cI 48 _).trans (cS [1,0] 2)) ?_;rintro (_|t) _ _ ⟨e,a,A5,n5,c5,h,rfl,rfl⟩
  ·exact bO h
  rw [rB.eq_2] at h;refine sZ ?_;refine gH J h ?_ ?_<;>intro h
  ·refine aa ?_;refine aF (fun s L=> ∃a6 a8 j i,yX N (rB N a1 c t) a1 a c a6=some r/\s=[(0,Y A1 d c1),(1,iV a1),(4,Y none 0 0),(5,Y a8 j i),(6,iV a)]/\L=[aL cI (Y A1 d c1) c,aK cI 48 (Y a8 j i) a6]) ?_ ?_
   ·refine aG h ?_ ?_<;>intro h
    ·refine aa ?_;obtain ⟨o,O,M,K,h⟩:=aI h;refine aa ?_;refine gD (cB (R:=cI) (vss:=[(dS o)]) (xs:=[o]) J (FG _ _ _ _ _ _ _ _ _ _ _ _ _) J J (fun _ _ hr=> .cons J All2.nil)) ?_;rintro _ _ ⟨H,F,E,rfl,rfl⟩;obtain ⟨z,h⟩:=ai h;refine bN (vo 2 0 J J aw J J Va CC J J J z) fun D C B=> ?_
     exact jN
    exact jY
   rintro _ _ ⟨a6,a8,j,i,h,rfl,rfl⟩;refine aa ?_;obtain ⟨A,h⟩:=ai h;exact lY
  exact jY
 rintro _ _ ⟨f,A3,n3,c3,h,rfl,rfl⟩;exact eY
def E0 (N:Nat):Option Bool:=
 some false
def Ah (N:Nat)(a1:Int)(c:List VB):Nat->Int->Option Bool
 |0,_=>none
 |d+1,a=>bif decide (0<=a) then (bif decide (a=a1) then (some true) else ((ak c a).bind fun x7=>(Ah N a1 c d) x7.Yt)) else (E0 N)
def E5 (c:List VB)(a1 a2:Int):Option Bool:=
 Ah N a1 c N a2
theorem R2 {N:Nat}{c:List VB}{a2:Int}{r:Bool}(h:E5 N c a1 a2=some r):Okc V5 61 [Y A1 d c1,iV a1,iV a2] ([aL fQ (Y A1 d c1) c]) (fun u p=>u=.bool r/\p=[]):=by
 refine av Tryz.func61 ?_;refine aF (fun s L=>E0 N=some r/\s=[(6,.bool false)]/\L=[]) ?_ ?_
 ·refine aa ?_;refine lK (fun m s L=> ∃(a:Int),Ah N a1 c m a=some r/\s=[(0,Y A1 d c1),(1,iV a1),(2,iV a),(6,.bool false)]/\L=[aL fQ (Y A1 d c1) c]) N ?_;rintro i _ _ ⟨a,h,rfl,rfl⟩;rw [Ah.eq_2] at h;refine sZ ?_;refine gH J h ?_ ?_<;>intro h
  ·refine sY ?_;refine gH J h ?_ ?_<;>intro h
   ·exact eY
   refine aa ?_;obtain ⟨x7,a6,a8,f,h⟩:=aI h;refine aa ?_;refine gR (iA 0 J bA J (toNat_lt a6 a8) wp) ?_;refine fS (fZ (u:=iV x7.Yt) 0 J bA J f eo (fun _ _ _ h=>by obtain ⟨_,_,_,e,_⟩:=h;rw [e];rfl)) ?_;exact lN
  exact jY
 rintro _ _ ⟨h,rfl,rfl⟩;exact eY
def vl (a1:Vx)(x6:VB)(e:Int)(c:List VB)(a8 u:Int)(t:ByteArray)(q d p:Int)(o:ByteArray)(n m:Int)(l:ByteArray)(j a:Int)(i:ByteArray):Option ((List VB)×Bool):=
 (sc N (⟨(⟨a8,u,t⟩:Vy),q,(⟨d,p,o⟩:VH),(⟨n,m,l⟩:VH),(⟨j,a,i⟩:VH)⟩:VN) (decide (0<=e)) x6.Ext a1.K a1.D).bind fun a6=>bif !a6.2 then (some (c,false)) else ((pZ N x6.Row e a6.1).bind fun f=>some (List.set (([]:List VB)++c) a1.O.toNat (⟨x6.Yt,x6.Ext,f⟩:VB),true))
def oA (c:List VB)(a1:Vx):Option ((List VB)×Bool):=
 ae (bC (([]:List VB).length+c.length)) ((ak (([]:List VB)++c) a1.O).bind fun x6=>(si N x6.Row a1.K).bind fun a=>bif decide (a1.no=0) then ((og N a1.K).bind fun q=>(bif !q then (some true) else ((bif decide (a<0) then (some (decide (1024<=(x6.Row.length:Int)))) else (some false)).bind fun b12=>some b12)).bind fun p=>bif p then (some (c,false)) else (bif decide (0<=a) then ((ak x6.Row a).bind fun a6=>vl N a1 x6 a c a6.XZ.no a6.XZ.N a6.XZ.S a6.XT a6.Value.no a6.Value.N a6.Value.S a6.Yc.no a6.Yc.N a6.Yc.S a6.Yd.no a6.Yd.N a6.Yd.S) else (vl N a1 x6 a c 0 0 (⟨#[]⟩) 0 0 0 (⟨#[]⟩) 0 0 (⟨#[]⟩) 0 0 (⟨#[]⟩)))) else (bif decide (a1.no=1) then (bif decide (a<0) then (some (c,true)) else ((ak x6.Row a).bind fun a8=>ae (in64 (a8.XT.tdiv 4)) (bif decide ((a8.XT.tdiv 4).tmod 2=0) then (some (c,false)) else ((Ey N x6.Row a).bind fun o=>some (List.set (([]:List VB)++c) a1.O.toNat (⟨x6.Yt,x6.Ext,o⟩:VB),true))))) else (bif decide (a1.no=2) then (bif decide (x6.Yt=a1.P) then (some (c,true)) else ((bif !x6.Ext then (some true) else ((E5 N c a1.O a1.P).bind fun n=>some n)).bind fun m=>bif m then (some (c,false)) else (some (List.set (([]:List VB)++c) a1.O.toNat (⟨a1.P,x6.Ext,x6.Row⟩:VB),true)))) else (bif decide (a1.no=3) then (some (List.set (([]:List VB)++c) a1.O.toNat (⟨x6.Yt,false,x6.Row⟩:VB),false)) else (bif decide (a1.no=4) then ((og N a1.K).bind fun l=>(bif !l then (some true) else (some (decide (a1.XT<0)))).bind fun j=>(bif j then (some true) else (some (decide (7<a1.XT)))).bind fun i=>(bif i then (some true) else ((bif decide (a<0) then (some (decide (1024<=(x6.Row.length:Int)))) else (some false)).bind fun f=>some f)).bind fun e=>bif e then (some (c,false)) else ((pZ N x6.Row a (⟨a1.K,a1.XT,a1.V,(⟨0,0,⟨#[]⟩⟩:VH),(⟨0,0,⟨#[]⟩⟩:VH)⟩:VN)).bind fun d=>some (List.set (([]:List VB)++c) a1.O.toNat (⟨x6.Yt,x6.Ext,d⟩:VB),true))) else (some (c,false)))))))
theorem TK {N:Nat}{c:List VB}{a1:Vx}{r:((List VB)×Bool)}(h:oA N c a1=some r):Okc V5 21 [Y A1 d c1,(Oj a1)] ([aL fQ (Y A1 d c1) c]) (fun u p=> ∃A0 n0 c0,u=.tuple #[Y A0 n0 c0,.bool r.2]/\p=[aL fQ (Y A0 n0 c0) r.1]):=by
 refine av Tryz.func21 ?_;intro B2;refine aa ?_;refine bN (cB (R:=fQ) (vss:=[]) (xs:=[]) J (Uo) J J (fun _ _ hr=>All2.nil)) fun A3 n3 c3=> ?_
 obtain ⟨q4,h⟩:=ai h;refine bN (cG 0 2 J J bA J J Vb Ol J J q4) fun A5 n5 c5=> ?_
 obtain ⟨x6,a6,a8,a,h⟩:=aI h;refine aa ?_;refine aH ?_;refine cy I _ (ah _) ?_;refine zE 0 J (ay J) ?_;refine zR 1 J (dR 0 J aw J (toNat_lt a6 a8)) ?_;refine zR 2 J (dc 0 J aw J (toNat_lt a6 a8) jC) ?_;refine zE 4 J (bW J wl) ?_;refine zR 5 J (db (us:=ij a1.K) 1 J J agg34.out J) ?_;refine zD 3 J (mZ (R':=cI) (ys:=x6.Row) 0 J aw J a mi (fun _ _ _ h=>by obtain ⟨_,_,_,e,k⟩:=h;exact ⟨_,by rw [e];rfl,k⟩)) ?_;rintro _ _ ⟨i,o,n,rfl,rfl⟩;refine ⟨_,ah _,cv_tl,?_⟩;obtain ⟨l,k,h⟩:=ad h;refine zD 6 J (oR (JD k)) ?_;rintro _ _ ⟨_,⟨rfl,rfl⟩,rfl⟩;refine ⟨_,ah _,ah _,?_⟩;refine zE 7 J (dQ J) ?_;refine cJ I ?_;refine sY ?_;refine gH J h ?_ ?_<;>intro h
 ·refine sZ ?_;obtain ⟨j6,k,h⟩:=ad h;refine cV (oR (EG k)) ?_;obtain ⟨g9,f2,h⟩:=ad h;refine eD 11 45 g9 ?_ ?_
  ·clear h;refine eE 34 J (fun g3=> ?_) (fun g3=> ?_)
   ·have h:=du g3 f2;exact gY
   have h:=dt g3 f2;refine aa ?_;obtain ⟨b12,f3,h⟩:=ad h;refine eD 7 44 b12 ?_ ?_
   ·clear h;refine eE 37 J (fun e2=> ?_) (fun e2=> ?_)
    ·have h:=du e2 f3;refine aa ?_;refine dF (dR 1 J aw J (toNat_lt a6 a8)) J (be e2 J) J ?_;refine dF (dc 1 J aw J (toNat_lt a6 a8) jC) J (be e2 J) J ?_;refine tl (mZ (R':=cI) (ys:=x6.Row) 1 J aw J a mi (fun _ _ _ h=>by obtain ⟨_,_,_,e,k⟩:=h;exact ⟨_,by rw [e];rfl,k⟩)) J (be e2 J) J ?_;rintro _ _ ⟨j7,j8,j9,rfl,rfl⟩;exact gY
    have h:=dt e2 f3;exact gY
   exact gY
  refine aG h ?_ ?_<;>intro h
  ·exact eY
  refine bB fun e3=> ?_
  refine aF (fun s L=> ∃T Q P O j M K H F E D f C,vl N a1 x6 l c T Q P O j M K H F E D f C=some r/\s=[(0,Y A1 d c1),(3,pV B2 0),(4,Y none 0 0),(5,.bool false),(6,Y A5 n5 c5),(7,bD (Y A5 n5 c5) a1.O.toNat 3 0),(8,iV l),(9,pV e3 0)]/\L=[aL fQ (Y A1 d c1) c,aK fQ 55 (Y A5 n5 c5) (([]:List VB)++c),ab B2 38 (oW a1),ab e3 48 [iV T,iV Q,.string P,iV O,iV j,iV M,.string K,iV H,iV F,.string E,iV D,iV f,.string C]]) ?_ ?_
  ·refine aG h ?_ ?_<;>intro h
   ·refine aa ?_;refine gR (dR 2 J aw J (toNat_lt a6 a8)) ?_;refine gR (dc 2 J aw J (toNat_lt a6 a8) jC) ?_;refine bN (mZ (R':=cI) (ys:=x6.Row) 2 J aw J a mi (fun _ _ _ h=>by obtain ⟨_,_,_,e,k⟩:=h;exact ⟨_,by rw [e];rfl,k⟩)) fun k0 k2 k3=> ?_
    obtain ⟨k4,h0,h1,h2,h⟩:=aI h;exact jY
   exact jY
  refine fun s L=>Zb fun T Q P O j M=>Zb fun K H F E D f=>ac fun C=>d7 fun h=> ?_
  refine aH ?_;obtain ⟨m,g4,h⟩:=ad h;refine dx (t:=[(0,Y A1 d c1),(3,pV B2 0),(4,Y none 0 0),(5,.bool false),(6,Y A5 n5 c5),(7,bD (Y A5 n5 c5) a1.O.toNat 3 0),(8,iV l),(9,pV e3 0)]) ?_ cL (ah _);refine fv I 16 [14] [13,14,15] [58,59,60,61,62,63,64,65,66,67,68,69,57,70,71,10] [[],[],[1],[],[3],[4],[5],[],[7],[],[9],[0,2,6,8,10],[11],[12],[12],[]] [aV (.agg #[iV T,iV Q,.string P,iV O,iV j,iV M,.string K,iV H,iV F,.string E,iV D,iV f,.string C]),
aV (iV l),
aV (.bool (decide (0<=l))),
aV (bD (Y A5 n5 c5) a1.O.toNat 3 0),
aV (bD (Y A5 n5 c5) a1.O.toNat 3 0),
aV (bD (Y A5 n5 c5) a1.O.toNat 3 1),
aV (.bool x6.Ext),
aV (pV B2 3),
aV ((dN a1.K)),
aV (pV B2 6),
aV ((gL a1.D)),
aV (.tuple #[(dw m.1),.bool m.2]),
aV (.tuple #[(dw m.1),.bool m.2]),
aV ((dw m.1)),
aV (.bool m.2),
aX1 (fun (A:Nat)=>pV A 0) (fun A=> [ab A 48 [iV 0,iV 0,.string (⟨#[]⟩),iV 0,iV 0,iV 0,.string (⟨#[]⟩),iV 0,iV 0,.string (⟨#[]⟩),iV 0,iV 0,.string (⟨#[]⟩)]])] [] (ah _) (ft rfl fB) I rfl rfl ?_ ?_ ?_
  ·refine fu J ?_ ?_
   ·exact fC (oo J J) J (bj J (ah _))
   exact fz
  ·refine bl J ?_ ?_
   ·refine fi (iq zero48.out J) J ?_;rintro _ _ ⟨h3,rfl,rfl⟩;exact wU h3 (ah _)
   refine bl J ?_ ?_
   ·exact dI (oo J J) J (bj J (ah _))
   refine bl J ?_ ?_
   ·exact dI (oo J J) J (bj J (ah _))
   refine bl J ?_ ?_
   ·exact dI (ay J) J (bj J (ah _))
   refine bl J ?_ ?_
   ·refine fi (oR (Rv g4)) J ?_;rintro _ _ ⟨_,⟨rfl,rfl⟩,rfl⟩;exact bj J (ah _)
   refine bl J ?_ ?_
   ·exact dj (db (us:=iJ a1.D) 2 J J agg36.out J) J (bj J (ah _))
   refine bl J ?_ ?_
   ·exact dI (bW J MN) J (bj J (ah _))
   refine bl J ?_ ?_
   ·exact dj (db (us:=ij a1.K) 2 J J agg34.out J) J (bj J (ah _))
   refine bl J ?_ ?_
   ·exact dI (bW J wl) J (bj J (ah _))
   refine bl J ?_ ?_
   ·exact dj (fZ (u:=.bool x6.Ext) 1 J aw J a Hg (fun _ _ _ h=>by obtain ⟨_,_,_,e,_⟩:=h;rw [e];rfl)) J (bj J (ah _))
   refine bl J ?_ ?_
   ·exact dj (dc 1 J aw J (toNat_lt a6 a8) BF) J (bj J (ah _))
   refine bl J ?_ ?_
   ·exact dj (dR 1 J aw J (toNat_lt a6 a8)) J (bj J (ah _))
   refine bl J ?_ ?_
   ·exact dI (ay J) J (bj J (ah _))
   refine bl J ?_ ?_
   ·exact dI (N7 J J) J (bj J (ah _))
   refine bl J ?_ ?_
   ·exact dI (ay J) J (bj J (ah _))
   refine bl J ?_ ?_
   ·exact dj (db (us:=[iV T,iV Q,.string P,iV O,iV j,iV M,.string K,iV H,iV F,.string E,iV D,iV f,.string C]) 3 J J agg48.out J) J (bj J (ah _))
   exact fq
  intro A;refine eF (t:=[(70,(dw m.1)),(71,.bool m.2),(10,pV A 0),(0,Y A1 d c1),(3,pV B2 0),(4,Y none 0 0),(5,.bool false),(6,Y A5 n5 c5),(7,bD (Y A5 n5 c5) a1.O.toNat 3 0),(8,iV l),(9,pV e3 0)]) (L':=[ab A 48 [iV 0,iV 0,.string (⟨#[]⟩),iV 0,iV 0,iV 0,.string (⟨#[]⟩),iV 0,iV 0,.string (⟨#[]⟩),iV 0,iV 0,.string (⟨#[]⟩)],aL fQ (Y A1 d c1) c,aK fQ 55 (Y A5 n5 c5) (([]:List VB)++c),ab B2 38 (oW a1),ab e3 48 [iV T,iV Q,.string P,iV O,iV j,iV M,.string K,iV H,iV F,.string E,iV D,iV f,.string C]]) ?_ cL (ah _);refine gv 16 J I (bL (us:=dS m.1) (cs':=dS m.1) 0 J J J J size48.out J J J) J J ?_;rintro _ _ rfl;refine jo ?_;refine jt 17 J I (dQ J) J J J ?_;refine fw I ?_;refine sY ?_;refine gH J h ?_ ?_<;>intro h
  ·exact eY
  refine aa ?_;refine aH ?_;refine dx (t:=[(0,Y A1 d c1),(4,Y none 0 0),(5,.bool false),(6,Y A5 n5 c5),(7,bD (Y A5 n5 c5) a1.O.toNat 3 0),(8,iV l),(10,pV A 0)]) ?_ cL (ah _);refine fv I 7 [0] [0,4,5,6] [75,76,77,78,79,80,81] [[],[],[1],[2],[3],[],[]] [aV (bD (Y A5 n5 c5) a1.O.toNat 3 0),
aV (bD (Y A5 n5 c5) a1.O.toNat 3 0),
aV (bD (Y A5 n5 c5) a1.O.toNat 3 0),
aV (bD (Y A5 n5 c5) a1.O.toNat 3 2),
aX3 (fun (e4:Option Addr) (e5 e6:Nat)=> Y e4 e5 e6) (fun e4 e5 e6=> [aL cI (Y e4 e5 e6) x6.Row]),
aV (iV l),
aV ((dw m.1))] [] (ah _) (ft rfl fB) I rfl rfl ?_ ?_ ?_
  ·refine fu J ?_ ?_
   ·exact fC (ay J) J (bj J (ah _))
   exact fz
  ·refine bl J ?_ ?_
   ·exact dj (db (us:=dS m.1) 0 J J agg48.out J) J (bj J (ah _))
   refine bl J ?_ ?_
   ·exact dI (ay J) J (bj J (ah _))
   refine bl J ?_ ?_
   ·refine fi (mZ (R':=cI) (ys:=x6.Row) 2 J aw J a mi (fun _ _ _ h=>by obtain ⟨_,_,_,e,k⟩:=h;exact ⟨_,by rw [e];rfl,k⟩)) J ?_;rintro _ _ ⟨h4,h5,h6,rfl,rfl⟩;exact lp h4 h5 h6 (ah _)
   refine bl J ?_ ?_
   ·exact dj (dc 2 J aw J (toNat_lt a6 a8) jC) J (bj J (ah _))
   refine bl J ?_ ?_
   ·exact dj (dR 2 J aw J (toNat_lt a6 a8)) J (bj J (ah _))
   refine bl J ?_ ?_
   ·exact dI (ay J) J (bj J (ah _))
   refine bl J ?_ ?_
   ·exact dI (ay J) J (bj J (ah _))
   exact fq
  intro e4 e5 e6;refine eF (t:=[(75,bD (Y A5 n5 c5) a1.O.toNat 3 0),(79,Y e4 e5 e6),(80,iV l),(81,(dw m.1)),(0,Y A1 d c1),(4,Y none 0 0),(5,.bool false),(6,Y A5 n5 c5),(7,bD (Y A5 n5 c5) a1.O.toNat 3 0),(8,iV l),(10,pV A 0)]) (L':=[aL cI (Y e4 e5 e6) x6.Row,ab A 48 (dS m.1),aL fQ (Y A1 d c1) c,aK fQ 55 (Y A5 n5 c5) (([]:List VB)++c),ab B2 38 (oW a1),ab e3 48 [iV T,iV Q,.string P,iV O,iV j,iV M,.string K,iV H,iV F,.string E,iV D,iV f,.string C]]) ?_ cL (ah _);obtain ⟨h7,k,h⟩:=ad h;refine gP 7 J I (oR (Jy k)) J J J ?_;rintro _ _ ⟨_,⟨h8,h9,i0,rfl,rfl⟩,rfl⟩;refine kD 8 J I (dR 4 J aw J (toNat_lt a6 a8)) J J J ?_;refine kD 9 J I (dc 4 J aw J (toNat_lt a6 a8) jC) J J J ?_;refine eF ?_ dG (cu 0 J);refine jo ?_;refine gv 10 J I (dX (us:=[Y h8 h9 i0]) (z:=(⟨x6.Yt,x6.Ext,h7⟩:VB)) 4 J J J J size40.out J (toNat_lt a6 a8) J (fun S w vs xk q hr B=>by obtain rfl:=Xx (q.symm.trans a);obtain ⟨_,_,_,rfl,s2⟩:=hr;exact ⟨_,_,_,rfl,B 0 _ rfl rfl⟩)) J J ?_;rintro _ _ rfl;refine jo ?_;refine fw I ?_;refine aa ?_;obtain rfl:=bn h;exact kY J J J ((cu 4 J).trans (cS [4] 7)) ⟨_,_,_,J,J⟩
 refine aG h ?_ ?_<;>intro h
 ·refine sZ ?_;refine gH J h ?_ ?_<;>intro h
  ·exact eY
  refine sY ?_;refine gR (dR 1 J aw J (toNat_lt a6 a8)) ?_;refine gR (dc 1 J aw J (toNat_lt a6 a8) jC) ?_;refine bN (mZ (R':=cI) (ys:=x6.Row) 1 J aw J a mi (fun _ _ _ h=>by obtain ⟨_,_,_,e,k⟩:=h;exact ⟨_,by rw [e];rfl,k⟩)) fun k5 k6 k7=> ?_
  obtain ⟨k8,g5,g6,i1,h⟩:=aI h;refine aa ?_;refine fS (dc 0 J bA J (toNat_lt g5 g6) F4) ?_;obtain ⟨g8,h⟩:=ai h;refine gE (mb J J (by decide) g8.1 g8.2) ?_;refine aJ (iz J J (by decide)) ?_;refine gH J h ?_ ?_<;>intro h
  ·exact eY
  refine aa ?_;refine gR (dR 2 J aw J (toNat_lt a6 a8)) ?_;refine gR (dc 2 J aw J (toNat_lt a6 a8) jC) ?_;refine bN (mZ (R':=cI) (ys:=x6.Row) 2 J aw J a mi (fun _ _ _ h=>by obtain ⟨_,_,_,e,k⟩:=h;exact ⟨_,by rw [e];rfl,k⟩)) fun k9 l0 l1=> ?_
  obtain ⟨i2,k,h⟩:=ad h;refine gD (oR (QH k)) ?_;rintro _ _ ⟨_,⟨i3,i4,i5,rfl,rfl⟩,rfl⟩;refine gR (dR 4 J aw J (toNat_lt a6 a8)) ?_;refine gR (dc 4 J aw J (toNat_lt a6 a8) jC) ?_;refine d6 (cu 0 J) ?_;refine aa ?_;refine fm (dX (us:=[Y i3 i4 i5]) (z:=(⟨x6.Yt,x6.Ext,i2⟩:VB)) 4 J J J J size40.out J (toNat_lt a6 a8) J (fun S w vs xk q hr B=>by obtain rfl:=Xx (q.symm.trans a);obtain ⟨_,_,_,rfl,s2⟩:=hr;exact ⟨_,_,_,rfl,B 0 _ rfl rfl⟩)) ?_;obtain rfl:=bn h;exact kY J J J ((cu 4 J).trans (cS [4] 7)) ⟨_,_,_,J,J⟩
 refine aG h ?_ ?_<;>intro h
 ·refine aH ?_;refine aH ?_;refine cy I _ (ah _) ?_;refine aa ?_;refine zR 1 J (dR 1 J aw J (toNat_lt a6 a8)) ?_;refine zR 2 J (iA 1 J aw J (toNat_lt a6 a8) wp) ?_;refine zR 3 J (fZ (u:=iV x6.Yt) 1 J aw J a eo (fun _ _ _ h=>by obtain ⟨_,_,_,e,_⟩:=h;rw [e];rfl)) ?_;refine aG h ?_ ?_<;>intro h
  ·exact eY
  refine sY ?_;refine gR (dR 1 J aw J (toNat_lt a6 a8)) ?_;refine gR (dc 1 J aw J (toNat_lt a6 a8) BF) ?_;refine fS (fZ (u:=.bool x6.Ext) 1 J aw J a Hg (fun _ _ _ h=>by obtain ⟨_,_,_,e,_⟩:=h;rw [e];rfl)) ?_;obtain ⟨i6,f9,h⟩:=ad h;refine eD 7 135 i6 ?_ ?_
  ·clear h;refine eE 128 J (fun g2=> ?_) (fun g2=> ?_)
   ·have h:=du g2 f9;exact gY
   have h:=dt g2 f9;refine aa ?_;obtain ⟨l2,k,h⟩:=ad h;refine gU (oR (R2 k)) (bY g2 J) ?_;exact gY
  refine aG h ?_ ?_<;>intro h
  ·exact eY
  refine aa ?_;refine gR (dR 1 J aw J (toNat_lt a6 a8)) ?_;refine gR (iA 1 J aw J (toNat_lt a6 a8) wp) ?_;refine fm (dX (us:=[iV a1.P]) (z:=(⟨a1.P,x6.Ext,x6.Row⟩:VB)) 1 J J J J size3.out J (toNat_lt a6 a8) J (fun S w vs xk q hr B=>by obtain rfl:=Xx (q.symm.trans a);obtain ⟨_,_,_,rfl,s2⟩:=hr;exact ⟨_,_,_,rfl,s2⟩)) ?_;obtain rfl:=bn h;exact kY J J J ((cu 1 J).trans (cS [1] 4)) ⟨_,_,_,J,J⟩
 refine aG h ?_ ?_<;>intro h
 ·refine aa ?_;refine gR (dR 1 J aw J (toNat_lt a6 a8)) ?_;refine gR (dc 1 J aw J (toNat_lt a6 a8) BF) ?_;refine fm (dX (us:=[.bool false]) (z:=(⟨x6.Yt,false,x6.Row⟩:VB)) 1 J J J J size4.out J (toNat_lt a6 a8) J (fun S w vs xk q hr B=>by obtain rfl:=Xx (q.symm.trans a);obtain ⟨_,_,_,rfl,s2⟩:=hr;exact ⟨_,_,_,rfl,s2⟩)) ?_;obtain rfl:=bn h;exact kY J J J ((cu 1 J).trans (cS [1] 4)) ⟨_,_,_,J,J⟩
 refine aG h ?_ ?_<;>intro h
 ·refine sZ ?_;obtain ⟨l3,k,h⟩:=ad h;refine cV (oR (EG k)) ?_;refine gS 4 159 155 h ?_;intro l4 h;refine aa ?_;refine gS 4 164 160 h ?_;intro l5 h;refine aa ?_;obtain ⟨i7,g0,h⟩:=ad h;refine eD 11 176 i7 ?_ ?_
  ·clear h;refine eE 165 J (fun g7=> ?_) (fun g7=> ?_)
   ·have h:=du g7 g0;exact gY
   have h:=dt g7 g0;refine aa ?_;obtain ⟨i8,g1,h⟩:=ad h;refine eD 7 175 i8 ?_ ?_
   ·clear h;refine eE 168 J (fun Z=> ?_) (fun Z=> ?_)
    ·have h:=du Z g1;refine aa ?_;refine dF (dR 1 J aw J (toNat_lt a6 a8)) J (be Z J) J ?_;refine dF (dc 1 J aw J (toNat_lt a6 a8) jC) J (be Z J) J ?_;refine tl (mZ (R':=cI) (ys:=x6.Row) 1 J aw J a mi (fun _ _ _ h=>by obtain ⟨_,_,_,e,k⟩:=h;exact ⟨_,by rw [e];rfl,k⟩)) J (be Z J) J ?_;rintro _ _ ⟨l6,l7,l8,rfl,rfl⟩;exact gY
    have h:=dt Z g1;exact gY
   exact gY
  refine aG h ?_ ?_<;>intro h
  ·exact eY
  refine aa ?_;refine aH ?_;refine dx (t:=[(0,Y A1 d c1),(3,pV B2 0),(4,Y none 0 0),(5,.bool false),(6,Y A5 n5 c5),(7,bD (Y A5 n5 c5) a1.O.toNat 3 0),(8,iV l)]) ?_ cL (ah _);refine fv I 13 [0] [0,4,5,12] [178,179,180,181,182,183,184,185,186,187,188,189,190] [[],[],[1],[2],[3],[],[],[6],[],[8],[],[10],[7,9,11]] [aV (bD (Y A5 n5 c5) a1.O.toNat 3 0),
aV (bD (Y A5 n5 c5) a1.O.toNat 3 0),
aV (bD (Y A5 n5 c5) a1.O.toNat 3 0),
aV (bD (Y A5 n5 c5) a1.O.toNat 3 2),
aX3 (fun (X:Option Addr) (V U:Nat)=> Y X V U) (fun X V U=> [aL cI (Y X V U) x6.Row]),
aV (iV l),
aV (pV B2 3),
aV ((dN a1.K)),
aV (pV B2 20),
aV (iV a1.XT),
aV (pV B2 17),
aV ((bS a1.V)),
aV (.agg #[iV a1.K.no,iV a1.K.N,.string a1.K.S,iV a1.XT,iV a1.V.no,iV a1.V.N,.string a1.V.S,iV 0,iV 0,.string (⟨#[]⟩),iV 0,iV 0,.string (⟨#[]⟩)])] [] (ah _) (ft rfl fB) I rfl rfl ?_ ?_ ?_
  ·refine fu J ?_ ?_
   ·exact fC (ay J) J (bj J (ah _))
   exact fz
  ·refine bl J ?_ ?_
   ·exact dI (iW J (bld_48_0_1_2 _ _ _ _ _ _ _).out) J (bj J (ah _))
   refine bl J ?_ ?_
   ·exact dj (db (us:=ee a1.V) 2 J J agg29.out J) J (bj J (ah _))
   refine bl J ?_ ?_
   ·exact dI (bW J Mo) J (bj J (ah _))
   refine bl J ?_ ?_
   ·exact dj (cn 2 J J eo J) J (bj J (ah _))
   refine bl J ?_ ?_
   ·exact dI (bW J ME) J (bj J (ah _))
   refine bl J ?_ ?_
   ·exact dj (db (us:=ij a1.K) 2 J J agg34.out J) J (bj J (ah _))
   refine bl J ?_ ?_
   ·exact dI (bW J wl) J (bj J (ah _))
   refine bl J ?_ ?_
   ·exact dI (ay J) J (bj J (ah _))
   refine bl J ?_ ?_
   ·refine fi (mZ (R':=cI) (ys:=x6.Row) 1 J aw J a mi (fun _ _ _ h=>by obtain ⟨_,_,_,e,k⟩:=h;exact ⟨_,by rw [e];rfl,k⟩)) J ?_;rintro _ _ ⟨i9,j0,j1,rfl,rfl⟩;exact lp i9 j0 j1 (ah _)
   refine bl J ?_ ?_
   ·exact dj (dc 1 J aw J (toNat_lt a6 a8) jC) J (bj J (ah _))
   refine bl J ?_ ?_
   ·exact dj (dR 1 J aw J (toNat_lt a6 a8)) J (bj J (ah _))
   refine bl J ?_ ?_
   ·exact dI (ay J) J (bj J (ah _))
   refine bl J ?_ ?_
   ·exact dI (ay J) J (bj J (ah _))
   exact fq
  intro X V U;refine eF (t:=[(178,bD (Y A5 n5 c5) a1.O.toNat 3 0),(182,Y X V U),(183,iV l),(190,.agg #[iV a1.K.no,iV a1.K.N,.string a1.K.S,iV a1.XT,iV a1.V.no,iV a1.V.N,.string a1.V.S,iV 0,iV 0,.string (⟨#[]⟩),iV 0,iV 0,.string (⟨#[]⟩)]),(0,Y A1 d c1),(3,pV B2 0),(4,Y none 0 0),(5,.bool false),(6,Y A5 n5 c5),(7,bD (Y A5 n5 c5) a1.O.toNat 3 0),(8,iV l)]) (L':=[aL cI (Y X V U) x6.Row,aL cI (Y i o n) x6.Row,aK fQ 55 (Y A5 n5 c5) (([]:List VB)++c),ab B2 38 (oW a1),aL fQ (Y A1 d c1) c]) ?_ cL (ah _);obtain ⟨j2,k,h⟩:=ad h;refine gP 13 J I (oR (Jy k)) J J J ?_;rintro _ _ ⟨_,⟨j3,j4,j5,rfl,rfl⟩,rfl⟩;refine kD 14 J I (dR 3 J aw J (toNat_lt a6 a8)) J J J ?_;refine kD 15 J I (dc 3 J aw J (toNat_lt a6 a8) jC) J J J ?_;refine eF ?_ dG (cu 0 J);refine jo ?_;refine gv 16 J I (dX (us:=[Y j3 j4 j5]) (z:=(⟨x6.Yt,x6.Ext,j2⟩:VB)) 3 J J J J size40.out J (toNat_lt a6 a8) J (fun S w vs xk q hr B=>by obtain rfl:=Xx (q.symm.trans a);obtain ⟨_,_,_,rfl,s2⟩:=hr;exact ⟨_,_,_,rfl,B 0 _ rfl rfl⟩)) J J ?_;rintro _ _ rfl;refine jo ?_;refine fw I ?_;refine aa ?_;obtain rfl:=bn h;exact kY J J J ((cu 3 J).trans (cS [3] 6)) ⟨_,_,_,J,J⟩
 exact eY
def jW (c:VK)(a1:Int):Option VH:=
 (jx N c.XX a1).bind fun a=>some a
theorem P6 {N:Nat}{r:VH}(h:jW N c a1=some r):Okc V5 16 [pV B1 0,iV a1] ([aQ B1 85 (cF c B2 e A4 n4 c4 A5 n5 c5 A6 n6 c6),pDHeap B2 c.XX,pDTable e c.Ya,aL eS (Y A4 n4 c4) c.Yk,aL jE (Y A5 n5 c5) c.Yl,aL eS (Y A6 n6 c6) c.Ym]) (fun u p=>u=(bS r)/\p=[]):=by
 refine av Tryz.func16 ?_;intro d;refine sY ?_;refine aJ (gC J Vj) ?_;refine d8 J ?_;refine cR h (fun _ k=>qS k) fun a h=> ?_
 exact eN
theorem uh {N:Nat}{r:VH}(h:jW N c a1=some r){B1 B2 e:Nat}:Okc V5 16 [pV B1 0,iV a1] ([pDWorld B1 B2 e c]) (fun u p=>u=(bS r)/\p=[]):=jR 0 rfl (fun _=>P6 h)
def qd (c:VK)(a1:Int)(a2:VH):Option VH:=
 bif decide (a2.no=7) then (ae (in64 (a1+a2.N)) ((jW N c (a1+a2.N)).bind fun a=>some a)) else (some a2)
theorem AK {N:Nat}{a2 r:VH}(h:qd N c a1 a2=some r){B1 B2 e:Nat}:Okc V5 40 [pV B1 0,iV a1,(bS a2)] ([pDWorld B1 B2 e c]) (fun u p=>u=(bS r)/\p=[]):=by
 refine av Tryz.func40 ?_;intro f;refine bB fun i=> ?_
 refine sZ ?_;refine gH J h ?_ ?_<;>intro h
 ·refine aa ?_;obtain ⟨d,h⟩:=ai h;refine cR h (fun _ k=>uh k) fun a h=> ?_
  exact eN
 exact eY
def qO (c:VC)(a1:Int)(a2:Vy):Option (Int×Int×VC):=
 (qZ N c a1 a2 0).bind fun d=>bif !decide (d=0) then (some (0,d,c)) else ((nE N c a1 a2).bind fun a=>bif !a.2.2 then (some (0,3,c)) else ((uf N c a1 a.1).bind fun e=>(px N c a1).bind fun a6=>ae (in64 (a.1+1)) (ae ((0:Int)<=a.1+1/\(a.1+1).toNat<=a6.length/\a6.length<=a6.length) ((uw N c e ((a6.drop ((a.1+1).toNat)).take (a6.length - (a.1+1).toNat))).bind fun a8=>some (a8.1,a8.2.1,a8.2.2)))))
theorem O7 {N:Nat}{c:VC}{a2:Vy}{r:Int×Int×VC}(h:qO N c a1 a2=some r):Okc V5 94 [pV B1 0,iV a1,(dN a2)] ([ab B1 191 [Y A2 n2 c2,.map (some M3)],aK cD 159 (Y A2 n2 c2) c.Ya,aA dH cp M3 c.Yn]) (fun u p=> ∃i a d e,u=.tuple #[iV r.1,iV r.2.1]/\p=[ab B1 191 [Y i a d,.map (some e)],aK cD 159 (Y i a d) r.2.2.Ya,aA dH cp e r.2.2.Yn]):=by
 refine av Tryz.func94 ?_;intro f;refine sY ?_;refine cR h (fun _ k=>DB k) fun o h=> ?_
 refine gH J h ?_ ?_<;>intro h
 ·exact eY
 refine cR h (fun _ k=>xR k) fun j h=> ?_
 refine sZ ?_;refine gH J h ?_ ?_<;>intro h
 ·exact eY
 refine cR h (fun _ k=>HN k) fun n h=> ?_
 refine kG h (fun _ k=>yc k) fun a8 L K H h=> ?_
 obtain ⟨F,h⟩:=ai h;refine aa ?_;refine d6 (cu 0 J) ?_;obtain ⟨a6,h⟩:=ai h;refine GR 0 J (l:=(j.1+1).toNat) (h:=a8.length) a6.2.1 a6.2.2 ?_;rintro E D C m;refine gR (oJ 1 J m J Vf size159.out J (by rw [Wh a6.1];rfl) a6.2.1) ?_;obtain ⟨B,k,h⟩:=ad h;refine gD (oC (DT k)) ?_;rintro _ _ ⟨_,⟨A,z,t,q,rfl,rfl⟩,rfl⟩;exact eY
theorem O0 {N:Nat}{c:VC}{a2:Vy}{r:Int×Int×VC}(h:qO N c a1 a2=some r):Okc V5 94 [pV B1 0,iV a1,(dN a2)] ([oDTable B1 c]) (fun u p=>u=.tuple #[iV r.1,iV r.2.1]/\p=[oDTable B1 r.2.2]):=il 0 rfl (fun _=>O7 h)
def yK (c:VK)(a1:VH)(a2:Vy):Option (Bool×VK):=
 (ia N c a1).bind fun a=>dB a (fun y6_0=>some (false,c)) (fun y6_1=>(kJ N (⟨y6_1.XY,c,y6_1.at_⟩:VA) a2).bind fun a6=>bif !a6.2.2 then (some (true,c)) else (bif decide (aM .i64 a6.1.XT 4=0) then (some (false,c)) else ((my N c).bind fun f=>(qO N c.Ya y6_1.XY.XV a2).bind fun a8=>bif !decide (a8.2.1=0) then (some (false,(⟨c.Yj,c.Ye,(),c.XX,a8.2.2,c.Yk,c.Yh,c.Yr,c.Ys,c.Yl,c.Ym⟩:VK))) else (ae (in64 (a6.2.1+1)) (ae (in64 (a6.2.1+2)) ((yP N y6_1.XY.XQ (a6.2.1+1) (a6.2.1+2)).bind fun e=>(jU N (⟨(⟨y6_1.XY.no,a8.1,y6_1.XY.XU,y6_1.XY.XW,e,y6_1.XY.XP⟩:VL),(⟨c.Yj,c.Ye,(),c.XX,a8.2.2,c.Yk,c.Yh,c.Yr,c.Ys,c.Yl,c.Ym⟩:VK),y6_1.at_⟩:VA) true).bind fun d=>some (true,d.w_)))))))
theorem Qs {N:Nat}{a1:VH}{a2:Vy}{r:Bool×VK}(h:yK N c a1 a2=some r){B1 B2 e:Nat}:Okc V5 41 [pV B1 0,(bS a1),(dN a2)] ([oDWorld B1 B2 e c]) (fun u p=>u=.bool r.1/\p=[oDWorld B1 B2 e r.2]):=by
 refine av Tryz.func41 ?_;intro f;refine bB fun t=> ?_
 obtain ⟨n,a6,h⟩:=ad h;rcases n with y6_0|y6_1
 ·replace h:=gk h;refine gD (oR (eP a6)) ?_;rintro _ _ ⟨_,⟨rfl,rfl⟩,rfl⟩;refine sY ?_;refine d9 J ?_;exact eY
 replace h:=gj h;refine gD (oR (eP a6)) ?_;rintro _ _ ⟨_,⟨q,m,d,j,l,a,i,rfl,rfl⟩,rfl⟩;refine sY ?_;refine d8 J ?_;refine cR h (fun _ k=>xT k) fun a8 h=> ?_
 intro o;refine sY ?_;refine gH J h ?_ ?_<;>intro h
 ·exact eY
 refine sY ?_;refine aJ (fL J J) ?_;refine gH J h ?_ ?_<;>intro h
 ·exact eY
 refine aa ?_;refine aH ?_;refine cy I ([ab o 48 (dS a8.1),ab q 103 [iV y6_1.XY.no,iV y6_1.XY.XV,iV y6_1.XY.XU,iV y6_1.XY.XW,Y m d j,Y l a i,pV B1 0,iV y6_1.at_.no,iV y6_1.at_.N,.string y6_1.at_.S],aj m d j y6_1.XY.XQ,aj l a i y6_1.XY.XP,ab t 34 (ij a2),ab f 29 (ee a1)]) (cS [0,1,2,3,4,5] 7) ?_;refine zY [0,2,3,4,5,6,7] ?_;obtain ⟨S,k,h⟩:=ad h;refine zD 1 J (oR (qL k)) ?_;rintro _ _ ⟨_,⟨rfl,rfl⟩,rfl⟩;refine bE ?_;refine fg ((cS [6,0,1,2,3,4,5] 7).trans Ff) (cS [2,3,4,5,6,7] 8) ?_;obtain ⟨Q,k,h⟩:=ad h;refine zD 8 J (oC (O0 k)) ?_;rintro _ _ ⟨_,⟨rfl,rfl⟩,rfl⟩;refine bE ?_;refine fg (E4) (cS [1,2,3,4,5,6] 7) ?_;refine zX [9,10,11,12,13] ?_;refine sY ?_;refine gH J h ?_ ?_<;>intro h
 ·exact eY
 refine aa ?_;obtain ⟨P,h⟩:=ai h;refine aa ?_;obtain ⟨O,h⟩:=ai h;refine aa ?_;obtain ⟨M,k,h⟩:=ad h;refine bN (oC (Qr (R:=ca) k)) fun L K H=> ?_
 refine qy h (fun _ k=>t8 k) fun F E D C B A z h=> ?_
 exact eN
def uW (c:VK)(a1 a2:Int):Option VH:=
 bif decide (a2<0) then (some (⟨1,0,⟨#[]⟩⟩:VH)) else (ae (in64 (a1+a2)) ((jW N c (a1+a2)).bind fun a=>some a))
theorem IG {N:Nat}{a2:Int}{r:VH}(h:uW N c a1 a2=some r){B1 B2 e:Nat}:Okc V5 43 [pV B1 0,iV a1,iV a2] ([pDWorld B1 B2 e c]) (fun u p=>u=(bS r)/\p=[]):=by
 refine av Tryz.func43 ?_;intro f;refine sY ?_;refine gH J h ?_ ?_<;>intro h
 ·exact eY
 refine aa ?_;obtain ⟨d,h⟩:=ai h;refine cR h (fun _ k=>uh k) fun a h=> ?_
 exact eN
def rD (c:VK)(a1:VH):Option VH:=
 (ia N c a1).bind fun a=>dB a (fun y6_0=>some (⟨0,0,⟨#[]⟩⟩:VH)) (fun y6_1=>(ak y6_1.XY.XQ 0).bind fun a6=>some a6)
theorem Is {N:Nat}{a1 r:VH}(h:rD N c a1=some r){B1 B2 e:Nat}:Okc V5 20 [pV B1 0,(bS a1)] ([pDWorld B1 B2 e c]) (fun u p=>u=(bS r)/\p=[]):=by
 refine av Tryz.func20 ?_;intro f;refine bB fun t=> ?_
 obtain ⟨a,a6,h⟩:=ad h;rcases a with y6_0|y6_1
 ·replace h:=gk h;refine gD (oR (eP a6)) ?_;rintro _ _ ⟨_,⟨rfl,rfl⟩,rfl⟩;refine sY ?_;refine d9 J ?_;exact eY
 replace h:=gj h;refine gD (oR (eP a6)) ?_;rintro _ _ ⟨_,⟨q,A,i,l,z,d,j,rfl,rfl⟩,rfl⟩;refine sY ?_;refine d8 J ?_;refine aa ?_;obtain ⟨m,a8,o,n,h⟩:=aI h;exact eY
def xP (c:VK)(a2:VH)(y6_1:VA):Option (Bool×VK):=
 (ak y6_1.XY.XQ 0).bind fun a=>(jU N (⟨(⟨y6_1.XY.no,y6_1.XY.XV,y6_1.XY.XU,y6_1.XY.XW,List.set y6_1.XY.XQ ((0:Int).toNat) (⟨a2.no,a2.N,a2.S⟩:VH),y6_1.XY.XP⟩:VL),c,y6_1.at_⟩:VA) true).bind fun a6=>(mM N a6.w_ a2).bind fun a8=>some (true,a8)
def xV (N:Nat)(c:VK)(a1 a2:VH)(y6_1:VA):Nat->Int->Int->ByteArray->Option (Bool×VK)
 |0,_,_,_=>none
 |e+1,a6,d,a=>bif decide (a6=7) then (bif decide ((⟨a6,d,a⟩:VH)=a1) then (some (false,c)) else ((rD N c (⟨a6,d,a⟩:VH)).bind fun a8=>(xV N c a1 a2 y6_1 e) a8.no a8.N a8.S)) else (xP N c a2 y6_1)
def ym (c:VK)(a1 a2:VH):Option (Bool×VK):=
 (ia N c a1).bind fun a=>dB a (fun y6_0=>some (false,c)) (fun y6_1=>(rT N c a2).bind fun a6=>bif !a6 then (some (false,c)) else ((ak y6_1.XY.XQ 0).bind fun a8=>bif decide (a8=a2) then (some (true,c)) else (bif decide (aM .i64 y6_1.XY.XU 1=0) then (some (false,c)) else (xV N c a1 a2 y6_1 N a2.no a2.N a2.S))))
theorem P2 {N:Nat}{a1 a2:VH}{r:Bool×VK}(h:ym N c a1 a2=some r){B1 B2 e:Nat}:Okc V5 42 [pV B1 0,(bS a1),(bS a2)] ([oDWorld B1 B2 e c]) (fun u p=>u=.bool r.1/\p=[oDWorld B1 B2 e r.2]):=by
 refine av Tryz.func42 ?_;intro f;refine bB fun o=> ?_
 obtain ⟨C,B,h⟩:=ad h;rcases C with y6_0|y6_1
 ·replace h:=gk h;refine gD (oR (eP B)) ?_;rintro _ _ ⟨_,⟨rfl,rfl⟩,rfl⟩;refine sY ?_;refine d9 J ?_;exact eY
 replace h:=gj h;refine gD (oR (eP B)) ?_;rintro _ _ ⟨_,⟨n,t,d,j,q,a,i,rfl,rfl⟩,rfl⟩;refine sY ?_;refine cR h (fun _ k=>I4 k) fun d4 h=> ?_
 refine gH J h ?_ ?_<;>intro h
 ·exact eY
 refine aa ?_;refine aH ?_;refine dY [] ?_;refine aa ?_;obtain ⟨E,d1,d2,d3,h⟩:=aI h;refine aa ?_;refine zE 8 J (vN (x:=E) (y:=a2) J J) ?_;refine aG h ?_ ?_<;>intro h
 ·exact eY
 refine sY ?_;refine aJ (fL J J) ?_;refine gH J h ?_ ?_<;>intro h
 ·exact eY
 refine aa ?_;refine aF (fun s L=>xP N c a2 y6_1=some r/\s=[(0,pV B1 0),(5,pV o 0),(6,.bool false),(7,pV n 0)]/\L=[oDWorld B1 B2 e c,ab o 29 (ee a2),aj t d j y6_1.XY.XQ,aj q a i y6_1.XY.XP,ab n 103 [iV y6_1.XY.no,iV y6_1.XY.XV,iV y6_1.XY.XU,iV y6_1.XY.XW,Y t d j,Y q a i,pV B1 0,iV y6_1.at_.no,iV y6_1.at_.N,.string y6_1.at_.S]]) ?_ ?_
 ·refine bB fun e0=> ?_
  refine lK (fun m s L=> ∃(a6:Int) (a8:Int) (l:ByteArray) (A:Nat),xV N c a1 a2 y6_1 m a6 a8 l=some r/\s=[(0,pV B1 0),(4,pV f 0),(5,pV o 0),(6,.bool false),(7,pV n 0),(9,pV A 0)]/\L=[ab A 29 [iV a6,iV a8,.string l],oDWorld B1 B2 e c,ab f 29 (ee a1),ab o 29 (ee a2),aj t d j y6_1.XY.XQ,aj q a i y6_1.XY.XP,ab n 103 [iV y6_1.XY.no,iV y6_1.XY.XV,iV y6_1.XY.XU,iV y6_1.XY.XW,Y t d j,Y q a i,pV B1 0,iV y6_1.at_.no,iV y6_1.at_.N,.string y6_1.at_.S]]) N ?_;rintro e1 _ _ ⟨a6,a8,l,A,h,rfl,rfl⟩;rw [xV.eq_2] at h;refine sZ ?_;refine gH J h ?_ ?_<;>intro h
  ·refine sY ?_;refine aJ (vN (x:=(⟨a6,a8,l⟩:VH)) (y:=a1) J J) ?_;refine gH J h ?_ ?_<;>intro h
   ·exact eY
   refine sY ?_;intro e2;refine cR h (fun _ k=>Is k) fun e3 h=> ?_
   exact lN
  exact jY
 rintro _ _ ⟨h,rfl,rfl⟩;refine dY [] ?_;refine aa ?_;obtain ⟨Z,K,H,F,h⟩:=aI h;refine aa ?_;refine iu 7 J I I (dX (us:=ee a2) (z:=(⟨a2.no,a2.N,a2.S⟩:VH)) 2 J J J J size29.out J (toNat_lt K H) J (fun S w vs xk D hr M=>by obtain rfl:=Xx (D.symm.trans F);rw [show _=_ from hr];rfl)) ?_;rintro _ _ rfl;refine qy h (fun _ k=>t8 k) fun X V U T R Q P h=> ?_
 refine cC h (fun _ k=>IU k) fun O h=> ?_
 exact eN
def t6 (N:Nat)(c:Int)(a1:VK):Option Bool:=
 (bif decide (0<c) then (ae (c≠0) (some (decide (a1.Yj.Yw.tmod c=0)))) else (some false)).bind fun b8=>some b8
theorem HK {N:Nat}{c:Int}{a1:VK}{r:Bool}(h:t6 N c a1=some r):Okc V5 44 [iV c,pV B1 0] ([aQ B1 23 [pV B2 0],aQ B2 85 (cF a1 e f A5 n5 c5 A6 n6 c6 i o n),pDHeap e a1.XX,pDTable f a1.Ya,aL eS (Y A5 n5 c5) a1.Yk,aL jE (Y A6 n6 c6) a1.Yl,aL eS (Y i o n) a1.Ym]) (fun u p=>u=.bool r/\p=[]):=by
 refine av Tryz.func44 ?_;refine bF 9 15 6 h (fun _ d h=> ?_) fun b8 h=> ?_
 ·refine aa ?_;obtain ⟨a,h⟩:=ai h;refine bR (iz J J a) J (be d J) J ?_;exact gY
 exact eY
theorem HD {r:Bool}: ∀v post,((fun (u:Value) (post:V3)=>u=.bool r/\post=[])) v post-> ∀c∈post,bP c:=by
 rintro _ _ ⟨rfl,rfl⟩;exact aW
def rq (c:Int)(a1:Vw):Option Bool:=
 (mO N a1 c).bind fun a=>some (!a)
theorem Qf {N:Nat}{c:Int}{a1:Vw}{r:Bool}(h:rq N c a1=some r):Okc V5 191 [iV c,pV B1 0] ([aQ B1 125 [Y A2 n2 c2,Y A3 n3 c3],aq A2 n2 c2 a1.XS,aq A3 n3 c3 a1.XR]) (fun u p=>u=.bool r/\p=[]):=by
 refine av Tryz.func191 ?_;refine cR h (fun _ k=>rR k) fun a h=> ?_
 exact eN
def Ec (c:Vw)(a6:VW):Option Int:=
 (kH N a6 (fun x=>rq N x c)).bind fun a8=>bif a8 then (some 50) else (some 0)
def yL (N:Nat)(a6:VW->Int->Option Int)(a1:VO)(a8:Int)(c:Vw)(a:VW):Option Int:=
 ae (in64 (a8+1)) (a6 a (a8+1))
def nK (N:Nat)(a1:VO)(c:Vw):Nat->VW->Int->Option Int
 |0,_,_=>none
 |d+1,a6,a8=>bif decide (a8<(a1.length:Int)) then ((ak a1 a8).bind fun a=>(bif decide (a.no=7) then (some true) else (some (decide (a.no=9)))).bind fun e=>bif e then (ae (bC (a6.length+([a.N]:List Int).length)) (yL N (nK N a1 c d) a1 a8 c (a6++([a.N]:List Int)))) else (yL N (nK N a1 c d) a1 a8 c a6)) else (Ec N c a6)
def zj (a1:VO)(c:Vw)(a:VW):Option Int:=
 nK N a1 c N a 0
def Ea (N:Nat)(a8:VW->Int->Option Int)(c:Vw)(a6:Int)(a1:VO)(a:VW):Option Int:=
 ae (in64 (a6+1)) (a8 a (a6+1))
def uD (N:Nat)(j:VW->Int->Option Int)(c:Vw)(i:Int)(e:VX)(a1:VO):Nat->VW->Int->Option Int
 |0,_,_=>none
 |m+1,a6,a8=>bif decide (a8<(e.length:Int)) then ((ak e a8).bind fun d=>(lL N d).bind fun l=>bif !l then (some 51) else ((lO N d).bind fun a=>ae (bC (a6.length+a.length)) ((pE N d).bind fun f=>ae (bC ((a6++a).length+f.length)) (ae (in64 (a8+1)) ((uD N j c i e a1 m) ((a6++a)++f) (a8+1)))))) else (Ea N j c i a1 a6)
def uN (N:Nat)(c:Vw)(a1:VO):Nat->VW->Int->Option Int
 |0,_,_=>none
 |d+1,a,a6=>bif decide (a6<(([c.XS,c.XR]:List VX).length:Int)) then ((ak ([c.XS,c.XR]:List VX) a6).bind fun a8=>uD N (uN N c a1 d) c a6 a8 a1 N a 0) else (zj N a1 c a)
def rJ (c:Vw)(a1:VO):Option Int:=
 uN N c a1 N [] 0
theorem QP {N:Nat}{c:Vw}{a1:VO}{r:Int}(h:rJ N c a1=some r):Okc V5 147 [.agg #[Y A1 d c1,Y A2 n2 c2],Y A3 n3 c3] ([aq A1 d c1 c.XS,aq A2 n2 c2 c.XR,ap A3 n3 c3 a1]) (fun u p=>u=iV r/\p=[]):=by
 refine av Tryz.func147 ?_;intro f;refine aa ?_;refine aF (fun s L=> ∃q A6 n6 c6,zj N a1 c q=some r/\s=[(1,Y A3 n3 c3),(2,pV f 0),(4,iV 0),(5,Y A6 n6 c6)]/\L=[ap A3 n3 c3 a1,aR A6 n6 c6 q,aq A1 d c1 c.XS,aq A2 n2 c2 c.XR,ab f 125 [Y A1 d c1,Y A2 n2 c2]]) ?_ ?_
 ·refine aa ?_;refine bN (cB (R:=(Rep.sl dL)) (vss:=[[Y A1 d c1],[Y A2 n2 c2]]) (xs:=[c.XS,c.XR]) J (Fo _ _ _ _ _ _) J J (fun _ _ hr=> .cons (⟨_,J,hr 1 _ J J⟩) (.cons (⟨_,J,hr 2 _ J J⟩) All2.nil))) fun i o n=> ?_
  refine dU (fun m s L=> ∃l a6 P t E,uN N c a1 m l a6=some r/\s=[(1,Y A3 n3 c3),(2,pV f 0),(4,iV 0),(5,Y P t E),(16,Y i o n),(17,iV (([c.XS,c.XR]:List VX).length:Int)),(18,iV a6)]/\L=[ap A3 n3 c3 a1,aR P t E l,aK (Rep.sl dL) 123 (Y i o n) ([c.XS,c.XR]:List VX),aq A1 d c1 c.XS,aq A2 n2 c2 c.XR,ab f 125 [Y A1 d c1,Y A2 n2 c2]]) N _ _ ⟨[],0,none,0,0,h,J,J⟩ sA ((ck (df .i64) 3 _).trans (cS [5,0,1,3,4,2] 6)) ?_;rintro (_|m8) _ _ ⟨l,a6,P,t,E,h,rfl,rfl⟩
  ·exact bO h
  rw [uN.eq_2] at h;refine aa ?_;refine aH ?_;refine gH J h ?_ ?_<;>intro h
  ·refine aa ?_;refine aF (fun s L=> ∃e0 e1 e2 e3,Ea N (uN N c a1 m8) c a6 a1 e0=some r/\s=[(1,Y A3 n3 c3),(2,pV f 0),(4,iV 0),(5,Y e1 e2 e3),(16,Y i o n),(17,iV (([c.XS,c.XR]:List VX).length:Int)),(18,iV a6)]/\L=[ap A3 n3 c3 a1,aR e1 e2 e3 e0,aK (Rep.sl dL) 123 (Y i o n) ([c.XS,c.XR]:List VX),aq A1 d c1 c.XS,aq A2 n2 c2 c.XR,ab f 125 [Y A1 d c1,Y A2 n2 c2]]) ?_ ?_
   ·refine aa ?_;obtain ⟨j,g9,h0,e4,h⟩:=aI h;refine aa ?_;refine bN (mZ (R':=dL) (ys:=j) 2 J aw J e4 sR (fun _ _ _ h=>by obtain ⟨u,e,k⟩:=h;exact ⟨u,by rw [e];rfl,k⟩)) fun O M K=> ?_
    refine dU (fun m s L=> ∃e5 H e6 e7 e8,uD N (uN N c a1 m8) c a6 j a1 m e5 H=some r/\s=[(1,Y A3 n3 c3),(2,pV f 0),(4,iV 0),(5,Y e6 e7 e8),(16,Y i o n),(17,iV (([c.XS,c.XR]:List VX).length:Int)),(18,iV a6),(22,Y O M K),(23,iV (j.length:Int)),(24,iV H)]/\L=[ap A3 n3 c3 a1,aR e6 e7 e8 e5,aK (Rep.sl dL) 123 (Y i o n) ([c.XS,c.XR]:List VX),aq O M K j,aq A1 d c1 c.XS,aq A2 n2 c2 c.XR,ab f 125 [Y A1 d c1,Y A2 n2 c2]]) N _ _ ⟨l,0,P,t,E,h,J,J⟩ sA (cS [1,2,3,0,4,5,6] 7) ?_;rintro (_|i1) _ _ ⟨e5,H,e6,e7,e8,h,rfl,rfl⟩
    ·exact bO h
    rw [uD.eq_2] at h;refine aa ?_;refine aH ?_;refine gH J h ?_ ?_<;>intro h
    ·refine sY ?_;obtain ⟨a8,h1,h2,e9,h⟩:=aI h;refine aa ?_;refine kW 3 J e9 (kc a8) ?_;rintro _ _ ⟨F,D,C,B,A,z,rfl,rfl⟩;refine fS (kl (us:=(bw a8 F D C B A z)) 0 J J agg45.out J) ?_;intro h3;refine sY ?_;obtain ⟨i2,k,h⟩:=ad h;refine cV (oR (rI k)) ?_;refine gH J h ?_ ?_<;>intro h
     ·exact eY
     refine aa ?_;refine cy I ([ab h3 45 (bw a8 F D C B A z),qv (bD (Y O M K) H.toNat 6 0) (bw a8 F D C B A z),ap F D C a8.XQ,ap B A z a8.XP,ap A3 n3 c3 a1,aK (Rep.sl dL) 123 (Y i o n) ([c.XS,c.XR]:List VX),aq O M K j,aq A1 d c1 c.XS,aq A2 n2 c2 c.XR,ab f 125 [Y A1 d c1,Y A2 n2 c2]]) (cS [0,1,2,3,4,6,7,8,9,10] 11) ?_;refine yY [0,1,4] ?_;obtain ⟨i3,k,h⟩:=ad h;refine zD 2 J (oR (pG k)) ?_;rintro _ _ ⟨_,⟨i4,i5,i6,rfl,rfl⟩,rfl⟩;refine cj (cS [1,2,3,4,5,7,8,9,10,11] 12) ?_;obtain ⟨h4,h⟩:=ai h;refine zD 3 J (cG 6 0 J J aw J J Vd iE J J h4) ?_;rintro _ _ ⟨i7,i8,i9,rfl,rfl⟩;refine cj (cS [1,2,3,4,5,7,8,9,10,11] 12) ?_;obtain ⟨j0,k,h⟩:=ad h;refine zD 5 J (oR (yW k)) ?_;rintro _ _ ⟨_,⟨j1,j2,j3,rfl,rfl⟩,rfl⟩;refine cj (cS [2,3,4,5,6,8,9,10,11,12] 13) ?_;obtain ⟨h5,h⟩:=ai h;refine zD 6 J (cG 7 0 J J aw J J Vd iE J J h5) ?_;rintro _ _ ⟨j4,j5,j6,rfl,rfl⟩;refine cj (cS [2,3,4,5,6,8,9,10,11,12] 13) ?_;refine zE 7 J (dQ J) ?_;refine cJ I ?_;refine aa ?_;obtain ⟨j7,h⟩:=ai h;exact lY
    exact jY
   rintro _ _ ⟨e0,e1,e2,e3,h,rfl,rfl⟩;refine aa ?_;obtain ⟨j8,h⟩:=ai h;exact lY
  exact jY
 rintro _ _ ⟨q,A6,n6,c6,h,rfl,rfl⟩;refine aF (fun s L=> ∃f1 f2 f3 f9,Ec N c f1=some r/\s=[(2,pV f 0),(4,iV 0),(5,Y f2 f3 f9)]/\L=[aR f2 f3 f9 f1,aq A1 d c1 c.XS,aq A2 n2 c2 c.XR,ab f 125 [Y A1 d c1,Y A2 n2 c2]]) ?_ ?_
 ·refine aa ?_;refine dU (fun m s L=> ∃g0 a Z X V,nK N a1 c m g0 a=some r/\s=[(2,pV f 0),(4,iV 0),(5,Y Z X V),(40,Y A3 n3 c3),(41,iV (a1.length:Int)),(42,iV a)]/\L=[aR Z X V g0,ap A3 n3 c3 a1,aq A1 d c1 c.XS,aq A2 n2 c2 c.XR,ab f 125 [Y A1 d c1,Y A2 n2 c2]]) N _ _ ⟨q,0,A6,n6,c6,h,J,J⟩ sA (cS [1,0,2,3,4] 5) ?_;rintro (_|h6) _ _ ⟨g0,a,Z,X,V,h,rfl,rfl⟩
  ·exact bO h
  rw [nK.eq_2] at h;refine aa ?_;refine aH ?_;refine gH J h ?_ ?_<;>intro h
  ·refine aa ?_;refine aF (fun s L=> ∃U T S Q,yL N (nK N a1 c h6) a1 a c U=some r/\s=[(2,pV f 0),(4,iV 0),(5,Y T S Q),(40,Y A3 n3 c3),(41,iV (a1.length:Int)),(42,iV a)]/\L=[aR T S Q U,ap A3 n3 c3 a1,aq A1 d c1 c.XS,aq A2 n2 c2 c.XR,ab f 125 [Y A1 d c1,Y A2 n2 c2]]) ?_ ?_
   ·refine aa ?_;obtain ⟨g8,h7,h8,h9,h⟩:=aI h;refine bB fun j9=> ?_
    refine gS 4 53 49 h ?_;intro k0 h;refine aG h ?_ ?_<;>intro h
    ·refine aa ?_;refine gD (cB (R:=(df .i64)) (vss:=[[iV g8.N]]) (xs:=[g8.N]) J (lQ _) J J (fun _ _ hr=> .cons J All2.nil)) ?_;rintro _ _ ⟨k2,k3,k4,rfl,rfl⟩;obtain ⟨i0,h⟩:=ai h;refine bN (cG 2 0 J J aw J J Vd iE J J i0) fun k5 k6 k7=> ?_
     exact jN
    exact jY
   rintro _ _ ⟨U,T,S,Q,h,rfl,rfl⟩;refine aa ?_;obtain ⟨k8,h⟩:=ai h;exact lY
  exact jY
 rintro _ _ ⟨f1,f2,f3,f9,h,rfl,rfl⟩;refine sZ ?_;refine gE (jZ J) ?_;obtain ⟨k9,k,h⟩:=ad h;refine cV (oR (qN k ⟨t9 J (t9 J (t9 J aW)),191, #[], #[pV f 0],J,call191.out,fun _ _ hh=>Qf hh⟩)) ?_;refine gH J h ?_ ?_<;>intro h
 ·exact eY
 exact eY
theorem Qo {r:Int}: ∀v post,((fun (u:Value) (post:V3)=>u=iV r/\post=[])) v post-> ∀c∈post,bP c:=by
 rintro _ _ ⟨rfl,rfl⟩;exact aW
def yI (N:Nat)(c:VH):Option (Int×Bool):=
 (bif decide (c.no=7) then (some true) else (some (decide (c.no=9)))).bind fun b2=>some (c.N,b2)
theorem Qt {N:Nat}{c:VH}{r:Int×Bool}(h:yI N c=some r):Okc V5 243 [(bS c)] ([]) (fun u p=>u=.tuple #[iV r.1,.bool r.2]/\p=[]):=by
 refine av Tryz.func243 ?_;intro B1;refine aa ?_;refine dY [0,1,2,3,4,5,10] ?_;refine yJ [6,7,8,9] 1 9 13 h (fun _ a h rest=> ?_) (fun _ a h rest=> ?_) fun b2 h=> ?_
 ·refine yY [6,7,8,9] ?_;exact yS rest h
 ·refine yY [6,7,8,9] ?_;exact yS rest h
 refine zX [11] ?_;exact eY
end
section
variable {A1 A2 A3 A4 A5 A6 e:Option Addr}{B1 B2 m o B6 t q M3 f A z c1 c2 c3 c4 c5 c6 i d n2 n3 n4 n5 n6 n:Nat}
open Go.RowKit Asn
set_option maxRecDepth 20000
def yi (N:Nat)(a6:Int->VW->(List (Int×Unit))->Option VF)(a1:VW)(d:Int)(c:VF)(a:VW)(a8:(List (Int×Unit))):Option VF:=
 ae (in64 (d+1)) (a6 (d+1) a a8)
def nI (N:Nat)(a1:VW)(c:VF):Nat->Int->VW->(List (Int×Unit))->Option VF
 |0,_,_,_=>none
 |e+1,d,a,a8=>bif decide (d<(a1.length:Int)) then ((ak a1 d).bind fun a6=>(bif !((lk a8 a6).isSome) then ((mO N c.m_ a6).bind fun i=>some i) else (some false)).bind fun f=>bif f then (ae (bC (a.length+([a6]:List Int).length)) (yi N (nI N a1 c e) a1 d c (a++([a6]:List Int)) (dp a8 a6 ()))) else (yi N (nI N a1 c e) a1 d c a a8)) else (some (⟨c.m_,a,a8,c.YA⟩:VF))
def rz (c:VF)(a1:VW):Option VF:=
 nI N a1 c N 0 c.Yp c.Yi
theorem Il {N:Nat}{c:VF}{a1:VW}{r:VF}(h:rz N c a1=some r):Okc V5 244 [pV B1 0,Y A6 n6 c6] ([aq A2 n2 c2 c.m_.XS,aq A3 n3 c3 c.m_.XR,aX A6 n6 c6 a1,ab B1 269 [Y A2 n2 c2,Y A3 n3 c3,Y A4 n4 c4,.map (some f),iV c.YA],aR A4 n4 c4 c.Yp,aA ax fV f c.Yi]) (fun u p=> ∃E C D A1 d c1 A2 n2 c2 M3,u=.tuple #[]/\p=[ab B1 269 [Y E C D,Y A1 d c1,Y A2 n2 c2,.map (some M3),iV r.YA],aq E C D r.m_.XS,aq A1 d c1 r.m_.XR,aR A2 n2 c2 r.Yp,aA ax fV M3 r.Yi]):=by
 refine av Tryz.func244 ?_;refine lK (fun m s L=> ∃(i:Int) (j:VW) (a8:(List (Int×Unit))) (B:Option Addr) (l n:Nat),nI N a1 c m i j a8=some r/\s=[(0,pV B1 0),(8,Y A6 n6 c6),(9,iV (a1.length:Int)),(10,iV i)]/\L=[aX A6 n6 c6 a1,aq A2 n2 c2 c.m_.XS,aq A3 n3 c3 c.m_.XR,aR B l n j,aA ax fV f a8,ab B1 269 [Y A2 n2 c2,Y A3 n3 c3,Y B l n,.map (some f),iV c.YA]]) N ?_;rintro F _ _ ⟨i,j,a8,B,l,n,h,rfl,rfl⟩;rw [nI.eq_2] at h;refine aa ?_;refine aH ?_;refine gH J h ?_ ?_<;>intro h
 ·refine aa ?_;refine aF (fun s L=> ∃e A t q o,yi N (nI N a1 c F) a1 i c e A=some r/\s=[(0,pV B1 0),(8,Y A6 n6 c6),(9,iV (a1.length:Int)),(10,iV i)]/\L=[aX A6 n6 c6 a1,aq A2 n2 c2 c.m_.XS,aq A3 n3 c3 c.m_.XR,aR t q o e,aA ax fV f A,ab B1 269 [Y A2 n2 c2,Y A3 n3 c3,Y t q o,.map (some f),iV c.YA]]) ?_ ?_
  ·refine aa ?_;obtain ⟨a6,b9,c8,d0,h⟩:=aI h;refine aa ?_;refine fS (sC (a:=a6) (z:=()) 4 J sN J J Tryz.underlying267 (jy Ex) zero296.out) ?_;intro Z;refine aa ?_;refine bF 7 32 25 h (fun _ X h=> ?_) fun V h=> ?_
   ·refine cR h (fun _ k=>rR k) fun U h=> ?_
    exact gY
   refine aG h ?_ ?_<;>intro h
   ·refine aa ?_;refine fm (pJ (a:=a6) (b:=()) 5 J J J J Tryz.underlying267 (jy Ex)) ?_;refine gD (cB (R:=(df .i64)) (vss:=[[iV a6]]) (xs:=[a6]) J (lQ _) J J (fun _ _ hr=> .cons J All2.nil)) ?_;rintro _ _ ⟨T,S,Q,rfl,rfl⟩;obtain ⟨H,h⟩:=ai h;refine bN (cG 5 0 J J aw J J Vd iE J J H) fun P O M=> ?_
    exact jN
   exact jY
  rintro _ _ ⟨e,A,t,q,o,h,rfl,rfl⟩;refine aa ?_;obtain ⟨K,h⟩:=ai h;exact lY
 exact eY
def D6 (c:VH)(a1:VF):Option VF:=
 (yI N c).bind fun a=>bif a.2 then ((rz N a1 ([a.1]:List Int)).bind fun a6=>some a6) else (some a1)
theorem P4 {N:Nat}{c:VH}{a1 r:VF}(h:D6 N c a1=some r):Okc V5 242 [(bS c),pV B1 0] ([aq A3 n3 c3 a1.m_.XS,aq A4 n4 c4 a1.m_.XR,ab B1 265 [pV B2 0],ab B2 269 [Y A3 n3 c3,Y A4 n4 c4,Y A5 n5 c5,.map (some A),iV a1.YA],aR A5 n5 c5 a1.Yp,aA ax fV A a1.Yi]) (fun u p=> ∃i e f A1 d c1 A2 n2 c2 M3,u=.tuple #[]/\p=[ab B2 269 [Y i e f,Y A1 d c1,Y A2 n2 c2,.map (some M3),iV r.YA],aq i e f r.m_.XS,aq A1 d c1 r.m_.XR,aR A2 n2 c2 r.Yp,aA ax fV M3 r.Yi,ab B1 265 [pV B2 0]]):=by
 refine av Tryz.func242 ?_;intro F;refine cR h (fun _ k=>Qt k) fun a h=> ?_
 refine gH J h ?_ ?_<;>intro h
 ·refine aa ?_;refine gD (cB (R:=(df .i64)) (vss:=[[iV a.1]]) (xs:=[a.1]) J (lQ _) J J (fun _ _ hr=> .cons J All2.nil)) ?_;rintro _ _ ⟨a6,a8,E,rfl,rfl⟩;refine d6 (cu 0 J) ?_;obtain ⟨D,k,h⟩:=ad h;refine gD (oC (Il k)) ?_;rintro _ _ ⟨_,⟨C,B,z,t,q,o,n,m,l,j,rfl,rfl⟩,rfl⟩;exact eY
 exact eY
def om (c:Vw)(a1:Int):Option VL:=
 (uR N c a1).bind fun a=>bif !a.2.2 then (some (⟨0,0,0,0,[],[]⟩:VL)) else ((ak a.1 a.2.1).bind fun a6=>(iP N a6).bind fun a8=>some a8)
theorem ER {N:Nat}{c:Vw}{r:VL}(h:om N c a1=some r):Okc V5 150 [.agg #[Y A1 d c1,Y A2 n2 c2],iV a1] ([aq A1 d c1 c.XS,aq A2 n2 c2 c.XR]) (fun u p=> ∃f a e A1 d c1,u=.agg #[iV r.no,iV r.XV,iV r.XU,iV r.XW,Y f a e,Y A1 d c1]/\p=[aj f a e r.XQ,aj A1 d c1 r.XP]):=by
 refine av Tryz.func150 ?_;intro m;refine bB fun o=> ?_
 refine Hj h (fun _ k=>IQ k) fun z A6 n6 c6 h=> ?_
 refine sZ ?_;refine gH J h ?_ ?_<;>intro h
 ·refine aa ?_;obtain rfl:=bn h;exact me (rs:=[.cell 4 45]) (vs:=[.agg #[iV 0,iV 0,iV 0,iV 0,Y none 0 0,Y none 0 0]]) J (.cons (lV 1 J J agg45.out) .nil) J ((ck ca 29 _).trans ((ck ca 29 _).trans (cS [1,0] 7))) ⟨_,_,_,_,_,_,J,J⟩
 refine aa ?_;obtain ⟨a8,L,K,a6,h⟩:=aI h;refine aa ?_;refine kW 0 J a6 (kc a8) ?_;rintro _ _ ⟨t,q,n,l,j,i,rfl,rfl⟩;refine gR (kl (us:=(bw a8 t q n l j i)) 0 J J agg45.out J) ?_;refine qA h (fun _ k=>mN k) fun H F E D C B A h=> ?_
 exact eN
theorem I3 {r:VL}: ∀v post,((fun (u:Value) (post:V3)=> ∃f a e A1 d c1,u=.agg #[iV r.no,iV r.XV,iV r.XU,iV r.XW,Y f a e,Y A1 d c1]/\post=[aj f a e r.XQ,aj A1 d c1 r.XP])) v post-> ∀c∈post,bP c:=by
 rintro _ _ ⟨_,_,_,_,_,_,rfl,rfl⟩;exact t9 iU (t9 iU (aW))
def uc (N:Nat):Nat->VX->VX->VW->(List (Int×Unit))->Int->Option VF
 |0,_,_,_,_,_=>none
 |f+1,d,c,a,e,a8=>bif decide (a8<(a.length:Int)) then ((ak a a8).bind fun l=>(om N (⟨d,c⟩:Vw) l).bind fun j=>(lO N j).bind fun i=>(rz N (⟨(⟨d,c⟩:Vw),a,e,a8⟩:VF) i).bind fun a6=>ae (in64 (a6.YA+1)) ((uc N f) a6.m_.XS a6.m_.XR a6.Yp a6.Yi (a6.YA+1))) else (some (⟨(⟨d,c⟩:Vw),a,e,a8⟩:VF))
def xL (c:VF):Option VF:=
 uc N N c.m_.XS c.m_.XR c.Yp c.Yi c.YA
theorem Px {N:Nat}{c r:VF}(h:xL N c=some r):Okc V5 225 [pV B1 0] ([aq A2 n2 c2 c.m_.XS,aq A3 n3 c3 c.m_.XR,ab B1 269 [Y A2 n2 c2,Y A3 n3 c3,Y A4 n4 c4,.map (some f),iV c.YA],aR A4 n4 c4 c.Yp,aA ax fV f c.Yi]) (fun u p=> ∃K F H A1 d c1 A2 n2 c2 M3,u=.tuple #[]/\p=[ab B1 269 [Y K F H,Y A1 d c1,Y A2 n2 c2,.map (some M3),iV r.YA],aq K F H r.m_.XS,aq A1 d c1 r.m_.XR,aR A2 n2 c2 r.Yp,aA ax fV M3 r.Yi]):=by
 refine av Tryz.func225 ?_;refine lK (fun m s L=> ∃(C:VX) (B:VX) (A:VW) (D:(List (Int×Unit))) (a6:Int) (e:Option Addr) (n i:Nat) (l:Option Addr) (a j:Nat) (z:Option Addr) (o q:Nat) (a8:Nat),uc N m C B A D a6=some r/\s=[(0,pV B1 0)]/\L=[aq e n i C,aq l a j B,aR z o q A,aA ax fV a8 D,ab B1 269 [Y e n i,Y l a j,Y z o q,.map (some a8),iV a6]]) N ?_;intro Q;refine fun s L=>Zb fun C B A D a6 e=>Zb fun n i l a j z=>Za fun o q a8=>d7 fun h=> ?_
 rw [uc.eq_2] at h;refine aH ?_;refine dY [] ?_;refine aG h ?_ ?_<;>intro h
 ·refine sY ?_;obtain ⟨E,P,O,M,h⟩:=aI h;refine dx (t:=[(0,pV B1 0)]) ?_ cL (ah _);refine fv I 15 [0] [0,4,14] [19,20,21,22,23,24,25,26,27,28,29,30,31,32,33] [[],[],[1],[2],[3],[],[5],[6],[7],[],[9],[10],[11],[8,12],[13]] [aV (pV B1 0),
 aV (pV B1 0),
 aV (pV B1 0),
 aV (pV B1 0),
 aV (.agg #[Y e n i,Y l a j]),
 aV (pV B1 0),
 aV (pV B1 0),
 aV (pV B1 2),
 aV (Y z o q),
 aV (pV B1 0),
 aV (pV B1 0),
 aV (pV B1 4),
 aV (iV a6),
 aV (bD (Y z o q) a6.toNat 1 0),
 aV (iV E)] [] (ah _) (ft rfl fB) I rfl rfl ?_ ?_ ?_
  ·refine fu J ?_ ?_
   ·exact fC (ay J) J (bj J (ah _))
   exact fz
  ·refine bl J ?_ ?_
   ·exact dj (fZ (u:=iV E) 2 J aw J M eo (fun _ _ _ h=>by rw [show _=_ from h];rfl)) J (bj J (ah _))
   refine qR (cH 2 J aw J J Vd size3.out P O) ?_;refine qR (cn 4 J J eo J) ?_;refine qE (bW J Ls) ?_;refine qE (cr J) ?_;refine qE (ay J) ?_;refine qR (cn 4 J J tj J) ?_;refine qE (bW J LC) ?_;refine qE (cr J) ?_;refine qE (ay J) ?_;refine qR (db (us:=[Y e n i,Y l a j]) 4 J J agg125.out J) ?_;refine qE (fb J Lt) ?_;refine qE (cr J) ?_;refine qE (ay J) ?_;refine qE (ay J) ?_;exact fq
  refine eF (t:=[(19,pV B1 0),(23,.agg #[Y e n i,Y l a j]),(33,iV E),(0,pV B1 0)]) (L':=[aq e n i C,aq l a j B,aR z o q A,aA ax fV a8 D,ab B1 269 [Y e n i,Y l a j,Y z o q,.map (some a8),iV a6]]) ?_ cL (ah _);obtain ⟨d0,k,h⟩:=ad h;refine gP 15 J I (oR (ER k)) J J J ?_;rintro _ _ ⟨_,⟨d1,d2,d3,d4,e0,e1,rfl,rfl⟩,rfl⟩;obtain ⟨e2,k,h⟩:=ad h;refine gP 16 J I (oR (pG k)) J J J ?_;rintro _ _ ⟨_,⟨e3,e4,e5,rfl,rfl⟩,rfl⟩;refine eF ?_ dG (cu 0 J);obtain ⟨e6,k,h⟩:=ad h;refine gP 17 J I (oC (Il k)) J J J ?_;rintro _ _ ⟨_,⟨e7,e8,e9,f1,Z,X,V,U,T,S,rfl,rfl⟩,rfl⟩;refine fw I ?_;refine aa ?_;obtain ⟨R,h⟩:=ai h;exact lY
 exact eY
def Ej (c a6:VX)(a8:VW)(e:(List (Int×Unit)))(a:Int):Option VF:=
 (xL N (⟨(⟨c,a6⟩:Vw),a8,e,a⟩:VF)).bind fun d=>some d
def ru (N:Nat)(a1:VO):Nat->Int->VX->VX->VW->(List (Int×Unit))->Int->Option VF
 |0,_,_,_,_,_,_=>none
 |j+1,a8,f,e,d,c,a=>bif decide (a8<(a1.length:Int)) then ((ak a1 a8).bind fun i=>(D6 N i (⟨(⟨f,e⟩:Vw),d,c,a⟩:VF)).bind fun a6=>ae (in64 (a8+1)) ((ru N a1 j) (a8+1) a6.m_.XS a6.m_.XR a6.Yp a6.Yi a6.YA)) else (Ej N f e d c a)
def rL (c:Vw)(a1:VO):Option VF:=
 ru N a1 N 0 c.XS c.XR [] ([]:(List (Int×Unit))) 0
theorem QX {N:Nat}{c:Vw}{a1:VO}{r:VF}(h:rL N c a1=some r):Okc V5 223 [.agg #[Y A1 d c1,Y A2 n2 c2],Y A3 n3 c3] ([aq A1 d c1 c.XS,aq A2 n2 c2 c.XR,ap A3 n3 c3 a1]) (fun u p=> ∃B0 A1 d c1 A2 n2 c2 A3 n3 c3 M4,u=pV B0 0/\p=[ab B0 269 [Y A1 d c1,Y A2 n2 c2,Y A3 n3 c3,.map (some M4),iV r.YA],aq A1 d c1 r.m_.XS,aq A2 n2 c2 r.m_.XR,aR A3 n3 c3 r.Yp,aA ax fV M4 r.Yi]):=by
 refine av Tryz.func223 ?_;intro o;refine aa ?_;refine gD (vq (ek:=ax) (ev:=fV)) ?_;rintro _ _ ⟨f,rfl,rfl⟩;refine bB fun B6=> ?_
 intro e;refine aa ?_;refine aJ (jZ J) ?_;refine aF (fun s L=> ∃i a6 a8 b0 a A9 j R Z X V U T S Q,Ej N i a6 a8 b0 a=some r/\s=[(4,.pointer none),(5,pV e 0)]/\L=[ab e 265 [pV B6 0],aq A9 j R i,aq Z X V a6,aR U T S a8,aA ax fV Q b0,ab B6 269 [Y A9 j R,Y Z X V,Y U T S,.map (some Q),iV a]]) ?_ ?_
 ·refine aa ?_;refine dU (fun m s L=> ∃P O M K H F E D C B A z t q n l,ru N a1 m P O M K H F=some r/\s=[(4,.pointer none),(5,pV e 0),(6,.func (.func 242) #[] #[pV e 0]),(14,Y A3 n3 c3),(15,iV (a1.length:Int)),(16,iV P)]/\L=[ap A3 n3 c3 a1,ab e 265 [pV B6 0],aq E D C O,aq B A z M,aR t q n K,aA ax fV l H,ab B6 269 [Y E D C,Y B A z,Y t q n,.map (some l),iV F]]) N _ _ ⟨0,c.XS,c.XR,[],([]:(List (Int×Unit))),0,A1,d,c1,A2,n2,c2,none,0,0,f,h,J,J⟩ sA ((ck (df .i64) 3 _).trans (cS [7,1,5,6,0,3,2] 8)) ?_;rintro (_|g1)
  all_goals (refine fun s L=>Zb fun P O M K H F=>Zb fun E D C B A z=>Za fun t q n=>ac fun l=>d7 fun h=> ?_)
  ·exact bO h
  rw [ru.eq_2] at h;refine aa ?_;refine aH ?_;refine gH J h ?_ ?_<;>intro h
  ·refine sY ?_;obtain ⟨g2,f3,f9,g0,h⟩:=aI h;refine bB fun g3=> ?_
   obtain ⟨g4,k,h⟩:=ad h;refine gD (vU (P4 k) J J J (f0 [3,4] [2,7,5,6] [0,1,3,4] 8 J)) ?_;rintro _ _ ⟨_,⟨g5,g6,g7,g8,g9,h0,h1,h2,h3,h4,rfl,rfl⟩,rfl⟩;refine aa ?_;obtain ⟨h5,h⟩:=ai h;exact lY
  exact jY
 refine fun s L=>Zb fun i a6 a8 b0 a A9=>Zb fun j R Z X V U=>Za fun T S Q=>d7 fun h=> ?_
 refine aa ?_;obtain ⟨h6,k,h⟩:=ad h;refine gD (oC (Px k)) ?_;rintro _ _ ⟨_,⟨h7,h8,h9,i0,i1,i2,i3,i4,i5,i6,rfl,rfl⟩,rfl⟩;exact eY
def Fh (c:VL):Option Bool:=
 (bif decide (c.no=8) then ((lL N c).bind fun a=>some a) else (some false)).bind fun b4=>some b4
theorem R7 {N:Nat}{c:VL}{r:Bool}(h:Fh N c=some r):Okc V5 195 [.agg #[iV c.no,iV c.XV,iV c.XU,iV c.XW,Y A1 d c1,Y A2 n2 c2]] ([ap A1 d c1 c.XQ,ap A2 n2 c2 c.XP]) (fun u p=>u=.bool r/\p=[]):=by
 refine av Tryz.func195 ?_;intro m;refine aa ?_;refine bF 3 9 6 h (fun _ e h=> ?_) fun b4 h=> ?_
 ·refine cR h (fun _ k=>rI k) fun a h=> ?_
  exact gY
 exact eY
def DU (N:Nat){σ:Type}(d:(VH×VH)->σ->Option (Bool×σ))(a1:VL):Nat->Int->σ->Option σ
 |0,_,_=>none
 |e+1,a,c=>ae (in64 (a+1)) (bif decide (a+1<(a1.XP.length:Int)) then ((ak a1.XP a).bind fun x9=>ae (in64 (a+1)) ((ak a1.XP (a+1)).bind fun a8=>(d (x9,a8) c).bind fun a6=>bif !a6.1 then (some a6.2) else (ae (in64 (a+2)) ((DU N d a1 e) (a+2) a6.2)))) else (some c))
def Id (a1:VL)(c:(VH×VH)->σ->Option (Bool×σ))(a:σ):Option σ:=
 DU N c a1 N 0 a
theorem PV {N:Nat}{a1:VL}{e:(VH×VH)->σ->Option (Bool×σ)}{f r:σ}(h:Id N a1 e f=some r){j:σ->V3}(n:sI V5 l j (fun x=> [.agg #[iV x.1.no,iV x.1.N,.string x.1.S],.agg #[iV x.2.no,iV x.2.N,.string x.2.S]]) e):Okc V5 245 [.func (.yield l) #[] #[],pV B1 0] (aQ B1 45 (bw a1 A2 n2 c2 A3 n3 c3)::ap A2 n2 c2 a1.XQ::ap A3 n3 c3 a1.XP::(j f)) (fun u p=>u=.tuple #[]/\p=j r):=by
 refine av Tryz.func245 ?_;refine lK (fun m s L=> ∃(c:Int) (d:σ),DU N e a1 m c d=some r/\s=[(0,.func (.yield l) #[] #[]),(1,pV B1 0),(3,iV c)]/\L=ap A2 n2 c2 a1.XQ::ap A3 n3 c3 a1.XP::aQ B1 45 (bw a1 A2 n2 c2 A3 n3 c3)::(j d)) N ?_;rintro D _ _ ⟨c,d,h,rfl,rfl⟩;rw [DU.eq_2] at h;refine sZ ?_;obtain ⟨C,h⟩:=ai h;refine aG h ?_ ?_<;>intro h
 ·refine sY ?_;refine aH ?_;obtain ⟨x9,z,q,o,h⟩:=aI h;obtain ⟨i,h⟩:=ai h;obtain ⟨a6,a8,B,A,h⟩:=aI h;refine dx (t:=[(0,.func (.yield l) #[] #[]),(1,pV B1 0),(3,iV c)]) ?_ cL (ah _);refine fv I 12 [] [0,5,11] [12,13,14,15,16,17,18,19,20,21,22,23] [[],[],[1],[],[2,3],[4],[],[6],[],[8],[7,9],[10]] [aV (.func (.yield l) #[] #[]),
 aV (pV B1 5),
 aV (Y A3 n3 c3),
 aV (iV c),
 aV (bD (Y A3 n3 c3) c.toNat 3 0),
 aV (.agg #[iV x9.no,iV x9.N,.string x9.S]),
 aV (pV B1 5),
 aV (Y A3 n3 c3),
 aV (iV c),
 aV (iV (c+1)),
 aV (bD (Y A3 n3 c3) ((c+1).toNat) 3 0),
 aV (.agg #[iV a6.no,iV a6.N,.string a6.S])] [] (ah _) (fB) I rfl rfl ?_ ?_ ?_
  ·exact fz
  ·refine bl J ?_ ?_
   ·exact dj (fX (us:=[iV a6.no,iV a6.N,.string a6.S]) 1 J bA J A agg29.out (fun _ _ _ h=>by rw [show _=_ from h];rfl)) J (bj J (ah _))
   refine qR (cH 1 J bA J J z9 size29.out a8 B) ?_;refine qE (cY J J i.1 i.2) ?_;refine qE (ay J) ?_;refine qR (lT 2 J J gt J) ?_;refine qE (bW J we) ?_;refine bl J ?_ ?_
   ·exact dj (fX (us:=[iV x9.no,iV x9.N,.string x9.S]) 1 J bA J o agg29.out (fun _ _ _ h=>by rw [show _=_ from h];rfl)) J (bj J (ah _))
   refine qR (cH 1 J bA J J z9 size29.out z q) ?_;refine qE (ay J) ?_;refine qR (lT 2 J J gt J) ?_;refine qE (bW J we) ?_;refine qE (ay J) ?_;exact fq
  refine eF (t:=[(12,.func (.yield l) #[] #[]),(17,.agg #[iV x9.no,iV x9.N,.string x9.S]),(23,.agg #[iV a6.no,iV a6.N,.string a6.S]),(0,.func (.yield l) #[] #[]),(1,pV B1 0),(3,iV c)]) (L':=ap A2 n2 c2 a1.XQ::ap A3 n3 c3 a1.XP::aQ B1 45 (bw a1 A2 n2 c2 A3 n3 c3)::(j d)) ?_ cL (ah _);obtain ⟨F,k,h⟩:=ad h;refine gP 12 J I (AL (a:=(x9,a6)) [ap A2 n2 c2 a1.XQ,ap A3 n3 c3 a1.XP,aQ B1 45 (bw a1 A2 n2 c2 A3 n3 c3)] n k J J) J J J ?_;rintro _ _ ⟨rfl,rfl⟩;refine jt 13 J I (ww J) J J J ?_;refine fw I ?_;refine aG h ?_ ?_<;>intro h
  ·exact eY
  refine aa ?_;obtain ⟨E,h⟩:=ai h;exact lY
 exact eY
def IL (N:Nat)(c:VL):Option Unit:=
 some ()
theorem QD {N:Nat}{c:VL}{r:Unit}(h:IL N c=some r):Okc V5 226 [.agg #[iV c.no,iV c.XV,iV c.XU,iV c.XW,Y A1 d c1,Y A2 n2 c2]] ([ap A1 d c1 c.XQ,ap A2 n2 c2 c.XP]) (fun u p=> ∃a6,u=.func (.func 245) #[] #[pV a6 0]/\p=[ab a6 45 (bw c A1 d c1 A2 n2 c2)]):=by
 refine av Tryz.func226 ?_;intro m;refine aa ?_;refine aJ (jZ J) ?_;exact eN
def Iw (N:Nat):Option Int:=
 some (-1)
def uG (N:Nat)(a1:Int)(c:VW):Nat->Int->Option Int
 |0,_=>none
 |d+1,a=>bif decide (a<(c.length:Int)) then ((ak c a).bind fun x6=>bif decide (a1=x6) then (some a) else (ae (in64 (a+1)) ((uG N a1 c d) (a+1)))) else (Iw N)
def Eg (c:VW)(a1:Int):Option Int:=
 uG N a1 c N 0
theorem Qz {N:Nat}{c:VW}{r:Int}(h:Eg N c a1=some r):Okc V5 208 [Y A1 d c1,iV a1] ([aX A1 d c1 c]) (fun u p=>u=iV r/\p=[]):=by
 refine av Tryz.func208 ?_;refine aF (fun s L=>Iw N=some r/\s=[(4,iV 0)]/\L=[]) ?_ ?_
 ·refine aa ?_;refine lK (fun m s L=> ∃(a:Int),uG N a1 c m a=some r/\s=[(0,Y A1 d c1),(1,iV a1),(4,iV 0),(7,iV (c.length:Int)),(8,iV a)]/\L=[aX A1 d c1 c]) N ?_;rintro f _ _ ⟨a,h,rfl,rfl⟩;rw [uG.eq_2] at h;refine aa ?_;refine aH ?_;refine gH J h ?_ ?_<;>intro h
  ·refine sY ?_;obtain ⟨x6,a6,a8,i,h⟩:=aI h;refine aG h ?_ ?_<;>intro h
   ·exact eY
   refine aa ?_;obtain ⟨e,h⟩:=ai h;exact lY
  exact jY
 rintro _ _ ⟨h,rfl,rfl⟩;exact eY
def py (c:VW)(a1:Int):Option Bool:=
 (Eg N c a1).bind fun a=>some (decide (0<=a))
theorem DS {N:Nat}{c:VW}{r:Bool}(h:py N c a1=some r):Okc V5 158 [Y A1 d c1,iV a1] ([aX A1 d c1 c]) (fun u p=>u=.bool r/\p=[]):=by
 refine av Tryz.func158 ?_;refine cR h (fun _ k=>Qz k) fun a h=> ?_
 exact eN
def Eo (a1:VW)(a6:VH×VH):(VW)->Option (Option Exit×VW)
 |a=>(bif decide (a6.2.no=7) then (some true) else (some (decide (a6.2.no=9)))).bind fun a8=>(bif a8 then ((py N a1 a6.1.N).bind fun d=>some d) else (some false)).bind fun c=>bif c then (ae (bC (a.length+([a6.2.N]:List Int).length)) (some (none,a++([a6.2.N]:List Int)))) else (some (none,a))
def zQ (c:VL)(a1:VW):Option VW:=
 (Fh N c).bind fun a=>bif !a then (some []) else ((IL N c).bind fun a8=>(Id N c (dA (fun x st=>Eo N a1 x st)) (none,[])).bind fun a6=>jp a6.1 (some a6.2) none (fun _=>none))
theorem Q7 {N:Nat}{c:VL}{a1 r:VW}(h:zQ N c a1=some r):Okc V5 229 [.agg #[iV c.no,iV c.XV,iV c.XU,iV c.XW,Y A1 d c1,Y A2 n2 c2],Y A3 n3 c3] ([ap A1 d c1 c.XQ,ap A2 n2 c2 c.XP,aX A3 n3 c3 a1]) (fun u p=> ∃z m n,u=Y z m n/\p=[aR z m n r]):=by
 refine av Tryz.func229 ?_;intro o;refine bB fun t=> ?_
 refine sZ ?_;refine cR h (fun _ k=>R7 k) fun L h=> ?_
 refine gH J h ?_ ?_<;>intro h
 ·refine aa ?_;obtain rfl:=bn h;exact dV J J ((ck (df .i64) 3 _).trans (cS [0] 6)) ⟨_,_,_,J,J⟩
 refine bB fun q=> ?_
 refine sZ ?_;obtain ⟨Z,k,h⟩:=ad h;refine gD (oR (QD k)) ?_;rintro _ _ ⟨_,⟨K,rfl,rfl⟩,rfl⟩;refine aa ?_;refine dx ?_ dG (kO 0 J);obtain ⟨H,k,h⟩:=ad h;refine vQ (en:=(fun x=> [.agg #[iV x.1.no,iV x.1.N,.string x.1.S],.agg #[iV x.2.no,iV x.2.N,.string x.2.S]])) (fun x st=>Eo N a1 x st) (fun (st:VW) (mz:((Option Addr×Nat×Nat)))=> [aX A3 n3 c3 a1,ab t 99 [Y A3 n3 c3],aK (df .i64) 3 (.slice mz.1 mz.2.1 mz.2.2) st,ab q 99 [.slice mz.1 mz.2.1 mz.2.2]]) [aQ K 45 (bw c A1 d c1 A2 n2 c2),ap A1 d c1 c.XQ,ap A2 n2 c2 c.XP] ([]) ((none,0,0)) J J call245.out J (fun _=>J) (fun l j B=>(PV k B).mono fun _ _ A=>A.2) ((ck (df .i64) 3 _).trans (f0 [1,5,6] [] [7,3,0,2] 8 J)) h ?_ ?_ ?_ ?_
 ·rintro l f e je sr12 ⟨a6,a8,a⟩ h;replace h:Eo N a1 f e=some (je,sr12):=h;simp only [mq,List.zip_cons_cons,List.zip_nil_left,List.zip_nil_right,List.reverse_cons,List.reverse_nil,XN,Wm];refine bB fun X=> ?_
  intro V;refine aa ?_;refine gS 4 22 18 h ?_;intro U h;refine aa ?_;refine bF 5 28 23 h (fun _ T h=> ?_) fun S h=> ?_
  ·refine cR h (fun _ k=>DS k) fun Q h=> ?_
   exact gY
  refine aG h ?_ ?_<;>intro h
  ·refine aa ?_;refine gD (cB (R:=(df .i64)) (vss:=[[iV f.2.N]]) (xs:=[f.2.N]) J (lQ _) J J (fun _ _ hr=> .cons J All2.nil)) ?_;rintro _ _ ⟨P,O,M,rfl,rfl⟩;obtain ⟨F,h⟩:=ai h;refine bN (cG 5 0 J J aw J J Vd iE J J F) fun E D C=> ?_
   obtain ⟨rfl,rfl⟩:=Xz (Xx h);exact oY ((cS [3,4,5,6] 7).trans (kf (E,D,C) J))
  refine aa ?_;obtain ⟨rfl,rfl⟩:=Xz (Xx h);exact oY ((cS [2,3,4,5] 6).trans (kf (a6,a8,a) J))
 ·rintro ⟨a6,a8,a⟩ h;refine oI ([aX A3 n3 c3 a1,ab t 99 [Y A3 n3 c3],aR a6 a8 a H.2,ab q 99 [Y a6 a8 a]]) J ?_;exact eY
 ·rintro ⟨a6,a8,a⟩ h;exact bO h
 rintro i ⟨a6,a8,a⟩ h;exact bO h
def D3 (N:Nat)(c:VF):Option (Bool×VF):=
 some (decide ((c.Yp.length:Int)<(c.Yp.length:Int)),c)
def DR (N:Nat)(a6:Int->Option (Bool×VF))(c:VF)(a:Int):Option (Bool×VF):=
 ae (in64 (a+1)) (a6 (a+1))
def uv (N:Nat)(c:VF):Nat->Int->Option (Bool×VF)
 |0,_=>none
 |d+1,a=>bif decide (a<((List.take c.Yp.length c.Yp).length:Int)) then ((ak (List.take c.Yp.length c.Yp) a).bind fun a6=>(om N c.m_ a6).bind fun a8=>bif decide (a8.no=8) then none else (DR N (uv N c d) c a)) else (D3 N c)
def D7 (c:VF):Option (Bool×VF):=
 uv N c N 0
theorem Qb {N:Nat}{c:VF}{r:Bool×VF}(h:D7 N c=some r):Okc V5 224 [pV B1 0] ([aq A2 n2 c2 c.m_.XS,aq A3 n3 c3 c.m_.XR,ab B1 269 [Y A2 n2 c2,Y A3 n3 c3,Y A4 n4 c4,.map (some f),iV c.YA],aR A4 n4 c4 c.Yp,aA ax fV f c.Yi]) (fun u p=> ∃F j A A1 d c1 A2 n2 c2 M3,u=.bool r.1/\p=[ab B1 269 [Y F j A,Y A1 d c1,Y A2 n2 c2,.map (some M3),iV r.2.YA],aq F j A r.2.m_.XS,aq A1 d c1 r.2.m_.XR,aR A2 n2 c2 r.2.Yp,aA ax fV M3 r.2.Yi]):=by
 refine gQ Tryz.func224 J J ?_;simp only [fe];refine G ?_;refine gR (ie 3 J aw J Vd) ?_;refine G ?_;refine aF (fun s L=>D3 N c=some r/\s=[(0,pV B1 0),(2,.bool false),(3,iV (c.Yp.length:Int))]/\L=[aq A2 n2 c2 c.m_.XS,aq A3 n3 c3 c.m_.XR,aR A4 n4 c4 c.Yp,aA ax fV f c.Yi,ab B1 269 [Y A2 n2 c2,Y A3 n3 c3,Y A4 n4 c4,.map (some f),iV c.YA]]) ?_ ?_
 ·refine adc ?_;refine adn ?_;refine d6 (Ur 3 J) ?_;refine gD (abq (n:=c.Yp.length) 3 J J Vd size3.out J J J (Xm _)) ?_;rintro _ _ ⟨e,rfl,rfl⟩;refine gR (ie 3 J FO J Vd) ?_;refine G ?_;refine dU (fun m s L=> ∃a,uv N c m a=some r/\s=[(0,pV B1 0),(2,.bool false),(3,iV (c.Yp.length:Int)),(18,.slice e c.Yp.length c.Yp.length),(19,iV ((List.take c.Yp.length c.Yp).length:Int)),(20,iV a)]/\L=[aq A2 n2 c2 c.m_.XS,aq A3 n3 c3 c.m_.XR,kz (df .i64) 3 (Y A4 n4 c4) c.Yp (.slice e c.Yp.length c.Yp.length) c.Yp.length,aA ax fV f c.Yi,ab B1 269 [Y A2 n2 c2,Y A3 n3 c3,Y A4 n4 c4,.map (some f),iV c.YA]]) N _ _ ⟨0,h,J,J⟩ sA (cS [0,1,3,4,2] 5) ?_;rintro (_|l) _ _ ⟨a,h,rfl,rfl⟩
  ·exact bO h
  rw [uv.eq_2] at h;refine G ?_;refine aH ?_;refine gH J h ?_ ?_<;>intro h
  ·refine G ?_;refine aF (fun s L=>DR N (uv N c l) c a=some r/\s=[(0,pV B1 0),(2,.bool false),(3,iV (c.Yp.length:Int)),(18,.slice e c.Yp.length c.Yp.length),(19,iV ((List.take c.Yp.length c.Yp).length:Int)),(20,iV a)]/\L=[aq A2 n2 c2 c.m_.XS,aq A3 n3 c3 c.m_.XR,kz (df .i64) 3 (Y A4 n4 c4) c.Yp (.slice e c.Yp.length c.Yp.length) c.Yp.length,aA ax fV f c.Yi,ab B1 269 [Y A2 n2 c2,Y A3 n3 c3,Y A4 n4 c4,.map (some f),iV c.YA]]) ?_ ?_
   ·refine G ?_;obtain ⟨H,a6,h⟩:=ad h;obtain ⟨a8,K,a6⟩:=jz a6;refine gR (cH 2 J FO J J Vd size3.out a8 K) ?_;refine gR (fZ (u:=iV H) 2 J FO J a6 eo (fun _ _ _ h=>by rw [show _=_ from h];rfl)) ?_;refine G ?_;refine gR (db (us:=[Y A2 n2 c2,Y A3 n3 c3]) 4 J J agg125.out J) ?_;refine G ?_;obtain ⟨E,k,h⟩:=ad h;refine gD (co (ER k) J (t9 (bK (i:=0) J J) (t9 (bK (i:=1) J J) aW)) I3) ?_;rintro _ _ ⟨_,⟨D,C,B,z,t,q,rfl,rfl⟩,rfl⟩;refine gB (iq zero45.out J) fun M=> ?_
    refine gW (bL (us:=(bw E D C B z t q)) (cs':=(bw E D C B z t q)) 0 J J J J size45.out J J J) ?_;refine ld ?_;refine G ?_;refine gH J h ?_ ?_<;>intro h
    ·exact bO h
    refine G ?_;exact ⟨_,_,⟨h,J,J⟩,sA,cS [3,4,5,6,7] 8⟩
   rintro _ _ ⟨h,rfl,rfl⟩;refine iT ?_;obtain ⟨o,h⟩:=ai h;refine gE (cY J J o.1 o.2) ?_;refine G ?_;exact ⟨l,_,_,VS _,⟨a+1,h,J,J⟩,sA,cS [0,1,2,3,4] 5⟩
  refine G ?_;exact ⟨_,_,⟨h,J,J⟩,sA,(SW 2 J).trans (cS [0,1,2,3,4] 5)⟩
 rintro _ _ ⟨h,rfl,rfl⟩;refine G ?_;refine gR (ie 2 J aw J Vd) ?_;refine G ?_;obtain rfl:=bn h;exact dV J J (cS [4,0,1,2,3] 5) ⟨_,_,_,_,_,_,_,_,_,_,J,J⟩
def Iy (N:Nat)(a8 a:VX)(a6:VW)(d:(List (Int×Unit)))(c:Int):Option VW:=
 some a6
def Iq (a:VF):Nat->Option VW
 |0=>none
 |a8+1=>(D7 N a).bind fun a6=>bif a6.1 then none else (Iy N a6.2.m_.XS a6.2.m_.XR a6.2.Yp a6.2.Yi a6.2.YA)
def uV (c:Vw)(a1:VO):Option VW:=
 (rL N c a1).bind fun a=>Iq N a N
theorem QT {N:Nat}{c:Vw}{a1:VO}{r:VW}(h:uV N c a1=some r):Okc V5 192 [.agg #[Y A1 d c1,Y A2 n2 c2],Y A3 n3 c3] ([aq A1 d c1 c.XS,aq A2 n2 c2 c.XR,ap A3 n3 c3 a1]) (fun u p=> ∃V O S,u=Y V O S/\p=[aR V O S r]):=by
 refine av Tryz.func192 ?_;intro o;refine aa ?_;obtain ⟨f,k,h⟩:=ad h;refine gD (oC (QX k)) ?_;rintro _ _ ⟨_,⟨B6,e,n,i,U,M,R,T,K,Q,P,rfl,rfl⟩,rfl⟩;refine aa ?_;refine aF (fun s L=> ∃a6 a a8 H F E D C B A z t q l j,Iy N a6 a a8 H F=some r/\s=[(4,Y none 0 0),(5,pV B6 0)]/\L=[aq E D C a6,aq B A z a,aR t q l a8,aA ax fV j H,ab B6 269 [Y E D C,Y B A z,Y t q l,.map (some j),iV F]]) ?_ ?_
 ·refine aa ?_;refine lK (fun m s L=>Iq N f m=some r/\s=[(4,Y none 0 0),(5,pV B6 0)]/\L=[aq e n i f.m_.XS,aq U M R f.m_.XR,aR T K Q f.Yp,aA ax fV P f.Yi,ab B6 269 [Y e n i,Y U M R,Y T K Q,.map (some P),iV f.YA]]) N ?_;rintro e3 _ _ ⟨h,rfl,rfl⟩;rw [Iq.eq_2] at h;refine sZ ?_;obtain ⟨e4,k,h⟩:=ad h;refine gD (oC (Qb k)) ?_;rintro _ _ ⟨_,⟨e5,e6,e7,e8,e9,f1,f2,f3,Z,X,rfl,rfl⟩,rfl⟩;refine aG h ?_ ?_<;>intro h
  ·exact bO h
  exact jY
 refine fun s L=>Zb fun a6 a a8 H F E=>Zb fun D C B A z t=>Za fun q l j=>d7 fun h=> ?_
 exact eY
def Al (c a1:Int):Option Bool:=
 (pO N c).bind fun d=>(bif d then ((pO N a1).bind fun a=>some (!a)) else (some false)).bind fun b2=>(bif b2 then (some true) else (some (decide (c<a1)))).bind fun b4=>some b4
theorem RV {N:Nat}{c:Int}{r:Bool}(h:Al N c a1=some r):Okc V5 171 [iV c,iV a1] ([]) (fun u p=>u=.bool r/\p=[]):=by
 refine av Tryz.func171 ?_;refine cR h (fun _ k=>zF k) fun d h=> ?_
 refine bF 4 11 7 h (fun _ e h=> ?_) fun b2 h=> ?_
 ·refine cR h (fun _ k=>zF k) fun a h=> ?_
  exact gY
 refine aa ?_;refine gS 4 16 12 h ?_;intro b4 h;exact eY
theorem Q6 {r:Bool}: ∀v post,((fun (u:Value) (post:V3)=>u=.bool r/\post=[])) v post-> ∀c∈post,bP c:=by
 rintro _ _ ⟨rfl,rfl⟩;exact aW
def rU (c:Vw)(a1:VO):Option VW:=
 (uV N c a1).bind fun d=>(zz N d).bind fun a=>some a
theorem Q9 {N:Nat}{c:Vw}{a1:VO}{r:VW}(h:rU N c a1=some r):Okc V5 148 [.agg #[Y A1 d c1,Y A2 n2 c2],Y A3 n3 c3] ([aq A1 d c1 c.XS,aq A2 n2 c2 c.XR,ap A3 n3 c3 a1]) (fun u p=> ∃f a e,u=Y f a e/\p=[aR f a e r]):=by
 refine av Tryz.func148 ?_;intro o;refine kG h (fun _ k=>QT k) fun j A6 n6 c6 h=> ?_
 refine cC h (fun _ k=>QO k) fun i h=> ?_
 exact eN
theorem QC {r:VW}: ∀v post,((fun (u:Value) (post:V3)=> ∃e a d,u=Y e a d/\post=[aR e a d r])) v post-> ∀c∈post,bP c:=by
 rintro _ _ ⟨_,_,_,rfl,rfl⟩;exact t9 iU (aW)
def DZ (N:Nat)(a6:Int->Int->σ->Option σ)(d:(Int×Int)->σ->Option (Bool×σ))(a:Int)(a1:VW)(a8:Int)(c:σ):Option σ:=
 ae (in64 (a+1)) (a6 a8 (a+1) c)
def ye (N:Nat)(i a6:Int->Int->σ->Option σ)(e:(Int×Int)->σ->Option (Bool×σ))(f d:Int)(a1:VW)(a8 c:Int)(a:σ):Option σ:=
 ae (in64 (a8+1)) (a6 c (a8+1) a)
def mD (N:Nat){σ:Type}(a6:Int->Int->σ->Option σ)(a:(Int×Int)->σ->Option (Bool×σ))(a8 c:Int)(a1:VW):Nat->Int->Int->σ->Option σ
 |0,_,_,_=>none
 |l+1,d,e,i=>bif decide (e<(a1.length:Int)) then ((ak a1 e).bind fun j=>bif !decide (j.tmod 2=a8) then (ye N a6 (mD N a6 a a8 c a1 l) a a8 c a1 e d i) else ((a (d,j) i).bind fun f=>bif !f.1 then (some f.2) else (ae (in64 (d+1)) (ye N a6 (mD N a6 a a8 c a1 l) a a8 c a1 e (d+1) f.2)))) else (DZ N a6 a c a1 d i)
def pt (N:Nat){σ:Type}(d:(Int×Int)->σ->Option (Bool×σ))(a1:VW):Nat->Int->Int->σ->Option σ
 |0,_,_,_=>none
 |f+1,e,a,c=>bif decide (a<(([0,1]:List Int).length:Int)) then ((ak ([0,1]:List Int) a).bind fun a6=>mD N (pt N d a1 f) d a6 a a1 N e 0 c) else (some c)
def pz (a1:VW)(c:(Int×Int)->σ->Option (Bool×σ))(a:σ):Option σ:=
 pt N c a1 N 0 0 a
theorem Ic {N:Nat}{a1:VW}{c:(Int×Int)->σ->Option (Bool×σ)}{B r:σ}(h:pz N a1 c B=some r){j:σ->V3}(C:sI V5 l j (fun x=> [iV x.1,iV x.2]) c):Okc V5 193 [.func (.yield l) #[] #[],pV B1 0] (aQ B1 99 [Y A2 n2 c2]::aX A2 n2 c2 a1::(j B)) (fun u p=>u=.tuple #[]/\p=j r):=by
 refine av Tryz.func193 ?_;refine bN (cB (R:=(df .i64)) (vss:=[[iV 0],[iV 1]]) (xs:=[0,1]) J (U9 _ _) J J (fun _ _ hr=> .cons J (.cons J All2.nil))) fun A3 n3 c3=> ?_
 refine lK (fun m s L=> ∃(n:Int) (d:Int) (i:σ),pt N c a1 m n d i=some r/\s=[(0,.func (.yield l) #[] #[]),(1,pV B1 0),(3,iV n),(8,Y A3 n3 c3),(9,iV (([0,1]:List Int).length:Int)),(10,iV d)]/\L=aR A3 n3 c3 ([0,1]:List Int)::aX A2 n2 c2 a1::aQ B1 99 [Y A2 n2 c2]::(j i)) N ?_;rintro e _ _ ⟨n,d,i,h,rfl,rfl⟩;rw [pt.eq_2] at h;refine aa ?_;refine aH ?_;refine gH J h ?_ ?_<;>intro h
 ·refine aa ?_;refine aF (fun s L=> ∃A z,DZ N (pt N c a1 e) c d a1 A z=some r/\s=[(0,.func (.yield l) #[] #[]),(1,pV B1 0),(3,iV A),(8,Y A3 n3 c3),(9,iV (([0,1]:List Int).length:Int)),(10,iV d)]/\L=aR A3 n3 c3 ([0,1]:List Int)::aX A2 n2 c2 a1::aQ B1 99 [Y A2 n2 c2]::(j z)) ?_ ?_
  ·refine aa ?_;obtain ⟨a6,U,T,S,h⟩:=aI h;refine aa ?_;refine lK (fun m s L=> ∃(f:Int) (a8:Int) (t:σ),mD N (pt N c a1 e) c a6 d a1 m f a8 t=some r/\s=[(0,.func (.yield l) #[] #[]),(1,pV B1 0),(3,iV f),(5,iV a6),(8,Y A3 n3 c3),(9,iV (([0,1]:List Int).length:Int)),(10,iV d),(14,Y A2 n2 c2),(15,iV (a1.length:Int)),(16,iV a8)]/\L=aR A3 n3 c3 ([0,1]:List Int)::aX A2 n2 c2 a1::aQ B1 99 [Y A2 n2 c2]::(j t)) N ?_;rintro E _ _ ⟨f,a8,t,h,rfl,rfl⟩;rw [mD.eq_2] at h;refine aa ?_;refine aH ?_;refine gH J h ?_ ?_<;>intro h
   ·refine aa ?_;refine aF (fun s L=> ∃q o,ye N (pt N c a1 e) (mD N (pt N c a1 e) c a6 d a1 E) c a6 d a1 a8 q o=some r/\s=[(0,.func (.yield l) #[] #[]),(1,pV B1 0),(3,iV q),(5,iV a6),(8,Y A3 n3 c3),(9,iV (([0,1]:List Int).length:Int)),(10,iV d),(14,Y A2 n2 c2),(15,iV (a1.length:Int)),(16,iV a8)]/\L=aR A3 n3 c3 ([0,1]:List Int)::aX A2 n2 c2 a1::aQ B1 99 [Y A2 n2 c2]::(j o)) ?_ ?_
    ·refine aa ?_;obtain ⟨D,Q,P,O,h⟩:=aI h;refine sY ?_;refine aJ (iz J J (by decide)) ?_;refine gH J h ?_ ?_<;>intro h
     ·exact jY
     refine sY ?_;obtain ⟨M,k,h⟩:=ad h;refine gD (AL (a:=(f,D)) [aR A3 n3 c3 ([0,1]:List Int),aX A2 n2 c2 a1,aQ B1 99 [Y A2 n2 c2]] C k J J) ?_;rintro _ _ ⟨rfl,rfl⟩;refine aG h ?_ ?_<;>intro h
     ·exact eY
     refine aa ?_;obtain ⟨K,h⟩:=ai h;exact jY
    rintro _ _ ⟨q,o,h,rfl,rfl⟩;refine aa ?_;obtain ⟨H,h⟩:=ai h;exact lY
   exact jY
  rintro _ _ ⟨A,z,h,rfl,rfl⟩;refine aa ?_;obtain ⟨F,h⟩:=ai h;exact lY
 exact eY
def rO (N:Nat)(c:VW):Option Unit:=
 some ()
theorem IP {N:Nat}{c:VW}{r:Unit}(h:rO N c=some r):Okc V5 149 [Y A1 d c1] ([aX A1 d c1 c]) (fun u p=> ∃a6,u=.func (.func 193) #[] #[pV a6 0]/\p=[ab a6 99 [Y A1 d c1]]):=by
 refine av Tryz.func149 ?_;intro B2;refine aa ?_;refine aJ (jZ J) ?_;exact eN
theorem Ij {A1:Option Addr}{d c1:Nat}: ∀v post,((fun (u:Value) (post:V3)=> ∃a6,u=.func (.func 193) #[] #[pV a6 0]/\post=[ab a6 99 [Y A1 d c1]])) v post-> ∀c∈post,bP c:=by
 rintro _ _ ⟨_,rfl,rfl⟩;exact t9 Bn (aW)
def IB (N:Nat)(a:VO):Option VO:=
 some a
def yF (N:Nat)(a8:VO->Int->Option VO)(c:VO)(d:Int)(a1:V0)(e:VO)(a6:VH)(a:Int):Option VO:=
 ae (bC (e.length+([(⟨a6.no,a,a6.S⟩:VH)]:List VH).length)) (ae (in64 (d+1)) (a8 (e++([(⟨a6.no,a,a6.S⟩:VH)]:List VH)) (d+1)))
def nP (N:Nat)(c:VO)(a1:V0):Nat->VO->Int->Option VO
 |0,_,_=>none
 |e+1,d,a=>bif decide (a<(c.length:Int)) then ((ak c a).bind fun a6=>(bif (lk a1 a6.N).isSome then ((bif decide (a6.no=7) then (some true) else (some (decide (a6.no=9)))).bind fun a8=>some a8) else (some false)).bind fun f=>bif f then (yF N (nP N c a1 e) c a a1 d a6 ((lk a1 a6.N).getD 0)) else (yF N (nP N c a1 e) c a a1 d a6 a6.N)) else (IB N d)
def kL (c:VO)(a1:V0):Option VO:=
 nP N c a1 N [] 0
theorem zf {N:Nat}{c:VO}{a1:V0}{r:VO}(h:kL N c a1=some r):Okc V5 153 [Y A1 d c1,.map (some q)] ([ap A1 d c1 c,cK ax cp q a1]) (fun u p=> ∃B l o,u=Y B l o/\p=[aj B l o r]):=by
 refine gQ Tryz.func153 J J ?_;simp only [fe];refine G ?_;refine aF (fun s L=> ∃j A4 n4 c4,IB N j=some r/\s=[(4,Y none 0 0),(5,Y A4 n4 c4)]/\L=[aj A4 n4 c4 j]) ?_ ?_
 ·refine G ?_;refine gR (ie 0 J bA J z9) ?_;refine G ?_;refine dU (fun m s L=> ∃f i A6 n6 c6,nP N c a1 m f i=some r/\s=[(1,.map (some q)),(4,Y none 0 0),(5,Y A6 n6 c6),(10,Y A1 d c1),(11,iV (c.length:Int)),(12,iV i)]/\L=[cK ax cp q a1,aj A6 n6 c6 f,ap A1 d c1 c]) N _ _ ⟨[],0,none,0,0,h,J,J⟩ sA ((ck ca 29 _).trans (cS [2,0,1] 3)) ?_;rintro (_|n) _ _ ⟨f,i,A6,n6,c6,h,rfl,rfl⟩
  ·exact bO h
  rw [nP.eq_2] at h;refine G ?_;refine aH ?_;refine gH J h ?_ ?_<;>intro h
  ·refine G ?_;refine aH ?_;refine G ?_;obtain ⟨a6,a8,O,M,h⟩:=aI h;refine gR (cH 2 J bA J J z9 size29.out a8 O) ?_;refine gR (fX (us:=[iV a6.no,iV a6.N,.string a6.S]) 2 J bA J M agg29.out (fun _ _ _ h=>by rw [show _=_ from h];rfl)) ?_;refine gB (iq zero29.out J) fun A=> ?_
   refine gW (bL (us:=[iV a6.no,iV a6.N,.string a6.S]) (cs':=[iV a6.no,iV a6.N,.string a6.S]) 0 J J J J size29.out J J J) ?_;refine G ?_;refine aF (fun s L=> ∃e,yF N (nP N c a1 n) c i a1 f a6 e=some r/\s=[(1,.map (some q)),(4,Y none 0 0),(5,Y A6 n6 c6),(7,pV A 0),(10,Y A1 d c1),(11,iV (c.length:Int)),(12,iV i)]/\L=[cK ax cp q a1,aj A6 n6 c6 f,ap A1 d c1 c,ab A 29 [iV a6.no,iV e,.string a6.S]]) ?_ ?_
   ·refine G ?_;refine gR (sC (a:=a6.N) (z:=0) 1 J acr J J Vn (jy Ex) zero3.out) ?_;refine G ?_;refine iF 9 33 24 h (fun _ K h=> ?_) (fun _ K h=> ?_) fun U h=> ?_
    ·refine G ?_;refine iF 4 32 28 h (fun _ H h=> ?_) (fun _ H h=> ?_) fun T h=> ?_
     ·refine G ?_;obtain rfl:=bn h;exact fN sA (cS [0,1,2,3] 4)
     ·refine G ?_;obtain rfl:=bn h;exact fN sA (cS [0,1,2,3] 4)
     refine G ?_;obtain rfl:=bn h;exact fN sA (cS [0,1,2,3] 4)
    ·refine G ?_;obtain rfl:=bn h;exact fN sA (cS [0,1,2,3] 4)
    refine G ?_;refine gH J h ?_ ?_<;>intro h
    ·refine G ?_;refine gW (bL (us:=[iV ((lk a1 a6.N).getD 0)]) (cs':=[iV a6.no,iV ((lk a1 a6.N).getD 0),.string a6.S]) 0 J J J J size3.out J J J) ?_;refine G ?_;exact ⟨_,_,⟨(lk a1 a6.N).getD 0,h,J,J⟩,sA,cS [1,2,3,0] 4⟩
    refine G ?_;exact ⟨_,_,⟨a6.N,h,J,J⟩,sA,cS [1,2,3,0] 4⟩
   rintro _ _ ⟨e,h,rfl,rfl⟩;refine G ?_;refine gR (db (us:=[iV a6.no,iV e,.string a6.S]) 3 J J agg29.out J) ?_;refine gD (cB (R:=ca) (vss:=[[iV a6.no,iV e,.string a6.S]]) (xs:=[(⟨a6.no,e,a6.S⟩:VH)]) J (qf _ _ _) J J (fun _ _ hr=> .cons J All2.nil)) ?_;rintro _ _ ⟨S,Q,P,rfl,rfl⟩;obtain ⟨F,h⟩:=ai h;refine gD (cG 2 0 J J aw J J z9 nm J J F) ?_;rintro _ _ ⟨E,D,C,rfl,rfl⟩;refine ld ?_;refine G ?_;obtain ⟨t,h⟩:=ai h;refine gE (cY J J t.1 t.2) ?_;refine G ?_;exact ⟨n,_,_,VS _,⟨f++([(⟨a6.no,e,a6.S⟩:VH)]:List VH),i+1,E,D,C,h,J,J⟩,sA,cS [1,2,3] 5⟩
  refine G ?_;exact ⟨_,_,⟨f,A6,n6,c6,h,J,J⟩,sA,cS [1] 3⟩
 rintro _ _ ⟨j,A4,n4,c4,h,rfl,rfl⟩;refine G ?_;obtain rfl:=bn h;exact dV J J (cS [0] 1) ⟨_,_,_,J,J⟩
theorem yx {r:VO}: ∀v post,((fun (u:Value) (post:V3)=> ∃e a d,u=Y e a d/\post=[aj e a d r])) v post-> ∀c∈post,bP c:=by
 rintro _ _ ⟨_,_,_,rfl,rfl⟩;exact t9 iU (aW)
def Ie (a1:VO)(c:Vw)(a:VX)(f:VW)(a8:Option Exit×V0)(a6:VL):Option (Option Exit×VX):=
 (kL N a6.XQ a8.2).bind fun e=>(kL N a6.XP a8.2).bind fun d=>ae (bC (a.length+([(⟨a6.no,a6.XV,a6.XU,a6.XW,e,d⟩:VL)]:List VL).length)) (some (none,a++([(⟨a6.no,a6.XV,a6.XU,a6.XW,e,d⟩:VL)]:List VL)))
def yo (a1:VO)(c:Vw)(a8:VW)(e:Option Exit×V0)(d:Int×Int):(VX)->Option (Option Exit×VX)
 |a=>(om N c d.2).bind fun a6=>bif decide (a6.no=8) then none else (bif decide (a6.no=10) then none else (Ie N a1 c a a8 e a6))
def yl (N:Nat)(a1:VO)(c:Vw)(a8:VW)(a6:Int×Int):(V0)->Option (Option Exit×V0)
 |a=>ae (in64 (2*a6.1)) (ae (in64 ((2*a6.1)+2)) (some (none,dp a a6.2 ((2*a6.1)+2))))
def yO (c:Vw)(a1:VO):Option (Vw×VO×VO×Int):=
 (rJ N c a1).bind fun a=>bif !decide (a=0) then (some ((⟨[],[]⟩:Vw),[],[],a)) else ((rU N c a1).bind fun a6=>(rO N a6).bind fun j=>(pz N a6 (dA (fun x st=>yl N a1 c a6 x st)) (none,([]:V0))).bind fun a8=>jp a8.1 ((rO N a6).bind fun i=>(pz N a6 (dA (fun x st=>yo N a1 c a6 a8 x st)) (none,[])).bind fun d=>jp d.1 ((kL N a1 a8.2).bind fun f=>(kL N [] a8.2).bind fun e=>some ((⟨[],d.2⟩:Vw),f,e,0)) none (fun _=>none)) none (fun _=>none))
def H3 (a1:VO)(c:Vw)(a:VX)(f:VW)(a8:Option Exit×V0)(a6:VL):Option (Option Exit×VX):=
 (kL N a6.XQ a8.2).bind fun e=>(kL N a6.XP a8.2).bind fun d=>ae (bC (a.length+([(⟨a6.no,a6.XV,a6.XU,a6.XW,e,d⟩:VL)]:List VL).length)) (some (none,a++([(⟨a6.no,a6.XV,a6.XU,a6.XW,e,d⟩:VL)]:List VL)))
def xQ (a1:VO)(c:Vw)(a8:VW)(e:Option Exit×V0)(d:Int×Int):(VX)->Option (Option Exit×VX)
 |a=>(om N c d.2).bind fun a6=>bif decide (a6.no=8) then none else (bif decide (a6.no=10) then none else (H3 N a1 c a a8 e a6))
def xO (N:Nat)(a1:VO)(c:Vw)(a8:VW)(a6:Int×Int):(V0)->Option (Option Exit×V0)
 |a=>ae (in64 (2*a6.1)) (ae (in64 ((2*a6.1)+2)) (some (none,dp a a6.2 ((2*a6.1)+2))))
def mI (c:Vw)(a1:VO):Option ((Vw×VO×VO×Int) ⊕ (Vw×VO×VO)):=
 (rJ N c a1).bind fun a=>bif !decide (a=0) then (some (.inl ((⟨[],[]⟩:Vw),[],[],a))) else ((rU N c a1).bind fun a6=>(rO N a6).bind fun j=>(pz N a6 (dA (fun x st=>xO N a1 c a6 x st)) (none,([]:V0))).bind fun a8=>jp a8.1 ((rO N a6).bind fun i=>(pz N a6 (dA (fun x st=>xQ N a1 c a6 a8 x st)) (none,[])).bind fun d=>jp d.1 ((kL N a1 a8.2).bind fun f=>(kL N [] a8.2).bind fun e=>some (.inr ((⟨[],d.2⟩:Vw),f,e))) none (fun _=>none)) none (fun _=>none))
theorem H8 {N:Nat}{c:Vw}{a1:VO}{r:((Vw×VO×VO×Int) ⊕ (Vw×VO×VO))}(h:mI N c a1=some r):Okc V5 99 [.agg #[Y A1 d c1,Y A2 n2 c2],Y A3 n3 c3] ([ap A3 n3 c3 a1,aC A1 d c1 c.XS,aC A2 n2 c2 c.XR]) (fun u p=>nu (fun (r:Vw×VO×VO×Int)=> ∃c9 d0 d1 d2 d3 d4 e0 e1 e2 e3 e4 e5,u=.tuple #[.agg #[Y c9 d0 d1,Y d2 d3 d4],Y e0 e1 e2,Y e3 e4 e5,iV r.2.2.2]/\p=[aC c9 d0 d1 r.1.XS,aC d2 d3 d4 r.1.XR,aj e0 e1 e2 r.2.1,aj e3 e4 e5 r.2.2.1,aC A1 d c1 c.XS,aC A2 n2 c2 c.XR]) (fun (r:Vw×VO×VO)=> ∃c9 d0 d1 d2 d3 d4 e0 e1 e2 e3 e4 e5,u=.tuple #[.agg #[Y c9 d0 d1,Y d2 d3 d4],Y e0 e1 e2,Y e3 e4 e5,iV 0]/\p=[aC c9 d0 d1 r.1.XS,aC d2 d3 d4 r.1.XR,aj e0 e1 e2 r.2.1,aj e3 e4 e5 r.2.2,aC A1 d c1 c.XS,aC A2 n2 c2 c.XR]) r):=by
 refine gQ Tryz.func99 J J ?_;simp only [fe];refine G ?_;refine gB (sS J J) fun o=> ?_
 refine gB (iq zero125.out J) fun Q=> ?_
 refine G ?_;refine gB (iq zero43.out J) fun B6=> ?_
 refine G ?_;refine aH ?_;refine G ?_;refine gR (db (us:=[Y A1 d c1,Y A2 n2 c2]) 2 J J agg125.out J) ?_;refine G ?_;obtain ⟨y7,k,h⟩:=ad h;refine gV (co (QP k) J (t9 (cM (i:=4) J) (t9 (cM (i:=5) J) (t9 (bK (i:=3) J J) aW))) Qo) ?_;refine G ?_;refine gH J h ?_ ?_<;>intro h
 ·refine G ?_;refine gE (iW J bld_125_.out) ?_;refine G ?_;refine gW (bL (us:=[Y none 0 0,Y none 0 0]) (cs':=[Y none 0 0,Y none 0 0]) 1 J J J J size125.out J J J) ?_;refine G ?_;refine gW (bL (us:=[Y none 0 0]) (cs':=[Y none 0 0]) 0 J J J J size43.out J J J) ?_;refine G ?_;obtain rfl:=bn h;exact me (rs:=[.cell 4 125,.tmp 5,.cell 6 43,.tmp 7]) (vs:=[.agg #[Y none 0 0,Y none 0 0],Y none 0 0,Y none 0 0,iV y7]) J (.cons (lV 1 J J agg125.out) (.cons (ng J) (.cons (Gc 0 J J gt) (.cons (ng J) .nil)))) J ((ck dL 45 _).trans ((ck dL 45 _).trans ((ck ca 29 _).trans ((ck ca 29 _).trans (cS [3,2,1,0,8,9] 10))))) ⟨_,_,_,_,_,_,_,_,_,_,_,_,J,J⟩
 refine G ?_;refine gR (db (us:=[Y A1 d c1,Y A2 n2 c2]) 2 J J agg125.out J) ?_;refine G ?_;obtain ⟨A,k,h⟩:=ad h;refine gD (co (Q9 k) J (t9 (cM (i:=4) J) (t9 (cM (i:=5) J) (t9 (bK (i:=3) J J) aW))) QC) ?_;rintro _ _ ⟨_,⟨a6,a8,e,rfl,rfl⟩,rfl⟩;refine gB (iq zero99.out J) fun P=> ?_
 refine gW (bL (us:=[Y a6 a8 e]) (cs':=[Y a6 a8 e]) 0 J J J J size99.out J J J) ?_;refine ld ?_;refine G ?_;refine gD (vq (ek:=ax) (ev:=cp)) ?_;rintro _ _ ⟨m,rfl,rfl⟩;refine gB (iq zero207.out J) fun O=> ?_
 refine gW (bL (us:=[.map (some m)]) (cs':=[.map (some m)]) 0 J J J J size207.out J J J) ?_;refine G ?_;refine aH ?_;refine G ?_;obtain ⟨j5,k,h⟩:=ad h;refine gD (co (IP k) J (t9 (cM (i:=3) J) aW) Ij) ?_;rintro _ _ ⟨_,⟨i1,rfl,rfl⟩,rfl⟩;refine li ?_;refine d5 ?_;refine dx ?_ dG (kO 0 J);refine dx ?_ dG (cu 4 J);refine Cr ?_;obtain ⟨V,k,h⟩:=ad h;refine vQ (en:=(fun x=> [iV x.1,iV x.2])) (fun x st=>xO N a1 c A x st) (fun (st:V0) (mz:Unit)=> [ap A3 n3 c3 a1,aC A1 d c1 c.XS,aC A2 n2 c2 c.XR,ab o 125 [Y A1 d c1,Y A2 n2 c2],ab Q 125 [Y none 0 0,Y none 0 0],ab B6 43 [Y none 0 0],aX a6 a8 e A,ab P 99 [Y a6 a8 e],aA ax cp m st,ab O 207 [.map (some m)]]) [aQ i1 99 [Y a6 a8 e],aX a6 a8 e A] (([]:V0)) (()) J J call193.out J (fun _=>J) (fun l j hY=>(Ic k hY).mono fun _ _ hh=>hh.2) (f0 [0,4] [] [8,9,10,7,6,5,4,3,2,1] 11 J) h ?_ ?_ ?_ ?_
 ·rintro l g8 p21 je sr20 _ h;replace h:xO N a1 c A g8 p21=some (je,sr20):=h;simp only [mq,List.zip_cons_cons,List.zip_nil_left,List.zip_nil_right,List.reverse_cons,List.reverse_nil,XN,Wm];refine G ?_;refine gR (cn 9 J J sQ J) ?_;refine G ?_;obtain ⟨h9,h⟩:=ai h;refine gE (gq J J h9.1 h9.2) ?_;obtain ⟨i0,h⟩:=ai h;refine gE (cY J J i0.1 i0.2) ?_;refine gW (pJ (a:=g8.2) (b:=(2*g8.1)+2) 8 J J J J Vn (jy Ex)) ?_;refine G ?_;obtain ⟨rfl,rfl⟩:=Xz (Xx h);exact oY ((cS [0,1,2,3,4,5,6,7,8,9] 10).trans (kf () J))
 ·rintro _ h;refine oI ([ap A3 n3 c3 a1,aC A1 d c1 c.XS,aC A2 n2 c2 c.XR,ab o 125 [Y A1 d c1,Y A2 n2 c2],ab Q 125 [Y none 0 0,Y none 0 0],ab B6 43 [Y none 0 0],aX a6 a8 e A,ab P 99 [Y a6 a8 e],aA ax cp m V.2,ab O 207 [.map (some m)]]) J ?_;refine G ?_;refine aH ?_;refine G ?_;obtain ⟨j6,k,h⟩:=ad h;refine gD (co (IP k) J (t9 (bK (i:=6) J J) aW) Ij) ?_;rintro _ _ ⟨_,⟨i2,rfl,rfl⟩,rfl⟩;refine li ?_;refine d5 ?_;refine dx ?_ dG (kO 0 J);obtain ⟨i3,k,h⟩:=ad h;refine vQ (en:=(fun x=> [iV x.1,iV x.2])) (fun x st=>xQ N a1 c A V x st) (fun (st:VX) (mz:((Option Addr×Nat×Nat)))=> [ap A3 n3 c3 a1,aC A1 d c1 c.XS,aC A2 n2 c2 c.XR,ab o 125 [Y A1 d c1,Y A2 n2 c2],aK dL 45 (.slice mz.1 mz.2.1 mz.2.2) st,ab Q 125 [Y none 0 0,.slice mz.1 mz.2.1 mz.2.2],ab B6 43 [Y none 0 0],aX a6 a8 e A,ab P 99 [Y a6 a8 e],aA ax cp m V.2,ab O 207 [.map (some m)]]) [aQ i2 99 [Y a6 a8 e],aX a6 a8 e A] ([]) ((none,0,0)) J J call193.out J (fun _=>J) (fun l j hY=>(Ic k hY).mono fun _ _ hh=>hh.2) ((ck dL 45 _).trans (f0 [1,8] [] [2,3,4,5,0,6,7,8,9,10,11] 12 J)) h ?_ ?_ ?_ ?_
  ·rintro l i4 K je sr27 ⟨z,q,n⟩ h;replace h:xQ N a1 c A V i4 K=some (je,sr27):=h;simp only [mq,List.zip_cons_cons,List.zip_nil_left,List.zip_nil_right,List.reverse_cons,List.reverse_nil,XN,Wm];refine G ?_;refine gR (db (us:=[Y A1 d c1,Y A2 n2 c2]) 3 J J agg125.out J) ?_;refine G ?_;obtain ⟨f,k,h⟩:=ad h;refine gD (co (ER k) J (t9 (cM (i:=1) J) (t9 (cM (i:=2) J) aW)) I3) ?_;rintro _ _ ⟨_,⟨g5,Z,X,U,T,S,rfl,rfl⟩,rfl⟩;refine gB (iq zero45.out J) fun M=> ?_
   refine gW (bL (us:=(bw f g5 Z X U T S)) (cs':=(bw f g5 Z X U T S)) 0 J J J J size45.out J J J) ?_;refine ld ?_;refine G ?_;refine aF (fun s L=>H3 N a1 c K A V f=some (je,sr27)/\s=[(1,Y A3 n3 c3),(2,pV o 0),(4,pV Q 0),(5,Y none 0 0),(6,pV B6 0),(7,iV 0),(9,pV P 0),(10,pV O 0),(15,pV M 0)]/\L=[ap A3 n3 c3 a1,aC A1 d c1 c.XS,aC A2 n2 c2 c.XR,ab o 125 [Y A1 d c1,Y A2 n2 c2],aC z q n K,ab Q 125 [Y none 0 0,Y z q n],ab B6 43 [Y none 0 0],aX a6 a8 e A,ab P 99 [Y a6 a8 e],aA ax cp m V.2,ab O 207 [.map (some m)],aj g5 Z X f.XQ,aj U T S f.XP,ab M 45 (bw f g5 Z X U T S)]) ?_ ?_
   ·refine G ?_;refine gH J h ?_ ?_<;>intro h
    ·exact bO h
    refine G ?_;refine gH J h ?_ ?_<;>intro h
    ·exact bO h
    refine G ?_;exact ⟨_,_,⟨h,J,J⟩,sA,cS [3,4,5,6,7,8,9,10,11,12,13,1,2,0] 14⟩
   rintro _ _ ⟨h,rfl,rfl⟩;refine aH ?_;obtain ⟨g9,h0,h⟩:=ad h;obtain ⟨h1,h2,h⟩:=ad h;refine dx (t:=[(1,Y A3 n3 c3),(2,pV o 0),(4,pV Q 0),(5,Y none 0 0),(6,pV B6 0),(7,iV 0),(9,pV P 0),(10,pV O 0),(15,pV M 0)]) ?_ cL (ah _);refine fv I 9 [] [3,7,8] [62,63,64,65,66,67,68,69,70] [[],[0],[],[1,2],[],[4],[],[5,6],[]] [aV (pV M 4),
aV (Y g5 Z X),
aV (.map (some m)),
aX3 (fun (D:Option Addr) (C B:Nat)=> Y D C B) (fun D C B=> [aj D C B g9]),
aV (pV M 5),
aV (Y U T S),
aV (.map (some m)),
aX3 (fun (H:Option Addr) (F E:Nat)=> Y H F E) (fun H F E=> [aj H F E h1]),
aV (pV M 4)] [] (ah _) (fB) I rfl rfl ?_ ?_ ?_
   ·exact fz
   ·refine bl J ?_ ?_
    ·exact dI (bW J Gi) J (bj J (ah _))
    refine bl J ?_ ?_
    ·refine fi (co (zf h2) J (t9 (cM (i:=12) J) (t9 (mY (i:=9) J) aW)) yx) J ?_;rintro _ _ ⟨_,⟨i5,i6,i7,rfl,rfl⟩,rfl⟩;exact lp i5 i6 i7 (ah _)
    refine bl J ?_ ?_
    ·exact dj (cn 10 J J sQ J) J (bj J (ah _))
    refine bl J ?_ ?_
    ·exact dj (cn 13 J J gt J) J (bj J (ah _))
    refine bl J ?_ ?_
    ·exact dI (bW J we) J (bj J (ah _))
    refine bl J ?_ ?_
    ·refine fi (co (zf h0) J (t9 (cM (i:=11) J) (t9 (mY (i:=9) J) aW)) yx) J ?_;rintro _ _ ⟨_,⟨i8,i9,j0,rfl,rfl⟩,rfl⟩;exact lp i8 i9 j0 (ah _)
    refine bl J ?_ ?_
    ·exact dj (cn 10 J J sQ J) J (bj J (ah _))
    refine bl J ?_ ?_
    ·exact dj (cn 13 J J gt J) J (bj J (ah _))
    refine bl J ?_ ?_
    ·exact dI (bW J Gi) J (bj J (ah _))
    exact fq
   intro D C B H F E;refine eF (t:=[(65,Y D C B),(69,Y H F E),(70,pV M 4),(1,Y A3 n3 c3),(2,pV o 0),(4,pV Q 0),(5,Y none 0 0),(6,pV B6 0),(7,iV 0),(9,pV P 0),(10,pV O 0),(15,pV M 0)]) (L':=[aj D C B g9,aj H F E h1,ap A3 n3 c3 a1,aC A1 d c1 c.XS,aC A2 n2 c2 c.XR,ab o 125 [Y A1 d c1,Y A2 n2 c2],aC z q n K,ab Q 125 [Y none 0 0,Y z q n],ab B6 43 [Y none 0 0],aX a6 a8 e A,ab P 99 [Y a6 a8 e],aA ax cp m V.2,ab O 207 [.map (some m)],aj g5 Z X f.XQ,aj U T S f.XP,ab M 45 (bw f g5 Z X U T S)]) ?_ cL (ah _);refine gv 9 J I (bL (us:=[Y D C B]) (cs':=(bw f D C B U T S)) 15 J J J J size43.out J J J) J J ?_;rintro _ _ rfl;refine jt 10 J I (bW J we) J J J ?_;refine gv 11 J I (bL (us:=[Y H F E]) (cs':=(bw f D C B H F E)) 15 J J J J size43.out J J J) J J ?_;rintro _ _ rfl;refine fw I ?_;refine G ?_;refine gR (db (us:=(bw f D C B H F E)) 15 J J agg45.out J) ?_;refine d6 (cu 0 J) ?_;refine ld ?_;refine d6 (cu 1 J) ?_;refine gD (cB (R:=dL) (vss:=[(bw f D C B H F E)]) (xs:=[(⟨f.no,f.XV,f.XU,f.XW,g9,h1⟩:VL)]) J (vJ _ _ _ _ _ _ _ _ _ _) J J (fun _ _ hr=> .cons (⟨_,_,_,_,_,_,J,hr 0 _ J J,hr 1 _ J J⟩) All2.nil)) ?_;rintro _ _ ⟨j7,j8,j9,rfl,rfl⟩;obtain ⟨j1,h⟩:=ai h;refine gD (cG 7 0 J J aw J J Ve oZ J J j1) ?_;rintro _ _ ⟨h3,h4,h5,rfl,rfl⟩;refine G ?_;refine gW (bL (us:=[Y h3 h4 h5]) (cs':=[Y none 0 0,Y h3 h4 h5]) 8 J J J J size123.out J J J) ?_;refine ld ?_;refine G ?_;obtain ⟨rfl,rfl⟩:=Xz (Xx h);exact oY ((cS [3,4,5,6,7,8,9,10,11,12,13] 17).trans (kf (h3,h4,h5) J))
  ·rintro ⟨z,q,n⟩ h;refine oI ([ap A3 n3 c3 a1,aC A1 d c1 c.XS,aC A2 n2 c2 c.XR,ab o 125 [Y A1 d c1,Y A2 n2 c2],aC z q n i3.2,ab Q 125 [Y none 0 0,Y z q n],ab B6 43 [Y none 0 0],aX a6 a8 e A,ab P 99 [Y a6 a8 e],aA ax cp m V.2,ab O 207 [.map (some m)]]) J ?_;refine G ?_;refine aH ?_;refine cy I _ (ah _) ?_;refine zR 0 J (db (us:=[Y none 0 0,Y z q n]) 5 J J agg125.out J) ?_;refine zE 1 J (ay J) ?_;refine zR 2 J (cn 10 J J sQ J) ?_;refine zR 4 J (cn 6 J J gt J) ?_;refine zR 5 J (cn 10 J J sQ J) ?_;obtain ⟨k0,k,h⟩:=ad h;refine zD 3 J (co (zf k) J (t9 (bK (i:=0) J J) (t9 (mY (i:=9) J) aW)) yx) ?_;rintro _ _ ⟨_,⟨j2,j3,j4,rfl,rfl⟩,rfl⟩;refine cj (cS [1,2,3,4,5,6,7,8,9,10,11] 12) ?_;obtain ⟨k2,k,h⟩:=ad h;refine zD 6 J (co (zf k) J (t9 (LL) (t9 (mY (i:=10) J) aW)) yx) ?_;rintro _ _ ⟨_,⟨h6,h7,h8,rfl,rfl⟩,rfl⟩;refine cj (cS [2,3,4,5,6,7,8,9,10,11,12] 13) ?_;refine zO 7 J (bL (us:=[Y none 0 0,Y z q n]) (cs':=[Y none 0 0,Y z q n]) 7 J J J J size125.out J J J) ?_;rintro _ _ rfl;refine cj (cS [2,3,4,5,6,7,8,9,10,11,12] 13) ?_;refine zE 8 J (dQ J) ?_;refine iu 9 J I I (bL (us:=[Y h6 h7 h8]) (cs':=[Y h6 h7 h8]) 8 J J J J size43.out J J J) ?_;rintro _ _ rfl;refine zE 10 J (dQ J) ?_;refine cJ I ?_;refine G ?_;obtain rfl:=bn h;exact me (rs:=[.cell 4 125,.tmp 5,.cell 6 43,.tmp 7]) (vs:=[.agg #[Y none 0 0,Y z q n],Y j2 j3 j4,Y h6 h7 h8,iV 0]) J (.cons (lV 7 J J agg125.out) (.cons (ng J) (.cons (Gc 8 J J gt) (.cons (ng J) .nil)))) J ((ck dL 45 _).trans (cS [0,7,2,1,4,5] 14)) ⟨_,_,_,_,_,_,_,_,_,_,_,_,J,J⟩
  ·rintro ⟨z,q,n⟩ h;exact bO h
  rintro i ⟨z,q,n⟩ h;exact bO h
 ·rintro _ h;exact bO h
 rintro i _ h;exact bO h
def Dz (c:VO)(a1:Vz):Option ((Vw×VO×VO×Int) ⊕ (Vw×VO×VO)):=
 (mI N a1.m_ c).bind fun a6=>dB a6 (fun y11_0=>some (.inl (y11_0.1,y11_0.2.1,y11_0.2.2.1,y11_0.2.2.2))) (fun y11_1=>some (.inr (y11_1.1,y11_1.2.1,y11_1.2.2)))
theorem HR {N:Nat}{c:VO}{a1:Vz}{r:((Vw×VO×VO×Int) ⊕ (Vw×VO×VO))}(h:Dz N c a1=some r):Okc V5 98 [Y A1 d c1,pV B2 0] ([ap A1 d c1 c,aQ B2 60 [pV m 0],ab m 128 [Y A4 n4 c4,Y A5 n5 c5,Y A6 n6 c6,Y e n i,pV t 0],aC A4 n4 c4 a1.m_.XS,aC A5 n5 c5 a1.m_.XR,aj A6 n6 c6 a1.Yb,aj e n i a1.Yg,ab t 186 [.map (some z)],aA ax aU z a1.Yf.at_]) (fun u p=>nu (fun (r:Vw×VO×VO×Int)=> ∃a6 a8 D C B A q o l j f a,u=.tuple #[.agg #[Y a6 a8 D,Y C B A],Y q o l,Y j f a,iV r.2.2.2]/\p=[aC a6 a8 D r.1.XS,aC C B A r.1.XR,aj q o l r.2.1,aj j f a r.2.2.1,aC A4 n4 c4 a1.m_.XS,aC A5 n5 c5 a1.m_.XR,aj A6 n6 c6 a1.Yb,aj e n i a1.Yg,ab m 128 [Y A4 n4 c4,Y A5 n5 c5,Y A6 n6 c6,Y e n i,pV t 0],ab t 186 [.map (some z)],aA ax aU z a1.Yf.at_]) (fun (r:Vw×VO×VO)=> ∃a6 a8 D C B A q o l j f a,u=.tuple #[.agg #[Y a6 a8 D,Y C B A],Y q o l,Y j f a,iV 0]/\p=[aC a6 a8 D r.1.XS,aC C B A r.1.XR,aj q o l r.2.1,aj j f a r.2.2,aC A4 n4 c4 a1.m_.XS,aC A5 n5 c5 a1.m_.XR,aj A6 n6 c6 a1.Yb,aj e n i a1.Yg,ab m 128 [Y A4 n4 c4,Y A5 n5 c5,Y A6 n6 c6,Y e n i,pV t 0],ab t 186 [.map (some z)],aA ax aU z a1.Yf.at_]) r):=by
 refine av Tryz.func98 ?_;intro d4;refine aa ?_;obtain ⟨F,E,h⟩:=ad h;rcases F with y11_0|y11_1
 ·replace h:=gk h;refine Ow (oC (H8 E)) fun e0 e1 e2 e3 e4 e5 e6 e7 e8 e9 Z X=> ?_
  exact eN
 replace h:=gj h;refine Ow (oC (H8 E)) fun V U T S R Q P O M L K H=> ?_
 exact eN
def uu (c:Vu):Option VW:=
 (EU N c.at_).bind fun d=>(D9 N c.at_).bind fun a=>some a
theorem H6 {N:Nat}{c:Vu}{r:VW}(h:uu N c=some r):Okc V5 74 [pV B1 0] ([aQ B1 186 [.map (some q)],cK ax aU q c.at_]) (fun u p=> ∃e a d,u=Y e a d/\p=[aR e a d r]):=by
 refine av Tryz.func74 ?_;refine sZ ?_;refine aJ (gC J Vh) ?_;refine d8 J ?_;refine aa ?_;obtain ⟨i,k,h⟩:=ad h;refine gD (oR (Rq k)) ?_;rintro _ _ ⟨_,⟨o,rfl,rfl⟩,rfl⟩;refine kG h (fun _ k=>Qj k) fun f A6 n6 c6 h=> ?_
 exact eN
theorem PG {r:VW}: ∀v post,((fun (u:Value) (post:V3)=> ∃e a d,u=Y e a d/\post=[aR e a d r])) v post-> ∀c∈post,bP c:=by
 rintro _ _ ⟨_,_,_,rfl,rfl⟩;exact t9 iU (aW)
def uF (N:Nat)(c:VH):Option (Int×Bool):=
 (bif decide (c.no=7) then (some true) else (some (decide (c.no=9)))).bind fun b2=>some (c.N,b2)
theorem Im {N:Nat}{c:VH}{r:Int×Bool}(h:uF N c=some r):Okc V5 202 [(bS c)] ([]) (fun u p=>u=.tuple #[iV r.1,.bool r.2]/\p=[]):=by
 refine av Tryz.func202 ?_;intro B1;refine aa ?_;refine dY [0,1,2,3,4,5,10] ?_;refine yJ [6,7,8,9] 1 9 13 h (fun _ a h rest=> ?_) (fun _ a h rest=> ?_) fun b2 h=> ?_
 ·refine yY [6,7,8,9] ?_;exact yS rest h
 ·refine yY [6,7,8,9] ?_;exact yS rest h
 refine zX [11] ?_;exact eY
def zi (c:VH)(a1:Vw):Option Bool:=
 (uF N c).bind fun a=>(bif a.2 then ((mO N a1 a.1).bind fun d=>some (!d)) else (some false)).bind fun e=>some e
theorem Qw {N:Nat}{c:VH}{a1:Vw}{r:Bool}(h:zi N c a1=some r):Okc V5 201 [(bS c),pV B1 0] ([aQ B1 125 [Y A2 n2 c2,Y A3 n3 c3],aq A2 n2 c2 a1.XS,aq A3 n3 c3 a1.XR]) (fun u p=>u=.bool r/\p=[]):=by
 refine av Tryz.func201 ?_;intro o;refine cR h (fun _ k=>Im k) fun d h=> ?_
 refine bF 5 17 12 h (fun _ e h=> ?_) fun f h=> ?_
 ·refine cR h (fun _ k=>rR k) fun a h=> ?_
  exact gY
 exact eY
def HC (N:Nat)(ff:VH->Option Bool):Option Int:=
 some (-1)
def tT (N:Nat)(ff:VH->Option Bool)(c:VO):Nat->Int->Option Int
 |0,_=>none
 |e+1,a=>bif decide (a<(c.length:Int)) then ((ak c a).bind fun x6=>(ff x6).bind fun d=>bif d then (some a) else (ae (in64 (a+1)) ((tT N ff c e) (a+1)))) else (HC N ff)
def Dn (c:VO)(ff:VH->Option Bool):Option Int:=
 tT N ff c N 0
theorem OZ {N:Nat}{c:VO}{r:Int}(h:Dn N c ff=some r)(f:wP V5 vf j (fun x=> [.agg #[iV x.no,iV x.N,.string x.S]]) (fun r=> .bool r) ff):Okc V5 113 [Y A1 d c1,vf] (ap A1 d c1 c::j) (fun u p=>u=iV r/\p=[]):=by
 refine av Tryz.func113 ?_;refine aF (fun s L=>HC N ff=some r/\s=[(4,iV 0)]/\L=j) ?_ ?_
 ·refine aa ?_;refine lK (fun m s L=> ∃(e:Int),tT N ff c m e=some r/\s=[(0,Y A1 d c1),(1,vf),(4,iV 0),(7,iV (c.length:Int)),(8,iV e)]/\L=ap A1 d c1 c::j) N ?_;rintro n _ _ ⟨e,h,rfl,rfl⟩;rw [tT.eq_2] at h;refine aa ?_;refine aH ?_;refine gH J h ?_ ?_<;>intro h
  ·refine sY ?_;obtain ⟨x6,a6,a8,o,h⟩:=aI h;refine aa ?_;obtain ⟨i,k,h⟩:=ad h;refine gD (LH (a:=x6) [ap A1 d c1 c] f k J J) ?_;rintro _ _ ⟨rfl,rfl⟩;refine aG h ?_ ?_<;>intro h
   ·exact eY
   refine aa ?_;obtain ⟨l,h⟩:=ai h;exact lY
  exact jY
 rintro _ _ ⟨h,rfl,rfl⟩;exact eY
theorem OY {r:Int}: ∀v post,((fun (u:Value) (post:V3)=>u=iV r/\post=[])) v post-> ∀c∈post,bP c:=by
 rintro _ _ ⟨rfl,rfl⟩;exact aW
def qK (c:VO)(ff:VH->Option Bool):Option Bool:=
 (Dn N c ff).bind fun a=>some (decide (0<=a))
theorem HA {N:Nat}{c:VO}{r:Bool}(h:qK N c ff=some r)(a:wP V5 vf j (fun x=> [.agg #[iV x.no,iV x.N,.string x.S]]) (fun r=> .bool r) ff):Okc V5 67 [Y A1 d c1,vf] (ap A1 d c1 c::j) (fun u p=>u=.bool r/\p=[]):=by
 refine av Tryz.func67 ?_;obtain ⟨e,k,h⟩:=ad h;refine cV (co (OZ k a) J (t9 (bK (i:=0) J J) (Fn (E:=[ap A1 d c1 c]) a.1)) OY) ?_;exact eN
theorem OM {r:Bool}: ∀v post,((fun (u:Value) (post:V3)=>u=.bool r/\post=[])) v post-> ∀c∈post,bP c:=by
 rintro _ _ ⟨rfl,rfl⟩;exact aW
end
