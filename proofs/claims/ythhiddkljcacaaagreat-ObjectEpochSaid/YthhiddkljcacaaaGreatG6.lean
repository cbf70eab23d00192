/- Merged texts: part 6. No conditions of their own. -/
import Derived.Test.YthhiddkljcacaaaGreatG5
set_option maxHeartbeats 4000000
namespace Go.Proofs.YthhiddkljcacaaaGreat
variable (N:Nat){a1:Int}{l:Nat}{σ:Type}{a0:VJ}{ff:VN->Option Bool}{vf:Value}{G:Wa}
theorem Vz:type_of% Tryz.underlying230:=Tryz.underlying230
theorem Vy:type_of% Tryz.underlying207:=Tryz.underlying207
theorem Vx:type_of% Tryz.underlying267:=Tryz.underlying267
variable {A1 A2 A3 A4 A5 A6 A7:Option Addr}{B1 B2 B3 B8 M2 M5 M6 M9 c1 c2 c3 c4 c5 c6 c7 n1 n2 n3 n4 n5 n6 n7:Nat}
open Go.RowKit Asn
set_option maxRecDepth 20000
def oH (N:Nat)(a0:VN):Option (Int×Bool):=
 (bif decide (a0.XZ=7) then (some true) else (some (decide (a0.XZ=9)))).bind fun b2=>some (a0.N,b2)
theorem CL {N:Nat}{a0:VN}{r:Int×Bool}(h:oH N a0=some r):Okc Wc 243 [(aX a0)] ([]) (fun u post=>u=.tuple #[iV r.1,.bool r.2]/\post=[]):=by
 refine bY Tryz.func243 ?_;intro B1;refine ab ?_;refine dY [0,1,2,3,4,5,10] ?_
 refine yJ [6,7,8,9] 1 9 13 h (fun _ g2 h rest=> ?_) (fun _ g2 h rest=> ?_) fun b2 h=> ?_
 ·refine yY [6,7,8,9] ?_;exact yS rest h
 ·refine yY [6,7,8,9] ?_;exact yS rest h
 refine zX [11] ?_;exact eY
def jK (N:Nat)(a6:Int->VZ->(List (Int×Unit))->Option VT)(a1:VZ)(p8:Int)(a0:VT)(p13:VZ)(a8:(List (Int×Unit))):Option VT:=
 aE (in64 (p8+1)) (a6 (p8+1) p13 a8)
def cO (N:Nat)(a1:VZ)(a0:VT):Nat->Int->VZ->(List (Int×Unit))->Option VT
 |0,_,_,_=>none
 |m7+1,p8,p9,a8=>bif decide (p8<(a1.length:Int)) then ((ap a1 p8).bind fun a6=>(bif !((lk a8 a6).isSome) then ((jL N a0.m_ a6).bind fun b0=>some b0) else (some false)).bind fun b5=>bif b5 then (aE (ci (p9.length+([a6]:List Int).length)) (jK N (cO N a1 a0 m7) a1 p8 a0 (p9++([a6]:List Int)) (wT a8 a6 ()))) else (jK N (cO N a1 a0 m7) a1 p8 a0 p9 a8)) else (some (⟨a0.m_,p9,a8,a0.YH⟩:VT))
def ee (a0:VT)(a1:VZ):Option VT:=
 cO N a1 a0 N 0 a0.Yz a0.Yq
theorem vQ {N:Nat}{a0:VT}{a1:VZ}{r:VT}(h:ee N a0 a1=some r):Okc Wc 244 [pV B1 0,Y A6 n6 c6] ([bB A2 n2 c2 a0.m_.Yd,bB A3 n3 c3 a0.m_.Yc,fH A6 n6 c6 a1,ae B1 269 [Y A2 n2 c2,Y A3 n3 c3,Y A4 n4 c4,.map (some M5),iV a0.YH],fq A4 n4 c4 a0.Yz,ax cj DF M5 a0.Yq]) (fun u post=> ∃A0 n0 c0 A1 n1 c1 A2 n2 c2 M3,u=.tuple #[]/\post=[ae B1 269 [Y A0 n0 c0,Y A1 n1 c1,Y A2 n2 c2,.map (some M3),iV r.YH],bB A0 n0 c0 r.m_.Yd,bB A1 n1 c1 r.m_.Yc,fq A2 n2 c2 r.Yz,ax cj DF M3 r.Yq]):=by
 refine bY Tryz.func244 ?_;refine lK (fun m s L=> ∃(p8:Int) (p9:VZ) (a8:(List (Int×Unit))) (A9:Option Addr) (n9 c9:Nat),cO N a1 a0 m p8 p9 a8=some r/\s=[(0,pV B1 0),(8,Y A6 n6 c6),(9,iV (a1.length:Int)),(10,iV p8)]/\L=[fH A6 n6 c6 a1,bB A2 n2 c2 a0.m_.Yd,bB A3 n3 c3 a0.m_.Yc,fq A9 n9 c9 p9,ax cj DF M5 a8,ae B1 269 [Y A2 n2 c2,Y A3 n3 c3,Y A9 n9 c9,.map (some M5),iV a0.YH]]) N ?_;rintro m7 _ _ ⟨p8,p9,a8,A9,n9,c9,h,rfl,rfl⟩;rw [cO.eq_2] at h;refine ab ?_;refine au ?_;refine gH J h ?_ ?_<;>intro h
 ·refine ab ?_;refine ai (fun s L=> ∃p13 b0 b5 b6 b7,jK N (cO N a1 a0 m7) a1 p8 a0 p13 b0=some r/\s=[(0,pV B1 0),(8,Y A6 n6 c6),(9,iV (a1.length:Int)),(10,iV p8)]/\L=[fH A6 n6 c6 a1,bB A2 n2 c2 a0.m_.Yd,bB A3 n3 c3 a0.m_.Yc,fq b5 b6 b7 p13,ax cj DF M5 b0,ae B1 269 [Y A2 n2 c2,Y A3 n3 c3,Y b5 b6 b7,.map (some M5),iV a0.YH]]) ?_ ?_
  ·refine ab ?_;obtain ⟨a6,b9,c8,d0,h⟩:=aM h;refine ab ?_;refine H3 (ua (a:=a6) (z:=()) 4 J wD J J Vx (dX Ex) zero296.out) ?_;intro d2;refine ab ?_
   refine qo 7 32 25 h (fun _ d3 h=> ?_) fun d4 h=> ?_
   ·refine cR h (fun _ k=>lF k) fun d6 h=> ?_
    exact gY
   refine dI h ?_ ?_<;>intro h
   ·refine ab ?_;refine Gl (iE (a:=a6) (b:=()) 5 J J J J Vx (dX Ex)) ?_;refine gD (aL (R:=(jM .i64)) (vss:=[[iV a6]]) (xs:=[a6]) J (nA _) J J (fun _ _ hr=> .cons J All2.nil)) ?_;rintro _ _ ⟨e0,e1,e2,rfl,rfl⟩;obtain ⟨d1,h⟩:=ac h
    refine r9 (aQ 5 0 J J ak J J Vn Iw J J d1) fun e3 e4 e5=> ?_
    exact jN
   exact jY
  rintro _ _ ⟨p13,b0,b5,b6,b7,h,rfl,rfl⟩;refine ab ?_;obtain ⟨e6,h⟩:=ac h;exact lY
 exact eY
theorem Ar {N:Nat}{V:Value}{K:Nat}{a0:VT}{a1:VZ}{r:VT}(h:ee N a0 a1=some r):Okc Wc 244 [pV B1 0,Y A6 n6 c6] ([bB A2 n2 c2 a0.m_.Yd,bB A3 n3 c3 a0.m_.Yc,fH A6 n6 c6 a1,ae B1 269 [Y A2 n2 c2,Y A3 n3 c3,Y A4 n4 c4,.map (some M5),iV a0.YH],nu (jM .i64) 3 (Y A4 n4 c4) a0.Yz V K,ax cj DF M5 a0.Yq]) (fun u post=> ∃A0 n0 c0 A1 n1 c1 A2 n2 c2 M3,u=.tuple #[]/\post=[ae B1 269 [Y A0 n0 c0,Y A1 n1 c1,Y A2 n2 c2,.map (some M3),iV r.YH],bB A0 n0 c0 r.m_.Yd,bB A1 n1 c1 r.m_.Yc,nu (jM .i64) 3 (Y A2 n2 c2) r.Yz V K,ax cj DF M3 r.Yq]):=by
 refine bY Tryz.func244 ?_;refine lK (fun m s L=> ∃(p8:Int) (p9:VZ) (a8:(List (Int×Unit))) (A9:Option Addr) (n9 c9:Nat),cO N a1 a0 m p8 p9 a8=some r/\s=[(0,pV B1 0),(8,Y A6 n6 c6),(9,iV (a1.length:Int)),(10,iV p8)]/\L=[fH A6 n6 c6 a1,bB A2 n2 c2 a0.m_.Yd,bB A3 n3 c3 a0.m_.Yc,nu (jM .i64) 3 (Y A9 n9 c9) p9 V K,ax cj DF M5 a8,ae B1 269 [Y A2 n2 c2,Y A3 n3 c3,Y A9 n9 c9,.map (some M5),iV a0.YH]]) N ?_;rintro m7 _ _ ⟨p8,p9,a8,A9,n9,c9,h,rfl,rfl⟩;rw [cO.eq_2] at h;refine ab ?_;refine au ?_;refine gH J h ?_ ?_<;>intro h
 ·refine ab ?_;refine ai (fun s L=> ∃p13 b0 b5 b6 b7,jK N (cO N a1 a0 m7) a1 p8 a0 p13 b0=some r/\s=[(0,pV B1 0),(8,Y A6 n6 c6),(9,iV (a1.length:Int)),(10,iV p8)]/\L=[fH A6 n6 c6 a1,bB A2 n2 c2 a0.m_.Yd,bB A3 n3 c3 a0.m_.Yc,nu (jM .i64) 3 (Y b5 b6 b7) p13 V K,ax cj DF M5 b0,ae B1 269 [Y A2 n2 c2,Y A3 n3 c3,Y b5 b6 b7,.map (some M5),iV a0.YH]]) ?_ ?_
  ·refine ab ?_;obtain ⟨a6,b9,c8,d0,h⟩:=aM h;refine ab ?_;refine H3 (ua (a:=a6) (z:=()) 4 J wD J J Vx (dX Ex) zero296.out) ?_;intro d2;refine ab ?_
   refine qo 7 32 25 h (fun _ d3 h=> ?_) fun d4 h=> ?_
   ·refine cR h (fun _ k=>lF k) fun d6 h=> ?_
    exact gY
   refine dI h ?_ ?_<;>intro h
   ·refine ab ?_;refine Gl (iE (a:=a6) (b:=()) 5 J J J J Vx (dX Ex)) ?_;refine gD (aL (R:=(jM .i64)) (vss:=[[iV a6]]) (xs:=[a6]) J (nA _) J J (fun _ _ hr=> .cons J All2.nil)) ?_;rintro _ _ ⟨e0,e1,e2,rfl,rfl⟩;obtain ⟨d1,h⟩:=ac h
    refine r9 (Ks 5 0 J J ak J J Vn Iw J J d1) fun e3 e4 e5=> ?_
    exact jN
   exact jY
  rintro _ _ ⟨p13,b0,b5,b6,b7,h,rfl,rfl⟩;refine ab ?_;obtain ⟨e6,h⟩:=ac h;exact lY
 exact eY
def qD (a0:VN)(a1:VT):Option VT:=
 (oH N a0).bind fun y8=>bif y8.2 then ((ee N a1 ([y8.1]:List Int)).bind fun a6=>some a6) else (some a1)
theorem Bo {N:Nat}{a0:VN}{a1 r:VT}(h:qD N a0 a1=some r):Okc Wc 242 [(aX a0),pV B1 0] ([bB A3 n3 c3 a1.m_.Yd,bB A4 n4 c4 a1.m_.Yc,ae B1 265 [pV B2 0],ae B2 269 [Y A3 n3 c3,Y A4 n4 c4,Y A5 n5 c5,.map (some M6),iV a1.YH],fq A5 n5 c5 a1.Yz,ax cj DF M6 a1.Yq]) (fun u post=> ∃A0 n0 c0 A1 n1 c1 A2 n2 c2 M3,u=.tuple #[]/\post=[ae B2 269 [Y A0 n0 c0,Y A1 n1 c1,Y A2 n2 c2,.map (some M3),iV r.YH],bB A0 n0 c0 r.m_.Yd,bB A1 n1 c1 r.m_.Yc,fq A2 n2 c2 r.Yz,ax cj DF M3 r.Yq,ae B1 265 [pV B2 0]]):=by
 refine bY Tryz.func242 ?_;intro B7
 refine cR h (fun _ k=>CL k) fun y8 h=> ?_
 refine gH J h ?_ ?_<;>intro h
 ·refine ab ?_;refine gD (aL (R:=(jM .i64)) (vss:=[[iV y8.1]]) (xs:=[y8.1]) J (nA _) J J (fun _ _ hr=> .cons J All2.nil)) ?_;rintro _ _ ⟨a6,a8,b0,rfl,rfl⟩;refine r8 (bL 0 J) ?_;obtain ⟨b5,k,h⟩:=aa h;refine gD (oC (vQ k)) ?_;rintro _ _ ⟨_,⟨b6,b7,b9,c8,c9,d0,d1,d2,d3,d4,rfl,rfl⟩,rfl⟩;exact eY
 exact eY
def lG (a0:VR)(a1:Int):Option VJ:=
 (ou N a0 a1).bind fun y5=>bif !y5.2.2 then (some (⟨0,0,0,0,[],[]⟩:VJ)) else ((ap y5.1 y5.2.1).bind fun a6=>(dt N a6).bind fun a8=>some a8)
theorem xU {N:Nat}{a0:VR}{r:VJ}(h:lG N a0 a1=some r):Okc Wc 150 [.agg #[Y A1 n1 c1,Y A2 n2 c2],iV a1] ([bB A1 n1 c1 a0.Yd,bB A2 n2 c2 a0.Yc]) (fun u post=> ∃A0 n0 c0 A1 n1 c1,u=.agg #[iV r.XZ,iV r.Yf,iV r.Ye,iV r.Yg,Y A0 n0 c0,Y A1 n1 c1]/\post=[aC A0 n0 c0 r.Yb,aC A1 n1 c1 r.Ya]):=by
 refine bY Tryz.func150 ?_;intro B3
 refine du fun B4=> ?_
 refine UJ h (fun _ k=>xT k) fun y5 A6 n6 c6 h=> ?_
 refine sZ ?_;refine gH J h ?_ ?_<;>intro h
 ·refine ab ?_;obtain rfl:=jn h;exact uB (rs:=[.cell 4 45]) (vs:=[.agg #[iV 0,iV 0,iV 0,iV 0,Y none 0 0,Y none 0 0]]) J (.cons (lC 1 J J agg45.out) .nil) J ((bq av 29 _).trans ((bq av 29 _).trans (cS [1,0] 7))) ⟨_,_,_,_,_,_,J,J⟩
 refine ab ?_;obtain ⟨a8,b0,b5,a6,h⟩:=aM h;refine ab ?_;refine Cu 0 J a6 (kj a8) ?_;rintro _ _ ⟨b6,b7,b9,c8,c9,d0,rfl,rfl⟩;refine gR (sW (us:=(gk a8 b6 b7 b9 c8 c9 d0)) 0 J J agg45.out J) ?_
 refine NA h (fun _ k=>gj k) fun d1 d2 d3 d4 d6 e0 e1 h=> ?_
 exact eN
def gv (N:Nat):Nat->V7->V7->VZ->(List (Int×Unit))->Int->Option VT
 |0,_,_,_,_,_=>none
 |m6+1,p7,p8,p9,b0,a8=>bif decide (a8<(p9.length:Int)) then ((ap p9 a8).bind fun b5=>(lG N (⟨p7,p8⟩:VR) b5).bind fun b6=>(iH N b6).bind fun b7=>(ee N (⟨(⟨p7,p8⟩:VR),p9,b0,a8⟩:VT) b7).bind fun a6=>aE (in64 (a6.YH+1)) ((gv N m6) a6.m_.Yd a6.m_.Yc a6.Yz a6.Yq (a6.YH+1))) else (some (⟨(⟨p7,p8⟩:VR),p9,b0,a8⟩:VT))
def iu (a0:VT):Option VT:=
 gv N N a0.m_.Yd a0.m_.Yc a0.Yz a0.Yq a0.YH
theorem rJ {N:Nat}{a0 r:VT}(h:iu N a0=some r):Okc Wc 225 [pV B1 0] ([bB A2 n2 c2 a0.m_.Yd,bB A3 n3 c3 a0.m_.Yc,ae B1 269 [Y A2 n2 c2,Y A3 n3 c3,Y A4 n4 c4,.map (some M5),iV a0.YH],fq A4 n4 c4 a0.Yz,ax cj DF M5 a0.Yq]) (fun u post=> ∃A0 n0 c0 A1 n1 c1 A2 n2 c2 M3,u=.tuple #[]/\post=[ae B1 269 [Y A0 n0 c0,Y A1 n1 c1,Y A2 n2 c2,.map (some M3),iV r.YH],bB A0 n0 c0 r.m_.Yd,bB A1 n1 c1 r.m_.Yc,fq A2 n2 c2 r.Yz,ax cj DF M3 r.Yq]):=by
 refine bY Tryz.func225 ?_;refine lK (fun m s L=> ∃(p7:V7) (p8:V7) (p9:VZ) (b0:(List (Int×Unit))) (a6:Int) (A7:Option Addr) (n7 c7:Nat) (A8:Option Addr) (n8 c8:Nat) (A9:Option Addr) (n9 c9:Nat) (a8:Nat),gv N m p7 p8 p9 b0 a6=some r/\s=[(0,pV B1 0)]/\L=[bB A7 n7 c7 p7,bB A8 n8 c8 p8,fq A9 n9 c9 p9,ax cj DF a8 b0,ae B1 269 [Y A7 n7 c7,Y A8 n8 c8,Y A9 n9 c9,.map (some a8),iV a6]]) N ?_;intro m6
 refine fun s L=>aj fun p7=>aj fun p8=>aj fun p9=>aj fun b0=>aj fun a6=>aj fun A7=>aj fun n7=>aj fun c7=>aj fun A8=>aj fun n8=>aj fun c8=>aj fun A9=>aj fun n9=>aj fun c9=>aj fun a8=>yy fun h=> ?_
 rw [gv.eq_2] at h;refine au ?_;refine dY [] ?_;refine dI h ?_ ?_<;>intro h
 ·refine sY ?_;obtain ⟨b5,b6,b7,b9,h⟩:=aM h;refine gQ (t:=[(0,pV B1 0)]) ?_ lj (ah _)
  refine ig I 15 [0] [0,4,14] [19,20,21,22,23,24,25,26,27,28,29,30,31,32,33] [[],[],[1],[2],[3],[],[5],[6],[7],[],[9],[10],[11],[8,12],[13]] [aV (pV B1 0),
 aV (pV B1 0),
 aV (pV B1 0),
 aV (pV B1 0),
 aV (.agg #[Y A7 n7 c7,Y A8 n8 c8]),
 aV (pV B1 0),
 aV (pV B1 0),
 aV (pV B1 2),
 aV (Y A9 n9 c9),
 aV (pV B1 0),
 aV (pV B1 0),
 aV (pV B1 4),
 aV (iV a6),
 aV (dh (Y A9 n9 c9) a6.toNat 1 0),
 aV (iV b5)] [] (ah _) (ia rfl kU) I rfl rfl ?_ ?_ ?_
  ·refine gZ J ?_ ?_
   ·exact py (ao J) J (ku J (ah _))
   exact kT
  ·refine aH J ?_ ?_
   ·exact wk (kR (u:=iV b5) 2 J ak J b9 ya (fun _ _ _ h=>by rw [show _=_ from h];rfl)) J (ku J (ah _))
   refine qR (dp 2 J ak J J Vn size3.out b6 b7) ?_;refine qR (bM 4 J J ya J) ?_;refine qE (jW J Jo) ?_;refine qE (bF J) ?_;refine qE (ao J) ?_;refine qR (bM 4 J J E8 J) ?_;refine qE (jW J FI) ?_;refine qE (bF J) ?_;refine qE (ao J) ?_;refine qR (jh (us:=[Y A7 n7 c7,Y A8 n8 c8]) 4 J J agg125.out J) ?_;refine qE (sC J Jp) ?_;refine qE (bF J) ?_;refine qE (ao J) ?_;refine qE (ao J) ?_;exact di
  refine nB (t:=[(19,pV B1 0),(23,.agg #[Y A7 n7 c7,Y A8 n8 c8]),(33,iV b5),(0,pV B1 0)]) (L':=[bB A7 n7 c7 p7,bB A8 n8 c8 p8,fq A9 n9 c9 p9,ax cj DF a8 b0,ae B1 269 [Y A7 n7 c7,Y A8 n8 c8,Y A9 n9 c9,.map (some a8),iV a6]]) ?_ lj (ah _);obtain ⟨d0,k,h⟩:=aa h;refine qu 15 J I (oR (xU k)) J J J ?_;rintro _ _ ⟨_,⟨d1,d2,d3,d4,d6,e0,rfl,rfl⟩,rfl⟩;obtain ⟨e1,k,h⟩:=aa h;refine qu 16 J I (oR (ml k)) J J J ?_;rintro _ _ ⟨_,⟨e2,e3,e4,rfl,rfl⟩,rfl⟩;refine nB ?_ dl (bL 0 J);obtain ⟨e5,k,h⟩:=aa h;refine qu 17 J I (oC (vQ k)) J J J ?_;rintro _ _ ⟨_,⟨e6,e7,e8,e9,f1,f2,f3,f4,f9,g0,rfl,rfl⟩,rfl⟩;refine lh I ?_;refine ab ?_;obtain ⟨g1,h⟩:=ac h;exact lY
 exact eY
def t8 (p9 a6:V7)(a8:VZ)(b0:(List (Int×Unit)))(p13:Int):Option VT:=
 (iu N (⟨(⟨p9,a6⟩:VR),a8,b0,p13⟩:VT)).bind fun b5=>some b5
def jv (N:Nat)(a1:VY):Nat->Int->V7->V7->VZ->(List (Int×Unit))->Int->Option VT
 |0,_,_,_,_,_,_=>none
 |c0+1,a8,b0,b5,b6,b7,b9=>bif decide (a8<(a1.length:Int)) then ((ap a1 a8).bind fun c8=>(qD N c8 (⟨(⟨b0,b5⟩:VR),b6,b7,b9⟩:VT)).bind fun a6=>aE (in64 (a8+1)) ((jv N a1 c0) (a8+1) a6.m_.Yd a6.m_.Yc a6.Yz a6.Yq a6.YH)) else (t8 N b0 b5 b6 b7 b9)
def ov (a0:VR)(a1:VY):Option VT:=
 jv N a1 N 0 a0.Yd a0.Yc [] ([]:(List (Int×Unit))) 0
theorem EN {N:Nat}{a0:VR}{a1:VY}{r:VT}(h:ov N a0 a1=some r):Okc Wc 223 [.agg #[Y A1 n1 c1,Y A2 n2 c2],Y A3 n3 c3] ([bB A1 n1 c1 a0.Yd,bB A2 n2 c2 a0.Yc,aZ A3 n3 c3 a1]) (fun u post=> ∃B0 A1 n1 c1 A2 n2 c2 A3 n3 c3 M4,u=pV B0 0/\post=[ae B0 269 [Y A1 n1 c1,Y A2 n2 c2,Y A3 n3 c3,.map (some M4),iV r.YH],bB A1 n1 c1 r.m_.Yd,bB A2 n2 c2 r.m_.Yc,fq A3 n3 c3 r.Yz,ax cj DF M4 r.Yq]):=by
 refine bY Tryz.func223 ?_;intro B4;refine ab ?_;refine gD (ug (ek:=cj) (ev:=DF)) ?_;rintro _ _ ⟨M5,rfl,rfl⟩
 refine du fun B6=> ?_
 intro B7;refine ab ?_;refine dU (eB J) ?_;refine ai (fun s L=> ∃p9 a6 a8 b0 p13 A9 n9 c9 b5 b6 b7 b9 c0 c8 d0,t8 N p9 a6 a8 b0 p13=some r/\s=[(4,.pointer none),(5,pV B7 0)]/\L=[ae B7 265 [pV B6 0],bB A9 n9 c9 p9,bB b5 b6 b7 a6,fq b9 c0 c8 a8,ax cj DF d0 b0,ae B6 269 [Y A9 n9 c9,Y b5 b6 b7,Y b9 c0 c8,.map (some d0),iV p13]]) ?_ ?_
 ·refine ab ?_;refine ii (fun m s L=> ∃d1 d2 d3 d4 d6 e0 e1 e2 e3 e4 e5 e6 e7 e8 e9 f1,jv N a1 m d1 d2 d3 d4 d6 e0=some r/\s=[(4,.pointer none),(5,pV B7 0),(6,.func (.func 242) #[] #[pV B7 0]),(14,Y A3 n3 c3),(15,iV (a1.length:Int)),(16,iV d1)]/\L=[aZ A3 n3 c3 a1,ae B7 265 [pV B6 0],bB e1 e2 e3 d2,bB e4 e5 e6 d3,fq e7 e8 e9 d4,ax cj DF f1 d6,ae B6 269 [Y e1 e2 e3,Y e4 e5 e6,Y e7 e8 e9,.map (some f1),iV e0]]) N _ _ ⟨0,a0.Yd,a0.Yc,[],([]:(List (Int×Unit))),0,A1,n1,c1,A2,n2,c2,none,0,0,M5,h,J,J⟩ sA ((bq (jM .i64) 3 _).trans (cS [7,1,5,6,0,3,2] 8)) ?_;rintro (_|f9)
  all_goals (refine fun s L=>aj fun d1=>aj fun d2=>aj fun d3=>aj fun d4=>aj fun d6=>aj fun e0=>aj fun e1=>aj fun e2=>aj fun e3=>aj fun e4=>aj fun e5=>aj fun e6=>aj fun e7=>aj fun e8=>aj fun e9=>aj fun f1=>yy fun h=> ?_)
  ·exact az h
  rw [jv.eq_2] at h;refine ab ?_;refine au ?_;refine gH J h ?_ ?_<;>intro h
  ·refine sY ?_;obtain ⟨g0,f2,f3,f4,h⟩:=aM h
   refine du fun g1=> ?_
   obtain ⟨g2,k,h⟩:=aa h;refine gD (gx (Bo k) J J J (dx [3,4] [2,7,5,6] [0,1,3,4] 8 J)) ?_;rintro _ _ ⟨_,⟨g3,g4,g5,g6,g7,g8,g9,h0,h1,h2,rfl,rfl⟩,rfl⟩;refine ab ?_;obtain ⟨h3,h⟩:=ac h;exact lY
  exact jY
 refine fun s L=>aj fun p9=>aj fun a6=>aj fun a8=>aj fun b0=>aj fun p13=>aj fun A9=>aj fun n9=>aj fun c9=>aj fun b5=>aj fun b6=>aj fun b7=>aj fun b9=>aj fun c0=>aj fun c8=>aj fun d0=>yy fun h=> ?_
 refine ab ?_;obtain ⟨h4,k,h⟩:=aa h;refine gD (oC (rJ k)) ?_;rintro _ _ ⟨_,⟨h5,h6,h7,h8,h9,i0,i1,i2,i8,j0,rfl,rfl⟩,rfl⟩;exact eY
def vH (a0:VJ):Option Bool:=
 (bif decide (a0.XZ=8) then ((fd N a0).bind fun y5=>some y5) else (some false)).bind fun b4=>some b4
theorem Et {N:Nat}{r:Bool}(h:vH N a0=some r):Okc Wc 195 [.agg #[iV a0.XZ,iV a0.Yf,iV a0.Ye,iV a0.Yg,Y A1 n1 c1,Y A2 n2 c2]] ([aZ A1 n1 c1 a0.Yb,aZ A2 n2 c2 a0.Ya]) (fun u post=>u=.bool r/\post=[]):=by
 refine bY Tryz.func195 ?_;intro B3;refine ab ?_
 refine qo 3 9 6 h (fun _ g4 h=> ?_) fun b4 h=> ?_
 ·refine cR h (fun _ k=>ko k) fun y5 h=> ?_
  exact gY
 exact eY
def eh (N:Nat){σ:Type}(fy:(VN×VN)->σ->Option (Bool×σ))(a1:VJ):Nat->Int->σ->Option σ
 |0,_,_=>none
 |m4+1,p5,p6=>aE (in64 (p5+1)) (bif decide (p5+1<(a1.Ya.length:Int)) then ((ap a1.Ya p5).bind fun x9=>aE (in64 (p5+1)) ((ap a1.Ya (p5+1)).bind fun a8=>(fy (x9,a8) p6).bind fun a6=>bif !a6.1 then (some a6.2) else (aE (in64 (p5+2)) ((eh N fy a1 m4) (p5+2) a6.2)))) else (some p6))
def jA (a1:VJ)(fy:(VN×VN)->σ->Option (Bool×σ))(s0:σ):Option σ:=
 eh N fy a1 N 0 s0
theorem tI {N:Nat}{a1:VJ}{fy:(VN×VN)->σ->Option (Bool×σ)}{s0 r:σ}(h:jA N a1 fy s0=some r){G:σ->Wa}(hY:vc Wc l G (fun x=> [.agg #[iV x.1.XZ,iV x.1.N,.string x.1.S],.agg #[iV x.2.XZ,iV x.2.N,.string x.2.S]]) fy):Okc Wc 245 [.func (.yield l) #[] #[],pV B1 0] (aB B1 45 (gk a1 A2 n2 c2 A3 n3 c3)::aZ A2 n2 c2 a1.Yb::aZ A3 n3 c3 a1.Ya::(G s0)) (fun u post=>u=.tuple #[]/\post=G r):=by
 refine bY Tryz.func245 ?_;refine lK (fun m s L=> ∃(p5:Int) (p6:σ),eh N fy a1 m p5 p6=some r/\s=[(0,.func (.yield l) #[] #[]),(1,pV B1 0),(3,iV p5)]/\L=aZ A2 n2 c2 a1.Yb::aZ A3 n3 c3 a1.Ya::aB B1 45 (gk a1 A2 n2 c2 A3 n3 c3)::(G p6)) N ?_;rintro m4 _ _ ⟨p5,p6,h,rfl,rfl⟩;rw [eh.eq_2] at h;refine sZ ?_;obtain ⟨q7,h⟩:=ac h;refine dI h ?_ ?_<;>intro h
 ·refine sY ?_;refine au ?_;obtain ⟨x9,b7,b9,c0,h⟩:=aM h;obtain ⟨b6,h⟩:=ac h;obtain ⟨a6,a8,b0,b5,h⟩:=aM h;refine gQ (t:=[(0,.func (.yield l) #[] #[]),(1,pV B1 0),(3,iV p5)]) ?_ lj (ah _)
  refine ig I 12 [] [0,5,11] [12,13,14,15,16,17,18,19,20,21,22,23] [[],[],[1],[],[2,3],[4],[],[6],[],[8],[7,9],[10]] [aV (.func (.yield l) #[] #[]),
 aV (pV B1 5),
 aV (Y A3 n3 c3),
 aV (iV p5),
 aV (dh (Y A3 n3 c3) p5.toNat 3 0),
 aV (.agg #[iV x9.XZ,iV x9.N,.string x9.S]),
 aV (pV B1 5),
 aV (Y A3 n3 c3),
 aV (iV p5),
 aV (iV (p5+1)),
 aV (dh (Y A3 n3 c3) ((p5+1).toNat) 3 0),
 aV (.agg #[iV a6.XZ,iV a6.N,.string a6.S])] [] (ah _) (kU) I rfl rfl ?_ ?_ ?_
  ·exact kT
  ·refine aH J ?_ ?_
   ·exact wk (iv (us:=[iV a6.XZ,iV a6.N,.string a6.S]) 1 J bS J b5 agg29.out (fun _ _ _ h=>by rw [show _=_ from h];rfl)) J (ku J (ah _))
   refine qR (dp 1 J bS J J z9 size29.out a8 b0) ?_;refine qE (fF J J b6.1 b6.2) ?_;refine qE (ao J) ?_;refine qR (Bp 2 J J vU J) ?_;refine qE (jW J zr) ?_;refine aH J ?_ ?_
   ·exact wk (iv (us:=[iV x9.XZ,iV x9.N,.string x9.S]) 1 J bS J c0 agg29.out (fun _ _ _ h=>by rw [show _=_ from h];rfl)) J (ku J (ah _))
   refine qR (dp 1 J bS J J z9 size29.out b7 b9) ?_;refine qE (ao J) ?_;refine qR (Bp 2 J J vU J) ?_;refine qE (jW J zr) ?_;refine qE (ao J) ?_;exact di
  refine nB (t:=[(12,.func (.yield l) #[] #[]),(17,.agg #[iV x9.XZ,iV x9.N,.string x9.S]),(23,.agg #[iV a6.XZ,iV a6.N,.string a6.S]),(0,.func (.yield l) #[] #[]),(1,pV B1 0),(3,iV p5)]) (L':=aZ A2 n2 c2 a1.Yb::aZ A3 n3 c3 a1.Ya::aB B1 45 (gk a1 A2 n2 c2 A3 n3 c3)::(G p6)) ?_ lj (ah _);obtain ⟨c8,k,h⟩:=aa h;refine qu 12 J I (zh (a:=(x9,a6)) [aZ A2 n2 c2 a1.Yb,aZ A3 n3 c3 a1.Ya,aB B1 45 (gk a1 A2 n2 c2 A3 n3 c3)] hY k J J) J J J ?_;rintro _ _ ⟨rfl,rfl⟩;refine D4 13 J I (OZ J) J J J ?_;refine lh I ?_;refine dI h ?_ ?_<;>intro h
  ·exact eY
  refine ab ?_;obtain ⟨c9,h⟩:=ac h;exact lY
 exact eY
def mV (N:Nat)(a0:VJ):Option Unit:=
 some ()
theorem wR {N:Nat}{r:Unit}(h:mV N a0=some r):Okc Wc 226 [.agg #[iV a0.XZ,iV a0.Yf,iV a0.Ye,iV a0.Yg,Y A1 n1 c1,Y A2 n2 c2]] ([aZ A1 n1 c1 a0.Yb,aZ A2 n2 c2 a0.Ya]) (fun u post=> ∃a6,u=.func (.func 245) #[] #[pV a6 0]/\post=[ae a6 45 (gk a0 A1 n1 c1 A2 n2 c2)]):=by
 refine bY Tryz.func226 ?_;intro B3;refine ab ?_;refine dU (eB J) ?_;exact eN
def wU (N:Nat):Option Int:=
 some (-1)
def lQ (N:Nat)(a1:Int)(a0:VZ):Nat->Int->Option Int
 |0,_=>none
 |m3+1,p4=>bif decide (p4<(a0.length:Int)) then ((ap a0 p4).bind fun x6=>bif decide (a1=x6) then (some p4) else (aE (in64 (p4+1)) ((lQ N a1 a0 m3) (p4+1)))) else (wU N)
def tT (a0:VZ)(a1:Int):Option Int:=
 lQ N a1 a0 N 0
theorem DR {N:Nat}{a0:VZ}{r:Int}(h:tT N a0 a1=some r):Okc Wc 208 [Y A1 n1 c1,iV a1] ([fH A1 n1 c1 a0]) (fun u post=>u=iV r/\post=[]):=by
 refine bY Tryz.func208 ?_;refine ai (fun s L=>wU N=some r/\s=[(4,iV 0)]/\L=[]) ?_ ?_
 ·refine ab ?_;refine lK (fun m s L=> ∃(p4:Int),lQ N a1 a0 m p4=some r/\s=[(0,Y A1 n1 c1),(1,iV a1),(4,iV 0),(7,iV (a0.length:Int)),(8,iV p4)]/\L=[fH A1 n1 c1 a0]) N ?_;rintro m3 _ _ ⟨p4,h,rfl,rfl⟩;rw [lQ.eq_2] at h;refine ab ?_;refine au ?_;refine gH J h ?_ ?_<;>intro h
  ·refine sY ?_;obtain ⟨x6,a6,a8,b0,h⟩:=aM h;refine dI h ?_ ?_<;>intro h
   ·exact eY
   refine ab ?_;obtain ⟨q8,h⟩:=ac h;exact lY
  exact jY
 rintro _ _ ⟨h,rfl,rfl⟩;exact eY
def dM (a0:VZ)(a1:Int):Option Bool:=
 (tT N a0 a1).bind fun y2=>some (decide (0<=y2))
theorem lu {N:Nat}{a0:VZ}{r:Bool}(h:dM N a0 a1=some r):Okc Wc 158 [Y A1 n1 c1,iV a1] ([fH A1 n1 c1 a0]) (fun u post=>u=.bool r/\post=[]):=by
 refine bY Tryz.func158 ?_
 refine cR h (fun _ k=>DR k) fun y2 h=> ?_
 exact eN
def iZ (a1:VZ)(a6:VN×VN):(VZ)->Option (Option Exit×VZ)
 |p13=>(bif decide (a6.2.XZ=7) then (some true) else (some (decide (a6.2.XZ=9)))).bind fun a8=>(bif a8 then ((dM N a1 a6.1.N).bind fun b0=>some b0) else (some false)).bind fun b5=>bif b5 then (aE (ci (p13.length+([a6.2.N]:List Int).length)) (some (none,p13++([a6.2.N]:List Int)))) else (some (none,p13))
def pz (a0:VJ)(a1:VZ):Option VZ:=
 (vH N a0).bind fun y6=>bif !y6 then (some []) else ((mV N a0).bind fun a8=>(jA N a0 (cM (fun x st=>iZ N a1 x st)) (none,[])).bind fun a6=>sS a6.1 (some a6.2) none (fun _=>none))
theorem zK {N:Nat}{a1 r:VZ}(h:pz N a0 a1=some r):Okc Wc 229 [.agg #[iV a0.XZ,iV a0.Yf,iV a0.Ye,iV a0.Yg,Y A1 n1 c1,Y A2 n2 c2],Y A3 n3 c3] ([aZ A1 n1 c1 a0.Yb,aZ A2 n2 c2 a0.Ya,fH A3 n3 c3 a1]) (fun u post=> ∃A0 n0 c0,u=Y A0 n0 c0/\post=[fq A0 n0 c0 r]):=by
 refine bY Tryz.func229 ?_;intro B4
 refine du fun B5=> ?_
 refine sZ ?_
 refine cR h (fun _ k=>Et k) fun y6 h=> ?_
 refine gH J h ?_ ?_<;>intro h
 ·refine ab ?_;obtain rfl:=jn h;exact Ai J J ((bq (jM .i64) 3 _).trans (cS [0] 6)) ⟨_,_,_,J,J⟩
 refine du fun B9=> ?_
 refine sZ ?_;obtain ⟨d1,k,h⟩:=aa h;refine gD (oR (wR k)) ?_;rintro _ _ ⟨_,⟨b6,rfl,rfl⟩,rfl⟩;refine ab ?_;refine gQ ?_ dl (jz 0 J);obtain ⟨b7,k,h⟩:=aa h;refine wl (en:=(fun x=> [.agg #[iV x.1.XZ,iV x.1.N,.string x.1.S],.agg #[iV x.2.XZ,iV x.2.N,.string x.2.S]])) (fun x st=>iZ N a1 x st) (fun (st:VZ) (mz:((Option Addr×Nat×Nat)))=> [fH A3 n3 c3 a1,ae B5 99 [Y A3 n3 c3],bh (jM .i64) 3 (.slice mz.1 mz.2.1 mz.2.2) st,ae B9 99 [.slice mz.1 mz.2.1 mz.2.2]]) [aB b6 45 (gk a0 A1 n1 c1 A2 n2 c2),aZ A1 n1 c1 a0.Yb,aZ A2 n2 c2 a0.Ya] ([]) ((none,0,0)) J J call245.out J (fun _=>J) (fun l G hY=>(tI k hY).mono fun _ _ hh=>hh.2) ((bq (jM .i64) 3 _).trans (dx [1,5,6] [] [7,3,0,2] 8 J)) h ?_ ?_ ?_ ?_
 ·rintro l b5 p13 je sr12 ⟨a6,a8,b0⟩ h;replace h:iZ N a1 b5 p13=some (je,sr12):=h;simp only [Cl,Xq,Xr,Xs,Xk,Xl,XX,Wy]
  refine du fun d2=> ?_
  intro d3;refine ab ?_;refine gS 4 22 18 h ?_;intro d4 h;refine ab ?_
  refine qo 5 28 23 h (fun _ d6 h=> ?_) fun e0 h=> ?_
  ·refine cR h (fun _ k=>lu k) fun e1 h=> ?_
   exact gY
  refine dI h ?_ ?_<;>intro h
  ·refine ab ?_;refine gD (aL (R:=(jM .i64)) (vss:=[[iV b5.2.N]]) (xs:=[b5.2.N]) J (nA _) J J (fun _ _ hr=> .cons J All2.nil)) ?_;rintro _ _ ⟨e2,e3,e4,rfl,rfl⟩;obtain ⟨b9,h⟩:=ac h
   refine r9 (aQ 5 0 J J ak J J Vn Iw J J b9) fun c8 c9 d0=> ?_
   obtain ⟨rfl,rfl⟩:=XJ (XH h);exact D3 ((cS [3,4,5,6] 7).trans (gL (c8,c9,d0) J))
  refine ab ?_;obtain ⟨rfl,rfl⟩:=XJ (XH h);exact D3 ((cS [2,3,4,5] 6).trans (gL (a6,a8,b0) J))
 ·rintro ⟨a6,a8,b0⟩ h;refine rx ([fH A3 n3 c3 a1,ae B5 99 [Y A3 n3 c3],fq a6 a8 b0 b7.2,ae B9 99 [Y a6 a8 b0]]) J ?_;exact eY
 ·rintro ⟨a6,a8,b0⟩ h;exact az h
 rintro i ⟨a6,a8,b0⟩ h;exact az h
theorem DN {r:VZ}: ∀v post,((fun (u:Value) (post:Wa)=> ∃A0 n0 c0,u=Y A0 n0 c0/\post=[fq A0 n0 c0 r])) v post-> ∀c∈post,mT c:=by
 rintro _ _ ⟨_,_,_,rfl,rfl⟩;exact t9 rR (aR)
def uO (N:Nat)(a0:VT)(p7 p8:V7)(p9:VZ)(a6:(List (Int×Unit)))(a8:Int):Option (Bool×VT):=
 some (decide ((a0.Yz.length:Int)<(p9.length:Int)),(⟨(⟨p7,p8⟩:VR),p9,a6,a8⟩:VT))
def lE (N:Nat)(a6:Int->V7->V7->VZ->(List (Int×Unit))->Int->Option (Bool×VT))(a0:VT)(a8:Int)(b0 b5:V7)(b6:VZ)(b7:(List (Int×Unit)))(b9:Int):Option (Bool×VT):=
 aE (in64 (a8+1)) (a6 (a8+1) b0 b5 b6 b7 b9)
def dn (N:Nat)(a0:VT):Nat->Int->V7->V7->VZ->(List (Int×Unit))->Int->Option (Bool×VT)
 |0,_,_,_,_,_,_=>none
 |c0+1,b0,b5,b6,a6,b7,b9=>bif decide (b0<((List.take a0.Yz.length a0.Yz).length:Int)) then ((ap (List.take a0.Yz.length a6) b0).bind fun c9=>(lG N (⟨b5,b6⟩:VR) c9).bind fun c8=>bif decide (c8.XZ=8) then ((pz N c8 a6).bind fun d0=>(ee N (⟨(⟨b5,b6⟩:VR),a6,b7,b9⟩:VT) d0).bind fun a8=>lE N (dn N a0 c0) a0 b0 a8.m_.Yd a8.m_.Yc a8.Yz a8.Yq a8.YH) else (lE N (dn N a0 c0) a0 b0 b5 b6 a6 b7 b9)) else (uO N a0 b5 b6 a6 b7 b9)
def kQ (a0:VT):Option (Bool×VT):=
 dn N a0 N 0 a0.m_.Yd a0.m_.Yc a0.Yz a0.Yq a0.YH
theorem Bn {N:Nat}{a0:VT}{r:Bool×VT}(h:kQ N a0=some r):Okc Wc 224 [pV B1 0] ([bB A2 n2 c2 a0.m_.Yd,bB A3 n3 c3 a0.m_.Yc,ae B1 269 [Y A2 n2 c2,Y A3 n3 c3,Y A4 n4 c4,.map (some M5),iV a0.YH],fq A4 n4 c4 a0.Yz,ax cj DF M5 a0.Yq]) (fun u post=> ∃A0 n0 c0 A1 n1 c1 A2 n2 c2 M3,u=.bool r.1/\post=[ae B1 269 [Y A0 n0 c0,Y A1 n1 c1,Y A2 n2 c2,.map (some M3),iV r.2.YH],bB A0 n0 c0 r.2.m_.Yd,bB A1 n1 c1 r.2.m_.Yc,fq A2 n2 c2 r.2.Yz,ax cj DF M3 r.2.Yq]):=by
 refine bY Tryz.func224 ?_;refine ai (fun s L=> ∃p7 p8 p9 f2 f3 A7 n7 c7 A8 n8 c8 A9 n9 c9 f4,uO N a0 p7 p8 p9 f2 f3=some r/\s=[(0,pV B1 0),(2,.bool false),(3,iV (a0.Yz.length:Int))]/\L=[bB A7 n7 c7 p7,bB A8 n8 c8 p8,fq A9 n9 c9 p9,ax cj DF f4 f2,ae B1 269 [Y A7 n7 c7,Y A8 n8 c8,Y A9 n9 c9,.map (some f4),iV f3]]) ?_ ?_
 ·refine ab ?_;refine r8 (O9 3 J) ?_;refine gD (P2 (n:=a0.Yz.length) 3 J J Vn size3.out J J J (Xx _)) ?_;rintro _ _ ⟨b6,rfl,rfl⟩;refine H3 (sj 3 J FR J Vn) ?_;refine lK (fun m s L=> ∃(b7:Int) (e0:V7) (e1:V7) (e2:VZ) (e3:(List (Int×Unit))) (e4:Int) (b9:Option Addr) (d0 d1:Nat) (d2:Option Addr) (d3 d4:Nat) (a8:Option Addr) (b0 b5:Nat) (d6:Nat),dn N a0 m b7 e0 e1 e2 e3 e4=some r/\s=[(0,pV B1 0),(2,.bool false),(3,iV (a0.Yz.length:Int)),(18,.slice b6 a0.Yz.length a0.Yz.length),(19,iV ((List.take a0.Yz.length a0.Yz).length:Int)),(20,iV b7)]/\L=[bB b9 d0 d1 e0,bB d2 d3 d4 e1,nu (jM .i64) 3 (Y a8 b0 b5) e2 (.slice b6 a0.Yz.length a0.Yz.length) a0.Yz.length,ax cj DF d6 e3,ae B1 269 [Y b9 d0 d1,Y d2 d3 d4,Y a8 b0 b5,.map (some d6),iV e4]]) N ?_;intro h8
  refine fun s L=>aj fun b7=>aj fun e0=>aj fun e1=>aj fun e2=>aj fun e3=>aj fun e4=>aj fun b9=>aj fun d0=>aj fun d1=>aj fun d2=>aj fun d3=>aj fun d4=>aj fun a8=>aj fun b0=>aj fun b5=>aj fun d6=>yy fun h=> ?_
  rw [dn.eq_2] at h;refine ab ?_;refine au ?_;refine gH J h ?_ ?_<;>intro h
  ·refine ab ?_;refine ai (fun s L=> ∃f9 g0 g1 g2 g3 g4 g5 g6 g7 g8 g9 h0 h1 h2 h3,lE N (dn N a0 h8) a0 b7 f9 g0 g1 g2 g3=some r/\s=[(0,pV B1 0),(2,.bool false),(3,iV (a0.Yz.length:Int)),(18,.slice b6 a0.Yz.length a0.Yz.length),(19,iV ((List.take a0.Yz.length a0.Yz).length:Int)),(20,iV b7)]/\L=[bB g4 g5 g6 f9,bB g7 g8 g9 g0,nu (jM .i64) 3 (Y h0 h1 h2) g1 (.slice b6 a0.Yz.length a0.Yz.length) a0.Yz.length,ax cj DF h3 g2,ae B1 269 [Y g4 g5 g6,Y g7 g8 g9,Y h0 h1 h2,.map (some h3),iV g3]]) ?_ ?_
   ·refine ab ?_;obtain ⟨h9,h4,h5,h6,h⟩:=aM h;refine gR (dp 2 J FR J J Vn size3.out h4 h5) ?_;refine H3 (kR (u:=iV h9) 2 J FR J h6 ya (fun _ _ _ h=>by rw [show _=_ from h];rfl)) ?_
    refine NA h (fun _ k=>xU k) fun a6 e5 e6 e7 e8 e9 f1 h=> ?_
    intro h7;refine dI h ?_ ?_<;>intro h
    ·refine gQ (t:=[(0,pV B1 0),(2,.bool false),(3,iV (a0.Yz.length:Int)),(6,pV h7 0),(18,.slice b6 a0.Yz.length a0.Yz.length),(19,iV ((List.take a0.Yz.length a0.Yz).length:Int)),(20,iV b7)]) ?_ lj (ah _)
     refine ig I 6 [0] [0,1,5] [33,34,35,36,37,38] [[],[],[],[2],[3],[4]] [aV (pV B1 0),
 aV (.agg #[iV a6.XZ,iV a6.Yf,iV a6.Ye,iV a6.Yg,Y e5 e6 e7,Y e8 e9 f1]),
 aV (pV B1 0),
 aV (pV B1 0),
 aV (pV B1 2),
 aV (Y a8 b0 b5)] [] (ah _) (ia rfl kU) I rfl rfl ?_ ?_ ?_
     ·refine gZ J ?_ ?_
      ·exact py (ao J) J (ku J (ah _))
      exact kT
     ·refine qR (bM 7 J J E8 J) ?_;refine qE (jW J FI) ?_;refine qE (bF J) ?_;refine qE (ao J) ?_;refine qR (jh (us:=(gk a6 e5 e6 e7 e8 e9 f1)) 0 J J agg45.out J) ?_;refine qE (ao J) ?_;exact di
     refine nB (t:=[(33,pV B1 0),(34,.agg #[iV a6.XZ,iV a6.Yf,iV a6.Ye,iV a6.Yg,Y e5 e6 e7,Y e8 e9 f1]),(38,Y a8 b0 b5),(0,pV B1 0),(2,.bool false),(3,iV (a0.Yz.length:Int)),(6,pV h7 0),(18,.slice b6 a0.Yz.length a0.Yz.length),(19,iV ((List.take a0.Yz.length a0.Yz).length:Int)),(20,iV b7)]) (L':=[ae h7 45 (gk a6 e5 e6 e7 e8 e9 f1),aC e5 e6 e7 a6.Yb,aC e8 e9 f1 a6.Ya,bB b9 d0 d1 e0,bB d2 d3 d4 e1,nu (jM .i64) 3 (Y a8 b0 b5) e2 (.slice b6 a0.Yz.length a0.Yz.length) a0.Yz.length,ax cj DF d6 e3,ae B1 269 [Y b9 d0 d1,Y d2 d3 d4,Y a8 b0 b5,.map (some d6),iV e4]]) ?_ lj (ah _);obtain ⟨i0,k,h⟩:=aa h;refine qu 6 J I (kV (zK k) J (t9 (gC (i:=1) J) (t9 (gC (i:=2) J) (t9 (MR (i:=5) J) aR))) DN) J J J ?_;rintro _ _ ⟨_,⟨i1,i2,i8,rfl,rfl⟩,rfl⟩;refine nB ?_ dl (bL 0 J);obtain ⟨j0,k,h⟩:=aa h;refine qu 7 J I (oC (Ar k)) J J J ?_;rintro _ _ ⟨_,⟨j1,j2,j3,j4,j5,j6,j7,j8,j9,k0,rfl,rfl⟩,rfl⟩;refine lh I ?_;exact jY
    exact jY
   refine fun s L=>aj fun f9=>aj fun g0=>aj fun g1=>aj fun g2=>aj fun g3=>aj fun g4=>aj fun g5=>aj fun g6=>aj fun g7=>aj fun g8=>aj fun g9=>aj fun h0=>aj fun h1=>aj fun h2=>aj fun h3=>yy fun h=> ?_
   refine ab ?_;obtain ⟨k2,h⟩:=ac h;exact lY
  refine ab ?_;exact ⟨_,_,⟨e0,e1,e2,e3,e4,b9,d0,d1,d2,d3,d4,a8,b0,b5,d6,h,J,J⟩,sA,(Nn 2 J).trans (cS [0,1,2,3,4] 5)⟩
 refine fun s L=>aj fun p7=>aj fun p8=>aj fun p9=>aj fun f2=>aj fun f3=>aj fun A7=>aj fun n7=>aj fun c7=>aj fun A8=>aj fun n8=>aj fun c8=>aj fun A9=>aj fun n9=>aj fun c9=>aj fun f4=>yy fun h=> ?_
 exact eY
def si (N:Nat)(a8 p13:V7)(a6:VZ)(b0:(List (Int×Unit)))(b5:Int):Option VZ:=
 some a6
def lS (N:Nat):Nat->V7->V7->VZ->(List (Int×Unit))->Int->Option VZ
 |0,_,_,_,_,_=>none
 |b0+1,b5,b6,b7,p21,b9=>(kQ N (⟨(⟨b5,b6⟩:VR),b7,p21,b9⟩:VT)).bind fun a6=>bif a6.1 then ((iu N a6.2).bind fun a8=>(lS N b0) a8.m_.Yd a8.m_.Yc a8.Yz a8.Yq a8.YH) else (si N a6.2.m_.Yd a6.2.m_.Yc a6.2.Yz a6.2.Yq a6.2.YH)
def ma (a0:VR)(a1:VY):Option VZ:=
 (ov N a0 a1).bind fun y5=>lS N N y5.m_.Yd y5.m_.Yc y5.Yz y5.Yq y5.YH
theorem EO {N:Nat}{a0:VR}{a1:VY}{r:VZ}(h:ma N a0 a1=some r):Okc Wc 192 [.agg #[Y A1 n1 c1,Y A2 n2 c2],Y A3 n3 c3] ([bB A1 n1 c1 a0.Yd,bB A2 n2 c2 a0.Yc,aZ A3 n3 c3 a1]) (fun u post=> ∃A0 n0 c0,u=Y A0 n0 c0/\post=[fq A0 n0 c0 r]):=by
 refine bY Tryz.func192 ?_;intro B4;refine ab ?_;obtain ⟨y5,k,h⟩:=aa h;refine gD (oC (EN k)) ?_;rintro _ _ ⟨_,⟨B6,A7,n7,c7,A8,n8,c8,A9,n9,c9,g0,rfl,rfl⟩,rfl⟩;refine ab ?_;refine ai (fun s L=> ∃a6 p13 a8 b0 b5 b6 b7 b9 d0 d1 d2 d3 d4 d6 e0,si N a6 p13 a8 b0 b5=some r/\s=[(4,Y none 0 0),(5,pV B6 0)]/\L=[bB b6 b7 b9 a6,bB d0 d1 d2 p13,fq d3 d4 d6 a8,ax cj DF e0 b0,ae B6 269 [Y b6 b7 b9,Y d0 d1 d2,Y d3 d4 d6,.map (some e0),iV b5]]) ?_ ?_
 ·refine ab ?_;refine lK (fun m s L=> ∃(e1:V7) (e2:V7) (e3:VZ) (p21:(List (Int×Unit))) (e4:Int) (e5:Option Addr) (e6 e7:Nat) (e8:Option Addr) (e9 f1:Nat) (f2:Option Addr) (f3 f4:Nat) (f9:Nat),lS N m e1 e2 e3 p21 e4=some r/\s=[(4,Y none 0 0),(5,pV B6 0)]/\L=[bB e5 e6 e7 e1,bB e8 e9 f1 e2,fq f2 f3 f4 e3,ax cj DF f9 p21,ae B6 269 [Y e5 e6 e7,Y e8 e9 f1,Y f2 f3 f4,.map (some f9),iV e4]]) N ?_;intro g1
  refine fun s L=>aj fun e1=>aj fun e2=>aj fun e3=>aj fun p21=>aj fun e4=>aj fun e5=>aj fun e6=>aj fun e7=>aj fun e8=>aj fun e9=>aj fun f1=>aj fun f2=>aj fun f3=>aj fun f4=>aj fun f9=>yy fun h=> ?_
  rw [lS.eq_2] at h;refine sZ ?_;obtain ⟨g2,k,h⟩:=aa h;refine gD (oC (Bn k)) ?_;rintro _ _ ⟨_,⟨g3,g4,g5,g6,g7,g8,g9,h0,h1,h2,rfl,rfl⟩,rfl⟩;refine dI h ?_ ?_<;>intro h
  ·refine ab ?_;obtain ⟨h3,k,h⟩:=aa h;refine gD (oC (rJ k)) ?_;rintro _ _ ⟨_,⟨h4,h5,h6,h7,h8,h9,i0,i1,i2,i8,rfl,rfl⟩,rfl⟩;exact lY
  exact jY
 refine fun s L=>aj fun a6=>aj fun p13=>aj fun a8=>aj fun b0=>aj fun b5=>aj fun b6=>aj fun b7=>aj fun b9=>aj fun d0=>aj fun d1=>aj fun d2=>aj fun d3=>aj fun d4=>aj fun d6=>aj fun e0=>yy fun h=> ?_
 exact eY
def nG (a0:VR)(a1:VY):Option VZ:=
 (ma N a0 a1).bind fun y5=>(qY N y5).bind fun y7=>some y7
theorem Ga {N:Nat}{a0:VR}{a1:VY}{r:VZ}(h:nG N a0 a1=some r):Okc Wc 148 [.agg #[Y A1 n1 c1,Y A2 n2 c2],Y A3 n3 c3] ([bB A1 n1 c1 a0.Yd,bB A2 n2 c2 a0.Yc,aZ A3 n3 c3 a1]) (fun u post=> ∃A0 n0 c0,u=Y A0 n0 c0/\post=[fq A0 n0 c0 r]):=by
 refine bY Tryz.func148 ?_;intro B4
 refine LL h (fun _ k=>EO k) fun y5 A6 n6 c6 h=> ?_
 refine cC h (fun _ k=>EC k) fun y7 h=> ?_
 exact eN
def pU (N:Nat)(a6:Int->Int->σ->Option σ)(fy:(Int×Int)->σ->Option (Bool×σ))(p6:Int)(a1:VZ)(a8:Int)(b0:σ):Option σ:=
 aE (in64 (p6+1)) (a6 a8 (p6+1) b0)
def lJ (N:Nat)(b6 a6:Int->Int->σ->Option σ)(fy:(Int×Int)->σ->Option (Bool×σ))(b7 p6:Int)(a1:VZ)(a8 b0:Int)(b5:σ):Option σ:=
 aE (in64 (a8+1)) (a6 b0 (a8+1) b5)
def cK (N:Nat){σ:Type}(a6:Int->Int->σ->Option σ)(fy:(Int×Int)->σ->Option (Bool×σ))(a8 p6:Int)(a1:VZ):Nat->Int->Int->σ->Option σ
 |0,_,_,_=>none
 |b9+1,b0,b5,b6=>bif decide (b5<(a1.length:Int)) then ((ap a1 b5).bind fun c0=>bif !decide (c0.tmod 2=a8) then (lJ N a6 (cK N a6 fy a8 p6 a1 b9) fy a8 p6 a1 b5 b0 b6) else ((fy (b0,c0) b6).bind fun b7=>bif !b7.1 then (some b7.2) else (aE (in64 (b0+1)) (lJ N a6 (cK N a6 fy a8 p6 a1 b9) fy a8 p6 a1 b5 (b0+1) b7.2)))) else (pU N a6 fy p6 a1 b0 b6)
def fa (N:Nat){σ:Type}(fy:(Int×Int)->σ->Option (Bool×σ))(a1:VZ):Nat->Int->Int->σ->Option σ
 |0,_,_,_=>none
 |m4+1,p5,p6,p7=>bif decide (p6<(([0,1]:List Int).length:Int)) then ((ap ([0,1]:List Int) p6).bind fun a6=>cK N (fa N fy a1 m4) fy a6 p6 a1 N p5 0 p7) else (some p7)
def fX (a1:VZ)(fy:(Int×Int)->σ->Option (Bool×σ))(s0:σ):Option σ:=
 fa N fy a1 N 0 0 s0
theorem uU {N:Nat}{a1:VZ}{fy:(Int×Int)->σ->Option (Bool×σ)}{s0 r:σ}(h:fX N a1 fy s0=some r){G:σ->Wa}(hY:vc Wc l G (fun x=> [iV x.1,iV x.2]) fy):Okc Wc 193 [.func (.yield l) #[] #[],pV B1 0] (aB B1 99 [Y A2 n2 c2]::fH A2 n2 c2 a1::(G s0)) (fun u post=>u=.tuple #[]/\post=G r):=by
 refine bY Tryz.func193 ?_
 refine r9 (aL (R:=(jM .i64)) (vss:=[[iV 0],[iV 1]]) (xs:=[0,1]) J (Pf _ _) J J (fun _ _ hr=> .cons J (.cons J All2.nil))) fun A3 n3 c3=> ?_
 refine lK (fun m s L=> ∃(p5:Int) (p6:Int) (p7:σ),fa N fy a1 m p5 p6 p7=some r/\s=[(0,.func (.yield l) #[] #[]),(1,pV B1 0),(3,iV p5),(8,Y A3 n3 c3),(9,iV (([0,1]:List Int).length:Int)),(10,iV p6)]/\L=fq A3 n3 c3 ([0,1]:List Int)::fH A2 n2 c2 a1::aB B1 99 [Y A2 n2 c2]::(G p7)) N ?_;rintro m4 _ _ ⟨p5,p6,p7,h,rfl,rfl⟩;rw [fa.eq_2] at h;refine ab ?_;refine au ?_;refine gH J h ?_ ?_<;>intro h
 ·refine ab ?_;refine ai (fun s L=> ∃b5 b6,pU N (fa N fy a1 m4) fy p6 a1 b5 b6=some r/\s=[(0,.func (.yield l) #[] #[]),(1,pV B1 0),(3,iV b5),(8,Y A3 n3 c3),(9,iV (([0,1]:List Int).length:Int)),(10,iV p6)]/\L=fq A3 n3 c3 ([0,1]:List Int)::fH A2 n2 c2 a1::aB B1 99 [Y A2 n2 c2]::(G b6)) ?_ ?_
  ·refine ab ?_;obtain ⟨a6,c8,c9,d0,h⟩:=aM h;refine ab ?_;refine lK (fun m s L=> ∃(b0:Int) (a8:Int) (b7:σ),cK N (fa N fy a1 m4) fy a6 p6 a1 m b0 a8 b7=some r/\s=[(0,.func (.yield l) #[] #[]),(1,pV B1 0),(3,iV b0),(5,iV a6),(8,Y A3 n3 c3),(9,iV (([0,1]:List Int).length:Int)),(10,iV p6),(14,Y A2 n2 c2),(15,iV (a1.length:Int)),(16,iV a8)]/\L=fq A3 n3 c3 ([0,1]:List Int)::fH A2 n2 c2 a1::aB B1 99 [Y A2 n2 c2]::(G b7)) N ?_;rintro d1 _ _ ⟨b0,a8,b7,h,rfl,rfl⟩;rw [cK.eq_2] at h;refine ab ?_;refine au ?_;refine gH J h ?_ ?_<;>intro h
   ·refine ab ?_;refine ai (fun s L=> ∃b9 c0,lJ N (fa N fy a1 m4) (cK N (fa N fy a1 m4) fy a6 p6 a1 d1) fy a6 p6 a1 a8 b9 c0=some r/\s=[(0,.func (.yield l) #[] #[]),(1,pV B1 0),(3,iV b9),(5,iV a6),(8,Y A3 n3 c3),(9,iV (([0,1]:List Int).length:Int)),(10,iV p6),(14,Y A2 n2 c2),(15,iV (a1.length:Int)),(16,iV a8)]/\L=fq A3 n3 c3 ([0,1]:List Int)::fH A2 n2 c2 a1::aB B1 99 [Y A2 n2 c2]::(G c0)) ?_ ?_
    ·refine ab ?_;obtain ⟨d2,d3,d4,d6,h⟩:=aM h;refine sY ?_;refine dU (pf J J (by decide)) ?_;refine gH J h ?_ ?_<;>intro h
     ·exact jY
     refine sY ?_;obtain ⟨e0,k,h⟩:=aa h;refine gD (zh (a:=(b0,d2)) [fq A3 n3 c3 ([0,1]:List Int),fH A2 n2 c2 a1,aB B1 99 [Y A2 n2 c2]] hY k J J) ?_;rintro _ _ ⟨rfl,rfl⟩;refine dI h ?_ ?_<;>intro h
     ·exact eY
     refine ab ?_;obtain ⟨e1,h⟩:=ac h;exact jY
    rintro _ _ ⟨b9,c0,h,rfl,rfl⟩;refine ab ?_;obtain ⟨e2,h⟩:=ac h;exact lY
   exact jY
  rintro _ _ ⟨b5,b6,h,rfl,rfl⟩;refine ab ?_;obtain ⟨e3,h⟩:=ac h;exact lY
 exact eY
def mg (N:Nat)(a0:VZ):Option Unit:=
 some ()
theorem yp {N:Nat}{a0:VZ}{r:Unit}(h:mg N a0=some r):Okc Wc 149 [Y A1 n1 c1] ([fH A1 n1 c1 a0]) (fun u post=> ∃a6,u=.func (.func 193) #[] #[pV a6 0]/\post=[ae a6 99 [Y A1 n1 c1]]):=by
 refine bY Tryz.func149 ?_;intro B2;refine ab ?_;refine dU (eB J) ?_;exact eN
def jt (a0:VN)(a1:VZ):Option Bool:=
 (dM N a1 a0.N).bind fun y4=>some y4
theorem CA {N:Nat}{a0:VN}{a1:VZ}{r:Bool}(h:jt N a0 a1=some r):Okc Wc 197 [(aX a0),pV B1 0] ([aB B1 99 [Y A2 n2 c2],fH A2 n2 c2 a1]) (fun u post=>u=.bool r/\post=[]):=by
 refine bY Tryz.func197 ?_;intro B3
 refine cR h (fun _ k=>lu k) fun y4 h=> ?_
 exact eN
def kf (N:Nat)(ff:VN->Option Bool)(y6:VJ)(a6:VN×VN):(VY)->Option (Option Exit×VY)
 |p13=>(ff a6.1).bind fun a8=>bif a8 then (aE (ci (p13.length+([a6.1,a6.2]:List VN).length)) (some (none,p13++([a6.1,a6.2]:List VN)))) else (some (none,p13))
def xw (a0:VJ)(ff:VN->Option Bool):Option VJ:=
 (dt N a0).bind fun y6=>(mV N a0).bind fun a8=>(jA N a0 (cM (fun x st=>kf N ff y6 x st)) (none,[])).bind fun a6=>sS a6.1 (some (⟨y6.XZ,y6.Yf,y6.Ye,y6.Yg,y6.Yb,a6.2⟩:VJ)) none (fun _=>none)
theorem Hr {N:Nat}{r:VJ}(h:xw N a0 ff=some r)(hf:K1 Wc vf G (fun x=> [.agg #[iV x.XZ,iV x.N,.string x.S]]) (fun r=> .bool r) ff):Okc Wc 196 [.agg #[iV a0.XZ,iV a0.Yf,iV a0.Ye,iV a0.Yg,Y A1 n1 c1,Y A2 n2 c2],vf] (aZ A1 n1 c1 a0.Yb::aZ A2 n2 c2 a0.Ya::G) (fun u post=> ∃A0 n0 c0 A1 n1 c1,u=.agg #[iV r.XZ,iV r.Yf,iV r.Ye,iV r.Yg,Y A0 n0 c0,Y A1 n1 c1]/\post=[aC A0 n0 c0 r.Yb,aC A1 n1 c1 r.Ya]):=by
 refine bY Tryz.func196 ?_;intro B3
 refine Vi (CT J (OI hf)) fun B4=> ?_
 intro B5
 refine NA h (fun _ k=>gj k) fun y6 A7 n7 c7 A8 n8 c8 h=> ?_
 intro B9;refine sY ?_;obtain ⟨d4,k,h⟩:=aa h;refine gD (oR (wR k)) ?_;rintro _ _ ⟨_,⟨b6,rfl,rfl⟩,rfl⟩;refine ab ?_;refine gQ ?_ dl (jz 0 J);refine ab ?_;obtain ⟨b7,k,h⟩:=aa h;refine wl (en:=(fun x=> [.agg #[iV x.1.XZ,iV x.1.N,.string x.1.S],.agg #[iV x.2.XZ,iV x.2.N,.string x.2.S]])) (fun x st=>kf N ff y6 x st) (fun (st:VY) (mz:((Option Addr×Nat×Nat)))=> [ae B4 106 [vf],ae B5 45 [iV 0,iV 0,iV 0,iV 0,Y none 0 0,Y none 0 0],aC A7 n7 c7 y6.Yb,bh av 29 (.slice mz.1 mz.2.1 mz.2.2) st,ae B9 45 (gk y6 A7 n7 c7 mz.1 mz.2.1 mz.2.2)]++G) [aB b6 45 (gk a0 A1 n1 c1 A2 n2 c2),aZ A1 n1 c1 a0.Yb,aZ A2 n2 c2 a0.Ya] ([]) ((none,0,0)) J J call245.out J (fun _=>J) (fun l G hY=>(tI k hY).mono fun _ _ hh=>hh.2) ((bq av 29 _).trans (dx [1,8,9] [] [6,5,3,0,2] 10 J)) h ?_ ?_ ?_ ?_
 ·rintro l a6 p13 je sr12 ⟨a8,b0,b5⟩ h;replace h:kf N ff y6 a6 p13=some (je,sr12):=h;simp only [Cl,Xq,Xr,Xs,Xk,Xl,XX,Wy]
  refine du fun b9=> ?_
  intro c9;refine ab ?_;obtain ⟨d6,k,h⟩:=aa h;refine gD (E5 (a:=a6.1) [ae c9 29 [iV a6.2.XZ,iV a6.2.N,.string a6.2.S],ae b9 29 [iV a6.1.XZ,iV a6.1.N,.string a6.1.S],ae B4 106 [vf],ae B5 45 [iV 0,iV 0,iV 0,iV 0,Y none 0 0,Y none 0 0],aC A7 n7 c7 y6.Yb,aC a8 b0 b5 p13,ae B9 45 (gk y6 A7 n7 c7 a8 b0 b5)] hf k J J) ?_;rintro _ _ ⟨rfl,rfl⟩;refine dI h ?_ ?_<;>intro h
  ·refine ab ?_;refine gD (aL (R:=av) (vss:=[[iV a6.1.XZ,iV a6.1.N,.string a6.1.S],[iV a6.2.XZ,iV a6.2.N,.string a6.2.S]]) (xs:=[a6.1,a6.2]) J (FZ _ _ _ _ _ _) J J (fun _ _ hr=> .cons J (.cons J All2.nil))) ?_;rintro _ _ ⟨e0,e1,e2,rfl,rfl⟩;obtain ⟨d0,h⟩:=ac h
   refine r9 (aQ 6 0 J J ak J J z9 AW J J d0) fun d1 d2 d3=> ?_
   obtain ⟨rfl,rfl⟩:=XJ (XH h);exact D3 ((cS [3,4,5,6,7] 8).trans (gL (d1,d2,d3) J))
  refine ab ?_;obtain ⟨rfl,rfl⟩:=XJ (XH h);exact D3 ((cS [2,3,4,5,6] 7).trans (gL (a8,b0,b5) J))
 ·rintro ⟨a8,b0,b5⟩ h;refine rx (ae B4 106 [vf]::ae B5 45 [iV 0,iV 0,iV 0,iV 0,Y none 0 0,Y none 0 0]::aC A7 n7 c7 y6.Yb::aC a8 b0 b5 b7.2::ae B9 45 (gk y6 A7 n7 c7 a8 b0 b5)::G) J ?_;refine ab ?_;obtain rfl:=jn h;exact uB (rs:=[.cell 4 45]) (vs:=[.agg #[iV y6.XZ,iV y6.Yf,iV y6.Ye,iV y6.Yg,Y A7 n7 c7,Y a8 b0 b5]]) J (.cons (lC 1 J J agg45.out) .nil) J (Q7 [2,3] 5 J J) ⟨_,_,_,_,_,_,J,J⟩
 ·rintro ⟨a8,b0,b5⟩ h;exact az h
 rintro i ⟨a8,b0,b5⟩ h;exact az h
def nD (a0:VJ)(a1:VZ):Option VJ:=
 (vH N a0).bind fun y7=>bif !y7 then (some (⟨0,0,0,0,[],[]⟩:VJ)) else ((xw N a0 (fun x=>jt N x a1)).bind fun a6=>some a6)
theorem zL {N:Nat}{a1:VZ}{r:VJ}(h:nD N a0 a1=some r):Okc Wc 151 [.agg #[iV a0.XZ,iV a0.Yf,iV a0.Ye,iV a0.Yg,Y A1 n1 c1,Y A2 n2 c2],Y A3 n3 c3] ([aZ A1 n1 c1 a0.Yb,aZ A2 n2 c2 a0.Ya,fH A3 n3 c3 a1]) (fun u post=> ∃A0 n0 c0 A1 n1 c1,u=.agg #[iV r.XZ,iV r.Yf,iV r.Ye,iV r.Yg,Y A0 n0 c0,Y A1 n1 c1]/\post=[aC A0 n0 c0 r.Yb,aC A1 n1 c1 r.Ya]):=by
 refine bY Tryz.func151 ?_;intro B4
 refine du fun B5=> ?_
 intro B6;refine sY ?_
 refine cR h (fun _ k=>Et k) fun y7 h=> ?_
 refine gH J h ?_ ?_<;>intro h
 ·refine ab ?_;obtain rfl:=jn h;exact uB (rs:=[.cell 4 45]) (vs:=[.agg #[iV 0,iV 0,iV 0,iV 0,Y none 0 0,Y none 0 0]]) J (.cons (lC 0 J J agg45.out) .nil) J ((bq av 29 _).trans ((bq av 29 _).trans (cS [1,0] 8))) ⟨_,_,_,_,_,_,J,J⟩
 refine ab ?_;refine gE (eB J) ?_;obtain ⟨a6,k,h⟩:=aa h
 refine UA (oR (Hr k ⟨t9 J (t9 J aR),197, #[], #[pV B5 0],J,call197.out,fun _ _ hh=>CA hh⟩)) fun a8 b0 b5 b6 b7 b9=> ?_
 exact eN
def uY (a0:VJ):Option Bool:=
 (bif decide (a0.XZ=10) then ((fd N a0).bind fun y5=>some y5) else (some false)).bind fun b4=>some b4
theorem H5 {N:Nat}{r:Bool}(h:uY N a0=some r):Okc Wc 198 [.agg #[iV a0.XZ,iV a0.Yf,iV a0.Ye,iV a0.Yg,Y A1 n1 c1,Y A2 n2 c2]] ([aZ A1 n1 c1 a0.Yb,aZ A2 n2 c2 a0.Ya]) (fun u post=>u=.bool r/\post=[]):=by
 refine bY Tryz.func198 ?_;intro B3;refine ab ?_
 refine qo 3 9 6 h (fun _ g4 h=> ?_) fun b4 h=> ?_
 ·refine cR h (fun _ k=>ko k) fun y5 h=> ?_
  exact gY
 exact eY
theorem FE {r:Bool}: ∀v post,((fun (u:Value) (post:Wa)=>u=.bool r/\post=[])) v post-> ∀c∈post,mT c:=by
 rintro _ _ ⟨rfl,rfl⟩;exact aR
def vt (a0:VJ):Option VJ:=
 (cu N a0.Yb).bind fun y5=>(ap a0.Ya 0).bind fun x7=>some (⟨a0.XZ,a0.Yf,a0.Ye,a0.Yg,y5,([x7]:List VN)⟩:VJ)
theorem FF {N:Nat}{r:VJ}(h:vt N a0=some r):Okc Wc 199 [.agg #[iV a0.XZ,iV a0.Yf,iV a0.Ye,iV a0.Yg,Y A1 n1 c1,Y A2 n2 c2]] ([aZ A1 n1 c1 a0.Yb,aZ A2 n2 c2 a0.Ya]) (fun u post=> ∃A0 n0 c0 A1 n1 c1,u=.agg #[iV r.XZ,iV r.Yf,iV r.Ye,iV r.Yg,Y A0 n0 c0,Y A1 n1 c1]/\post=[aC A0 n0 c0 r.Yb,aC A1 n1 c1 r.Ya]):=by
 refine bY Tryz.func199 ?_;intro B3
 refine du fun B4=> ?_
 refine LL h (fun _ k=>fw k) fun y5 A6 n6 c6 h=> ?_
 obtain ⟨x7,a6,a8,b0,h⟩:=aM h;refine ab ?_
 refine r9 (aL (R:=av) (vss:=[[iV x7.XZ,iV x7.N,.string x7.S]]) (xs:=[x7]) J (rX _ _ _) J J (fun _ _ hr=> .cons J All2.nil)) fun A8 n8 c8=> ?_
 exact eN
theorem Da {r:VJ}: ∀v post,((fun (u:Value) (post:Wa)=> ∃A0 n0 c0 A1 n1 c1,u=.agg #[iV r.XZ,iV r.Yf,iV r.Ye,iV r.Yg,Y A0 n0 c0,Y A1 n1 c1]/\post=[aC A0 n0 c0 r.Yb,aC A1 n1 c1 r.Ya])) v post-> ∀c∈post,mT c:=by
 rintro _ _ ⟨_,_,_,_,_,_,rfl,rfl⟩;exact t9 rR (t9 rR (aR))
def gK (N:Nat){σ:Type}(fy:(Int×VY)->σ->Option (Bool×σ))(a1:VJ):Nat->Int->σ->Option σ
 |0,_,_=>none
 |m4+1,p5,p6=>aE (in64 (p5+4)) (bif decide (p5+4<=(a1.Ya.length:Int)) then (aE (in64 (p5+4)) (aE (in64 (p5+4)) (aE ((0:Int)<=p5/\(0:Int)<=p5+4/\p5.toNat<=(p5+4).toNat/\(p5+4).toNat<=a1.Ya.length) ((fy (p5,(a1.Ya.drop p5.toNat).take ((p5+4).toNat - p5.toNat)) p6).bind fun a6=>bif !a6.1 then (some a6.2) else (aE (in64 (p5+4)) ((gK N fy a1 m4) (p5+4) a6.2)))))) else (some p6))
def og (a1:VJ)(fy:(Int×VY)->σ->Option (Bool×σ))(s0:σ):Option σ:=
 gK N fy a1 N 1 s0
theorem yx {N:Nat}{a1:VJ}{fy:(Int×VY)->σ->Option (Bool×σ)}{s0 r:σ}(h:og N a1 fy s0=some r){G:σ->Wa}(hY:wj Wc l G (fun (x:Int×VY) vs cs=> ∃A1 n1 c1,vs=[iV x.1,Y A1 n1 c1]/\cs=[aZ A1 n1 c1 x.2]) fy):Okc Wc 227 [.func (.yield l) #[] #[],pV B1 0] (aB B1 45 (gk a1 A2 n2 c2 A3 n3 c3)::aZ A2 n2 c2 a1.Yb::aZ A3 n3 c3 a1.Ya::(G s0)) (fun u post=>u=.tuple #[]/\post=G r):=by
 refine bY Tryz.func227 ?_;refine lK (fun m s L=> ∃(p5:Int) (p6:σ),gK N fy a1 m p5 p6=some r/\s=[(0,.func (.yield l) #[] #[]),(1,pV B1 0),(3,iV p5)]/\L=aZ A2 n2 c2 a1.Yb::aZ A3 n3 c3 a1.Ya::aB B1 45 (gk a1 A2 n2 c2 A3 n3 c3)::(G p6)) N ?_;rintro m4 _ _ ⟨p5,p6,h,rfl,rfl⟩;rw [gK.eq_2] at h;refine sZ ?_;obtain ⟨q7,h⟩:=ac h;refine dI h ?_ ?_<;>intro h
 ·refine sY ?_;obtain ⟨q9,h⟩:=ac h;refine ab ?_;obtain ⟨b7,h⟩:=ac h;refine ab ?_;obtain ⟨a6,h⟩:=ac h;refine PC 1 J (l:=p5.toNat) (h:=(p5+4).toNat) a6.2.2.1 a6.2.2.2 ?_;rintro a8 b0 b5 b6;refine gR (Lg 2 J b6 J z9 size29.out J (by rw [Wt a6.1];rfl) (by rw [Wt a6.2.1];rfl) (by rw [Wt a6.2.1];rfl) a6.2.2.1 a6.2.2.2) ?_;obtain ⟨b9,k,h⟩:=aa h;refine gD (GM (a:=(p5,(a1.Ya.drop p5.toNat).take ((p5+4).toNat - p5.toNat))) [aZ a8 b0 b5 ((a1.Ya.drop p5.toNat).take ((p5+4).toNat - p5.toNat)),aZ A2 n2 c2 a1.Yb,aZ A3 n3 c3 a1.Ya,aB B1 45 (gk a1 A2 n2 c2 A3 n3 c3)] hY k J J ⟨_,_,_,J,J⟩ (Id 0 J J)) ?_;rintro _ _ ⟨rfl,rfl⟩;refine dI h ?_ ?_<;>intro h
  ·exact eY
  refine ab ?_;obtain ⟨c0,h⟩:=ac h;exact lY
 exact eY
def qQ (N:Nat)(a0:VJ):Option Unit:=
 some ()
theorem Cb {N:Nat}{r:Unit}(h:qQ N a0=some r):Okc Wc 200 [.agg #[iV a0.XZ,iV a0.Yf,iV a0.Ye,iV a0.Yg,Y A1 n1 c1,Y A2 n2 c2]] ([aZ A1 n1 c1 a0.Yb,aZ A2 n2 c2 a0.Ya]) (fun u post=> ∃a6,u=.func (.func 227) #[] #[pV a6 0]/\post=[ae a6 45 (gk a0 A1 n1 c1 A2 n2 c2)]):=by
 refine bY Tryz.func200 ?_;intro B3;refine ab ?_;refine dU (eB J) ?_;exact eN
theorem zJ {A1:Option Addr}{n1 c1:Nat}{A2:Option Addr}{n2 c2:Nat}: ∀v post,((fun (u:Value) (post:Wa)=> ∃a6,u=.func (.func 227) #[] #[pV a6 0]/\post=[ae a6 45 [iV a0.XZ,iV a0.Yf,iV a0.Ye,iV a0.Yg,Y A1 n1 c1,Y A2 n2 c2]])) v post-> ∀c∈post,mT c:=by
 rintro _ _ ⟨_,rfl,rfl⟩;exact t9 BZ (aR)
def nK (N:Nat)(a6:Int×VY)(a0:VJ)(c9:V8)(d0:VJ)(a8 c8:VY)(b0 b5:Int)(b6:ByteArray):Option (Option Exit×VY×VY):=
 (ap a6.2 0).bind fun b7=>(ap a6.2 1).bind fun b9=>(ap a6.2 3).bind fun c0=>aE (ci (a8.length+([b7,b9,(⟨b0,b5,b6⟩:VN),c0]:List VN).length)) (some (none,(a8++([b7,b9,(⟨b0,b5,b6⟩:VN),c0]:List VN),c8)))
def fZ (a0:VJ)(b0:V8)(b7:VJ)(a6:Int×VY):(VY×VY)->Option (Option Exit×(VY×VY))
 |(b6,b5)=>(ap a6.2 0).bind fun c9=>bif !((lk b0 c9.N).getD false) then ((ap a0.Ya 0).bind fun b9=>(ap a6.2 1).bind fun c0=>(ap a6.2 3).bind fun c8=>aE (ci (b5.length+([b9,c0,c8]:List VN).length)) (some (none,(b6,b5++([b9,c0,c8]:List VN))))) else ((ap a6.2 2).bind fun a8=>(bif decide (a8.XZ=7) then (some (!((lk b0 a8.N).getD false))) else (some false)).bind fun d0=>bif d0 then (nK N a6 a0 b0 b7 b6 b5 0 0 (⟨#[]⟩)) else (nK N a6 a0 b0 b7 b6 b5 a8.XZ a8.N a8.S))
def qS (a0:VJ)(b0:V8):Option (VJ×VY):=
 (vt N a0).bind fun a6=>(qQ N a0).bind fun b5=>(og N a0 (cM (fun x st=>fZ N a0 b0 a6 x st)) (none,(a6.Ya,[]))).bind fun a8=>sS a8.1 (some ((⟨a6.XZ,a6.Yf,a6.Ye,a6.Yg,a6.Yb,a8.2.1⟩:VJ),a8.2.2)) none (fun _=>none)
def iW (N:Nat)(a1:VZ)(a0:VJ):Nat->Int->V8->Option (VJ×VY)
 |0,_,_=>none
 |b0+1,a6,a8=>bif decide (a6<(a1.length:Int)) then ((ap a1 a6).bind fun b5=>aE (in64 (a6+1)) ((iW N a1 a0 b0) (a6+1) (wT a8 b5 true))) else (qS N a0 a8)
def kY (a0:VJ)(a1:VZ):Option (VJ×VY):=
 (uY N a0).bind fun y6=>bif !y6 then (some ((⟨0,0,0,0,[],[]⟩:VJ),[])) else (iW N a1 a0 N 0 ([]:V8))
theorem wZ {N:Nat}{a1:VZ}{r:VJ×VY}(h:kY N a0 a1=some r):Okc Wc 152 [.agg #[iV a0.XZ,iV a0.Yf,iV a0.Ye,iV a0.Yg,Y A1 n1 c1,Y A2 n2 c2],Y A3 n3 c3] ([aZ A1 n1 c1 a0.Yb,aZ A2 n2 c2 a0.Ya,fH A3 n3 c3 a1]) (fun u post=> ∃A0 n0 c0 A1 n1 c1 A2 n2 c2,u=.tuple #[.agg #[iV r.1.XZ,iV r.1.Yf,iV r.1.Ye,iV r.1.Yg,Y A0 n0 c0,Y A1 n1 c1],Y A2 n2 c2]/\post=[aC A0 n0 c0 r.1.Yb,aC A1 n1 c1 r.1.Ya,aC A2 n2 c2 r.2]):=by
 refine Gf Tryz.func152 J J ?_;simp only [uz];refine B ?_
 refine gB (CT J J) fun B4=> ?_
 refine gB (dz zero45.out J) fun B5=> ?_
 refine B ?_;refine au ?_;refine B ?_;refine gR (jh (us:=(gk a0 A1 n1 c1 A2 n2 c2)) 1 J J agg45.out J) ?_;obtain ⟨y6,k,h⟩:=aa h;refine gV (kV (H5 k) J (t9 (jU (i:=2) J J) (t9 (jU (i:=3) J J) aR)) FE) ?_;refine B ?_;refine gH J h ?_ ?_<;>intro h
 ·refine B ?_;refine gE (ny J bld_45_.out) ?_;refine gW (ar (us:=[iV 0,iV 0,iV 0,iV 0,Y none 0 0,Y none 0 0]) (cs':=[iV 0,iV 0,iV 0,iV 0,Y none 0 0,Y none 0 0]) 0 J J J J size45.out J J J) ?_;refine B ?_;obtain rfl:=jn h;exact uB (rs:=[.cell 4 45,.tmp 5]) (vs:=[.agg #[iV 0,iV 0,iV 0,iV 0,Y none 0 0,Y none 0 0],Y none 0 0]) J (.cons (lC 0 J J agg45.out) (.cons (qB J) .nil)) J ((bq av 29 _).trans ((bq av 29 _).trans ((bq av 29 _).trans (cS [2,1,0] 8)))) ⟨_,_,_,_,_,_,_,_,_,J,J⟩
 refine B ?_;refine gR (sj 4 J bS J Vn) ?_;refine gD (Dw (ek:=cj) (ev:=fv) J Vv) ?_;rintro _ _ ⟨a8,rfl,rfl⟩
 refine gB (dz zero184.out J) fun d2=> ?_
 refine gW (ar (us:=[.map (some a8)]) (cs':=[.map (some a8)]) 0 J J J J size184.out J J J) ?_;refine B ?_;refine ai (fun s L=> ∃d4,qS N a0 d4=some r/\s=[(2,pV B4 0),(4,pV B5 0),(5,Y none 0 0),(6,pV d2 0)]/\L=[aZ A1 n1 c1 a0.Yb,aZ A2 n2 c2 a0.Ya,ae B4 45 (gk a0 A1 n1 c1 A2 n2 c2),ae B5 45 [iV 0,iV 0,iV 0,iV 0,Y none 0 0,Y none 0 0],ax cj fv a8 d4,ae d2 184 [.map (some a8)]]) ?_ ?_
 ·refine B ?_;refine gR (sj 6 J bS J Vn) ?_;refine B ?_;refine ii (fun m s L=> ∃g1 f4,iW N a1 a0 m g1 f4=some r/\s=[(2,pV B4 0),(4,pV B5 0),(5,Y none 0 0),(6,pV d2 0),(21,Y A3 n3 c3),(22,iV (a1.length:Int)),(23,iV g1)]/\L=[fH A3 n3 c3 a1,aZ A1 n1 c1 a0.Yb,aZ A2 n2 c2 a0.Ya,ae B4 45 (gk a0 A1 n1 c1 A2 n2 c2),ae B5 45 [iV 0,iV 0,iV 0,iV 0,Y none 0 0,Y none 0 0],ax cj fv a8 f4,ae d2 184 [.map (some a8)]]) N _ _ ⟨0,([]:V8),h,J,J⟩ sA (cS [6,4,5,3,2,1,0] 7) ?_;rintro (_|k4) _ _ ⟨g1,f4,h,rfl,rfl⟩
  ·exact az h
  rw [iW.eq_2] at h;refine B ?_;refine au ?_;refine gH J h ?_ ?_<;>intro h
  ·refine B ?_;refine au ?_;refine B ?_;obtain ⟨g7,g8,g9,h0,h⟩:=aM h;refine gR (dp 0 J bS J J Vn size3.out g8 g9) ?_;refine gR (kR (u:=iV g7) 0 J bS J h0 ya (fun _ _ _ h=>by rw [show _=_ from h];rfl)) ?_;refine B ?_;refine gW (iE (a:=g7) (b:=true) 5 J J J J Vv (dX Ex)) ?_;refine Lw ?_;refine B ?_;obtain ⟨k2,h⟩:=ac h;refine gE (fF J J k2.1 k2.2) ?_;refine B ?_;exact ⟨k4,_,_,V2 _,⟨g1+1,wT f4 g7 true,h,J,J⟩,sA,cS [0,1,2,3,4,5,6] 7⟩
  refine B ?_;exact ⟨_,_,⟨f4,h,J,J⟩,sA,cS [1,2,3,4,5,6] 7⟩
 rintro _ _ ⟨d4,h,rfl,rfl⟩;refine B ?_;refine gR (jh (us:=(gk a0 A1 n1 c1 A2 n2 c2)) 2 J J agg45.out J) ?_;obtain ⟨a6,k,h⟩:=aa h;refine gD (kV (FF k) J (t9 (jU (i:=0) J J) (t9 (jU (i:=1) J J) aR)) Da) ?_;rintro _ _ ⟨_,⟨b0,b5,b6,h1,h2,h3,rfl,rfl⟩,rfl⟩
 refine gB (dz zero45.out J) fun e5=> ?_
 refine gW (ar (us:=(gk a6 b0 b5 b6 h1 h2 h3)) (cs':=(gk a6 b0 b5 b6 h1 h2 h3)) 0 J J J J size45.out J J J) ?_;refine B ?_
 refine gB (dz zero43.out J) fun e6=> ?_
 refine B ?_;refine au ?_;refine B ?_;refine gR (jh (us:=(gk a0 A1 n1 c1 A2 n2 c2)) 6 J J agg45.out J) ?_;obtain ⟨m2,k,h⟩:=aa h;refine gD (kV (Cb k) J (t9 (jU (i:=4) J J) (t9 (jU (i:=5) J J) aR)) zJ) ?_;rintro _ _ ⟨_,⟨k5,rfl,rfl⟩,rfl⟩;refine Aj ?_;refine AB ?_;refine gQ ?_ dl (jz 0 J);obtain ⟨g2,k,h⟩:=aa h;refine Hm (R:=(fun (x:Int×VY) vs cs=> ∃A1 n1 c1,vs=[iV x.1,Y A1 n1 c1]/\cs=[aZ A1 n1 c1 x.2])) (fun x st=>fZ N a0 d4 a6 x st) (fun (st:VY×VY) (mz:((Option Addr×Nat×Nat)×(Option Addr×Nat×Nat)))=> [aZ A1 n1 c1 a0.Yb,aZ A2 n2 c2 a0.Ya,ae B4 45 (gk a0 A1 n1 c1 A2 n2 c2),ae B5 45 [iV 0,iV 0,iV 0,iV 0,Y none 0 0,Y none 0 0],ax cj fv a8 d4,ae d2 184 [.map (some a8)],aC b0 b5 b6 a6.Yb,bh av 29 (.slice mz.1.1 mz.1.2.1 mz.1.2.2) st.1,ae e5 45 (gk a6 b0 b5 b6 mz.1.1 mz.1.2.1 mz.1.2.2),bh av 29 (.slice mz.2.1 mz.2.2.1 mz.2.2.2) st.2,ae e6 43 [.slice mz.2.1 mz.2.2.1 mz.2.2.2]]) [aB k5 45 (gk a0 A1 n1 c1 A2 n2 c2),aZ A1 n1 c1 a0.Yb,aZ A2 n2 c2 a0.Ya] ((a6.Ya,[])) (((h1,h2,h3),(none,0,0))) J J call227.out J (by rintro _ _ _ ⟨_,_,_,rfl,rfl⟩;rfl) (fun l G hY=>(yx k hY).mono fun _ _ hh=>hh.2) ((bq av 29 _).trans (dx [1,6,7] [] [6,7,8,9,10,11,4,5,3,0,2] 12 J)) h ?_ ?_ ?_ ?_
 ·rintro l f9 ⟨g3,g0⟩ je sr28 ⟨⟨c9,d0,d1⟩,⟨b7,b9,c8⟩⟩ h _ _ ⟨e2,e3,e4,rfl,rfl⟩;replace h:fZ N a0 d4 a6 f9 (g3,g0)=some (je,sr28):=h;simp only [Cl,Xq,Xr,Xs,Xk,Xl,XX,Wy];refine B ?_;refine au ?_;refine dY [0,1] ?_;obtain ⟨k6,h4,h5,k7,h⟩:=aM h;refine zY [2] ?_;refine zR 3 J (ox 0 J bS J (toNat_lt h4 h5) Ce) ?_;refine zY [4] ?_;refine zR 5 J (EP (a:=k6.N) (z:=false) 5 J wD J J Vv (dX Ex) zero4.out) ?_;refine zX [6] ?_;refine AB ?_;refine gH J h ?_ ?_<;>intro h
  ·refine au ?_;obtain ⟨d6,h6,h7,h8,h⟩:=aM h;obtain ⟨e0,h9,i0,i1,h⟩:=aM h;obtain ⟨e1,i2,i8,j0,h⟩:=aM h;refine gQ (t:=[(2,pV B4 0),(4,pV B5 0),(5,Y none 0 0),(6,pV d2 0),(9,pV e5 0),(10,pV e6 0),(12,Y e2 e3 e4)]) ?_ lj (ah _)
   refine ig I 12 [] [0,11] [43,44,45,46,47,48,49,50,51,52,53,54] [[],[],[1],[2],[3],[],[5],[6],[],[8],[9],[4,7,10]] [aV (Y b7 b9 c8),
aV (pV B4 5),
aV (Y A2 n2 c2),
aV (dh (Y A2 n2 c2) ((0:Int).toNat) 3 0),
aV (.agg #[iV d6.XZ,iV d6.N,.string d6.S]),
aV (Y e2 e3 e4),
aV (dh (Y e2 e3 e4) ((1:Int).toNat) 3 0),
aV (.agg #[iV e0.XZ,iV e0.N,.string e0.S]),
aV (Y e2 e3 e4),
aV (dh (Y e2 e3 e4) ((3:Int).toNat) 3 0),
aV (.agg #[iV e1.XZ,iV e1.N,.string e1.S]),
aX3 (fun (e7:Option Addr) (e8 e9:Nat)=> Y e7 e8 e9) (fun e7 e8 e9=> [aC e7 e8 e9 ([d6,e0,e1]:List VN)])] [] (ah _) (kU) I rfl rfl ?_ ?_ ?_
   ·exact kT
   ·refine aH J ?_ ?_
    ·refine xr (aL (R:=av) (vss:=[[iV d6.XZ,iV d6.N,.string d6.S],[iV e0.XZ,iV e0.N,.string e0.S],[iV e1.XZ,iV e1.N,.string e1.S]]) (xs:=[d6,e0,e1]) J (Pg _ _ _ _ _ _ _ _ _) J J (fun _ _ hr=> .cons J (.cons J (.cons J All2.nil)))) J ?_;rintro _ _ ⟨k8,k9,l0,rfl,rfl⟩;exact Ic k8 k9 l0 (ah _)
    refine aH J ?_ ?_
    ·exact wk (iv (us:=[iV e1.XZ,iV e1.N,.string e1.S]) 0 J bS J j0 agg29.out (fun _ _ _ h=>by rw [show _=_ from h];rfl)) J (ku J (ah _))
    refine qR (dp 0 J bS J J z9 size29.out i2 i8) ?_;refine qE (ao J) ?_;refine aH J ?_ ?_
    ·exact wk (iv (us:=[iV e0.XZ,iV e0.N,.string e0.S]) 0 J bS J i1 agg29.out (fun _ _ _ h=>by rw [show _=_ from h];rfl)) J (ku J (ah _))
    refine qR (dp 0 J bS J J z9 size29.out h9 i0) ?_;refine qE (ao J) ?_;refine aH J ?_ ?_
    ·exact wk (iv (us:=[iV d6.XZ,iV d6.N,.string d6.S]) 2 J bS J h8 agg29.out (fun _ _ _ h=>by rw [show _=_ from h];rfl)) J (ku J (ah _))
    refine qR (dp 2 J bS J J z9 size29.out h6 h7) ?_;refine qR (bM 3 J J vU J) ?_;refine qE (jW J zr) ?_;refine qR (bM 11 J J vU J) ?_;exact di
   intro e7 e8 e9;refine nB (t:=[(43,Y b7 b9 c8),(54,Y e7 e8 e9),(2,pV B4 0),(4,pV B5 0),(5,Y none 0 0),(6,pV d2 0),(9,pV e5 0),(10,pV e6 0),(12,Y e2 e3 e4)]) (L':=[aC e7 e8 e9 ([d6,e0,e1]:List VN),aZ e2 e3 e4 f9.2,aZ A1 n1 c1 a0.Yb,aZ A2 n2 c2 a0.Ya,ae B4 45 (gk a0 A1 n1 c1 A2 n2 c2),ae B5 45 [iV 0,iV 0,iV 0,iV 0,Y none 0 0,Y none 0 0],ax cj fv a8 d4,ae d2 184 [.map (some a8)],aC b0 b5 b6 a6.Yb,aC c9 d0 d1 g3,ae e5 45 (gk a6 b0 b5 b6 c9 d0 d1),aC b7 b9 c8 g0,ae e6 43 [Y b7 b9 c8]]) ?_ lj (ah _);obtain ⟨l1,h⟩:=ac h;refine qu 12 J I (aQ 11 0 J J ak J J z9 AW J J l1) J J J ?_;rintro _ _ ⟨j1,j2,j3,rfl,rfl⟩;refine yg ?_;refine r7 13 J I (ar (us:=[Y j1 j2 j3]) (cs':=[Y j1 j2 j3]) 12 J J J J size43.out J J J) J J ?_;rintro _ _ rfl;refine lh I ?_;refine B ?_;obtain ⟨rfl,rfl⟩:=XJ (XH h);exact D3 ((cS [2,3,4,5,6,7,8,9,10,11,12] 13).trans (gL ((c9,d0,d1),(j1,j2,j3)) J))
  refine B ?_;obtain ⟨d3,j4,j5,j6,h⟩:=aM h;refine gR (dp 0 J bS J J z9 size29.out j4 j5) ?_;refine gR (iv (us:=[iV d3.XZ,iV d3.N,.string d3.S]) 0 J bS J j6 agg29.out (fun _ _ _ h=>by rw [show _=_ from h];rfl)) ?_
  refine gB (dz zero29.out J) fun j7=> ?_
  refine gW (ar (us:=[iV d3.XZ,iV d3.N,.string d3.S]) (cs':=[iV d3.XZ,iV d3.N,.string d3.S]) 0 J J J J size29.out J J J) ?_;refine B ?_;refine ai (fun s L=> ∃f1 f2 f3,nK N f9 a0 d4 a6 g3 g0 f1 f2 f3=some (je,sr28)/\s=[(2,pV B4 0),(4,pV B5 0),(5,Y none 0 0),(6,pV d2 0),(9,pV e5 0),(10,pV e6 0),(12,Y e2 e3 e4),(13,pV j7 0)]/\L=[aZ e2 e3 e4 f9.2,aZ A1 n1 c1 a0.Yb,aZ A2 n2 c2 a0.Ya,ae B4 45 (gk a0 A1 n1 c1 A2 n2 c2),ae B5 45 [iV 0,iV 0,iV 0,iV 0,Y none 0 0,Y none 0 0],ax cj fv a8 d4,ae d2 184 [.map (some a8)],aC b0 b5 b6 a6.Yb,aC c9 d0 d1 g3,ae e5 45 (gk a6 b0 b5 b6 c9 d0 d1),aC b7 b9 c8 g0,ae e6 43 [Y b7 b9 c8],ae j7 29 [iV f1,iV f2,.string f3]]) ?_ ?_
  ·refine B ?_
   refine Lv 6 68 62 h (fun _ k3 h=> ?_) (fun _ k3 h=> ?_) fun m3 h=> ?_
   ·refine B ?_;refine sG (EP (a:=d3.N) (z:=false) 6 J wD J J Vv (dX Ex) zero4.out) J (el k3 J) J ?_;refine B ?_;obtain rfl:=jn h;exact li sA (cS [0,1,2,3,4,5,6,7,8,9,10,11,12] 13)
   ·refine B ?_;obtain rfl:=jn h;exact li sA (cS [0,1,2,3,4,5,6,7,8,9,10,11,12] 13)
   refine B ?_;refine gH J h ?_ ?_<;>intro h
   ·refine ke ?_;refine gE (ny J bld_29_.out) ?_;refine gW (ar (us:=[iV 0,iV 0,.string (⟨#[]⟩)]) (cs':=[iV 0,iV 0,.string (⟨#[]⟩)]) 0 J J J J size29.out J J J) ?_;refine Lw ?_;refine B ?_;exact ⟨_,_,⟨0,0,⟨#[]⟩,h,J,J⟩,sA,cS [1,2,3,4,5,6,7,8,9,10,11,12,0] 13⟩
   refine B ?_;exact ⟨_,_,⟨d3.XZ,d3.N,d3.S,h,J,J⟩,sA,cS [1,2,3,4,5,6,7,8,9,10,11,12,0] 13⟩
  rintro _ _ ⟨f1,f2,f3,h,rfl,rfl⟩;refine bm I ([aZ e2 e3 e4 f9.2,aZ A1 n1 c1 a0.Yb,aZ A2 n2 c2 a0.Ya,ae B4 45 (gk a0 A1 n1 c1 A2 n2 c2),ae B5 45 [iV 0,iV 0,iV 0,iV 0,Y none 0 0,Y none 0 0],ax cj fv a8 d4,ae d2 184 [.map (some a8)],aC b0 b5 b6 a6.Yb,ae e5 45 (gk a6 b0 b5 b6 c9 d0 d1),aC b7 b9 c8 g0,ae e6 43 [Y b7 b9 c8],ae j7 29 [iV f1,iV f2,.string f3]]) (cS [0,1,2,3,4,5,6,7,9,10,11,12] 13) ?_;refine zY [0,1,2] ?_;obtain ⟨g4,l2,l3,l4,h⟩:=aM h;refine zY [3,4,5] ?_;obtain ⟨g5,l5,l6,l7,h⟩:=aM h;refine zY [6,7,8,9] ?_;obtain ⟨g6,l8,l9,m0,h⟩:=aM h;refine zY [10,11] ?_
  refine yQ 12 J (aL (R:=av) (vss:=[[iV g4.XZ,iV g4.N,.string g4.S],[iV g5.XZ,iV g5.N,.string g5.S],[iV f1,iV f2,.string f3],[iV g6.XZ,iV g6.N,.string g6.S]]) (xs:=[g4,g5,(⟨f1,f2,f3⟩:VN),g6]) J (JM _ _ _ _ _ _ _ _ _ _ _ _) J J (fun _ _ hr=> .cons J (.cons J (.cons J (.cons J All2.nil))))) fun m4 m5 m6=> ?_
  obtain ⟨m1,h⟩:=ac h
  refine yQ 13 J (aQ 9 0 J J ak J J z9 AW J J m1) fun j8 j9 k0=> ?_
  refine zY [14] ?_;refine oV 15 J I I (ar (us:=[Y j8 j9 k0]) (cs':=(gk a6 b0 b5 b6 j8 j9 k0)) 10 J J J J size43.out J J J) ?_;rintro _ _ rfl;refine fg I ?_;refine Re ?_;obtain ⟨rfl,rfl⟩:=XJ (XH h);exact D3 ((cS [2,3,4,5,6,7,8,9,10,11,12] 14).trans (gL ((j8,j9,k0),(b7,b9,c8)) J))
 ·rintro ⟨⟨c9,d0,d1⟩,⟨b7,b9,c8⟩⟩ h;refine rx ([aZ A1 n1 c1 a0.Yb,aZ A2 n2 c2 a0.Ya,ae B4 45 (gk a0 A1 n1 c1 A2 n2 c2),ae B5 45 [iV 0,iV 0,iV 0,iV 0,Y none 0 0,Y none 0 0],ax cj fv a8 d4,ae d2 184 [.map (some a8)],aC b0 b5 b6 a6.Yb,aC c9 d0 d1 g2.2.1,ae e5 45 (gk a6 b0 b5 b6 c9 d0 d1),aC b7 b9 c8 g2.2.2,ae e6 43 [Y b7 b9 c8]]) J ?_;refine B ?_;refine au ?_;refine bm I ([aZ A1 n1 c1 a0.Yb,aZ A2 n2 c2 a0.Ya,ae B4 45 (gk a0 A1 n1 c1 A2 n2 c2),ax cj fv a8 d4,ae d2 184 [.map (some a8)],aC b0 b5 b6 a6.Yb,aC c9 d0 d1 g2.2.1,ae e5 45 (gk a6 b0 b5 b6 c9 d0 d1),aC b7 b9 c8 g2.2.2,ae e6 43 [Y b7 b9 c8]]) (cS [0,1,2,4,5,6,7,8,9,10] 11) ?_;refine zY [0,1] ?_;refine zO 2 J (ar (us:=(gk a6 b0 b5 b6 c9 d0 d1)) (cs':=(gk a6 b0 b5 b6 c9 d0 d1)) 3 J J J J size45.out J J J) ?_;rintro _ _ rfl;refine bf ?_;refine zX [3] ?_;refine B ?_;obtain rfl:=jn h;exact uB (rs:=[.cell 4 45,.tmp 5]) (vs:=[.agg #[iV a6.XZ,iV a6.Yf,iV a6.Ye,iV a6.Yg,Y b0 b5 b6,Y c9 d0 d1],Y b7 b9 c8]) J (.cons (lC 3 J J agg45.out) (.cons (qB J) .nil)) J (cS [6,7,9] 11) ⟨_,_,_,_,_,_,_,_,_,J,J⟩
 ·rintro ⟨⟨c9,d0,d1⟩,⟨b7,b9,c8⟩⟩ h;exact az h
 rintro i ⟨⟨c9,d0,d1⟩,⟨b7,b9,c8⟩⟩ h;exact az h
end Go.Proofs.YthhiddkljcacaaaGreat
namespace Go.Proofs.YthhiddkljcacaaaGreat
variable (N:Nat){a1:Int}{l:Nat}{σ:Type}{a0:VJ}{ff:VN->Option Bool}{vf:Value}{G:Wa}
variable {A1 A2 A3 A4 A5 A6 A7:Option Addr}{B1 B2 B3 B8 M2 M6 M9 c1 c2 c3 c4 c5 c6 c7 n1 n2 n3 n4 n5 n6 n7:Nat}
open Go.RowKit Asn
set_option maxRecDepth 20000
def yq (N:Nat)(p4:VY):Option VY:=
 some p4
def oK (N:Nat)(a8:VY->Int->Option VY)(a0:VY)(p7:Int)(a1:V9)(p6:VY)(a6:VN)(p13:Int):Option VY:=
 aE (ci (p6.length+([(⟨a6.XZ,p13,a6.S⟩:VN)]:List VN).length)) (aE (in64 (p7+1)) (a8 (p6++([(⟨a6.XZ,p13,a6.S⟩:VN)]:List VN)) (p7+1)))
def gA (N:Nat)(a0:VY)(a1:V9):Nat->VY->Int->Option VY
 |0,_,_=>none
 |m5+1,p6,p7=>bif decide (p7<(a0.length:Int)) then ((ap a0 p7).bind fun a6=>(bif (lk a1 a6.N).isSome then ((bif decide (a6.XZ=7) then (some true) else (some (decide (a6.XZ=9)))).bind fun a8=>some a8) else (some false)).bind fun b0=>bif b0 then (oK N (gA N a0 a1 m5) a0 p7 a1 p6 a6 ((lk a1 a6.N).getD 0)) else (oK N (gA N a0 a1 m5) a0 p7 a1 p6 a6 a6.N)) else (yq N p6)
def d8 (a0:VY)(a1:V9):Option VY:=
 gA N a0 a1 N [] 0
theorem pW {N:Nat}{a0:VY}{a1:V9}{r:VY}(h:d8 N a0 a1=some r):Okc Wc 153 [Y A1 n1 c1,.map (some M2)] ([aZ A1 n1 c1 a0,nc cj sP M2 a1]) (fun u post=> ∃A0 n0 c0,u=Y A0 n0 c0/\post=[aC A0 n0 c0 r]):=by
 refine Gf Tryz.func153 J J ?_;simp only [uz];refine B ?_;refine ai (fun s L=> ∃p4 A4 n4 c4,yq N p4=some r/\s=[(4,Y none 0 0),(5,Y A4 n4 c4)]/\L=[aC A4 n4 c4 p4]) ?_ ?_
 ·refine B ?_;refine gR (sj 0 J bS J z9) ?_;refine B ?_;refine ii (fun m s L=> ∃p6 p7 A6 n6 c6,gA N a0 a1 m p6 p7=some r/\s=[(1,.map (some M2)),(4,Y none 0 0),(5,Y A6 n6 c6),(10,Y A1 n1 c1),(11,iV (a0.length:Int)),(12,iV p7)]/\L=[nc cj sP M2 a1,aC A6 n6 c6 p6,aZ A1 n1 c1 a0]) N _ _ ⟨[],0,none,0,0,h,J,J⟩ sA ((bq av 29 _).trans (cS [2,0,1] 3)) ?_;rintro (_|m5) _ _ ⟨p6,p7,A6,n6,c6,h,rfl,rfl⟩
  ·exact az h
  rw [gA.eq_2] at h;refine B ?_;refine au ?_;refine gH J h ?_ ?_<;>intro h
  ·refine B ?_;refine au ?_;refine B ?_;obtain ⟨a6,a8,b0,b5,h⟩:=aM h;refine gR (dp 2 J bS J J z9 size29.out a8 b0) ?_;refine gR (iv (us:=[iV a6.XZ,iV a6.N,.string a6.S]) 2 J bS J b5 agg29.out (fun _ _ _ h=>by rw [show _=_ from h];rfl)) ?_
   refine gB (dz zero29.out J) fun b6=> ?_
   refine gW (ar (us:=[iV a6.XZ,iV a6.N,.string a6.S]) (cs':=[iV a6.XZ,iV a6.N,.string a6.S]) 0 J J J J size29.out J J J) ?_;refine B ?_;refine ai (fun s L=> ∃p13,oK N (gA N a0 a1 m5) a0 p7 a1 p6 a6 p13=some r/\s=[(1,.map (some M2)),(4,Y none 0 0),(5,Y A6 n6 c6),(7,pV b6 0),(10,Y A1 n1 c1),(11,iV (a0.length:Int)),(12,iV p7)]/\L=[nc cj sP M2 a1,aC A6 n6 c6 p6,aZ A1 n1 c1 a0,ae b6 29 [iV a6.XZ,iV p13,.string a6.S]]) ?_ ?_
   ·refine B ?_;refine gR (ua (a:=a6.N) (z:=0) 1 J Sb J J Vy (dX Ex) zero3.out) ?_;refine B ?_
    refine Lv 9 33 24 h (fun _ b9 h=> ?_) (fun _ b9 h=> ?_) fun d3 h=> ?_
    ·refine B ?_
     refine Lv 4 32 28 h (fun _ c8 h=> ?_) (fun _ c8 h=> ?_) fun d4 h=> ?_
     ·refine B ?_;obtain rfl:=jn h;exact li sA (cS [0,1,2,3] 4)
     ·refine B ?_;obtain rfl:=jn h;exact li sA (cS [0,1,2,3] 4)
     refine B ?_;obtain rfl:=jn h;exact li sA (cS [0,1,2,3] 4)
    ·refine B ?_;obtain rfl:=jn h;exact li sA (cS [0,1,2,3] 4)
    refine B ?_;refine gH J h ?_ ?_<;>intro h
    ·refine B ?_;refine gW (ar (us:=[iV ((lk a1 a6.N).getD 0)]) (cs':=[iV a6.XZ,iV ((lk a1 a6.N).getD 0),.string a6.S]) 0 J J J J size3.out J J J) ?_;refine B ?_;exact ⟨_,_,⟨(lk a1 a6.N).getD 0,h,J,J⟩,sA,cS [1,2,3,0] 4⟩
    refine B ?_;exact ⟨_,_,⟨a6.N,h,J,J⟩,sA,cS [1,2,3,0] 4⟩
   rintro _ _ ⟨p13,h,rfl,rfl⟩;refine B ?_;refine gR (jh (us:=[iV a6.XZ,iV p13,.string a6.S]) 3 J J agg29.out J) ?_;refine gD (aL (R:=av) (vss:=[[iV a6.XZ,iV p13,.string a6.S]]) (xs:=[(⟨a6.XZ,p13,a6.S⟩:VN)]) J (rX _ _ _) J J (fun _ _ hr=> .cons J All2.nil)) ?_;rintro _ _ ⟨d6,e0,e1,rfl,rfl⟩;obtain ⟨c9,h⟩:=ac h;refine gD (aQ 2 0 J J ak J J z9 AW J J c9) ?_;rintro _ _ ⟨d0,d1,d2,rfl,rfl⟩;refine Lw ?_;refine B ?_;obtain ⟨b7,h⟩:=ac h;refine gE (fF J J b7.1 b7.2) ?_;refine B ?_;exact ⟨m5,_,_,V2 _,⟨p6++([(⟨a6.XZ,p13,a6.S⟩:VN)]:List VN),p7+1,d0,d1,d2,h,J,J⟩,sA,cS [1,2,3] 5⟩
  refine B ?_;exact ⟨_,_,⟨p6,A6,n6,c6,h,J,J⟩,sA,cS [1] 3⟩
 rintro _ _ ⟨p4,A4,n4,c4,h,rfl,rfl⟩;refine B ?_;obtain rfl:=jn h;exact Ai J J (cS [0] 1) ⟨_,_,_,J,J⟩
def jT (a1:VY)(a0:VR)(a6:V7)(d1:VZ)(a8:Option Exit×V9)(c8:VY)(b0 b5 b6 b7:Int)(c9 d0:VY):Option (Option Exit×V7×VY):=
 (d8 N c9 a8.2).bind fun b9=>(d8 N d0 a8.2).bind fun c0=>aE (ci (a6.length+([(⟨b0,b5,b6,b7,b9,c0⟩:VJ)]:List VJ).length)) (some (none,(a6++([(⟨b0,b5,b6,b7,b9,c0⟩:VJ)]:List VJ),c8)))
def mI (a1:VY)(a0:VR)(b5:VZ)(b7:Option Exit×V9)(c0:Int×Int):(V7×VY)->Option (Option Exit×(V7×VY))
 |(b9,b6)=>(lG N a0 c0.2).bind fun a6=>bif decide (a6.XZ=8) then ((nD N a6 b5).bind fun b0=>jT N a1 a0 b9 b5 b7 b6 b0.XZ b0.Yf b0.Ye b0.Yg b0.Yb b0.Ya) else (bif decide (a6.XZ=10) then ((kY N a6 b5).bind fun a8=>aE (ci (b6.length+a8.2.length)) (jT N a1 a0 b9 b5 b7 (b6++a8.2) a8.1.XZ a8.1.Yf a8.1.Ye a8.1.Yg a8.1.Yb a8.1.Ya)) else (jT N a1 a0 b9 b5 b7 b6 a6.XZ a6.Yf a6.Ye a6.Yg a6.Yb a6.Ya))
def mJ (N:Nat)(a1:VY)(a0:VR)(a8:VZ)(a6:Int×Int):(V9)->Option (Option Exit×V9)
 |p21=>aE (in64 (2*a6.1)) (aE (in64 ((2*a6.1)+2)) (some (none,wT p21 a6.2 ((2*a6.1)+2))))
def oM (a0:VR)(a1:VY):Option (VR×VY×VY×Int):=
 (mh N a0 a1).bind fun y7=>bif !decide (y7=0) then (some ((⟨[],[]⟩:VR),[],[],y7)) else ((nG N a0 a1).bind fun a6=>(mg N a6).bind fun b7=>(fX N a6 (cM (fun x st=>mJ N a1 a0 a6 x st)) (none,([]:V9))).bind fun a8=>sS a8.1 ((mg N a6).bind fun b9=>(fX N a6 (cM (fun x st=>mI N a1 a0 a6 a8 x st)) (none,([],[]))).bind fun b0=>sS b0.1 ((d8 N a1 a8.2).bind fun b5=>(d8 N b0.2.2 a8.2).bind fun b6=>some ((⟨[],b0.2.1⟩:VR),b5,b6,0)) none (fun _=>none)) none (fun _=>none))
def kH (a1:VY)(a0:VR)(a6:V7)(d1:VZ)(a8:Option Exit×V9)(c8:VY)(b0 b5 b6 b7:Int)(c9 d0:VY):Option (Option Exit×V7×VY):=
 (d8 N c9 a8.2).bind fun b9=>(d8 N d0 a8.2).bind fun c0=>aE (ci (a6.length+([(⟨b0,b5,b6,b7,b9,c0⟩:VJ)]:List VJ).length)) (some (none,(a6++([(⟨b0,b5,b6,b7,b9,c0⟩:VJ)]:List VJ),c8)))
def kI (a1:VY)(a0:VR)(b5:VZ)(b7:Option Exit×V9)(c0:Int×Int):(V7×VY)->Option (Option Exit×(V7×VY))
 |(b9,b6)=>(lG N a0 c0.2).bind fun a6=>bif decide (a6.XZ=8) then ((nD N a6 b5).bind fun b0=>kH N a1 a0 b9 b5 b7 b6 b0.XZ b0.Yf b0.Ye b0.Yg b0.Yb b0.Ya) else (bif decide (a6.XZ=10) then ((kY N a6 b5).bind fun a8=>aE (ci (b6.length+a8.2.length)) (kH N a1 a0 b9 b5 b7 (b6++a8.2) a8.1.XZ a8.1.Yf a8.1.Ye a8.1.Yg a8.1.Yb a8.1.Ya)) else (kH N a1 a0 b9 b5 b7 b6 a6.XZ a6.Yf a6.Ye a6.Yg a6.Yb a6.Ya))
def kJ (N:Nat)(a1:VY)(a0:VR)(a8:VZ)(a6:Int×Int):(V9)->Option (Option Exit×V9)
 |p21=>aE (in64 (2*a6.1)) (aE (in64 ((2*a6.1)+2)) (some (none,wT p21 a6.2 ((2*a6.1)+2))))
def cZ (a0:VR)(a1:VY):Option ((VR×VY×VY×Int) ⊕ (VR×VY×VY)):=
 (mh N a0 a1).bind fun y7=>bif !decide (y7=0) then (some (.inl ((⟨[],[]⟩:VR),[],[],y7))) else ((nG N a0 a1).bind fun a6=>(mg N a6).bind fun b7=>(fX N a6 (cM (fun x st=>kJ N a1 a0 a6 x st)) (none,([]:V9))).bind fun a8=>sS a8.1 ((mg N a6).bind fun b9=>(fX N a6 (cM (fun x st=>kI N a1 a0 a6 a8 x st)) (none,([],[]))).bind fun b0=>sS b0.1 ((d8 N a1 a8.2).bind fun b5=>(d8 N b0.2.2 a8.2).bind fun b6=>some (.inr ((⟨[],b0.2.1⟩:VR),b5,b6))) none (fun _=>none)) none (fun _=>none))
theorem ul {N:Nat}{a0:VR}{a1:VY}{r:((VR×VY×VY×Int) ⊕ (VR×VY×VY))}(h:cZ N a0 a1=some r):Okc Wc 99 [.agg #[Y A1 n1 c1,Y A2 n2 c2],Y A3 n3 c3] ([aZ A3 n3 c3 a1,cL A1 n1 c1 a0.Yd,cL A2 n2 c2 a0.Yc]) (fun u post=>PO (fun (r:VR×VY×VY×Int)=> ∃c8 c9 d0 d1 d2 d3 d4 d6 e0 e1 e2 e3,u=.tuple #[.agg #[Y c8 c9 d0,Y d1 d2 d3],Y d4 d6 e0,Y e1 e2 e3,iV r.2.2.2]/\post=[cL c8 c9 d0 r.1.Yd,cL d1 d2 d3 r.1.Yc,aC d4 d6 e0 r.2.1,aC e1 e2 e3 r.2.2.1,cL A1 n1 c1 a0.Yd,cL A2 n2 c2 a0.Yc]) (fun (r:VR×VY×VY)=> ∃c8 c9 d0 d1 d2 d3 d4 d6 e0 e1 e2 e3,u=.tuple #[.agg #[Y c8 c9 d0,Y d1 d2 d3],Y d4 d6 e0,Y e1 e2 e3,iV 0]/\post=[cL c8 c9 d0 r.1.Yd,cL d1 d2 d3 r.1.Yc,aC d4 d6 e0 r.2.1,aC e1 e2 e3 r.2.2,cL A1 n1 c1 a0.Yd,cL A2 n2 c2 a0.Yc]) r):=by
 refine bY Tryz.func99 ?_;intro B4
 refine du fun B5=> ?_
 intro B6;refine sY ?_
 refine cR h (fun _ k=>Fm k) fun y7 h=> ?_
 refine gH J h ?_ ?_<;>intro h
 ·refine ab ?_;obtain rfl:=jn h;exact uB (rs:=[.cell 4 125,.tmp 5,.cell 6 43,.tmp 7]) (vs:=[.agg #[Y none 0 0,Y none 0 0],Y none 0 0,Y none 0 0,iV y7]) J (.cons (lC 1 J J agg125.out) (.cons (qB J) (.cons (HD 0 J J vU) (.cons (qB J) .nil)))) J ((bq ei 45 _).trans ((bq ei 45 _).trans ((bq av 29 _).trans ((bq av 29 _).trans (cS [3,2,1,0,8,9] 10))))) ⟨_,_,_,_,_,_,_,_,_,_,_,_,J,J⟩
 refine LL h (fun _ k=>Ga k) fun b6 a6 a8 b0 h=> ?_
 intro e7;refine ab ?_;refine gD (ug (ek:=cj) (ev:=sP)) ?_;rintro _ _ ⟨b5,rfl,rfl⟩
 refine du fun e8=> ?_
 refine sZ ?_;obtain ⟨l4,k,h⟩:=aa h;refine gD (oR (yp k)) ?_;rintro _ _ ⟨_,⟨j5,rfl,rfl⟩,rfl⟩;refine ab ?_;refine gQ ?_ dl (jz 0 J);refine gQ ?_ dl (bL 4 J);refine ab ?_;obtain ⟨f4,k,h⟩:=aa h;refine wl (en:=(fun x=> [iV x.1,iV x.2])) (fun x st=>kJ N a1 a0 b6 x st) (fun (st:V9) (mz:Unit)=> [aZ A3 n3 c3 a1,cL A1 n1 c1 a0.Yd,cL A2 n2 c2 a0.Yc,ae B4 125 [Y A1 n1 c1,Y A2 n2 c2],ae B5 125 [Y none 0 0,Y none 0 0],ae B6 43 [Y none 0 0],fH a6 a8 b0 b6,ae e7 99 [Y a6 a8 b0],ax cj sP b5 st,ae e8 207 [.map (some b5)]]) [aB j5 99 [Y a6 a8 b0],fH a6 a8 b0 b6] (([]:V9)) (()) J J call193.out J (fun _=>J) (fun l G hY=>(uU k hY).mono fun _ _ hh=>hh.2) (dx [0,4] [] [8,9,10,7,6,5,4,3,2,1] 11 J) h ?_ ?_ ?_ ?_
 ·rintro l h9 p21 je sr20 _ h;replace h:kJ N a1 a0 b6 h9 p21=some (je,sr20):=h;simp only [Cl,Xq,Xr,Xs,Xk,Xl,XX,Wy];refine ab ?_;obtain ⟨j3,h⟩:=ac h;refine gE (nw J J j3.1 j3.2) ?_;obtain ⟨l5,h⟩:=ac h;refine ab ?_;refine Gl (iE (a:=h9.2) (b:=(2*h9.1)+2) 8 J J J J Vy (dX Ex)) ?_;obtain ⟨rfl,rfl⟩:=XJ (XH h);exact D3 ((cS [0,1,2,3,4,5,6,7,8,9] 10).trans (gL () J))
 ·rintro _ h;refine rx ([aZ A3 n3 c3 a1,cL A1 n1 c1 a0.Yd,cL A2 n2 c2 a0.Yc,ae B4 125 [Y A1 n1 c1,Y A2 n2 c2],ae B5 125 [Y none 0 0,Y none 0 0],ae B6 43 [Y none 0 0],fH a6 a8 b0 b6,ae e7 99 [Y a6 a8 b0],ax cj sP b5 f4.2,ae e8 207 [.map (some b5)]]) J ?_;refine sY ?_;obtain ⟨l6,k,h⟩:=aa h;refine gD (oR (yp k)) ?_;rintro _ _ ⟨_,⟨j6,rfl,rfl⟩,rfl⟩;refine ab ?_;refine gQ ?_ dl (jz 0 J);obtain ⟨j4,k,h⟩:=aa h;refine wl (en:=(fun x=> [iV x.1,iV x.2])) (fun x st=>kI N a1 a0 b6 f4 x st) (fun (st:V7×VY) (mz:((Option Addr×Nat×Nat)×(Option Addr×Nat×Nat)))=> [aZ A3 n3 c3 a1,cL A1 n1 c1 a0.Yd,cL A2 n2 c2 a0.Yc,ae B4 125 [Y A1 n1 c1,Y A2 n2 c2],bh ei 45 (.slice mz.1.1 mz.1.2.1 mz.1.2.2) st.1,ae B5 125 [Y none 0 0,.slice mz.1.1 mz.1.2.1 mz.1.2.2],bh av 29 (.slice mz.2.1 mz.2.2.1 mz.2.2.2) st.2,ae B6 43 [.slice mz.2.1 mz.2.2.1 mz.2.2.2],fH a6 a8 b0 b6,ae e7 99 [Y a6 a8 b0],ax cj sP b5 f4.2,ae e8 207 [.map (some b5)]]) [aB j6 99 [Y a6 a8 b0],fH a6 a8 b0 b6] (([],[])) (((none,0,0),(none,0,0))) J J call193.out J (fun _=>J) (fun l G hY=>(uU k hY).mono fun _ _ hh=>hh.2) ((bq ei 45 _).trans ((bq av 29 _).trans (dx [2,9] [] [3,4,5,6,1,7,0,8,9,10,11,12] 13 J))) h ?_ ?_ ?_ ?_
  ·rintro l j7 ⟨h5,j8⟩ je sr27 ⟨⟨b7,b9,c0⟩,⟨h2,h3,h4⟩⟩ h;replace h:kI N a1 a0 b6 f4 j7 (h5,j8)=some (je,sr27):=h;simp only [Cl,Xq,Xr,Xs,Xk,Xl,XX,Wy]
   refine NA h (fun _ k=>xU k) fun l7 l8 l9 m0 m1 m2 m3 h=> ?_
   intro e9;refine ab ?_;refine ai (fun s L=> ∃h6 f9 g0 g1 g2 h7 h8 g6 g7 g8 g9 h0 h1 g3 g4 g5,kH N a1 a0 h5 b6 f4 h6 f9 g0 g1 g2 h7 h8=some (je,sr27)/\s=[(1,Y A3 n3 c3),(2,pV B4 0),(4,pV B5 0),(5,Y none 0 0),(6,pV B6 0),(7,iV 0),(9,pV e7 0),(10,pV e8 0),(15,pV e9 0)]/\L=[aZ A3 n3 c3 a1,cL A1 n1 c1 a0.Yd,cL A2 n2 c2 a0.Yc,ae B4 125 [Y A1 n1 c1,Y A2 n2 c2],cL b7 b9 c0 h5,ae B5 125 [Y none 0 0,Y b7 b9 c0],aC g6 g7 g8 h6,ae B6 43 [Y g6 g7 g8],fH a6 a8 b0 b6,ae e7 99 [Y a6 a8 b0],ax cj sP b5 f4.2,ae e8 207 [.map (some b5)],aC g9 h0 h1 h7,aC g3 g4 g5 h8,ae e9 45 [iV f9,iV g0,iV g1,iV g2,Y g9 h0 h1,Y g3 g4 g5]]) ?_ ?_
   ·refine dI h ?_ ?_<;>intro h
    ·refine NA h (fun _ k=>zL k) fun m4 m5 m6 m7 m8 m9 n0 h=> ?_
     exact jN
    refine dI h ?_ ?_<;>intro h
    ·refine ab ?_;obtain ⟨n8,k,h⟩:=aa h
     refine TP (oR (wZ k)) fun n9 o0 o1 o2 o3 o4 o5 p1 p2=> ?_
     obtain ⟨j9,h⟩:=ac h
     refine r9 (aQ 12 2 J J ak J J z9 AW J J j9) fun p3 p4 p5=> ?_
     exact jN
    exact jY
   refine fun s L=>aj fun h6=>aj fun f9=>aj fun g0=>aj fun g1=>aj fun g2=>aj fun h7=>aj fun h8=>aj fun g6=>aj fun g7=>aj fun g8=>aj fun g9=>aj fun h0=>aj fun h1=>aj fun g3=>aj fun g4=>aj fun g5=>yy fun h=> ?_
   refine au ?_;obtain ⟨i0,i1,h⟩:=aa h;obtain ⟨i2,i8,h⟩:=aa h;refine gQ (t:=[(1,Y A3 n3 c3),(2,pV B4 0),(4,pV B5 0),(5,Y none 0 0),(6,pV B6 0),(7,iV 0),(9,pV e7 0),(10,pV e8 0),(15,pV e9 0)]) ?_ lj (ah _)
   refine ig I 9 [] [3,7,8] [62,63,64,65,66,67,68,69,70] [[],[0],[],[1,2],[],[4],[],[5,6],[]] [aV (pV e9 4),
aV (Y g9 h0 h1),
aV (.map (some b5)),
aX3 (fun (e4:Option Addr) (e5 e6:Nat)=> Y e4 e5 e6) (fun e4 e5 e6=> [aC e4 e5 e6 i0]),
aV (pV e9 5),
aV (Y g3 g4 g5),
aV (.map (some b5)),
aX3 (fun (f1:Option Addr) (f2 f3:Nat)=> Y f1 f2 f3) (fun f1 f2 f3=> [aC f1 f2 f3 i2]),
aV (pV e9 4)] [] (ah _) (kU) I rfl rfl ?_ ?_ ?_
   ·exact kT
   ·refine qE (jW J H7) ?_;refine aH J ?_ ?_
    ·refine xr (oR (pW i8)) J ?_;rintro _ _ ⟨_,⟨k0,k2,k3,rfl,rfl⟩,rfl⟩;exact Ic k0 k2 k3 (ah _)
    refine qR (bM 11 J J Kt J) ?_;refine qR (bM 14 J J vU J) ?_;refine qE (jW J zr) ?_;refine aH J ?_ ?_
    ·refine xr (oR (pW i1)) J ?_;rintro _ _ ⟨_,⟨k4,k5,k6,rfl,rfl⟩,rfl⟩;exact Ic k4 k5 k6 (ah _)
    refine qR (bM 11 J J Kt J) ?_;refine qR (bM 14 J J vU J) ?_;refine qE (jW J H7) ?_;exact di
   intro e4 e5 e6 f1 f2 f3;refine nB (t:=[(65,Y e4 e5 e6),(69,Y f1 f2 f3),(70,pV e9 4),(1,Y A3 n3 c3),(2,pV B4 0),(4,pV B5 0),(5,Y none 0 0),(6,pV B6 0),(7,iV 0),(9,pV e7 0),(10,pV e8 0),(15,pV e9 0)]) (L':=[aC e4 e5 e6 i0,aC f1 f2 f3 i2,aZ A3 n3 c3 a1,cL A1 n1 c1 a0.Yd,cL A2 n2 c2 a0.Yc,ae B4 125 [Y A1 n1 c1,Y A2 n2 c2],cL b7 b9 c0 h5,ae B5 125 [Y none 0 0,Y b7 b9 c0],aC g6 g7 g8 h6,ae B6 43 [Y g6 g7 g8],fH a6 a8 b0 b6,ae e7 99 [Y a6 a8 b0],ax cj sP b5 f4.2,ae e8 207 [.map (some b5)],aC g9 h0 h1 h7,aC g3 g4 g5 h8,ae e9 45 [iV f9,iV g0,iV g1,iV g2,Y g9 h0 h1,Y g3 g4 g5]]) ?_ lj (ah _);refine r7 9 J I (ar (us:=[Y e4 e5 e6]) (cs':=[iV f9,iV g0,iV g1,iV g2,Y e4 e5 e6,Y g3 g4 g5]) 16 J J J J size43.out J J J) J J ?_;rintro _ _ rfl;refine D4 10 J I (jW J zr) J J J ?_;refine r7 11 J I (ar (us:=[Y f1 f2 f3]) (cs':=[iV f9,iV g0,iV g1,iV g2,Y e4 e5 e6,Y f1 f2 f3]) 16 J J J J size43.out J J J) J J ?_;rintro _ _ rfl;refine yg ?_;refine lh I ?_;refine ab ?_;refine r8 (bL 0 J) ?_;refine r8 (bL 1 J) ?_
   refine gD (aL (R:=ei) (vss:=[[iV f9,iV g0,iV g1,iV g2,Y e4 e5 e6,Y f1 f2 f3]]) (xs:=[(⟨f9,g0,g1,g2,i0,i2⟩:VJ)]) J (wh _ _ _ _ _ _ _ _ _ _) J J (fun _ _ hr=> .cons (⟨_,_,_,_,_,_,J,hr 0 _ J J,hr 1 _ J J⟩) All2.nil)) ?_;rintro _ _ ⟨p6,p7,p8,rfl,rfl⟩;obtain ⟨k7,h⟩:=ac h
   refine r9 (aQ 7 0 J J ak J J Vo Iv J J k7) fun k8 k9 l0=> ?_
   obtain ⟨rfl,rfl⟩:=XJ (XH h);exact D3 ((cS [3,4,5,6,7,8,9,10,11,12,13,14] 18).trans (gL ((k8,k9,l0),(g6,g7,g8)) J))
  ·rintro ⟨⟨b7,b9,c0⟩,⟨h2,h3,h4⟩⟩ h;refine rx ([aZ A3 n3 c3 a1,cL A1 n1 c1 a0.Yd,cL A2 n2 c2 a0.Yc,ae B4 125 [Y A1 n1 c1,Y A2 n2 c2],cL b7 b9 c0 j4.2.1,ae B5 125 [Y none 0 0,Y b7 b9 c0],aC h2 h3 h4 j4.2.2,ae B6 43 [Y h2 h3 h4],fH a6 a8 b0 b6,ae e7 99 [Y a6 a8 b0],ax cj sP b5 f4.2,ae e8 207 [.map (some b5)]]) J ?_;refine ab ?_;refine dY [0,1,2,4,5] ?_;obtain ⟨q0,k,h⟩:=aa h
   refine yQ 3 J (oR (pW k)) fun l1 l2 l3=> ?_
   obtain ⟨q1,k,h⟩:=aa h
   refine yQ 6 J (oR (pW k)) fun j0 j1 j2=> ?_
   refine zO 7 J (ar (us:=[Y none 0 0,Y b7 b9 c0]) (cs':=[Y none 0 0,Y b7 b9 c0]) 7 J J J J size125.out J J J) ?_;rintro _ _ rfl;refine bf ?_;refine zY [8] ?_;refine oV 9 J I I (ar (us:=[Y j0 j1 j2]) (cs':=[Y j0 j1 j2]) 9 J J J J size43.out J J J) ?_;rintro _ _ rfl;refine zX [10] ?_;refine ab ?_;obtain rfl:=jn h;exact uB (rs:=[.cell 4 125,.tmp 5,.cell 6 43,.tmp 7]) (vs:=[.agg #[Y none 0 0,Y b7 b9 c0],Y l1 l2 l3,Y j0 j1 j2,iV 0]) J (.cons (lC 7 J J agg125.out) (.cons (qB J) (.cons (HD 9 J J vU) (.cons (qB J) .nil)))) J ((bq ei 45 _).trans (cS [0,7,2,1,4,5] 15)) ⟨_,_,_,_,_,_,_,_,_,_,_,_,J,J⟩
  ·rintro ⟨⟨b7,b9,c0⟩,⟨h2,h3,h4⟩⟩ h;exact az h
  rintro i ⟨⟨b7,b9,c0⟩,⟨h2,h3,h4⟩⟩ h;exact az h
 ·rintro _ h;exact az h
 rintro i _ h;exact az h
def nr (a0:VY)(a1:VU):Option ((VR×VY×VY×Int) ⊕ (VR×VY×VY)):=
 (cZ N a1.m_ a0).bind fun a6=>zy a6 (fun y11_0=>some (.inl (y11_0.1,y11_0.2.1,y11_0.2.2.1,y11_0.2.2.2))) (fun y11_1=>some (.inr (y11_1.1,y11_1.2.1,y11_1.2.2)))
theorem co {N:Nat}{a0:VY}{a1:VU}{r:((VR×VY×VY×Int) ⊕ (VR×VY×VY))}(h:nr N a0 a1=some r):Okc Wc 98 [Y A1 n1 c1,pV B2 0] ([aZ A1 n1 c1 a0,aB B2 60 [pV B3 0],ae B3 128 [Y A4 n4 c4,Y A5 n5 c5,Y A6 n6 c6,Y A7 n7 c7,pV B8 0],cL A4 n4 c4 a1.m_.Yd,cL A5 n5 c5 a1.m_.Yc,aC A6 n6 c6 a1.Ym,aC A7 n7 c7 a1.Yt,ae B8 186 [.map (some M9)],ax cj fv M9 a1.Ys.at_]) (fun u post=>PO (fun (r:VR×VY×VY×Int)=> ∃a6 a8 b0 b5 b6 b7 b9 c0 c8 c9 d0 d1,u=.tuple #[.agg #[Y a6 a8 b0,Y b5 b6 b7],Y b9 c0 c8,Y c9 d0 d1,iV r.2.2.2]/\post=[cL a6 a8 b0 r.1.Yd,cL b5 b6 b7 r.1.Yc,aC b9 c0 c8 r.2.1,aC c9 d0 d1 r.2.2.1,cL A4 n4 c4 a1.m_.Yd,cL A5 n5 c5 a1.m_.Yc,aC A6 n6 c6 a1.Ym,aC A7 n7 c7 a1.Yt,ae B3 128 [Y A4 n4 c4,Y A5 n5 c5,Y A6 n6 c6,Y A7 n7 c7,pV B8 0],ae B8 186 [.map (some M9)],ax cj fv M9 a1.Ys.at_]) (fun (r:VR×VY×VY)=> ∃a6 a8 b0 b5 b6 b7 b9 c0 c8 c9 d0 d1,u=.tuple #[.agg #[Y a6 a8 b0,Y b5 b6 b7],Y b9 c0 c8,Y c9 d0 d1,iV 0]/\post=[cL a6 a8 b0 r.1.Yd,cL b5 b6 b7 r.1.Yc,aC b9 c0 c8 r.2.1,aC c9 d0 d1 r.2.2,cL A4 n4 c4 a1.m_.Yd,cL A5 n5 c5 a1.m_.Yc,aC A6 n6 c6 a1.Ym,aC A7 n7 c7 a1.Yt,ae B3 128 [Y A4 n4 c4,Y A5 n5 c5,Y A6 n6 c6,Y A7 n7 c7,pV B8 0],ae B8 186 [.map (some M9)],ax cj fv M9 a1.Ys.at_]) r):=by
 refine bY Tryz.func98 ?_;intro d4;refine ab ?_;obtain ⟨d3,d2,h⟩:=aa h;rcases d3 with y11_0|y11_1
 ·replace h:=DQ h
  refine Ti (oC (ul d2)) fun d6 e0 e1 e2 e3 e4 e5 e6 e7 e8 e9 f1=> ?_
  exact eN
 replace h:=DP h
 refine Ti (oC (ul d2)) fun f2 f3 f4 f9 g0 g1 g2 g3 g4 g5 g6 g7=> ?_
 exact eN
def mD (a0:VQ):Option VZ:=
 (yn N a0.at_).bind fun y3=>(sb N a0.at_).bind fun y5=>some y5
theorem Ap {N:Nat}{a0:VQ}{r:VZ}(h:mD N a0=some r):Okc Wc 74 [pV B1 0] ([aB B1 186 [.map (some M2)],nc cj fv M2 a0.at_]) (fun u post=> ∃A0 n0 c0,u=Y A0 n0 c0/\post=[fq A0 n0 c0 r]):=by
 refine bY Tryz.func74 ?_;refine sZ ?_;refine dU (dZ J Vr) ?_;refine cE J ?_;refine ab ?_;obtain ⟨y3,k,h⟩:=aa h;refine gD (oR (HR k)) ?_;rintro _ _ ⟨_,⟨B4,rfl,rfl⟩,rfl⟩
 refine LL h (fun _ k=>CF k) fun y5 A6 n6 c6 h=> ?_
 exact eN
def lT (N:Nat)(a0:VN):Option (Int×Bool):=
 (bif decide (a0.XZ=7) then (some true) else (some (decide (a0.XZ=9)))).bind fun b2=>some (a0.N,b2)
theorem vY {N:Nat}{a0:VN}{r:Int×Bool}(h:lT N a0=some r):Okc Wc 202 [(aX a0)] ([]) (fun u post=>u=.tuple #[iV r.1,.bool r.2]/\post=[]):=by
 refine bY Tryz.func202 ?_;intro B1;refine ab ?_;refine dY [0,1,2,3,4,5,10] ?_
 refine yJ [6,7,8,9] 1 9 13 h (fun _ g2 h rest=> ?_) (fun _ g2 h rest=> ?_) fun b2 h=> ?_
 ·refine yY [6,7,8,9] ?_;exact yS rest h
 ·refine yY [6,7,8,9] ?_;exact yS rest h
 refine zX [11] ?_;exact eY
def pR (a0:VN)(a1:VR):Option Bool:=
 (lT N a0).bind fun y5=>(bif y5.2 then ((jL N a1 y5.1).bind fun y7=>some (!y7)) else (some false)).bind fun b6=>some b6
theorem DZ {N:Nat}{a0:VN}{a1:VR}{r:Bool}(h:pR N a0 a1=some r):Okc Wc 201 [(aX a0),pV B1 0] ([aB B1 125 [Y A2 n2 c2,Y A3 n3 c3],bB A2 n2 c2 a1.Yd,bB A3 n3 c3 a1.Yc]) (fun u post=>u=.bool r/\post=[]):=by
 refine bY Tryz.func201 ?_;intro B4
 refine cR h (fun _ k=>vY k) fun y5 h=> ?_
 refine qo 5 17 12 h (fun _ g6 h=> ?_) fun b6 h=> ?_
 ·refine cR h (fun _ k=>lF k) fun y7 h=> ?_
  exact gY
 exact eY
def nP (N:Nat)(ff:VN->Option Bool):Option Int:=
 some (-1)
def dy (N:Nat)(ff:VN->Option Bool)(a0:VY):Nat->Int->Option Int
 |0,_=>none
 |m3+1,p4=>bif decide (p4<(a0.length:Int)) then ((ap a0 p4).bind fun x6=>(ff x6).bind fun y7=>bif y7 then (some p4) else (aE (in64 (p4+1)) ((dy N ff a0 m3) (p4+1)))) else (nP N ff)
def kh (a0:VY)(ff:VN->Option Bool):Option Int:=
 dy N ff a0 N 0
theorem uK {N:Nat}{a0:VY}{r:Int}(h:kh N a0 ff=some r)(hf:K1 Wc vf G (fun x=> [.agg #[iV x.XZ,iV x.N,.string x.S]]) (fun r=> .bool r) ff):Okc Wc 113 [Y A1 n1 c1,vf] (aZ A1 n1 c1 a0::G) (fun u post=>u=iV r/\post=[]):=by
 refine bY Tryz.func113 ?_;refine ai (fun s L=>nP N ff=some r/\s=[(4,iV 0)]/\L=G) ?_ ?_
 ·refine ab ?_;refine lK (fun m s L=> ∃(p4:Int),dy N ff a0 m p4=some r/\s=[(0,Y A1 n1 c1),(1,vf),(4,iV 0),(7,iV (a0.length:Int)),(8,iV p4)]/\L=aZ A1 n1 c1 a0::G) N ?_;rintro m3 _ _ ⟨p4,h,rfl,rfl⟩;rw [dy.eq_2] at h;refine ab ?_;refine au ?_;refine gH J h ?_ ?_<;>intro h
  ·refine sY ?_;obtain ⟨x6,a6,a8,b0,h⟩:=aM h;refine ab ?_;obtain ⟨y7,k,h⟩:=aa h;refine gD (E5 (a:=x6) [aZ A1 n1 c1 a0] hf k J J) ?_;rintro _ _ ⟨rfl,rfl⟩;refine dI h ?_ ?_<;>intro h
   ·exact eY
   refine ab ?_;obtain ⟨q9,h⟩:=ac h;exact lY
  exact jY
 rintro _ _ ⟨h,rfl,rfl⟩;exact eY
theorem sU {r:Int}: ∀v post,((fun (u:Value) (post:Wa)=>u=iV r/\post=[])) v post-> ∀c∈post,mT c:=by
 rintro _ _ ⟨rfl,rfl⟩;exact aR
def cY (a0:VY)(ff:VN->Option Bool):Option Bool:=
 (kh N a0 ff).bind fun y2=>some (decide (0<=y2))
theorem sd {N:Nat}{a0:VY}{r:Bool}(h:cY N a0 ff=some r)(hf:K1 Wc vf G (fun x=> [.agg #[iV x.XZ,iV x.N,.string x.S]]) (fun r=> .bool r) ff):Okc Wc 67 [Y A1 n1 c1,vf] (aZ A1 n1 c1 a0::G) (fun u post=>u=.bool r/\post=[]):=by
 refine bY Tryz.func67 ?_;obtain ⟨y2,k,h⟩:=aa h;refine C7 (kV (uK k hf) J (t9 (jU (i:=0) J J) (C1 (E:=[aZ A1 n1 c1 a0]) hf.1)) sU) ?_;exact eN
def jf (N:Nat)(p3:V7):Option V7:=
 some p3
def mY (a1:Int):Option V7:=
 bif decide (a1<0) then none else (aE (in64 (0 - 0)) (aE (in64 (a1 - (0 - 0))) (bif decide (0<a1 - (0 - 0)) then (aE ((0:Int)<(a1 - (0 - 0))/\(a1 - (0 - 0))<=1099511627776) (jf N ([]:List VJ))) else (jf N []))))
theorem xd {N:Nat}{r:V7}(h:mY N a1=some r):Okc Wc 116 [Y none 0 0,iV a1] ([]) (fun u post=> ∃A0 n0 c0,u=Y A0 n0 c0/\post=[cL A0 n0 c0 r]):=by
 refine bY Tryz.func116 ?_;refine sZ ?_;refine gH J h ?_ ?_<;>intro h
 ·exact az h
 refine ab ?_;refine ai (fun s L=> ∃p3 A3 n3 c3,jf N p3=some r/\s=[(0,Y A3 n3 c3),(4,Y none 0 0)]/\L=[cL A3 n3 c3 p3]) ?_ ?_
 ·refine ab ?_;refine dU (zu J Vo) ?_;refine gE (qe J Vo) ?_;obtain ⟨q4,h⟩:=ac h;refine ab ?_;obtain ⟨q5,h⟩:=ac h;refine dI h ?_ ?_<;>intro h
  ·refine ab ?_;refine gE (zu J Vo) ?_;refine dU (Db J Vo size45.out J) ?_;obtain ⟨q7,h⟩:=ac h
   refine r9 (Az J J Vo Ex Iv J q7.1 q7.2) fun A8 n8 c8=> ?_
   refine gE (qe J Vo) ?_
   refine r9 (HI (R:=ei) 0 J J Vo size45.out J J) fun A9 n9 c9=> ?_
   exact jN
  refine ab ?_;exact ⟨_,_,⟨[],none,0,0,h,J,J⟩,sA,(bq ei 45 _).trans (cS [0] 1)⟩
 rintro _ _ ⟨p3,A3,n3,c3,h,rfl,rfl⟩;exact eY
def lx (N:Nat)(a6:V7):Option V7:=
 some a6
def mo (a0_0 a0_1:V7):Option V7:=
 (mY N ((0+(a0_0.length:Int))+(a0_1.length:Int))).bind fun y9=>aE (ci (y9.length+a0_0.length)) (aE (ci ((y9++a0_0).length+a0_1.length)) (lx N ((y9++a0_0)++a0_1)))
def jF (a0_0 a0_1:V7):Option V7:=
 aE (in64 (0+(a0_0.length:Int))) (bif decide (0+(a0_0.length:Int)<0) then none else (aE (in64 ((0+(a0_0.length:Int))+(a0_1.length:Int))) (bif decide ((0+(a0_0.length:Int))+(a0_1.length:Int)<0) then none else (mo N a0_0 a0_1))))
theorem xe {N:Nat}{a0_0 a0_1 r:V7}(h:jF N a0_0 a0_1=some r):Okc Wc 71 [.slice (some ⟨B1,0,none⟩) 2 2] ([aB B1 123 [Y A2 n2 c2,Y A3 n3 c3],bB A2 n2 c2 a0_0,bB A3 n3 c3 a0_1]) (fun u post=> ∃A0 n0 c0,u=Y A0 n0 c0/\post=[cL A0 n0 c0 r]):=by
 refine bY Tryz.func71 ?_;refine ai (fun s L=>mo N a0_0 a0_1=some r/\s=[(0,.slice (some ⟨B1,0,none⟩) 2 2),(2,Y none 0 0),(3,iV ((0+(a0_0.length:Int))+(a0_1.length:Int)))]/\L=[bB A2 n2 c2 a0_0,bB A3 n3 c3 a0_1,aB B1 123 [Y A2 n2 c2,Y A3 n3 c3]]) ?_ ?_
 ·refine ab ?_;refine dU (qe J Vq) ?_;refine uJ 3 ?_;refine vD ?_;refine ab ?_;refine au ?_;refine cN J ?_;refine sY ?_;refine dU (pg J J Vq size123.out (by decide) (by decide)) ?_;obtain ⟨q5,h⟩:=ac h;refine dI h ?_ ?_<;>intro h
  ·exact az h
  refine ab ?_;refine dU (fF J J (by decide) (by decide)) ?_;refine vD ?_;refine ab ?_;refine au ?_;refine cN J ?_;refine sY ?_;refine dU (pg J J Vq size123.out (by decide) (by decide)) ?_;obtain ⟨q7,h⟩:=ac h;refine dI h ?_ ?_<;>intro h
  ·exact az h
  refine ab ?_;refine dU (fF J J (by decide) (by decide)) ?_;refine vD ?_;refine ab ?_;refine au ?_;refine cE J ?_;exact jY
 rintro _ _ ⟨h,rfl,rfl⟩
 refine UJ h (fun _ k=>xd k) fun y9 b9 c8 c9 h=> ?_
 refine ai (fun s L=> ∃a6 a8 b0 b5,lx N a6=some r/\s=[(2,Y none 0 0),(6,Y a8 b0 b5)]/\L=[cL a8 b0 b5 a6]) ?_ ?_
 ·refine ab ?_;refine dU (qe J Vq) ?_;refine uJ 3 ?_;refine vD ?_;refine ab ?_;refine au ?_;refine cN J ?_;refine sY ?_;refine dU (pg J J Vq size123.out (by decide) (by decide)) ?_;obtain ⟨b6,h⟩:=ac h
  refine r9 (aQ 0 1 J J bS J J Vo Iv J J b6) fun d0 d1 d2=> ?_
  refine dU (fF J J (by decide) (by decide)) ?_;refine vD ?_;refine ab ?_;refine au ?_;refine cN J ?_;refine sY ?_;refine dU (pg J J Vq size123.out (by decide) (by decide)) ?_;obtain ⟨b7,h⟩:=ac h
  refine r9 (aQ 0 2 J J bS J J Vo Iv J J b7) fun d3 d4 d6=> ?_
  refine dU (fF J J (by decide) (by decide)) ?_;refine vD ?_;refine ab ?_;refine au ?_;refine cE J ?_;exact jY
 rintro _ _ ⟨a6,a8,b0,b5,h,rfl,rfl⟩;exact eY
def jR (a0:VJ):Option VZ:=
 (iH N a0).bind fun y4=>(mj N a0).bind fun y6=>aE (ci (y4.length+y6.length)) (some (y4++y6))
theorem ui {N:Nat}{r:VZ}(h:jR N a0=some r):Okc Wc 204 [.agg #[iV a0.XZ,iV a0.Yf,iV a0.Ye,iV a0.Yg,Y A1 n1 c1,Y A2 n2 c2]] ([aZ A1 n1 c1 a0.Yb,aZ A2 n2 c2 a0.Ya]) (fun u post=> ∃A0 n0 c0,u=Y A0 n0 c0/\post=[fq A0 n0 c0 r]):=by
 refine bY Tryz.func204 ?_;intro B3;refine ab ?_;refine dY [0,2] ?_;obtain ⟨y4,k,h⟩:=aa h
 refine yQ 1 J (oR (ml k)) fun A5 n5 c5=> ?_
 obtain ⟨y6,k,h⟩:=aa h
 refine yQ 3 J (oR (uE k)) fun A7 n7 c7=> ?_
 obtain ⟨q8,h⟩:=ac h
 refine yQ 4 J (aQ 1 0 J J ak J J Vn Iw J J q8) fun A9 n9 c9=> ?_
 refine zX [5] ?_;exact eY
def qK (a0:Int)(a1:VR):Option Bool:=
 (jL N a1 a0).bind fun y4=>some (!y4)
theorem BJ {N:Nat}{a0:Int}{a1:VR}{r:Bool}(h:qK N a0 a1=some r):Okc Wc 228 [iV a0,pV B1 0] ([aB B1 125 [Y A2 n2 c2,Y A3 n3 c3],bB A2 n2 c2 a1.Yd,bB A3 n3 c3 a1.Yc]) (fun u post=>u=.bool r/\post=[]):=by
 refine bY Tryz.func228 ?_
 refine cR h (fun _ k=>lF k) fun y4 h=> ?_
 exact eN
def yh (N:Nat):Option Bool:=
 some true
def pP (N:Nat)(y6:V7)(a0:VR):Nat->Int->Option Bool
 |0,_=>none
 |m8+1,p9=>bif decide (p9<(y6.length:Int)) then ((ap y6 p9).bind fun a6=>(fd N a6).bind fun a8=>(bif !a8 then (some true) else ((jR N a6).bind fun b0=>(bD N b0 (fun x=>qK N x a0)).bind fun b5=>some b5)).bind fun b16=>bif b16 then (some false) else (aE (in64 (p9+1)) ((pP N y6 a0 m8) (p9+1)))) else (yh N)
def rf (a0:VR):Option Bool:=
 (jF N a0.Yd a0.Yc).bind fun y6=>pP N y6 a0 N 0
theorem Fk {N:Nat}{a0:VR}{r:Bool}(h:rf N a0=some r):Okc Wc 203 [.agg #[Y A1 n1 c1,Y A2 n2 c2]] ([bB A1 n1 c1 a0.Yd,bB A2 n2 c2 a0.Yc]) (fun u post=>u=.bool r/\post=[]):=by
 refine bY Tryz.func203 ?_;intro B3;refine ab ?_;refine ai (fun s L=>yh N=some r/\s=[(2,.bool false)]/\L=[]) ?_ ?_
 ·refine ab ?_
  refine gB (i7 (cs:=[Y A1 n1 c1,Y A2 n2 c2]) J (He _ _ _ _ _ _)) fun B5=> ?_
  obtain ⟨y6,k,h⟩:=aa h;refine r8 (jz 0 J) ?_
  refine r9 (oC (xe k)) fun A7 n7 c7=> ?_
  refine lK (fun m s L=> ∃(p9:Int),pP N y6 a0 m p9=some r/\s=[(1,pV B3 0),(2,.bool false),(10,Y A7 n7 c7),(11,iV (y6.length:Int)),(12,iV p9)]/\L=[cL A7 n7 c7 y6,bB A1 n1 c1 a0.Yd,bB A2 n2 c2 a0.Yc,ae B3 125 [Y A1 n1 c1,Y A2 n2 c2]]) N ?_;rintro m8 _ _ ⟨p9,h,rfl,rfl⟩;rw [pP.eq_2] at h;refine ab ?_;refine au ?_;refine gH J h ?_ ?_<;>intro h
  ·refine sY ?_;obtain ⟨a6,b5,b6,a8,h⟩:=aM h;refine ab ?_;refine gD (N9 0 J ak J a8 agg45.out J (kj a6)) ?_;rintro u _ ⟨_,_,⟨b7,b9,c0,c8,c9,d0,rfl,rfl⟩,hu,rfl⟩;obtain rfl:u=.agg #[iV a6.XZ,iV a6.Yf,iV a6.Ye,iV a6.Yg,Y b7 b9 c0,Y c8 c9 d0]:=hu
   refine du fun d1=> ?_
   refine cR h (fun _ k=>ko k) fun d2 h=> ?_
   refine AU 5 24 19 h (fun _ b0 h=> ?_) fun b16 h=> ?_
   ·refine ab ?_;obtain ⟨d3,k,h⟩:=aa h;refine LT (oR (ui k)) J (pc b0 J) J ?_;rintro _ _ ⟨_,⟨d4,d6,e0,rfl,rfl⟩,rfl⟩;refine gT (eB J) J (pc b0 J) J ?_;obtain ⟨e1,k,h⟩:=aa h;refine gU (oR (eQ k ⟨t9 J (t9 J (t9 J aR)),228, #[], #[pV B3 0],J,call228.out,fun _ _ hh=>BJ hh⟩)) (pc b0 J) ?_;exact gY
   refine dI h ?_ ?_<;>intro h
   ·exact eY
   refine ab ?_;obtain ⟨e2,h⟩:=ac h;exact lY
  exact jY
 rintro _ _ ⟨h,rfl,rfl⟩;exact eY
def ge (N:Nat)(a0:Int):Option Bool:=
 (bif decide (0<a0) then (some (decide (a0.tmod 2=1))) else (some false)).bind fun b1=>some b1
theorem nj {N:Nat}{a0:Int}{r:Bool}(h:ge N a0=some r):Okc Wc 162 [iV a0] ([]) (fun u post=>u=.bool r/\post=[]):=by
 refine bY Tryz.func162 ?_
 refine qo 4 9 5 h (fun _ g1 h=> ?_) fun b1 h=> ?_
 ·refine ab ?_;refine gT (pf J J (by decide)) J (el g1 J) J ?_;exact gY
 exact eY
theorem CX {r:Bool}: ∀v post,((fun (u:Value) (post:Wa)=>u=.bool r/\post=[])) v post-> ∀c∈post,mT c:=by
 rintro _ _ ⟨rfl,rfl⟩;exact aR
def Ad (N:Nat):Option Bool:=
 some true
def rh (N:Nat)(a0:VR)(a2:VZ):Nat->Int->Option Bool
 |0,_=>none
 |a8+1,a6=>bif decide (a6<(a0.Yc.length:Int)) then ((ap a0.Yc a6).bind fun b0=>(jR N b0).bind fun b5=>(bD N b5 (fun x=>ge N x)).bind fun b6=>(bif b6 then (aE (in64 (2*a6)) (aE (in64 ((2*a6)+2)) ((dM N a2 ((2*a6)+2)).bind fun b7=>some (!b7)))) else (some false)).bind fun b9=>bif b9 then (some false) else (aE (in64 (a6+1)) ((rh N a0 a2 a8) (a6+1)))) else (Ad N)
def mf (a2:VZ)(a0:VR):Option Bool:=
 rh N a0 a2 N 0
def oA (N:Nat)(a2:VZ)(a0:VR):Nat->Int->Option Bool
 |0,_=>none
 |b0+1,a6=>bif decide (a6<(a2.length:Int)) then ((ap a2 a6).bind fun a8=>(ge N a8).bind fun b5=>(bif b5 then (some true) else ((jL N a0 a8).bind fun b6=>some (!b6))).bind fun b16=>(bif b16 then (some true) else ((bif decide (0<a6) then (aE (in64 (a6 - 1)) ((ap a2 (a6 - 1)).bind fun b7=>some (decide (a8<=b7)))) else (some false)).bind fun b9=>some b9)).bind fun c0=>bif c0 then (some false) else (aE (in64 (a6+1)) ((oA N a2 a0 b0) (a6+1)))) else (mf N a2 a0)
def rO (a0:VR)(a1:VY)(a2:VZ):Option Bool:=
 (cY N a1 (fun x=>pR N x a0)).bind fun y6=>(bif y6 then (some true) else ((rf N a0).bind fun y8=>some (!y8))).bind fun b7=>bif b7 then (some false) else (oA N a2 a0 N 0)
theorem HO {N:Nat}{a0:VR}{a1:VY}{a2:VZ}{r:Bool}(h:rO N a0 a1 a2=some r):Okc Wc 154 [.agg #[Y A1 n1 c1,Y A2 n2 c2],Y A3 n3 c3,Y A4 n4 c4] ([bB A1 n1 c1 a0.Yd,bB A2 n2 c2 a0.Yc,aZ A3 n3 c3 a1,fH A4 n4 c4 a2]) (fun u post=>u=.bool r/\post=[]):=by
 refine bY Tryz.func154 ?_;intro B5;refine ab ?_;refine dU (eB J) ?_;refine sZ ?_;obtain ⟨y6,k,h⟩:=aa h;refine C7 (oR (sd k ⟨t9 J (t9 J (t9 J aR)),201, #[], #[pV B5 0],J,call201.out,fun _ _ hh=>DZ hh⟩)) ?_
 refine AU 4 20 16 h (fun _ g7 h=> ?_) fun b7 h=> ?_
 ·refine cR h (fun _ k=>Fk k) fun y8 h=> ?_
  exact gY
 refine dI h ?_ ?_<;>intro h
 ·exact eY
 refine ab ?_;refine ai (fun s L=>mf N a2 a0=some r/\s=[(2,Y A4 n4 c4),(3,pV B5 0),(6,.bool false)]/\L=[fH A4 n4 c4 a2,bB A1 n1 c1 a0.Yd,bB A2 n2 c2 a0.Yc,ae B5 125 [Y A1 n1 c1,Y A2 n2 c2]]) ?_ ?_
 ·refine ab ?_;refine lK (fun m s L=> ∃(a6:Int),oA N a2 a0 m a6=some r/\s=[(2,Y A4 n4 c4),(3,pV B5 0),(6,.bool false),(21,Y A4 n4 c4),(22,iV (a2.length:Int)),(23,iV a6)]/\L=[fH A4 n4 c4 a2,bB A1 n1 c1 a0.Yd,bB A2 n2 c2 a0.Yc,ae B5 125 [Y A1 n1 c1,Y A2 n2 c2]]) N ?_;rintro e5 _ _ ⟨a6,h,rfl,rfl⟩;rw [oA.eq_2] at h;refine ab ?_;refine au ?_;refine gH J h ?_ ?_<;>intro h
  ·refine sY ?_;obtain ⟨e6,b9,c0,c8,h⟩:=aM h
   refine cR h (fun _ k=>nj k) fun e7 h=> ?_
   refine AU 5 35 30 h (fun _ e8 h=> ?_) fun b16 h=> ?_
   ·refine cR h (fun _ k=>lF k) fun e9 h=> ?_
    exact gY
   refine ab ?_
   refine AU 12 48 36 h (fun _ f1 h=> ?_) fun f2 h=> ?_
   ·refine ab ?_
    refine qo 8 47 39 h (fun _ f3 h=> ?_) fun f4 h=> ?_
    ·refine ab ?_;obtain ⟨f9,h⟩:=ac h;refine ab ?_;obtain ⟨g0,c9,d0,d1,h⟩:=aM h;exact gY
    exact gY
   refine dI h ?_ ?_<;>intro h
   ·exact eY
   refine ab ?_;obtain ⟨g1,h⟩:=ac h;exact lY
  exact jY
 rintro _ _ ⟨h,rfl,rfl⟩;refine ai (fun s L=>Ad N=some r/\s=[(6,.bool false)]/\L=[]) ?_ ?_
 ·refine ab ?_;refine lK (fun m s L=> ∃(a8:Int),rh N a0 a2 m a8=some r/\s=[(2,Y A4 n4 c4),(6,.bool false),(51,Y A2 n2 c2),(52,iV (a0.Yc.length:Int)),(53,iV a8)]/\L=[fH A4 n4 c4 a2,bB A2 n2 c2 a0.Yc]) N ?_;rintro g2 _ _ ⟨a8,h,rfl,rfl⟩;rw [rh.eq_2] at h;refine ab ?_;refine au ?_;refine gH J h ?_ ?_<;>intro h
  ·refine sY ?_;obtain ⟨b5,d2,d3,b0,h⟩:=aM h;refine ab ?_;refine Cu 1 J b0 (kj b5) ?_;rintro _ _ ⟨d4,d6,e0,e1,e2,e3,rfl,rfl⟩;refine H3 (sW (us:=(gk b5 d4 d6 e0 e1 e2 e3)) 0 J J agg45.out J) ?_;intro g3;refine ab ?_;obtain ⟨g4,k,h⟩:=aa h;refine gD (oR (ui k)) ?_;rintro _ _ ⟨_,⟨g5,g6,g8,rfl,rfl⟩,rfl⟩;obtain ⟨g9,k,h⟩:=aa h;refine C7 (oR (eQ k ⟨aR,162, #[], #[],J,call162.out,fun _ _ hh=>nj hh⟩)) ?_
   refine qo 7 68 61 h (fun _ e4 h=> ?_) fun h0 h=> ?_
   ·refine ab ?_;obtain ⟨b6,h⟩:=ac h;refine gT (nw J J b6.1 b6.2) J (el e4 J) J ?_;obtain ⟨h1,h⟩:=ac h
    refine cR h (fun _ k=>lu k) fun h2 h=> ?_
    exact gY
   refine dI h ?_ ?_<;>intro h
   ·exact eY
   refine ab ?_;obtain ⟨h3,h⟩:=ac h;exact lY
  exact jY
 rintro _ _ ⟨h,rfl,rfl⟩;exact eY
def bV (a0:VX)(a1:Int):Option VX:=
 (ge N a1).bind fun y7=>(bif y7 then (some (!((lk a0.YE a1).getD false))) else (some false)).bind fun b8=>bif b8 then (aE (ci (a0.Yq.length+([a1]:List Int).length)) (some (⟨a0.m_,a0.YF,a0.Yq++([a1]:List Int),wT a0.YE a1 true,a0.Yy⟩:VX))) else (some a0)
theorem jQ {N:Nat}{a0 r:VX}(h:bV N a0 a1=some r):Okc Wc 205 [pV B1 0,iV a1] ([bB A2 n2 c2 a0.m_.Yd,bB A3 n3 c3 a0.m_.Yc,fH A4 n4 c4 a0.YF,ae B1 223 [Y A2 n2 c2,Y A3 n3 c3,Y A4 n4 c4,Y A5 n5 c5,.map (some M6),iV a0.Yy],fq A5 n5 c5 a0.Yq,ax cj fv M6 a0.YE]) (fun u post=> ∃A0 n0 c0 A1 n1 c1 A2 n2 c2 A3 n3 c3 M4,u=.tuple #[]/\post=[ae B1 223 [Y A0 n0 c0,Y A1 n1 c1,Y A2 n2 c2,Y A3 n3 c3,.map (some M4),iV r.Yy],bB A0 n0 c0 r.m_.Yd,bB A1 n1 c1 r.m_.Yc,fH A2 n2 c2 r.YF,fq A3 n3 c3 r.Yq,ax cj fv M4 r.YE]):=by
 refine bY Tryz.func205 ?_
 refine cR h (fun _ k=>nj k) fun y7 h=> ?_
 refine qo 8 14 6 h (fun _ g8 h=> ?_) fun b8 h=> ?_
 ·refine ab ?_;refine sG (EP (a:=a1) (z:=false) 5 J wD J J Vv (dX Ex) zero4.out) J (el g8 J) J ?_;exact gY
 refine dI h ?_ ?_<;>intro h
 ·refine ab ?_;refine Gl (iE (a:=a1) (b:=true) 5 J J J J Vv (dX Ex)) ?_;refine gD (aL (R:=(jM .i64)) (vss:=[[iV a1]]) (xs:=[a1]) J (nA _) J J (fun _ _ hr=> .cons J All2.nil)) ?_;rintro _ _ ⟨a8,b0,b5,rfl,rfl⟩;obtain ⟨a6,h⟩:=ac h
  refine r9 (aQ 5 0 J J ak J J Vn Iw J J a6) fun b6 b7 b9=> ?_
  exact eN
 exact eY
def bv (a0:VX)(a1:Int):Option VJ:=
 (ge N a1).bind fun y8=>bif y8 then (aE (in64 (a1.tdiv 2)) ((ap a0.m_.Yd (a1.tdiv 2)).bind fun a6=>some a6)) else (aE (in64 (a1.tdiv 2)) (aE (in64 ((a1.tdiv 2) - 1)) ((ap a0.m_.Yc ((a1.tdiv 2) - 1)).bind fun a8=>some a8)))
theorem gz {N:Nat}{a0:VX}{r:VJ}(h:bv N a0 a1=some r):Okc Wc 161 [pV B1 0,iV a1] ([bB A2 n2 c2 a0.m_.Yd,bB A3 n3 c3 a0.m_.Yc,fH A4 n4 c4 a0.YF,ae B1 223 [Y A2 n2 c2,Y A3 n3 c3,Y A4 n4 c4,Y A5 n5 c5,.map (some M6),iV a0.Yy],fq A5 n5 c5 a0.Yq,ax cj fv M6 a0.YE]) (fun u post=> ∃b0 b5 b6 b7 b9 c0,u=.agg #[iV r.XZ,iV r.Yf,iV r.Ye,iV r.Yg,Y b0 b5 b6,Y b7 b9 c0]/\post=[aZ b0 b5 b6 r.Yb,aZ b7 b9 c0 r.Ya,ae B1 223 [Y A2 n2 c2,Y A3 n3 c3,Y A4 n4 c4,Y A5 n5 c5,.map (some M6),iV a0.Yy],fq A5 n5 c5 a0.Yq,ax cj fv M6 a0.YE]):=by
 refine Gf Tryz.func161 J J ?_;simp only [uz];refine B ?_
 refine gB (dz zero45.out J) fun B7=> ?_
 refine B ?_;refine au ?_;refine B ?_;obtain ⟨y8,k,h⟩:=aa h;refine gV (kV (nj k) J (aR) CX) ?_;refine B ?_;refine gH J h ?_ ?_<;>intro h
 ·refine B ?_;obtain ⟨f1,h⟩:=ac h;refine gE (AM J J (by decide) f1.1 f1.2) ?_;obtain ⟨a6,e4,e5,e6,h⟩:=aM h;refine gR (dp 1 J bS J J Vo size45.out e4 e5) ?_;refine Cu 1 J e6 (kj a6) ?_;rintro _ _ ⟨c8,c9,d0,d1,d2,d3,rfl,rfl⟩;refine gR (sW (us:=(gk a6 c8 c9 d0 d1 d2 d3)) 0 J J agg45.out J) ?_;refine gW (ar (us:=(gk a6 c8 c9 d0 d1 d2 d3)) (cs':=(gk a6 c8 c9 d0 d1 d2 d3)) 3 J J J J size45.out J J J) ?_;refine B ?_;obtain rfl:=jn h;exact uB (rs:=[.cell 4 45]) (vs:=[.agg #[iV a6.XZ,iV a6.Yf,iV a6.Ye,iV a6.Yg,Y c8 c9 d0,Y d1 d2 d3]]) J (.cons (lC 3 J J agg45.out) .nil) J (cS [1,2,7,8,9] 10) ⟨_,_,_,_,_,_,J,J⟩
 refine B ?_;obtain ⟨f2,h⟩:=ac h;refine gE (AM J J (by decide) f2.1 f2.2) ?_;obtain ⟨f3,h⟩:=ac h;refine gE (wK J J f3.1 f3.2) ?_;obtain ⟨a8,e7,e8,e9,h⟩:=aM h;refine gR (dp 2 J bS J J Vo size45.out e7 e8) ?_;refine Cu 2 J e9 (kj a8) ?_;rintro _ _ ⟨d4,d6,e0,e1,e2,e3,rfl,rfl⟩;refine gR (sW (us:=(gk a8 d4 d6 e0 e1 e2 e3)) 0 J J agg45.out J) ?_;refine gW (ar (us:=(gk a8 d4 d6 e0 e1 e2 e3)) (cs':=(gk a8 d4 d6 e0 e1 e2 e3)) 3 J J J J size45.out J J J) ?_;refine B ?_;obtain rfl:=jn h;exact uB (rs:=[.cell 4 45]) (vs:=[.agg #[iV a8.XZ,iV a8.Yf,iV a8.Ye,iV a8.Yg,Y d4 d6 e0,Y e1 e2 e3]]) J (.cons (lC 3 J J agg45.out) .nil) J (cS [1,2,7,8,9] 10) ⟨_,_,_,_,_,_,J,J⟩
def gh (N:Nat)(a6:V7->V7->VZ->VZ->V8->Int->Option VX)(a8 b0:V7)(b5 b6:VZ)(b7:V8)(p21:Int):Option VX:=
 aE (in64 (p21+1)) (a6 a8 b0 b5 b6 b7 (p21+1))
def gg (N:Nat)(b5:V7->V7->VZ->VZ->V8->Int->Option VX)(b0:VZ):Nat->Int->V7->V7->VZ->VZ->V8->Int->Option VX
 |0,_,_,_,_,_,_,_=>none
 |d0+1,a8,b6,b7,b9,c0,c8,c9=>bif decide (a8<(b0.length:Int)) then ((ap b0 a8).bind fun d1=>(bV N (⟨(⟨b6,b7⟩:VR),b9,c0,c8,c9⟩:VX) d1).bind fun a6=>aE (in64 (a8+1)) ((gg N b5 b0 d0) (a8+1) a6.m_.Yd a6.m_.Yc a6.YF a6.Yq a6.YE a6.Yy)) else (gh N b5 b6 b7 b9 c0 c8 c9)
def bC (N:Nat):Nat->V7->V7->VZ->VZ->V8->Int->Option VX
 |0,_,_,_,_,_,_=>none
 |m7+1,p8,p9,a8,a6,b0,p13=>bif decide (p13<(a6.length:Int)) then ((ap a6 p13).bind fun b5=>(bv N (⟨(⟨p8,p9⟩:VR),a8,a6,b0,p13⟩:VX) b5).bind fun b6=>(iH N b6).bind fun b7=>gg N (bC N m7) b7 N 0 p8 p9 a8 a6 b0 p13) else (some (⟨(⟨p8,p9⟩:VR),a8,a6,b0,p13⟩:VX))
def eX (a0:VX):Option VX:=
 bC N N a0.m_.Yd a0.m_.Yc a0.YF a0.Yq a0.YE a0.Yy
theorem pu {N:Nat}{a0 r:VX}(h:eX N a0=some r):Okc Wc 206 [pV B1 0] ([bB A2 n2 c2 a0.m_.Yd,bB A3 n3 c3 a0.m_.Yc,fH A4 n4 c4 a0.YF,ae B1 223 [Y A2 n2 c2,Y A3 n3 c3,Y A4 n4 c4,Y A5 n5 c5,.map (some M6),iV a0.Yy],fq A5 n5 c5 a0.Yq,ax cj fv M6 a0.YE]) (fun u post=> ∃A0 n0 c0 A1 n1 c1 A2 n2 c2 A3 n3 c3 M4,u=.tuple #[]/\post=[ae B1 223 [Y A0 n0 c0,Y A1 n1 c1,Y A2 n2 c2,Y A3 n3 c3,.map (some M4),iV r.Yy],bB A0 n0 c0 r.m_.Yd,bB A1 n1 c1 r.m_.Yc,fH A2 n2 c2 r.YF,fq A3 n3 c3 r.Yq,ax cj fv M4 r.YE]):=by
 refine bY Tryz.func206 ?_;refine lK (fun m s L=> ∃(p8:V7) (p9:V7) (d6:VZ) (e0:VZ) (e1:V8) (p13:Int) (A8:Option Addr) (n8 c8:Nat) (A9:Option Addr) (n9 c9:Nat) (d1:Option Addr) (d2 d3:Nat) (b5:Option Addr) (b6 b7:Nat) (d4:Nat),bC N m p8 p9 d6 e0 e1 p13=some r/\s=[(0,pV B1 0)]/\L=[bB A8 n8 c8 p8,bB A9 n9 c9 p9,fH d1 d2 d3 d6,fq b5 b6 b7 e0,ax cj fv d4 e1,ae B1 223 [Y A8 n8 c8,Y A9 n9 c9,Y d1 d2 d3,Y b5 b6 b7,.map (some d4),iV p13]]) N ?_;intro m7
 refine fun s L=>aj fun p8=>aj fun p9=>aj fun d6=>aj fun e0=>aj fun e1=>aj fun p13=>aj fun A8=>aj fun n8=>aj fun c8=>aj fun A9=>aj fun n9=>aj fun c9=>aj fun d1=>aj fun d2=>aj fun d3=>aj fun b5=>aj fun b6=>aj fun b7=>aj fun d4=>yy fun h=> ?_
 rw [bC.eq_2] at h;refine au ?_;refine dY [] ?_;refine dI h ?_ ?_<;>intro h
 ·refine ab ?_;refine ai (fun s L=> ∃e8 e9 f1 f2 f3 p21 f4 f9 g0 g1 g2 g3 g4 g5 g6 g7 g8 g9 h0,gh N (bC N m7) e8 e9 f1 f2 f3 p21=some r/\s=[(0,pV B1 0)]/\L=[bB f4 f9 g0 e8,bB g1 g2 g3 e9,fH g4 g5 g6 f1,fq g7 g8 g9 f2,ax cj fv h0 f3,ae B1 223 [Y f4 f9 g0,Y g1 g2 g3,Y g4 g5 g6,Y g7 g8 g9,.map (some h0),iV p21]]) ?_ ?_
  ·refine ab ?_;refine au ?_;obtain ⟨k3,h1,h2,h3,h⟩:=aM h;obtain ⟨d0,h4,h⟩:=aa h;obtain ⟨b9,h5,h⟩:=aa h;refine gQ (t:=[(0,pV B1 0)]) ?_ lj (ah _)
   refine ig I 15 [] [12,13,14] [21,22,23,24,25,26,27,28,29,30,31,32,33,34,35] [[],[],[1],[2],[3],[],[5],[6],[7],[4,8],[9],[0,10],[11],[12],[]] [aV (pV B1 0),
 aV (pV B1 0),
 aV (pV B1 0),
 aV (pV B1 3),
 aV (Y b5 b6 b7),
 aV (pV B1 0),
 aV (pV B1 0),
 aV (pV B1 5),
 aV (iV p13),
 aV (dh (Y b5 b6 b7) p13.toNat 1 0),
 aV (iV k3),
 aX6 (fun (e2:Option Addr) (e3 e4:Nat) (e5:Option Addr) (e6 e7:Nat)=> .agg #[iV d0.XZ,iV d0.Yf,iV d0.Ye,iV d0.Yg,Y e2 e3 e4,Y e5 e6 e7]) (fun e2 e3 e4 e5 e6 e7=> [aZ e2 e3 e4 d0.Yb,aZ e5 e6 e7 d0.Ya]),
 aX3 (fun (a6:Option Addr) (a8 b0:Nat)=> Y a6 a8 b0) (fun a6 a8 b0=> [fq a6 a8 b0 b9]),
 aV (iV (b9.length:Int)),
 aV (iV 0)] [] (ah _) (kU) I rfl rfl ?_ ?_ ?_
   ·exact kT
   ·refine qE (ao J) ?_;refine aH J ?_ ?_
    ·intro a6 a8 b0;exact wk (sj 0 J ak J Vn) J (ku J (ah _))
    refine aH J ?_ ?_
    ·intro e2 e3 e4 e5 e6 e7;refine xr (oR (ml h5)) J ?_;rintro _ _ ⟨_,⟨k4,k5,k6,rfl,rfl⟩,rfl⟩;exact Ic k4 k5 k6 (ah _)
    refine aH J ?_ ?_
    ·refine xr (oC (gz h4)) J ?_;rintro _ _ ⟨_,⟨k7,k8,k9,l0,l1,l2,rfl,rfl⟩,rfl⟩;exact Sq k7 k8 k9 l0 l1 l2 (cS [0,1,5,6,7,3,4,2] 8)
    refine aH J ?_ ?_
    ·exact wk (kR (u:=iV k3) 3 J ak J h3 ya (fun _ _ _ h=>by rw [show _=_ from h];rfl)) J (ku J (ah _))
    refine qR (dp 3 J ak J J Vn size3.out h1 h2) ?_;refine qR (bM 5 J J ya J) ?_;refine qE (jW J Jq) ?_;refine qE (bF J) ?_;refine qE (ao J) ?_;refine qR (bM 5 J J E8 J) ?_;refine qE (jW J Cf) ?_;refine qE (bF J) ?_;refine qE (ao J) ?_;refine qE (ao J) ?_;exact di
   intro a6 a8 b0;refine nB (t:=[(33,Y a6 a8 b0),(34,iV (b9.length:Int)),(35,iV 0),(0,pV B1 0)]) (L':=[fq a6 a8 b0 b9,bB A8 n8 c8 p8,bB A9 n9 c9 p9,fH d1 d2 d3 d6,fq b5 b6 b7 e0,ax cj fv d4 e1,ae B1 223 [Y A8 n8 c8,Y A9 n9 c9,Y d1 d2 d3,Y b5 b6 b7,.map (some d4),iV p13]]) ?_ lj (ah _);refine lh I ?_;refine ab ?_;refine lK (fun m s L=> ∃(h6:Int) (h7:V7) (h8:V7) (h9:VZ) (i0:VZ) (i1:V8) (i2:Int) (i8:Option Addr) (j0 j1:Nat) (j2:Option Addr) (j3 j4:Nat) (j5:Option Addr) (j6 j7:Nat) (j8:Option Addr) (j9 k0:Nat) (k2:Nat),gg N (bC N m7) b9 m h6 h7 h8 h9 i0 i1 i2=some r/\s=[(0,pV B1 0),(33,Y a6 a8 b0),(34,iV (b9.length:Int)),(35,iV h6)]/\L=[fq a6 a8 b0 b9,bB i8 j0 j1 h7,bB j2 j3 j4 h8,fH j5 j6 j7 h9,fq j8 j9 k0 i0,ax cj fv k2 i1,ae B1 223 [Y i8 j0 j1,Y j2 j3 j4,Y j5 j6 j7,Y j8 j9 k0,.map (some k2),iV i2]]) N ?_;intro l6
   refine fun s L=>aj fun h6=>aj fun h7=>aj fun h8=>aj fun h9=>aj fun i0=>aj fun i1=>aj fun i2=>aj fun i8=>aj fun j0=>aj fun j1=>aj fun j2=>aj fun j3=>aj fun j4=>aj fun j5=>aj fun j6=>aj fun j7=>aj fun j8=>aj fun j9=>aj fun k0=>aj fun k2=>yy fun h=> ?_
   rw [gg.eq_2] at h;refine ab ?_;refine au ?_;refine gH J h ?_ ?_<;>intro h
   ·refine sY ?_;obtain ⟨l7,l3,l4,l5,h⟩:=aM h;refine ab ?_;obtain ⟨l8,k,h⟩:=aa h;refine gD (oC (jQ k)) ?_;rintro _ _ ⟨_,⟨l9,m0,m1,m2,m3,m4,m5,m6,m8,m9,o0,o1,o2,rfl,rfl⟩,rfl⟩;refine ab ?_;obtain ⟨o3,h⟩:=ac h;exact lY
   exact jY
  refine fun s L=>aj fun e8=>aj fun e9=>aj fun f1=>aj fun f2=>aj fun f3=>aj fun p21=>aj fun f4=>aj fun f9=>aj fun g0=>aj fun g1=>aj fun g2=>aj fun g3=>aj fun g4=>aj fun g5=>aj fun g6=>aj fun g7=>aj fun g8=>aj fun g9=>aj fun h0=>yy fun h=> ?_
  refine ab ?_;obtain ⟨o4,h⟩:=ac h;exact lY
 exact eY
def nl (N:Nat)(a0:VX)(p8:VZ):Option VZ:=
 aE (ci (p8.length+a0.Yq.length)) (some (p8++a0.Yq))
def ew (N:Nat)(a0:VX):Nat->VZ->Int->Option VZ
 |0,_,_=>none
 |m9+1,a8,a6=>bif decide (a6<(a0.m_.Yc.length:Int)) then (aE (in64 (2*a6)) (aE (in64 ((2*a6)+2)) (aE (ci (a8.length+([(2*a6)+2]:List Int).length)) (aE (in64 (a6+1)) ((ew N a0 m9) (a8++([(2*a6)+2]:List Int)) (a6+1)))))) else (nl N a0 a8)
def fk (a0:VX):Option VZ:=
 ew N a0 N [] 0
theorem rN {N:Nat}{a0:VX}{r:VZ}(h:fk N a0=some r):Okc Wc 157 [pV B1 0] ([aB B1 223 [Y A2 n2 c2,Y A3 n3 c3,Y A4 n4 c4,Y A5 n5 c5,.map (some M6),iV a0.Yy],bB A2 n2 c2 a0.m_.Yd,bB A3 n3 c3 a0.m_.Yc,fH A4 n4 c4 a0.YF,fH A5 n5 c5 a0.Yq,nc cj fv M6 a0.YE]) (fun u post=> ∃A0 n0 c0,u=Y A0 n0 c0/\post=[fq A0 n0 c0 r]):=by
 refine bY Tryz.func157 ?_;refine ai (fun s L=> ∃p8 A8 n8 c8,nl N a0 p8=some r/\s=[(0,pV B1 0),(2,Y none 0 0),(3,Y A8 n8 c8)]/\L=[fq A8 n8 c8 p8,bB A2 n2 c2 a0.m_.Yd,bB A3 n3 c3 a0.m_.Yc,fH A4 n4 c4 a0.YF,fH A5 n5 c5 a0.Yq,nc cj fv M6 a0.YE,aB B1 223 [Y A2 n2 c2,Y A3 n3 c3,Y A4 n4 c4,Y A5 n5 c5,.map (some M6),iV a0.Yy]]) ?_ ?_
 ·refine ab ?_;refine ii (fun m s L=> ∃a8 a6 b0 b5 b6,ew N a0 m a8 a6=some r/\s=[(0,pV B1 0),(2,Y none 0 0),(3,Y b0 b5 b6),(10,iV (a0.m_.Yc.length:Int)),(11,iV a6)]/\L=[fq b0 b5 b6 a8,bB A2 n2 c2 a0.m_.Yd,bB A3 n3 c3 a0.m_.Yc,fH A4 n4 c4 a0.YF,fH A5 n5 c5 a0.Yq,nc cj fv M6 a0.YE,aB B1 223 [Y A2 n2 c2,Y A3 n3 c3,Y A4 n4 c4,Y A5 n5 c5,.map (some M6),iV a0.Yy]]) N _ _ ⟨[],0,none,0,0,h,J,J⟩ sA ((bq (jM .i64) 3 _).trans (cS [0,2,3,4,5,6,1] 7)) ?_;rintro (_|m9) _ _ ⟨a8,a6,b0,b5,b6,h,rfl,rfl⟩
  ·exact az h
  rw [ew.eq_2] at h;refine ab ?_;refine au ?_;refine gH J h ?_ ?_<;>intro h
  ·refine sY ?_;obtain ⟨b7,h⟩:=ac h;refine gE (nw J J b7.1 b7.2) ?_;obtain ⟨d0,h⟩:=ac h;refine ab ?_;refine gD (aL (R:=(jM .i64)) (vss:=[[iV ((2*a6)+2)]]) (xs:=[(2*a6)+2]) J (nA _) J J (fun _ _ hr=> .cons J All2.nil)) ?_;rintro _ _ ⟨d1,d2,d3,rfl,rfl⟩;obtain ⟨b9,h⟩:=ac h
   refine r9 (aQ 1 0 J J ak J J Vn Iw J J b9) fun d4 d6 e0=> ?_
   obtain ⟨e1,h⟩:=ac h;exact lY
  exact jY
 rintro _ _ ⟨p8,A8,n8,c8,h,rfl,rfl⟩;refine ab ?_;obtain ⟨c9,h⟩:=ac h
 refine r9 (aQ 0 4 J J bS J J Vn Iw J J c9) fun e2 e3 e4=> ?_
 exact eN
def nE (N:Nat)(p3:VZ):Option VZ:=
 some p3
def sc (a1:Int):Option VZ:=
 bif decide (a1<0) then none else (aE (in64 (0 - 0)) (aE (in64 (a1 - (0 - 0))) (bif decide (0<a1 - (0 - 0)) then (aE ((0:Int)<(a1 - (0 - 0))/\(a1 - (0 - 0))<=1099511627776) (nE N ([]:List Int))) else (nE N []))))
theorem CG {N:Nat}{r:VZ}(h:sc N a1=some r):Okc Wc 169 [Y none 0 0,iV a1] ([]) (fun u post=> ∃A0 n0 c0,u=Y A0 n0 c0/\post=[fq A0 n0 c0 r]):=by
 refine bY Tryz.func169 ?_;refine sZ ?_;refine gH J h ?_ ?_<;>intro h
 ·exact az h
 refine ab ?_;refine ai (fun s L=> ∃p3 A3 n3 c3,nE N p3=some r/\s=[(0,Y A3 n3 c3),(4,Y none 0 0)]/\L=[fq A3 n3 c3 p3]) ?_ ?_
 ·refine ab ?_;refine dU (zu J Vn) ?_;refine gE (qe J Vn) ?_;obtain ⟨q4,h⟩:=ac h;refine ab ?_;obtain ⟨q5,h⟩:=ac h;refine dI h ?_ ?_<;>intro h
  ·refine ab ?_;refine gE (zu J Vn) ?_;refine dU (Db J Vn size3.out J) ?_;obtain ⟨q7,h⟩:=ac h
   refine r9 (Az J J Vn Ex Iw J q7.1 q7.2) fun A8 n8 c8=> ?_
   refine gE (qe J Vn) ?_
   refine r9 (HI (R:=(jM .i64)) 0 J J Vn size3.out J J) fun A9 n9 c9=> ?_
   exact jN
  refine ab ?_;exact ⟨_,_,⟨[],none,0,0,h,J,J⟩,sA,(bq (jM .i64) 3 _).trans (cS [0] 1)⟩
 rintro _ _ ⟨p3,A3,n3,c3,h,rfl,rfl⟩;exact eY
def pD (N:Nat)(a6:VZ):Option VZ:=
 some a6
def qA (a0_0 a0_1:VZ):Option VZ:=
 (sc N ((0+(a0_0.length:Int))+(a0_1.length:Int))).bind fun y9=>aE (ci (y9.length+a0_0.length)) (aE (ci ((y9++a0_0).length+a0_1.length)) (pD N ((y9++a0_0)++a0_1)))
def oG (a0_0 a0_1:VZ):Option VZ:=
 aE (in64 (0+(a0_0.length:Int))) (bif decide (0+(a0_0.length:Int)<0) then none else (aE (in64 ((0+(a0_0.length:Int))+(a0_1.length:Int))) (bif decide ((0+(a0_0.length:Int))+(a0_1.length:Int)<0) then none else (qA N a0_0 a0_1))))
theorem CI {N:Nat}{a0_0 a0_1 r:VZ}(h:oG N a0_0 a0_1=some r):Okc Wc 118 [.slice (some ⟨B1,0,none⟩) 2 2] ([aB B1 99 [Y A2 n2 c2,Y A3 n3 c3],fH A2 n2 c2 a0_0,fH A3 n3 c3 a0_1]) (fun u post=> ∃A0 n0 c0,u=Y A0 n0 c0/\post=[fq A0 n0 c0 r]):=by
 refine bY Tryz.func118 ?_;refine ai (fun s L=>qA N a0_0 a0_1=some r/\s=[(0,.slice (some ⟨B1,0,none⟩) 2 2),(2,Y none 0 0),(3,iV ((0+(a0_0.length:Int))+(a0_1.length:Int)))]/\L=[fH A2 n2 c2 a0_0,fH A3 n3 c3 a0_1,aB B1 99 [Y A2 n2 c2,Y A3 n3 c3]]) ?_ ?_
 ·refine ab ?_;refine dU (qe J Vz) ?_;refine uJ 3 ?_;refine vD ?_;refine ab ?_;refine au ?_;refine cN J ?_;refine sY ?_;refine dU (pg J J Vz size99.out (by decide) (by decide)) ?_;obtain ⟨q5,h⟩:=ac h;refine dI h ?_ ?_<;>intro h
  ·exact az h
  refine ab ?_;refine dU (fF J J (by decide) (by decide)) ?_;refine vD ?_;refine ab ?_;refine au ?_;refine cN J ?_;refine sY ?_;refine dU (pg J J Vz size99.out (by decide) (by decide)) ?_;obtain ⟨q7,h⟩:=ac h;refine dI h ?_ ?_<;>intro h
  ·exact az h
  refine ab ?_;refine dU (fF J J (by decide) (by decide)) ?_;refine vD ?_;refine ab ?_;refine au ?_;refine cE J ?_;exact jY
 rintro _ _ ⟨h,rfl,rfl⟩
 refine LL h (fun _ k=>CG k) fun y9 b9 c8 c9 h=> ?_
 refine ai (fun s L=> ∃a6 a8 b0 b5,pD N a6=some r/\s=[(2,Y none 0 0),(6,Y a8 b0 b5)]/\L=[fq a8 b0 b5 a6]) ?_ ?_
 ·refine ab ?_;refine dU (qe J Vz) ?_;refine uJ 3 ?_;refine vD ?_;refine ab ?_;refine au ?_;refine cN J ?_;refine sY ?_;refine dU (pg J J Vz size99.out (by decide) (by decide)) ?_;obtain ⟨b6,h⟩:=ac h
  refine r9 (aQ 0 1 J J bS J J Vn Iw J J b6) fun d0 d1 d2=> ?_
  refine dU (fF J J (by decide) (by decide)) ?_;refine vD ?_;refine ab ?_;refine au ?_;refine cN J ?_;refine sY ?_;refine dU (pg J J Vz size99.out (by decide) (by decide)) ?_;obtain ⟨b7,h⟩:=ac h
  refine r9 (aQ 0 2 J J bS J J Vn Iw J J b7) fun d3 d4 d6=> ?_
  refine dU (fF J J (by decide) (by decide)) ?_;refine vD ?_;refine ab ?_;refine au ?_;refine cE J ?_;exact jY
 rintro _ _ ⟨a6,a8,b0,b5,h,rfl,rfl⟩;exact eY
end Go.Proofs.YthhiddkljcacaaaGreat