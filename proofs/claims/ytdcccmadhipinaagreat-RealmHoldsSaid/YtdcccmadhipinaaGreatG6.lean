/- Merged texts: part 6. No conditions of their own. -/
import Derived.Test.YtdcccmadhipinaaGreatG5
namespace Go.Proofs.YtdcccmadhipinaaGreat
theorem SJ:type_of% Tryz.underlying65:=Tryz.underlying65
theorem EM:type_of% Tryz.underlying191:=Tryz.underlying191
variable {A1 A2 A3 A4 A5 A6 A7:Option Addr} {B1 B2 B3 B8 M2 M6 M9 c1 c2 c3 c4 c5 c6 c7 n1 n2 n3 n4 n5 n6 n7:Nat}
open Go.RowKit Asn
set_option maxRecDepth 20000
def iH (N:Nat)(a1:(List SR))(a0:SP)(p28:(List Ta))(y13:((List Int)))(y22:(Option Exit×(List (Int×Int))))(p38:(List SR))(p39:Int)(p40:Int)(p41:Int)(p42:Int)(p43:(List SR))(p44:(List SR)):Option (Option Exit×(List Ta)×(List SR)):=
 (d9 N p43 y22.2).bind fun y56=>(d9 N p44 y22.2).bind fun y59=>bi (bQ (p28.length+([(⟨p39,p40,p41,p42,y56,y59⟩:Ta)]:List Ta).length)) (some (none,(p28++([(⟨p39,p40,p41,p42,y56,y59⟩:Ta)]:List Ta),p38)))
def ky (N:Nat)(a1:(List SR))(a0:SP)(y13:((List Int)))(y22:(Option Exit×(List (Int×Int))))(x27:Int×Int):((List Ta)×(List SR))→Option (Option Exit×((List Ta)×(List SR)))
 |(p28,p29)=>(fq N a0 x27.2).bind fun y33=>bif decide (y33.Kind=8) then ((jz N y33 y13).bind fun y46=>iH N a1 a0 p28 y13 y22 p29 y46.Kind y46.Shape y46.Flags y46.Age y46.Slots y46.More) else (bif decide (y33.Kind=10) then ((jm N y33 y13).bind fun y50=>bi (bQ (p29.length+y50.2.length)) (iH N a1 a0 p28 y13 y22 (p29++y50.2) y50.1.Kind y50.1.Shape y50.1.Flags y50.1.Age y50.1.Slots y50.1.More)) else (iH N a1 a0 p28 y13 y22 p29 y33.Kind y33.Shape y33.Flags y33.Age y33.Slots y33.More))
def kz (N:Nat)(a1:(List SR))(a0:SP)(y13:((List Int)))(x20:Int×Int):((List (Int×Int)))→Option (Option Exit×(List (Int×Int)))
 |p21=>bi (in64 (2*x20.1)) (bi (in64 ((2*x20.1)+2)) (some (none,um p21 x20.2 ((2*x20.1)+2))))
def ee (N:Nat)(a0:SP)(a1:(List SR)):Option (SP×(List SR)×(List SR)×Int):=
 (kh N a0 a1).bind fun y7=>bif !decide (y7=0) then (some ((⟨[],[]⟩:SP),[],[],y7)) else ((ed N a0 a1).bind fun y13=>(iW N y13).bind fun y18=>(eu N y13 (cY (fun x st=>kz N a1 a0 y13 x st)) (none,([]:(List (Int×Int))))).bind fun y22=>nO y22.1 ((iW N y13).bind fun y25=>(eu N y13 (cY (fun x st=>ky N a1 a0 y13 y22 x st)) (none,([],[]))).bind fun y30=>nO y30.1 ((d9 N a1 y22.2).bind fun y65=>(d9 N y30.2.2 y22.2).bind fun y67=>some ((⟨[],y30.2.1⟩:SP),y65,y67,0)) none (fun _=>none)) none (fun _=>none))
def ja (N:Nat)(a1:(List SR))(a0:SP)(p28:(List Ta))(y13:((List Int)))(y22:(Option Exit×(List (Int×Int))))(p38:(List SR))(p39:Int)(p40:Int)(p41:Int)(p42:Int)(p43:(List SR))(p44:(List SR)):Option (Option Exit×(List Ta)×(List SR)):=
 (d9 N p43 y22.2).bind fun y56=>(d9 N p44 y22.2).bind fun y59=>bi (bQ (p28.length+([(⟨p39,p40,p41,p42,y56,y59⟩:Ta)]:List Ta).length)) (some (none,(p28++([(⟨p39,p40,p41,p42,y56,y59⟩:Ta)]:List Ta),p38)))
def jb (N:Nat)(a1:(List SR))(a0:SP)(y13:((List Int)))(y22:(Option Exit×(List (Int×Int))))(x27:Int×Int):((List Ta)×(List SR))→Option (Option Exit×((List Ta)×(List SR)))
 |(p28,p29)=>(fq N a0 x27.2).bind fun y33=>bif decide (y33.Kind=8) then ((jz N y33 y13).bind fun y46=>ja N a1 a0 p28 y13 y22 p29 y46.Kind y46.Shape y46.Flags y46.Age y46.Slots y46.More) else (bif decide (y33.Kind=10) then ((jm N y33 y13).bind fun y50=>bi (bQ (p29.length+y50.2.length)) (ja N a1 a0 p28 y13 y22 (p29++y50.2) y50.1.Kind y50.1.Shape y50.1.Flags y50.1.Age y50.1.Slots y50.1.More)) else (ja N a1 a0 p28 y13 y22 p29 y33.Kind y33.Shape y33.Flags y33.Age y33.Slots y33.More))
def jc (N:Nat)(a1:(List SR))(a0:SP)(y13:((List Int)))(x20:Int×Int):((List (Int×Int)))→Option (Option Exit×(List (Int×Int)))
 |p21=>bi (in64 (2*x20.1)) (bi (in64 ((2*x20.1)+2)) (some (none,um p21 x20.2 ((2*x20.1)+2))))
def dl (N:Nat)(a0:SP)(a1:(List SR)):Option ((SP×(List SR)×(List SR)×Int) ⊕ (SP×(List SR)×(List SR))):=
 (kh N a0 a1).bind fun y7=>bif !decide (y7=0) then (some (.inl ((⟨[],[]⟩:SP),[],[],y7))) else ((ed N a0 a1).bind fun y13=>(iW N y13).bind fun y18=>(eu N y13 (cY (fun x st=>jc N a1 a0 y13 x st)) (none,([]:(List (Int×Int))))).bind fun y22=>nO y22.1 ((iW N y13).bind fun y25=>(eu N y13 (cY (fun x st=>jb N a1 a0 y13 y22 x st)) (none,([],[]))).bind fun y30=>nO y30.1 ((d9 N a1 y22.2).bind fun y65=>(d9 N y30.2.2 y22.2).bind fun y67=>some (.inr ((⟨[],y30.2.1⟩:SP),y65,y67))) none (fun _=>none)) none (fun _=>none))
set_option maxHeartbeats 4000000 in
theorem qH {N:Nat}{a0:SP}{a1:(List SR)}{r:((SP×(List SR)×(List SR)×Int) ⊕ (SP×(List SR)×(List SR)))}(h:dl N a0 a1=some r):Okc Tryz.prog 86 [.agg #[U A1 n1 c1,U A2 n2 c2],U A3 n3 c3] ([bE A3 n3 c3 a1,bS A1 n1 c1 a0.Young,bS A2 n2 c2 a0.Old]) (fun u post=>PC (fun (r:SP×(List SR)×(List SR)×Int)=> ∃A500 n500 c500 A501 n501 c501 A502 n502 c502 A503 n503 c503,u=.tuple #[.agg #[U A500 n500 c500,U A501 n501 c501],U A502 n502 c502,U A503 n503 c503,iV r.2.2.2]∧post=[bS A500 n500 c500 r.1.Young,bS A501 n501 c501 r.1.Old,bf A502 n502 c502 r.2.1,bf A503 n503 c503 r.2.2.1,bS A1 n1 c1 a0.Young,bS A2 n2 c2 a0.Old]) (fun (r:SP×(List SR)×(List SR))=> ∃A500 n500 c500 A501 n501 c501 A502 n502 c502 A503 n503 c503,u=.tuple #[.agg #[U A500 n500 c500,U A501 n501 c501],U A502 n502 c502,U A503 n503 c503,iV 0]∧post=[bS A500 n500 c500 r.1.Young,bS A501 n501 c501 r.1.Old,bf A502 n502 c502 r.2.1,bf A503 n503 c503 r.2.2,bS A1 n1 c1 a0.Young,bS A2 n2 c2 a0.Old]) r):=by
 refine bp Tryz.func86 J J ?_;simp only [aP];refine Y ?_;refine gD (bn J J) ?_;rintro _ _ ⟨B4,rfl,rfl⟩;refine gD (aE mO J) ?_;rintro _ _ ⟨B5,rfl,rfl⟩;refine Y ?_;refine gD (aE Le J) ?_;rintro _ _ ⟨B6,rfl,rfl⟩;refine Y ?_;refine ax ?_;refine Y ?_;refine gR (aD (us:=[U A1 n1 c1,U A2 n2 c2]) 2 J J fe J) ?_;refine Y ?_;obtain ⟨y7,hy7,h⟩:=aa h;refine gD (ai (C9 hy7) O6 J (hJ (ad (i:=4) J) (hJ (ad (i:=5) J) (hJ (ab (i:=3) J J) ac))) At) ?_;rintro _ _ ⟨_,⟨rfl,rfl⟩,rfl⟩;refine Y ?_;refine au J (fun g8=> ?_) (fun g8=> ?_)
 ·replace h:=ag g8 h;refine Y ?_;refine gE (bo J (JT)) ?_;refine Y ?_;refine gO (ao (us:=[U none 0 0,U none 0 0]) (cs':=[U none 0 0,U none 0 0]) 1 J J J J fg J J J) ?_;rintro _ _ rfl;refine Y ?_;refine gO (ao (us:=[U none 0 0]) (cs':=[U none 0 0]) 0 J J J J eJ J J J) ?_;rintro _ _ rfl;refine Y ?_;obtain rfl:=aq h;exact db (rs:=[.cell 4 96,.tmp 5,.cell 6 30,.tmp 7]) (vs:=[.agg #[U none 0 0,U none 0 0],U none 0 0,U none 0 0,iV y7]) J (.cons (bT 1 J J fe) (.cons (dr J) (.cons (rk 0 J J dD) (.cons (dr J) .nil)))) J ((cn eM 42 _).trans ((cn eM 42 _).trans ((cn bj 23 _).trans ((cn bj 23 _).trans (cS [3,2,1,0,8,9] 10))))) ⟨_,_,_,_,_,_,_,_,_,_,_,_,J,J⟩
 replace h:=ah g8 h;refine Y ?_;refine gR (aD (us:=[U A1 n1 c1,U A2 n2 c2]) 2 J J fe J) ?_;refine Y ?_;obtain ⟨y13,hy13,h⟩:=aa h;refine gD (ai (DY hy13) O5 J (hJ (ad (i:=4) J) (hJ (ad (i:=5) J) (hJ (ab (i:=3) J J) ac))) BE) ?_;rintro _ _ ⟨_,⟨A14,n14,c14,rfl,rfl⟩,rfl⟩;refine gD (aE HG J) ?_;rintro _ _ ⟨B15,rfl,rfl⟩;refine gO (ao (us:=[U A14 n14 c14]) (cs':=[U A14 n14 c14]) 0 J J J J rP J J J) ?_;rintro _ _ rfl;refine cp ?_;refine Y ?_;refine gD (qB (ek:=bR) (ev:=gc)) ?_;rintro _ _ ⟨M16,rfl,rfl⟩;refine gD (aE Nw J) ?_;rintro _ _ ⟨B17,rfl,rfl⟩;refine gO (ao (us:=[.map (some M16)]) (cs':=[.map (some M16)]) 0 J J J J NI J J J) ?_;rintro _ _ rfl;refine Y ?_;refine ax ?_;refine Y ?_;obtain ⟨y18,hy18,h⟩:=aa h;refine gD (ai (vv hy18) JO J (hJ (ad (i:=3) J) ac) sI) ?_;rintro _ _ ⟨_,⟨B19,rfl,rfl⟩,rfl⟩;refine pI ?_;refine fb ?_;refine ik ?_ cB (gP 0 J);refine ik ?_ cB (cV 4 J);refine Eh ?_;obtain ⟨y22,hy22,h⟩:=aa h
 refine sS (en:=(fun x=> [iV x.1,iV x.2])) (fun x st=>jc N a1 a0 y13 x st) (fun (st:(List (Int×Int))) (mz:Unit)=> [bE A3 n3 c3 a1,bS A1 n1 c1 a0.Young,bS A2 n2 c2 a0.Old,am B4 96 [U A1 n1 c1,U A2 n2 c2],am B5 96 [U none 0 0,U none 0 0],am B6 30 [U none 0 0],ex A14 n14 c14 y13,am B15 39 [U A14 n14 c14],aK bR gc M16 st,am B17 170 [.map (some M16)]]) [aR B19 39 [U A14 n14 c14],ex A14 n14 c14 y13] (([]:(List (Int×Int)))) (()) J J JD J (fun _=>J) (fun l G hY=>(ry hy22 hY).mono fun _ _ hh=>hh.2) (aI [0,4] [] [8,9,10,7,6,5,4,3,2,1] 11 J) h ?_ ?_ ?_ ?_
 ·rintro l x20 p21 je sr20 _ h;replace h:jc N a1 a0 y13 x20 p21=some (je,sr20):=h;simp only [zJ,List.zip_cons_cons,List.zip_nil_left,List.zip_nil_right,List.reverse_cons,List.reverse_nil,List.nil_append,List.cons_append];refine Y ?_;refine gR (aJ 9 J J An J) ?_;refine Y ?_;obtain ⟨q23,h⟩:=ap h;refine gE (rZ J J q23.1 q23.2) ?_;obtain ⟨q24,h⟩:=ap h;refine gE (aW J J q24.1 q24.2) ?_;refine gO (gw (a:=x20.2) (b:=(2*x20.1)+2) 8 J J J J Ex (d5 hP)) ?_;rintro _ _ rfl;refine Y ?_;obtain ⟨rfl,rfl⟩:=Prod.mk.inj (Option.some.inj h);exact BL ((cS [0,1,2,3,4,5,6,7,8,9] 10).trans (fV () J))
 ·rintro _ h;refine oM ([bE A3 n3 c3 a1,bS A1 n1 c1 a0.Young,bS A2 n2 c2 a0.Old,am B4 96 [U A1 n1 c1,U A2 n2 c2],am B5 96 [U none 0 0,U none 0 0],am B6 30 [U none 0 0],ex A14 n14 c14 y13,am B15 39 [U A14 n14 c14],aK bR gc M16 y22.2,am B17 170 [.map (some M16)]]) J ?_;refine Y ?_;refine ax ?_;refine Y ?_;obtain ⟨y25,hy25,h⟩:=aa h;refine gD (ai (vv hy25) JO J (hJ (ab (i:=6) J J) ac) sI) ?_;rintro _ _ ⟨_,⟨B26,rfl,rfl⟩,rfl⟩;refine pI ?_;refine fb ?_;refine ik ?_ cB (gP 0 J);obtain ⟨y30,hy30,h⟩:=aa h;refine sS (en:=(fun x=> [iV x.1,iV x.2])) (fun x st=>jb N a1 a0 y13 y22 x st) (fun (st:(List Ta)×(List SR)) (mz:((Option Addr×Nat×Nat)×(Option Addr×Nat×Nat)))=> [bE A3 n3 c3 a1,bS A1 n1 c1 a0.Young,bS A2 n2 c2 a0.Old,am B4 96 [U A1 n1 c1,U A2 n2 c2],eN eM 42 (.slice mz.1.1 mz.1.2.1 mz.1.2.2) st.1,am B5 96 [U none 0 0,.slice mz.1.1 mz.1.2.1 mz.1.2.2],eN bj 23 (.slice mz.2.1 mz.2.2.1 mz.2.2.2) st.2,am B6 30 [.slice mz.2.1 mz.2.2.1 mz.2.2.2],ex A14 n14 c14 y13,am B15 39 [U A14 n14 c14],aK bR gc M16 y22.2,am B17 170 [.map (some M16)]]) [aR B26 39 [U A14 n14 c14],ex A14 n14 c14 y13] (([],[])) (((none,0,0),(none,0,0))) J J JD J (fun _=>J) (fun l G hY=>(ry hy30 hY).mono fun _ _ hh=>hh.2) ((cn eM 42 _).trans ((cn bj 23 _).trans (aI [2,9] [] [3,4,5,6,1,7,0,8,9,10,11,12] 13 J))) h ?_ ?_ ?_ ?_
  ·rintro l x27 ⟨p28,p29⟩ je sr27 ⟨⟨A28,n28,c28⟩,⟨A29,n29,c29⟩⟩ h;replace h:jb N a1 a0 y13 y22 x27 (p28,p29)=some (je,sr27):=h;simp only [zJ,List.zip_cons_cons,List.zip_nil_left,List.zip_nil_right,List.reverse_cons,List.reverse_nil,List.nil_append,List.cons_append];refine Y ?_;refine gR (aD (us:=[U A1 n1 c1,U A2 n2 c2]) 3 J J fe J) ?_;refine Y ?_;obtain ⟨y33,hy33,h⟩:=aa h;refine gD (ai (uR hy33) F9 J (hJ (ad (i:=1) J) (hJ (ad (i:=2) J) ac)) rQ) ?_;rintro _ _ ⟨_,⟨A34,n34,c34,A35,n35,c35,rfl,rfl⟩,rfl⟩;refine gD (aE eA J) ?_;rintro _ _ ⟨B36,rfl,rfl⟩;refine gO (ao (us:=[iV y33.Kind,iV y33.Shape,iV y33.Flags,iV y33.Age,U A34 n34 c34,U A35 n35 c35]) (cs':=[iV y33.Kind,iV y33.Shape,iV y33.Flags,iV y33.Age,U A34 n34 c34,U A35 n35 c35]) 0 J J J J bL J J J) ?_;rintro _ _ rfl;refine cp ?_;refine Y ?_
   refine aM (fun s L=> ∃p38 p39 p40 p41 p42 p43 p44 A38 n38 c38 A43 n43 c43 A44 n44 c44,ja N a1 a0 p28 y13 y22 p38 p39 p40 p41 p42 p43 p44=some (je,sr27)∧s=[(1,U A3 n3 c3),(2,pV B4 0),(4,pV B5 0),(5,U none 0 0),(6,pV B6 0),(7,iV 0),(9,pV B15 0),(10,pV B17 0),(15,pV B36 0)]∧L=[bE A3 n3 c3 a1,bS A1 n1 c1 a0.Young,bS A2 n2 c2 a0.Old,am B4 96 [U A1 n1 c1,U A2 n2 c2],bS A28 n28 c28 p28,am B5 96 [U none 0 0,U A28 n28 c28],bf A38 n38 c38 p38,am B6 30 [U A38 n38 c38],ex A14 n14 c14 y13,am B15 39 [U A14 n14 c14],aK bR gc M16 y22.2,am B17 170 [.map (some M16)],bf A43 n43 c43 p43,bf A44 n44 c44 p44,am B36 42 [iV p39,iV p40,iV p41,iV p42,U A43 n43 c43,U A44 n44 c44]]) ?_ ?_
   ·refine Y ?_;refine au J (fun g45=> ?_) (fun g45=> ?_)
    ·replace h:=ag g45 h;refine cE ?_;refine gR (aD (us:=[iV y33.Kind,iV y33.Shape,iV y33.Flags,iV y33.Age,U A34 n34 c34,U A35 n35 c35]) 0 J J bA J) ?_;refine gR (aJ 12 J J lA J) ?_;obtain ⟨y46,hy46,h⟩:=aa h;refine gD (ai (xb hy46) JN J (hJ (ad (i:=1) J) (hJ (ad (i:=2) J) (hJ (ab (i:=11) J J) ac))) tT) ?_;rintro _ _ ⟨_,⟨A47,n47,c47,A48,n48,c48,rfl,rfl⟩,rfl⟩;refine gO (ao (us:=[iV y46.Kind,iV y46.Shape,iV y46.Flags,iV y46.Age,U A47 n47 c47,U A48 n48 c48]) (cs':=[iV y46.Kind,iV y46.Shape,iV y46.Flags,iV y46.Age,U A47 n47 c47,U A48 n48 c48]) 2 J J J J bL J J J) ?_;rintro _ _ rfl;refine Y ?_;exact ⟨_,_,⟨p29,y46.Kind,y46.Shape,y46.Flags,y46.Age,y46.Slots,y46.More,A29,n29,c29,A47,n47,c47,A48,n48,c48,h,J,J⟩,sA,cS [5,6,7,8,9,10,11,12,13,14,15,16,0,1,2] 17⟩
    replace h:=ah g45 h;refine Y ?_;refine au J (fun g49=> ?_) (fun g49=> ?_)
    ·replace h:=ag g49 h;refine Y ?_;refine gR (aD (us:=[iV y33.Kind,iV y33.Shape,iV y33.Flags,iV y33.Age,U A34 n34 c34,U A35 n35 c35]) 0 J J bA J) ?_;refine gR (aJ 12 J J lA J) ?_;obtain ⟨y50,hy50,h⟩:=aa h;refine gD (ai (ug hy50) JM J (hJ (ad (i:=1) J) (hJ (ad (i:=2) J) (hJ (ab (i:=11) J J) ac))) rC) ?_;rintro _ _ ⟨_,⟨A51,n51,c51,A52,n52,c52,A53,n53,c53,rfl,rfl⟩,rfl⟩;refine Y ?_;refine gO (ao (us:=[iV y50.1.Kind,iV y50.1.Shape,iV y50.1.Flags,iV y50.1.Age,U A51 n51 c51,U A52 n52 c52]) (cs':=[iV y50.1.Kind,iV y50.1.Shape,iV y50.1.Flags,iV y50.1.Age,U A51 n51 c51,U A52 n52 c52]) 3 J J J J bL J J J) ?_;rintro _ _ rfl;refine Y ?_;refine gR (aJ 13 J J dD J) ?_;refine Y ?_;obtain ⟨q54,h⟩:=ap h;refine gD (bK 12 2 J J aH J J t0 Ce J J q54) ?_;rintro _ _ ⟨A55,n55,c55,rfl,rfl⟩;refine cp ?_;refine gO (ao (us:=[U A55 n55 c55]) (cs':=[U A55 n55 c55]) 13 J J J J eJ J J J) ?_;rintro _ _ rfl;refine Y ?_;exact ⟨_,_,⟨p29++y50.2,y50.1.Kind,y50.1.Shape,y50.1.Flags,y50.1.Age,y50.1.Slots,y50.1.More,A55,n55,c55,A51,n51,c51,A52,n52,c52,h,J,J⟩,sA,cS [6,7,8,9,10,11,12,13,14,15,16,17,0,1,3] 18⟩
    replace h:=ah g49 h;refine Y ?_;exact ⟨_,_,⟨p29,y33.Kind,y33.Shape,y33.Flags,y33.Age,y33.Slots,y33.More,A29,n29,c29,A34,n34,c34,A35,n35,c35,h,J,J⟩,sA,cS [3,4,5,6,7,8,9,10,11,12,13,14,1,2,0] 15⟩
   rintro _ _ ⟨p38,p39,p40,p41,p42,p43,p44,A38,n38,c38,A43,n43,c43,A44,n44,c44,h,rfl,rfl⟩;refine ax ?_;obtain ⟨y56,hy56,h⟩:=aa h;obtain ⟨y59,hy59,h⟩:=aa h;refine ik (t:=[(1,U A3 n3 c3),(2,pV B4 0),(4,pV B5 0),(5,U none 0 0),(6,pV B6 0),(7,iV 0),(9,pV B15 0),(10,pV B17 0),(15,pV B36 0)]) ?_ mN (aj _)
   refine jS I 9 [] [3,7,8] [62,63,64,65,66,67,68,69,70] [[],[0],[],[1,2],[],[4],[],[5,6],[]] [aV (pV B36 4),
aV (U A43 n43 c43),
aV (.map (some M16)),
aX3 (fun (A58:Option Addr) (n58 c58:Nat)=> U A58 n58 c58) (fun A58 n58 c58=> [bf A58 n58 c58 y56]),
aV (pV B36 5),
aV (U A44 n44 c44),
aV (.map (some M16)),
aX3 (fun (A61:Option Addr) (n61 c61:Nat)=> U A61 n61 c61) (fun A61 n61 c61=> [bf A61 n61 c61 y59]),
aV (pV B36 4)] [] (aj _) (mr) I rfl rfl ?_ ?_ ?_
   ·exact mq
   ·refine ak J ?_ ?_
    ·exact cF (bz J wy) J (bq J (aj _))
    refine ak J ?_ ?_
    ·refine vW (ai (nq hy59) BZ J (hJ (ad (i:=13) J) (hJ (bc (i:=10) J) ac)) lm) J ?_;rintro _ _ ⟨_,⟨A60,n60,c60,rfl,rfl⟩,rfl⟩;exact DC A60 n60 c60 (aj _)
    refine ak J ?_ ?_
    ·exact fi (aJ 11 J J An J) J (bq J (aj _))
    refine ak J ?_ ?_
    ·exact fi (aJ 14 J J dD J) J (bq J (aj _))
    refine ak J ?_ ?_
    ·exact cF (bz J kC) J (bq J (aj _))
    refine ak J ?_ ?_
    ·refine vW (ai (nq hy56) BZ J (hJ (ad (i:=12) J) (hJ (bc (i:=10) J) ac)) lm) J ?_;rintro _ _ ⟨_,⟨A57,n57,c57,rfl,rfl⟩,rfl⟩;exact DC A57 n57 c57 (aj _)
    refine ak J ?_ ?_
    ·exact fi (aJ 11 J J An J) J (bq J (aj _))
    refine ak J ?_ ?_
    ·exact fi (aJ 14 J J dD J) J (bq J (aj _))
    refine ak J ?_ ?_
    ·exact cF (bz J wy) J (bq J (aj _))
    exact fo
   intro A58 n58 c58 A61 n61 c61;refine nP (t:=[(65,U A58 n58 c58),(69,U A61 n61 c61),(70,pV B36 4),(1,U A3 n3 c3),(2,pV B4 0),(4,pV B5 0),(5,U none 0 0),(6,pV B6 0),(7,iV 0),(9,pV B15 0),(10,pV B17 0),(15,pV B36 0)]) (L':=[bf A58 n58 c58 y56,bf A61 n61 c61 y59,bE A3 n3 c3 a1,bS A1 n1 c1 a0.Young,bS A2 n2 c2 a0.Old,am B4 96 [U A1 n1 c1,U A2 n2 c2],bS A28 n28 c28 p28,am B5 96 [U none 0 0,U A28 n28 c28],bf A38 n38 c38 p38,am B6 30 [U A38 n38 c38],ex A14 n14 c14 y13,am B15 39 [U A14 n14 c14],aK bR gc M16 y22.2,am B17 170 [.map (some M16)],bf A43 n43 c43 p43,bf A44 n44 c44 p44,am B36 42 [iV p39,iV p40,iV p41,iV p42,U A43 n43 c43,U A44 n44 c44]]) ?_ mN (aj _);refine Bu 9 J I (ao (us:=[U A58 n58 c58]) (cs':=[iV p39,iV p40,iV p41,iV p42,U A58 n58 c58,U A44 n44 c44]) 16 J J J J eJ J J J) J J ?_;rintro _ _ rfl;refine AO 10 J I (bz J kC) J J J ?_;refine Bu 11 J I (ao (us:=[U A61 n61 c61]) (cs':=[iV p39,iV p40,iV p41,iV p42,U A58 n58 c58,U A61 n61 c61]) 16 J J J J eJ J J J) J J ?_;rintro _ _ rfl;refine EF ?_;refine mB I ?_;refine Y ?_;refine gR (aD (us:=[iV p39,iV p40,iV p41,iV p42,U A58 n58 c58,U A61 n61 c61]) 16 J J bA J) ?_;refine wb (cV 0 J) ?_;refine wb (cV 1 J) ?_
   refine gD (bJ (R:=eM) (vss:=[[iV p39,iV p40,iV p41,iV p42,U A58 n58 c58,U A61 n61 c61]]) (xs:=[(⟨p39,p40,p41,p42,y56,y59⟩:Ta)]) J (vS _ _ _ _ _ _ _ _ _ _) J J (fun _ _ hr=> .cons (⟨_,_,_,_,_,_,J,hr 0 _ J J,hr 1 _ J J⟩) All2.nil)) ?_;rintro _ _ ⟨A62,n62,c62,rfl,rfl⟩;obtain ⟨q63,h⟩:=ap h;refine gD (bK 7 0 J J aH J J t9 Gk J J q63) ?_;rintro _ _ ⟨A64,n64,c64,rfl,rfl⟩;refine cp ?_;refine Y ?_;refine gO (ao (us:=[U A64 n64 c64]) (cs':=[U none 0 0,U A64 n64 c64]) 8 J J J J rO J J J) ?_;rintro _ _ rfl;refine Y ?_;obtain ⟨rfl,rfl⟩:=Prod.mk.inj (Option.some.inj h);exact BL ((cS [3,4,5,6,7,8,9,10,11,12,13,14] 18).trans (fV ((A64,n64,c64),(A38,n38,c38)) J))
  ·rintro ⟨⟨A28,n28,c28⟩,⟨A29,n29,c29⟩⟩ h;refine oM ([bE A3 n3 c3 a1,bS A1 n1 c1 a0.Young,bS A2 n2 c2 a0.Old,am B4 96 [U A1 n1 c1,U A2 n2 c2],bS A28 n28 c28 y30.2.1,am B5 96 [U none 0 0,U A28 n28 c28],bf A29 n29 c29 y30.2.2,am B6 30 [U A29 n29 c29],ex A14 n14 c14 y13,am B15 39 [U A14 n14 c14],aK bR gc M16 y22.2,am B17 170 [.map (some M16)]]) J ?_;refine Y ?_;refine ax ?_;refine bN I _ (aj _) ?_;refine zR 0 J (aD (us:=[U none 0 0,U A28 n28 c28]) 5 J J fe J) ?_;refine zE 1 J (aw J) ?_;refine zR 2 J (aJ 11 J J An J) ?_;refine zR 4 J (aJ 7 J J dD J) ?_;refine zR 5 J (aJ 11 J J An J) ?_;obtain ⟨y65,hy65,h⟩:=aa h;refine zD 3 J (ai (nq hy65) BZ J (hJ (ab (i:=0) J J) (hJ (bc (i:=10) J) ac)) lm) ?_;rintro _ _ ⟨_,⟨A66,n66,c66,rfl,rfl⟩,rfl⟩;refine be (cS [1,2,3,4,5,6,7,8,9,10,11,12] 13) ?_;obtain ⟨y67,hy67,h⟩:=aa h;refine zD 6 J (ai (nq hy67) BZ J (hJ (ad (i:=7) J) (hJ (bc (i:=11) J) ac)) lm) ?_;rintro _ _ ⟨_,⟨A68,n68,c68,rfl,rfl⟩,rfl⟩;refine be (cS [2,3,4,5,6,7,8,9,10,11,12,13] 14) ?_;refine zO 7 J (ao (us:=[U none 0 0,U A28 n28 c28]) (cs':=[U none 0 0,U A28 n28 c28]) 7 J J J J fg J J J) ?_;rintro _ _ rfl;refine be (cS [2,3,4,5,6,7,8,9,10,11,12,13] 14) ?_;refine zE 8 J (aC J) ?_
   refine pU 9 J I I (ao (us:=[U A68 n68 c68]) (cs':=[U A68 n68 c68]) 9 J J J J eJ J J J) ?_;rintro _ _ rfl;refine zE 10 J (aC J) ?_;refine aZ I ?_;refine Y ?_;obtain rfl:=aq h;exact db (rs:=[.cell 4 96,.tmp 5,.cell 6 30,.tmp 7]) (vs:=[.agg #[U none 0 0,U A28 n28 c28],U A66 n66 c66,U A68 n68 c68,iV 0]) J (.cons (bT 7 J J fe) (.cons (dr J) (.cons (rk 9 J J dD) (.cons (dr J) .nil)))) J ((cn eM 42 _).trans (cS [0,7,2,1,4,5] 15)) ⟨_,_,_,_,_,_,_,_,_,_,_,_,J,J⟩
  ·rintro ⟨⟨A28,n28,c28⟩,⟨A29,n29,c29⟩⟩ h;exact aG h
  rintro i ⟨⟨A28,n28,c28⟩,⟨A29,n29,c29⟩⟩ h;exact aG h
 ·rintro _ h;exact aG h
 rintro i _ h;exact aG h
def kY (N:Nat)(a0:(List SR))(a1:SS):Option ((SP×(List SR)×(List SR)×Int) ⊕ (SP×(List SR)×(List SR))):=
 (dl N a1.m_ a0).bind fun y11=>Fg y11 (fun y11_0=>some (.inl (y11_0.1,y11_0.2.1,y11_0.2.2.1,y11_0.2.2.2))) (fun y11_1=>some (.inr (y11_1.1,y11_1.2.1,y11_1.2.2)))
theorem cN {N:Nat}{a0:(List SR)}{a1:SS}{r:((SP×(List SR)×(List SR)×Int) ⊕ (SP×(List SR)×(List SR)))}(h:kY N a0 a1=some r):Okc Tryz.prog 85 [U A1 n1 c1,pV B2 0] ([bE A1 n1 c1 a0,aR B2 46 [pV B3 0],am B3 99 [U A4 n4 c4,U A5 n5 c5,U A6 n6 c6,U A7 n7 c7,pV B8 0],bS A4 n4 c4 a1.m_.Young,bS A5 n5 c5 a1.m_.Old,bf A6 n6 c6 a1.roots_,bf A7 n7 c7 a1.pending_,am B8 147 [.map (some M9)],aK bR cG M9 a1.set_.at_]) (fun u post=>PC (fun (r:SP×(List SR)×(List SR)×Int)=> ∃A500 n500 c500 A501 n501 c501 A502 n502 c502 A503 n503 c503,u=.tuple #[.agg #[U A500 n500 c500,U A501 n501 c501],U A502 n502 c502,U A503 n503 c503,iV r.2.2.2]∧post=[bS A500 n500 c500 r.1.Young,bS A501 n501 c501 r.1.Old,bf A502 n502 c502 r.2.1,bf A503 n503 c503 r.2.2.1,bS A4 n4 c4 a1.m_.Young,bS A5 n5 c5 a1.m_.Old,bf A6 n6 c6 a1.roots_,bf A7 n7 c7 a1.pending_,am B3 99 [U A4 n4 c4,U A5 n5 c5,U A6 n6 c6,U A7 n7 c7,pV B8 0],am B8 147 [.map (some M9)],aK bR cG M9 a1.set_.at_]) (fun (r:SP×(List SR)×(List SR))=> ∃A500 n500 c500 A501 n501 c501 A502 n502 c502 A503 n503 c503,u=.tuple #[.agg #[U A500 n500 c500,U A501 n501 c501],U A502 n502 c502,U A503 n503 c503,iV 0]∧post=[bS A500 n500 c500 r.1.Young,bS A501 n501 c501 r.1.Old,bf A502 n502 c502 r.2.1,bf A503 n503 c503 r.2.2,bS A4 n4 c4 a1.m_.Young,bS A5 n5 c5 a1.m_.Old,bf A6 n6 c6 a1.roots_,bf A7 n7 c7 a1.pending_,am B3 99 [U A4 n4 c4,U A5 n5 c5,U A6 n6 c6,U A7 n7 c7,pV B8 0],am B8 147 [.map (some M9)],aK bR cG M9 a1.set_.at_]) r):=by
 refine bp Tryz.func85 J J ?_;simp only [aP];refine Y ?_;refine gD (aE mO J) ?_;rintro _ _ ⟨B10,rfl,rfl⟩;refine Y ?_;refine gR (ba 2 J J iZ J) ?_;refine Y ?_;refine gR (aD (us:=[U A4 n4 c4,U A5 n5 c5]) 3 J J fe J) ?_;refine Y ?_;obtain ⟨y11,hy11,h⟩:=aa h;rcases y11 with y11_0|y11_1
 ·replace h:=Kg h;refine gD (aT (qH hy11) ML J (aI [1] [4,5] [0,1,2,3,6,7,8,9] 10 J)) ?_;rintro _ _ ⟨_,⟨A12,n12,c12,A13,n13,c13,A14,n14,c14,A15,n15,c15,rfl,rfl⟩,rfl⟩;refine Y ?_;refine gO (ao (us:=[U A12 n12 c12,U A13 n13 c13]) (cs':=[U A12 n12 c12,U A13 n13 c13]) 6 J J J J fg J J J) ?_;rintro _ _ rfl;refine Y ?_;obtain rfl:=aq h;exact db (rs:=[.cell 3 96,.tmp 4,.tmp 5,.tmp 6]) (vs:=[.agg #[U A12 n12 c12,U A13 n13 c13],U A14 n14 c14,U A15 n15 c15,iV y11_0.2.2.2]) J (.cons (bT 6 J J fe) (.cons (dr J) (.cons (dr J) (.cons (dr J) .nil)))) J (cS [0,1,2,3,4,5,10,11,9,12,13] 14) ⟨_,_,_,_,_,_,_,_,_,_,_,_,J,J⟩
 replace h:=Kf h;refine gD (aT (qH hy11) ML J (aI [1] [4,5] [0,1,2,3,6,7,8,9] 10 J)) ?_;rintro _ _ ⟨_,⟨A16,n16,c16,A17,n17,c17,A18,n18,c18,A19,n19,c19,rfl,rfl⟩,rfl⟩;refine cp ?_;refine Y ?_;refine gO (ao (us:=[U A16 n16 c16,U A17 n17 c17]) (cs':=[U A16 n16 c16,U A17 n17 c17]) 6 J J J J fg J J J) ?_;rintro _ _ rfl;refine Y ?_;obtain rfl:=aq h;exact db (rs:=[.cell 3 96,.tmp 4,.tmp 5,.tmp 6]) (vs:=[.agg #[U A16 n16 c16,U A17 n17 c17],U A18 n18 c18,U A19 n19 c19,iV 0]) J (.cons (bT 6 J J fe) (.cons (dr J) (.cons (dr J) (.cons (dr J) .nil)))) J (cS [0,1,2,3,4,5,10,11,9,12,13] 14) ⟨_,_,_,_,_,_,_,_,_,_,_,_,J,J⟩
def iA (N:Nat)(a0:SW):Option (List Int):=
 (vt N a0.at_).bind fun y3=>(pa N a0.at_).bind fun y5=>some y5
theorem qp {N:Nat}{a0:SW}{r:(List Int)}(h:iA N a0=some r):Okc Tryz.prog 57 [pV B1 0] ([aR B1 147 [.map (some M2)],fh bR cG M2 a0.at_]) (fun u post=> ∃A0 n0 c0,u=U A0 n0 c0∧post=[eC A0 n0 c0 r]):=by
 refine bp Tryz.func57 J J ?_;simp only [aP];refine Y ?_;refine ax ?_;refine Y ?_;refine gE (cT J hU) ?_;refine Y ?_;refine dE J ?_;refine Y ?_;refine gR (ba 0 J J H9 J) ?_;obtain ⟨y3,hy3,h⟩:=aa h;refine gD (ai (FG hy3) Pe J (ac) C8) ?_;rintro _ _ ⟨_,⟨B4,rfl,rfl⟩,rfl⟩;obtain ⟨y5,hy5,h⟩:=aa h;refine gD (ai (z8 hy5) Pf J (hJ (az (i:=0) J) (hJ (ab (i:=2) J J) ac)) xG) ?_;rintro _ _ ⟨_,⟨A6,n6,c6,rfl,rfl⟩,rfl⟩;refine Y ?_;obtain rfl:=aq h;exact aL J J (cS [0] 4) ⟨_,_,_,J,J⟩
theorem oQ {r:(List Int)}: ∀v post,((fun (u:Value) (post:List Chunk)=> ∃A0 n0 c0,u=U A0 n0 c0∧post=[eC A0 n0 c0 r])) v post→ ∀c∈post,ce c:=by
 rintro _ _ ⟨_,_,_,rfl,rfl⟩;exact hJ bP (ac)
def jY (N:Nat)(a0:SR):Option (Int×Bool):=
 (bif decide (a0.Kind=7) then (some true) else (some (decide (a0.Kind=9)))).bind fun b2=>some (a0.N,b2)
theorem sG {N:Nat}{a0:SR}{r:(Int×Bool)}(h:jY N a0=some r):Okc Tryz.prog 174 [(fC a0)] ([]) (fun u post=>u=.tuple #[iV r.1,.bool r.2]∧post=[]):=by
 refine bp Tryz.func174 J J ?_;simp only [aP];refine Y ?_;refine gD (bn J J) ?_;rintro _ _ ⟨B1,rfl,rfl⟩;refine Y ?_;refine ax ?_;refine bN I _ (aj _) ?_;refine zE 0 J (bz J rE) ?_;refine zR 1 J (aJ 0 J J dy J) ?_;refine zE 2 J (dK J oJ) ?_;refine zR 3 J (aJ 0 J J dy J) ?_;refine zE 4 J (Hg J J) ?_;refine zE 5 J (aw J) ?_;refine zE 10 J (aC J) ?_;obtain ⟨b2,hb2,h⟩:=aa h;refine zX (fun l=>((((l.setIfInBounds 6 true).setIfInBounds 7 true).setIfInBounds 8 true).setIfInBounds 9 true)) 1 13 b2 (fun rest=> ?_) ?_
 ·clear h;refine Cc 9 J (fun g2=> ?_) (fun g2=> ?_)
  ·have h:=ag g2 hb2;refine mM 6 J I (rX g2 J) J ?_;refine mM 7 J I (rX g2 J) J ?_;refine mM 8 J I (rX g2 J) J ?_;refine zE 9 J (qP g2 J J) ?_;obtain rfl:=aq h;exact tN rest (kH J (aY (aY (aY (aY cB J) J) J) J)) (aj _) (aj _)
  have h:=ah g2 hb2;refine vX 6 J I (dK J oJ) (eS g2 J) J ?_;refine ul 7 J I (aJ 0 J J dy J) (eS g2 J) J ?_;refine vX 8 J I (Hg J J) (eS g2 J) J ?_;refine zE 9 J (qQ g2 J J) ?_;obtain rfl:=aq h;exact tN rest (kH J (aY (aY (aY (aY cB J) J) J) J)) (aj _) (aj _)
 refine zE 11 J (aC J) ?_;refine aZ I ?_;refine Y ?_;obtain rfl:=aq h;exact nN J J J (cS [] 1) ⟨J,J⟩
theorem qE {r:(Int×Bool)}: ∀v post,((fun (u:Value) (post:List Chunk)=>u=.tuple #[iV r.1,.bool r.2]∧post=[])) v post→ ∀c∈post,ce c:=by
 rintro _ _ ⟨rfl,rfl⟩;exact ac
def nl (N:Nat)(a0:SR)(a1:SP):Option Bool:=
 (jY N a0).bind fun y5=>(bif y5.2 then ((dR N a1 y5.1).bind fun y7=>some (!y7)) else (some false)).bind fun b6=>some b6
theorem BI {N:Nat}{a0:SR}{a1:SP}{r:Bool}(h:nl N a0 a1=some r):Okc Tryz.prog 173 [(fC a0),pV B1 0] ([aR B1 96 [U A2 n2 c2,U A3 n3 c3],bB A2 n2 c2 a1.Young,bB A3 n3 c3 a1.Old]) (fun u post=>u=.bool r∧post=[]):=by
 refine bp Tryz.func173 J J ?_;simp only [aP];refine Y ?_;refine gD (bn J J) ?_;rintro _ _ ⟨B4,rfl,rfl⟩;refine Y ?_;refine gR (aD (us:=oG a0) 0 J J bV J) ?_;obtain ⟨y5,hy5,h⟩:=aa h;refine gD (ai (sG hy5) JA J (ac) qE) ?_;rintro _ _ ⟨_,⟨rfl,rfl⟩,rfl⟩;refine Y ?_;obtain ⟨b6,hb6,h⟩:=aa h;refine aO 5 17 b6 ?_ ?_
 ·clear h;refine aN 12 J (fun g6=> ?_) (fun g6=> ?_)
  ·have h:=ag g6 hb6;refine cL (uT (us:=[U A2 n2 c2,U A3 n3 c3]) 1 J J fe J) J (bU g6 J) J ?_;refine Y ?_;obtain ⟨y7,hy7,h⟩:=aa h;refine dn (ai (jK hy7) tK J (hJ (ab (i:=2) J J) (hJ (ab (i:=3) J J) ac)) gX) J (bU g6 J) J ?_;rintro _ _ ⟨_,⟨rfl,rfl⟩,rfl⟩;refine Y ?_;obtain rfl:=aq h;exact ae sA (cS [0,1,2,3] 4)
  have h:=ah g6 hb6;refine Y ?_;obtain rfl:=aq h;exact ae sA (cS [0,1,2,3] 4)
 refine Y ?_;obtain rfl:=aq h;exact aL J J (cS [] 4) ⟨J,J⟩
def lz (N:Nat)(ff:SR→Option Bool):Option Int:=
 some (-1)
def dB (N:Nat)(ff:SR→Option Bool)(a0:(List SR)):Nat→Int→Option Int
 |0,_=>none
 |m3+1,p4=>bif decide (p4<(a0.length:Int)) then ((aF a0 p4).bind fun x6=>(ff x6).bind fun y7=>bif y7 then (some p4) else (bi (in64 (p4+1)) ((dB N ff a0 m3) (p4+1)))) else (lz N ff)
def iO (N:Nat)(a0:(List SR))(ff:SR→Option Bool):Option Int:=
 dB N ff a0 N 0
theorem ra {N:Nat}{a0:(List SR)}{ff:SR→Option Bool}{r:Int}(h:iO N a0 ff=some r){vf:Value}{G:List Chunk}(hf:IJ Tryz.prog vf G (fun x=> [.agg #[iV x.Kind,iV x.N,.string x.S]]) (fun r=> .bool r) ff):Okc Tryz.prog 91 [U A1 n1 c1,vf] (bE A1 n1 c1 a0::G) (fun u post=>u=iV r∧post=[]):=by
 refine bp Tryz.func91 J J ?_;simp only [aP];refine Y ?_;refine aM (fun s L=>lz N ff=some r∧s=[(4,iV 0)]∧L=G) ?_ ?_
 ·refine Y ?_;refine gR (aU 0 J av J t0) ?_;refine Y ?_;refine bv (fun m s L=> ∃p4,dB N ff a0 m p4=some r∧s=[(0,U A1 n1 c1),(1,vf),(4,iV 0),(7,iV (a0.length:Int)),(8,iV p4)]∧L=bE A1 n1 c1 a0::G) N _ _ ⟨0,h,J,J⟩ sA (cS [0] 1) ?_;rintro (_|m3) _ _ ⟨p4,h,rfl,rfl⟩
  ·exact aG h
  rw [dB.eq_2] at h;refine Y ?_;refine ax ?_;refine au J (fun g5=> ?_) (fun g5=> ?_)
  ·replace h:=ag g5 h;refine Y ?_;refine ax ?_;refine Y ?_;obtain ⟨x6,hx6,h⟩:=aa h;obtain ⟨lx6,ux6,hx6⟩:=aA hx6;refine gR (aX 0 J av J J t0 aS lx6 ux6) ?_;refine gR (bG (us:=[iV x6.Kind,iV x6.N,.string x6.S]) 0 J av J hx6 bV (fun _ _ _ h=>by rw [show _=_ from h];rfl)) ?_;obtain ⟨y7,hy7,h⟩:=aa h;refine gD (CY (a:=x6) [bE A1 n1 c1 a0] hf hy7 J J) ?_;rintro _ _ ⟨rfl,rfl⟩;refine Y ?_;refine au J (fun g8=> ?_) (fun g8=> ?_)
   ·replace h:=ag g8 h;refine Y ?_;obtain rfl:=aq h;exact aL J J (tz [] 1 J J) ⟨J,J⟩
   replace h:=ah g8 h;refine Y ?_;obtain ⟨q9,h⟩:=ap h;refine gE (aW J J q9.1 q9.2) ?_;refine Y ?_;exact ⟨m3,_,_,Tk _,⟨p4+1,h,J,J⟩,sA,cS [0] 1⟩
  replace h:=ah g5 h;refine Y ?_;exact ⟨_,_,⟨h,J,J⟩,sA,cS [] 1⟩
 rintro _ _ ⟨h,rfl,rfl⟩;refine Y ?_;obtain rfl:=aq h;exact aL J J (tz [] 0 J J) ⟨J,J⟩
theorem pK {r:Int}: ∀v post,((fun (u:Value) (post:List Chunk)=>u=iV r∧post=[])) v post→ ∀c∈post,ce c:=by
 rintro _ _ ⟨rfl,rfl⟩;exact ac
def cH (N:Nat)(a0:(List SR))(ff:SR→Option Bool):Option Bool:=
 (iO N a0 ff).bind fun y2=>some (decide (0≤y2))
theorem jU {N:Nat}{a0:(List SR)}{ff:SR→Option Bool}{r:Bool}(h:cH N a0 ff=some r){vf:Value}{G:List Chunk}(hf:IJ Tryz.prog vf G (fun x=> [.agg #[iV x.Kind,iV x.N,.string x.S]]) (fun r=> .bool r) ff):Okc Tryz.prog 50 [U A1 n1 c1,vf] (bE A1 n1 c1 a0::G) (fun u post=>u=.bool r∧post=[]):=by
 refine bp Tryz.func50 J J ?_;simp only [aP];refine Y ?_;obtain ⟨y2,hy2,h⟩:=aa h;refine gD (ai (ra hy2 hf) P4 J (hJ (ab (i:=0) J J) (Ay (E:=[bE A1 n1 c1 a0]) hf.1)) pK) ?_;rintro _ _ ⟨_,⟨rfl,rfl⟩,rfl⟩;refine Y ?_;obtain rfl:=aq h;exact aL J J (tz [] 1 J J) ⟨J,J⟩
theorem jf {r:Bool}: ∀v post,((fun (u:Value) (post:List Chunk)=>u=.bool r∧post=[])) v post→ ∀c∈post,ce c:=by
 rintro _ _ ⟨rfl,rfl⟩;exact ac
def ib (N:Nat)(p3:(List Ta)):Option (List Ta):=
 some p3
def kI (N:Nat)(a1:Int):Option (List Ta):=
 bif decide (a1<0) then none else (bi (in64 (0 - 0)) (bi (in64 (a1 - (0 - 0))) (bif decide (0<a1 - (0 - 0)) then (bi ((0:Int)<(a1 - (0 - 0))∧(a1 - (0 - 0))≤1099511627776) (ib N ([]:List Ta))) else (ib N []))))
theorem up {N:Nat}{a1:Int}{r:(List Ta)}(h:kI N a1=some r):Okc Tryz.prog 94 [U none 0 0,iV a1] ([]) (fun u post=> ∃A0 n0 c0,u=U A0 n0 c0∧post=[bS A0 n0 c0 r]):=by
 refine bp Tryz.func94 J J ?_;simp only [aP];refine Y ?_;refine ax ?_;refine Y ?_;refine au J (fun g1=> ?_) (fun g1=> ?_)
 ·replace h:=ag g1 h;exact aG h
 replace h:=ah g1 h;refine Y ?_;refine aM (fun s L=> ∃p3 A3 n3 c3,ib N p3=some r∧s=[(0,U A3 n3 c3),(4,U none 0 0)]∧L=[bS A3 n3 c3 p3]) ?_ ?_
 ·refine Y ?_;refine gE (wB J t9) ?_;refine Y ?_;refine gE (nA J t9) ?_;obtain ⟨q4,h⟩:=ap h;refine gE (lK J J q4.1 q4.2) ?_;obtain ⟨q5,h⟩:=ap h;refine gE (lK J J q5.1 q5.2) ?_;refine Y ?_;refine au J (fun g6=> ?_) (fun g6=> ?_)
  ·replace h:=ag g6 h;refine Y ?_;refine gE (wB J t9) ?_;refine gE (AD J t9 bL J) ?_;refine Y ?_;obtain ⟨q7,h⟩:=ap h;refine gD (xV J J t9 hP Gk J q7.1 q7.2) ?_;rintro _ _ ⟨A8,n8,c8,rfl,rfl⟩;refine Y ?_;refine gE (nA J t9) ?_;refine gD (FA (R:=eM) 0 J J t9 bL J J) ?_;rintro _ _ ⟨A9,n9,c9,rfl,rfl⟩;refine Y ?_;exact ⟨_,_,⟨([]:List Ta),A9,n9,c9,h,J,J⟩,sA,cS [0] 1⟩
  replace h:=ah g6 h;refine Y ?_;exact ⟨_,_,⟨[],none,0,0,h,J,J⟩,sA,(cn eM 42 _).trans (cS [0] 1)⟩
 rintro _ _ ⟨p3,A3,n3,c3,h,rfl,rfl⟩;refine Y ?_;obtain rfl:=aq h;exact aL J J (cS [0] 1) ⟨_,_,_,J,J⟩
def jE (N:Nat)(p12:(List Ta)):Option (List Ta):=
 some p12
def kj (N:Nat)(a0_0:(List Ta))(a0_1:(List Ta)):Option (List Ta):=
 (kI N ((0+(a0_0.length:Int))+(a0_1.length:Int))).bind fun y9=>bi (bQ (y9.length+a0_0.length)) (bi (bQ ((y9++a0_0).length+a0_1.length)) (jE N ((y9++a0_0)++a0_1)))
def fF (N:Nat)(a0_0:(List Ta))(a0_1:(List Ta)):Option (List Ta):=
 bi (in64 (0+(a0_0.length:Int))) (bif decide (0+(a0_0.length:Int)<0) then none else (bi (in64 ((0+(a0_0.length:Int))+(a0_1.length:Int))) (bif decide ((0+(a0_0.length:Int))+(a0_1.length:Int)<0) then none else (kj N a0_0 a0_1))))
set_option maxHeartbeats 4000000 in
theorem nJ {N:Nat}{a0_0:(List Ta)}{a0_1:(List Ta)}{r:(List Ta)}(h:fF N a0_0 a0_1=some r):Okc Tryz.prog 54 [.slice (some ⟨B1,0,none⟩) 2 2] ([aR B1 94 [U A2 n2 c2,U A3 n3 c3],bB A2 n2 c2 a0_0,bB A3 n3 c3 a0_1]) (fun u post=> ∃A0 n0 c0,u=U A0 n0 c0∧post=[bS A0 n0 c0 r]):=by
 refine bp Tryz.func54 J J ?_;simp only [aP];refine Y ?_;refine aM (fun s L=>kj N a0_0 a0_1=some r∧s=[(0,.slice (some ⟨B1,0,none⟩) 2 2),(2,U none 0 0),(3,iV ((0+(a0_0.length:Int))+(a0_1.length:Int)))]∧L=[bB A2 n2 c2 a0_0,bB A3 n3 c3 a0_1,aR B1 94 [U A2 n2 c2,U A3 n3 c3]]) ?_ ?_
 ·refine Y ?_;refine gE (nA J z4) ?_;refine Y ?_;refine qZ 3 ?_;refine sd ?_;refine Y ?_;refine ax ?_;refine ea J ?_;refine Y ?_;refine ax ?_;refine Y ?_;refine gE (mx J J z4 rO (by decide) (by decide)) ?_;refine gR (ba 0 J J oU J) ?_;refine Y ?_;refine gR (aU 1 J av J t9) ?_;obtain ⟨q5,h⟩:=ap h;refine gE (aW J J q5.1 q5.2) ?_;refine Y ?_;refine au J (fun g6=> ?_) (fun g6=> ?_)
  ·replace h:=ag g6 h;exact aG h
  replace h:=ah g6 h;refine Y ?_;refine gE (aW J J (by decide) (by decide)) ?_;refine Y ?_;refine sd ?_;refine Y ?_;refine ax ?_;refine ea J ?_;refine Y ?_;refine ax ?_;refine Y ?_;refine gE (mx J J z4 rO (by decide) (by decide)) ?_;refine gR (ba 0 J J oU J) ?_;refine Y ?_;refine gR (aU 2 J av J t9) ?_;obtain ⟨q7,h⟩:=ap h;refine gE (aW J J q7.1 q7.2) ?_;refine Y ?_;refine au J (fun g8=> ?_) (fun g8=> ?_)
  ·replace h:=ag g8 h;exact aG h
  replace h:=ah g8 h;refine Y ?_;refine gE (aW J J (by decide) (by decide)) ?_;refine Y ?_;refine sd ?_;refine Y ?_;refine ax ?_;refine dE J ?_;refine Y ?_;exact ⟨_,_,⟨h,J,J⟩,sA,cS [1,2,0] 3⟩
 rintro _ _ ⟨h,rfl,rfl⟩;refine Y ?_;obtain ⟨y9,hy9,h⟩:=aa h;refine gD (aT (up hy9) P1 J (aI [] [] [0,1,2] 3 J)) ?_;rintro _ _ ⟨_,⟨A10,n10,c10,rfl,rfl⟩,rfl⟩;refine Y ?_;refine aM (fun s L=> ∃p12 A12 n12 c12,jE N p12=some r∧s=[(2,U none 0 0),(6,U A12 n12 c12)]∧L=[bS A12 n12 c12 p12]) ?_ ?_
 ·refine Y ?_;refine gE (nA J z4) ?_;refine Y ?_;refine qZ 3 ?_;refine sd ?_;refine Y ?_;refine ax ?_;refine ea J ?_;refine Y ?_;refine ax ?_;refine Y ?_;refine gE (mx J J z4 rO (by decide) (by decide)) ?_;refine gR (ba 3 J J oU J) ?_;refine Y ?_;obtain ⟨q13,h⟩:=ap h;refine gD (bK 0 1 J J av J J t9 Gk J J q13) ?_;rintro _ _ ⟨A14,n14,c14,rfl,rfl⟩;refine Y ?_;refine gE (aW J J (by decide) (by decide)) ?_;refine Y ?_;refine sd ?_;refine Y ?_;refine ax ?_;refine ea J ?_;refine Y ?_;refine ax ?_;refine Y ?_;refine gE (mx J J z4 rO (by decide) (by decide)) ?_;refine gR (ba 3 J J oU J) ?_;refine Y ?_;obtain ⟨q15,h⟩:=ap h;refine gD (bK 0 2 J J av J J t9 Gk J J q15) ?_;rintro _ _ ⟨A16,n16,c16,rfl,rfl⟩;refine cp ?_;refine Y ?_;refine gE (aW J J (by decide) (by decide)) ?_;refine Y ?_;refine sd ?_;refine Y ?_;refine ax ?_;refine dE J ?_;refine Y ?_;exact ⟨_,_,⟨(y9++a0_0)++a0_1,A16,n16,c16,h,J,J⟩,sA,cS [0] 4⟩
 rintro _ _ ⟨p12,A12,n12,c12,h,rfl,rfl⟩;refine Y ?_;obtain rfl:=aq h;exact aL J J (cS [0] 1) ⟨_,_,_,J,J⟩
def iF (N:Nat)(a0:Ta):Option (List Int):=
 (eW N a0).bind fun y4=>(gJ N a0).bind fun y6=>bi (bQ (y4.length+y6.length)) (some (y4++y6))
theorem qD {N:Nat}{a0:Ta}{r:(List Int)}(h:iF N a0=some r):Okc Tryz.prog 176 [.agg #[iV a0.Kind,iV a0.Shape,iV a0.Flags,iV a0.Age,U A1 n1 c1,U A2 n2 c2]] ([bE A1 n1 c1 a0.Slots,bE A2 n2 c2 a0.More]) (fun u post=> ∃A0 n0 c0,u=U A0 n0 c0∧post=[eC A0 n0 c0 r]):=by
 refine bp Tryz.func176 J J ?_;simp only [aP];refine Y ?_;refine gD (bn J J) ?_;rintro _ _ ⟨B3,rfl,rfl⟩;refine Y ?_;refine ax ?_;refine bN I _ (aj _) ?_;refine zR 0 J (aD (us:=[iV a0.Kind,iV a0.Shape,iV a0.Flags,iV a0.Age,U A1 n1 c1,U A2 n2 c2]) 0 J J bA J) ?_;refine zR 2 J (aD (us:=[iV a0.Kind,iV a0.Shape,iV a0.Flags,iV a0.Age,U A1 n1 c1,U A2 n2 c2]) 0 J J bA J) ?_;obtain ⟨y4,hy4,h⟩:=aa h;refine zD 1 J (ai (iX hy4) yg J (hJ (ab (i:=1) J J) (hJ (ab (i:=2) J J) ac)) gk) ?_;rintro _ _ ⟨_,⟨A5,n5,c5,rfl,rfl⟩,rfl⟩;refine be (cS [1,2,3] 4) ?_;obtain ⟨y6,hy6,h⟩:=aa h;refine zD 3 J (ai (nE hy6) F4 J (hJ (ab (i:=2) J J) (hJ (ab (i:=3) J J) ac)) ls) ?_;rintro _ _ ⟨_,⟨A7,n7,c7,rfl,rfl⟩,rfl⟩;refine be (cS [2,3,4] 5) ?_;obtain ⟨q8,h⟩:=ap h;refine zD 4 J (bK 1 0 J J aH J J z3 HF J J q8) ?_;rintro _ _ ⟨A9,n9,c9,rfl,rfl⟩;refine be (cS [2,3,4] 5) ?_;refine zE 5 J (aC J) ?_;refine aZ I ?_;refine Y ?_;obtain rfl:=aq h;exact aL J J (cS [1] 5) ⟨_,_,_,J,J⟩
theorem oW {r:(List Int)}: ∀v post,((fun (u:Value) (post:List Chunk)=> ∃A0 n0 c0,u=U A0 n0 c0∧post=[eC A0 n0 c0 r])) v post→ ∀c∈post,ce c:=by
 rintro _ _ ⟨_,_,_,rfl,rfl⟩;exact hJ bP (ac)
def od (N:Nat)(a0:Int)(a1:SP):Option Bool:=
 (dR N a1 a0).bind fun y4=>some (!y4)
theorem zg {N:Nat}{a0:Int}{a1:SP}{r:Bool}(h:od N a0 a1=some r):Okc Tryz.prog 194 [iV a0,pV B1 0] ([aR B1 96 [U A2 n2 c2,U A3 n3 c3],bB A2 n2 c2 a1.Young,bB A3 n3 c3 a1.Old]) (fun u post=>u=.bool r∧post=[]):=by
 refine bp Tryz.func194 J J ?_;simp only [aP];refine Y ?_;refine gR (uT (us:=[U A2 n2 c2,U A3 n3 c3]) 0 J J fe J) ?_;refine Y ?_;obtain ⟨y4,hy4,h⟩:=aa h;refine gD (ai (jK hy4) tK J (hJ (ab (i:=1) J J) (hJ (ab (i:=2) J J) ac)) gX) ?_;rintro _ _ ⟨_,⟨rfl,rfl⟩,rfl⟩;refine Y ?_;obtain rfl:=aq h;exact aL J J (cS [] 3) ⟨J,J⟩
def vj (N:Nat):Option Bool:=
 some true
def ni (N:Nat)(y6:((List Ta)))(a0:SP):Nat→Int→Option Bool
 |0,_=>none
 |m8+1,p9=>bif decide (p9<(y6.length:Int)) then ((aF y6 p9).bind fun x11=>(eg N x11).bind fun y15=>(bif !y15 then (some true) else ((iF N x11).bind fun y17=>(bC N y17 (fun x=>od N x a0)).bind fun y19=>some y19)).bind fun b16=>bif b16 then (some false) else (bi (in64 (p9+1)) ((ni N y6 a0 m8) (p9+1)))) else (vj N)
def oB (N:Nat)(a0:SP):Option Bool:=
 (fF N a0.Young a0.Old).bind fun y6=>ni N y6 a0 N 0
set_option maxHeartbeats 4000000 in
theorem C5 {N:Nat}{a0:SP}{r:Bool}(h:oB N a0=some r):Okc Tryz.prog 175 [.agg #[U A1 n1 c1,U A2 n2 c2]] ([bB A1 n1 c1 a0.Young,bB A2 n2 c2 a0.Old]) (fun u post=>u=.bool r∧post=[]):=by
 refine bp Tryz.func175 J J ?_;simp only [aP];refine Y ?_;refine gD (bn J J) ?_;rintro _ _ ⟨B3,rfl,rfl⟩;refine Y ?_;refine aM (fun s L=>vj N=some r∧s=[(2,.bool false)]∧L=[]) ?_ ?_
 ·refine Y ?_;refine gD (eO (cs:=[U A1 n1 c1,U A2 n2 c2]) J (AI _ _ _ _ _ _)) ?_;rintro _ _ ⟨B5,rfl,rfl⟩;obtain ⟨y6,hy6,h⟩:=aa h;refine wb (gP 0 J) ?_;refine gD (aT (nJ hy6) MQ J (aI [0,2,3] [] [0,1,2,3] 4 J)) ?_;rintro _ _ ⟨_,⟨A7,n7,c7,rfl,rfl⟩,rfl⟩;refine gR (aU 0 J aH J t9) ?_;refine Y ?_;refine bv (fun m s L=> ∃p9,ni N y6 a0 m p9=some r∧s=[(1,pV B3 0),(2,.bool false),(10,U A7 n7 c7),(11,iV (y6.length:Int)),(12,iV p9)]∧L=[bS A7 n7 c7 y6,bB A1 n1 c1 a0.Young,bB A2 n2 c2 a0.Old,am B3 96 [U A1 n1 c1,U A2 n2 c2]]) N _ _ ⟨0,h,J,J⟩ sA (cS [0,3,4,2] 5) ?_;rintro (_|m8) _ _ ⟨p9,h,rfl,rfl⟩
  ·exact aG h
  rw [ni.eq_2] at h;refine Y ?_;refine ax ?_;refine au J (fun g10=> ?_) (fun g10=> ?_)
  ·replace h:=ag g10 h;refine Y ?_;refine ax ?_;refine Y ?_;obtain ⟨x11,hx11,h⟩:=aa h;obtain ⟨lx11,ux11,hx11⟩:=aA hx11;refine gR (aX 0 J aH J J t9 bL lx11 ux11) ?_;refine gD (LB 0 J aH J hx11 bA J (gh x11)) ?_;rintro u _ ⟨_,_,⟨A12,n12,c12,A13,n13,c13,rfl,rfl⟩,hu,rfl⟩;obtain rfl:u=.agg #[iV x11.Kind,iV x11.Shape,iV x11.Flags,iV x11.Age,U A12 n12 c12,U A13 n13 c13]:=hu;refine gD (aE eA J) ?_;rintro _ _ ⟨B14,rfl,rfl⟩;refine gO (ao (us:=[iV x11.Kind,iV x11.Shape,iV x11.Flags,iV x11.Age,U A12 n12 c12,U A13 n13 c13]) (cs':=[iV x11.Kind,iV x11.Shape,iV x11.Flags,iV x11.Age,U A12 n12 c12,U A13 n13 c13]) 0 J J J J bL J J J) ?_;rintro _ _ rfl;refine cp ?_;refine Y ?_;refine gR (aD (us:=[iV x11.Kind,iV x11.Shape,iV x11.Flags,iV x11.Age,U A12 n12 c12,U A13 n13 c13]) 0 J J bA J) ?_;obtain ⟨y15,hy15,h⟩:=aa h;refine gD (ai (lY hy15) DI J (hJ (ab (i:=1) J J) (hJ (ab (i:=2) J J) ac)) kd) ?_;rintro _ _ ⟨_,⟨rfl,rfl⟩,rfl⟩;refine Y ?_;obtain ⟨b16,hb16,h⟩:=aa h;refine aO 5 24 b16 ?_ ?_
   ·clear h;refine aN 19 J (fun g16=> ?_) (fun g16=> ?_)
    ·have h:=ag g16 hb16;refine Y ?_;obtain rfl:=aq h;exact ae sA (cS [0,1,2,3,4,5,6] 7)
    have h:=ah g16 hb16;refine cL (aD (us:=[iV x11.Kind,iV x11.Shape,iV x11.Flags,iV x11.Age,U A12 n12 c12,U A13 n13 c13]) 0 J J bA J) J (eS g16 J) J ?_;obtain ⟨y17,hy17,h⟩:=aa h;refine dn (ai (qD hy17) Jz J (hJ (ab (i:=1) J J) (hJ (ab (i:=2) J J) ac)) oW) J (eS g16 J) J ?_;rintro _ _ ⟨_,⟨A18,n18,c18,rfl,rfl⟩,rfl⟩;refine o8 (dZ J) J (eS g16 J) J ?_;obtain ⟨y19,hy19,h⟩:=aa h;refine dn (ai (du hy19 ⟨hJ J (hJ J (hJ J ac)),194, #[], #[pV B3 0],J,OB,fun _ _ hh=>zg hh⟩) AG J (hJ (ad (i:=0) J) (hJ (az (i:=7) J) (hJ (ab (i:=5) J J) (hJ (ab (i:=6) J J) ac)))) dc) J (eS g16 J) J ?_;rintro _ _ ⟨_,⟨rfl,rfl⟩,rfl⟩;refine Y ?_;obtain rfl:=aq h;exact ae sA (cS [1,2,3,4,5,6,7] 8)
   refine Y ?_;refine au J (fun g20=> ?_) (fun g20=> ?_)
   ·replace h:=ag g20 h;refine Y ?_;obtain rfl:=aq h;exact aL J J (cS [] 7) ⟨J,J⟩
   replace h:=ah g20 h;refine Y ?_;obtain ⟨q21,h⟩:=ap h;refine gE (aW J J q21.1 q21.2) ?_;refine Y ?_;exact ⟨m8,_,_,Tk _,⟨p9+1,h,J,J⟩,sA,cS [3,4,5,6] 7⟩
  replace h:=ah g10 h;refine Y ?_;exact ⟨_,_,⟨h,J,J⟩,sA,cS [] 4⟩
 rintro _ _ ⟨h,rfl,rfl⟩;refine Y ?_;obtain rfl:=aq h;exact aL J J (cS [] 0) ⟨J,J⟩
theorem Ap {r:Bool}: ∀v post,((fun (u:Value) (post:List Chunk)=>u=.bool r∧post=[])) v post→ ∀c∈post,ce c:=by
 rintro _ _ ⟨rfl,rfl⟩;exact ac
def fz (N:Nat)(a0:Int):Option Bool:=
 (bif decide (0<a0) then (some (decide (a0.tmod 2=1))) else (some false)).bind fun b1=>some b1
theorem kS {N:Nat}{a0:Int}{r:Bool}(h:fz N a0=some r):Okc Tryz.prog 138 [iV a0] ([]) (fun u post=>u=.bool r∧post=[]):=by
 refine bp Tryz.func138 J J ?_;simp only [aP];refine Y ?_;obtain ⟨b1,hb1,h⟩:=aa h;refine aO 4 9 b1 ?_ ?_
 ·clear h;refine aN 5 J (fun g1=> ?_) (fun g1=> ?_)
  ·have h:=ag g1 hb1;refine Y ?_;refine o8 (tx J J (by decide)) J (bU g1 J) J ?_;refine Y ?_;obtain rfl:=aq h;exact ae sA (cS [] 0)
  have h:=ah g1 hb1;refine Y ?_;obtain rfl:=aq h;exact ae sA (cS [] 0)
 refine Y ?_;obtain rfl:=aq h;exact aL J J (cS [] 0) ⟨J,J⟩
theorem ll {r:Bool}: ∀v post,((fun (u:Value) (post:List Chunk)=>u=.bool r∧post=[])) v post→ ∀c∈post,ce c:=by
 rintro _ _ ⟨rfl,rfl⟩;exact ac
def xv (N:Nat):Option Bool:=
 some true
def oC (N:Nat)(a0:SP)(a2:(List Int)):Nat→Int→Option Bool
 |0,_=>none
 |m25+1,p26=>bif decide (p26<(a0.Old.length:Int)) then ((aF a0.Old p26).bind fun x28=>(iF N x28).bind fun y33=>(bC N y33 (fun x=>fz N x)).bind fun y35=>(bif y35 then (bi (in64 (2*p26)) (bi (in64 ((2*p26)+2)) ((dM N a2 ((2*p26)+2)).bind fun y39=>some (!y39)))) else (some false)).bind fun b36=>bif b36 then (some false) else (bi (in64 (p26+1)) ((oC N a0 a2 m25) (p26+1)))) else (xv N)
def kg (N:Nat)(a2:(List Int))(a0:SP):Option Bool:=
 oC N a0 a2 N 0
def lV (N:Nat)(a2:(List Int))(a0:SP):Nat→Int→Option Bool
 |0,_=>none
 |m11+1,p12=>bif decide (p12<(a2.length:Int)) then ((aF a2 p12).bind fun x14=>(fz N x14).bind fun y15=>(bif y15 then (some true) else ((dR N a0 x14).bind fun y17=>some (!y17))).bind fun b16=>(bif b16 then (some true) else ((bif decide (0<p12) then (bi (in64 (p12 - 1)) ((aF a2 (p12 - 1)).bind fun x21=>some (decide (x14≤x21)))) else (some false)).bind fun b19=>some b19)).bind fun b18=>bif b18 then (some false) else (bi (in64 (p12+1)) ((lV N a2 a0 m11) (p12+1)))) else (kg N a2 a0)
def mL (N:Nat)(a0:SP)(a1:(List SR))(a2:(List Int)):Option Bool:=
 (cH N a1 (fun x=>nl N x a0)).bind fun y6=>(bif y6 then (some true) else ((oB N a0).bind fun y8=>some (!y8))).bind fun b7=>bif b7 then (some false) else (lV N a2 a0 N 0)
set_option maxHeartbeats 4000000 in
theorem FE {N:Nat}{a0:SP}{a1:(List SR)}{a2:(List Int)}{r:Bool}(h:mL N a0 a1 a2=some r):Okc Tryz.prog 130 [.agg #[U A1 n1 c1,U A2 n2 c2],U A3 n3 c3,U A4 n4 c4] ([bB A1 n1 c1 a0.Young,bB A2 n2 c2 a0.Old,bE A3 n3 c3 a1,ex A4 n4 c4 a2]) (fun u post=>u=.bool r∧post=[]):=by
 refine bp Tryz.func130 J J ?_;simp only [aP];refine Y ?_;refine gD (bn J J) ?_;rintro _ _ ⟨B5,rfl,rfl⟩;refine Y ?_;refine gE (dZ J) ?_;refine Y ?_;refine ax ?_;refine Y ?_;obtain ⟨y6,hy6,h⟩:=aa h;refine gD (ai (jU hy6 ⟨hJ J (hJ J (hJ J ac)),173, #[], #[pV B5 0],J,OK,fun _ _ hh=>BI hh⟩) MR J (hJ (ab (i:=3) J J) (hJ (az (i:=0) J) (hJ (ab (i:=1) J J) (hJ (ab (i:=2) J J) ac)))) jf) ?_;rintro _ _ ⟨_,⟨rfl,rfl⟩,rfl⟩;refine Y ?_;obtain ⟨b7,hb7,h⟩:=aa h;refine aO 4 20 b7 ?_ ?_
 ·clear h;refine aN 16 J (fun g7=> ?_) (fun g7=> ?_)
  ·have h:=ag g7 hb7;refine Y ?_;obtain rfl:=aq h;exact ae sA (cS [0,1,2,3,4] 5)
  have h:=ah g7 hb7;refine cL (aD (us:=[U A1 n1 c1,U A2 n2 c2]) 0 J J fe J) J (eS g7 J) J ?_;obtain ⟨y8,hy8,h⟩:=aa h;refine dn (ai (C5 hy8) OJ J (hJ (ab (i:=1) J J) (hJ (ab (i:=2) J J) ac)) Ap) J (eS g7 J) J ?_;rintro _ _ ⟨_,⟨rfl,rfl⟩,rfl⟩;refine Y ?_;obtain rfl:=aq h;exact ae sA (cS [0,1,2,3,4] 5)
 refine Y ?_;refine au J (fun g9=> ?_) (fun g9=> ?_)
 ·replace h:=ag g9 h;refine Y ?_;obtain rfl:=aq h;exact aL J J (cS [] 5) ⟨J,J⟩
 replace h:=ah g9 h;refine Y ?_;refine aM (fun s L=>kg N a2 a0=some r∧s=[(2,U A4 n4 c4),(3,pV B5 0),(6,.bool false)]∧L=[ex A4 n4 c4 a2,bB A1 n1 c1 a0.Young,bB A2 n2 c2 a0.Old,am B5 96 [U A1 n1 c1,U A2 n2 c2]]) ?_ ?_
 ·refine Y ?_;refine gR (aU 4 J av J z3) ?_;refine Y ?_;refine bv (fun m s L=> ∃p12,lV N a2 a0 m p12=some r∧s=[(2,U A4 n4 c4),(3,pV B5 0),(6,.bool false),(21,U A4 n4 c4),(22,iV (a2.length:Int)),(23,iV p12)]∧L=[ex A4 n4 c4 a2,bB A1 n1 c1 a0.Young,bB A2 n2 c2 a0.Old,am B5 96 [U A1 n1 c1,U A2 n2 c2]]) N _ _ ⟨0,h,J,J⟩ sA (cS [4,1,2,0] 5) ?_;rintro (_|m11) _ _ ⟨p12,h,rfl,rfl⟩
  ·exact aG h
  rw [lV.eq_2] at h;refine Y ?_;refine ax ?_;refine au J (fun g13=> ?_) (fun g13=> ?_)
  ·replace h:=ag g13 h;refine Y ?_;refine ax ?_;refine Y ?_;obtain ⟨x14,hx14,h⟩:=aa h;obtain ⟨lx14,ux14,hx14⟩:=aA hx14;refine gR (aX 0 J av J J z3 dP lx14 ux14) ?_;refine gR (bH (u:=iV x14) 0 J av J hx14 dy (fun _ _ _ h=>by rw [show _=_ from h];rfl)) ?_;refine Y ?_;obtain ⟨y15,hy15,h⟩:=aa h;refine gD (ai (kS hy15) zQ J (ac) ll) ?_;rintro _ _ ⟨_,⟨rfl,rfl⟩,rfl⟩;refine Y ?_;obtain ⟨b16,hb16,h⟩:=aa h;refine aO 5 35 b16 ?_ ?_
   ·clear h;refine aN 30 J (fun g16=> ?_) (fun g16=> ?_)
    ·have h:=ag g16 hb16;refine Y ?_;obtain rfl:=aq h;exact ae sA (cS [0,1,2,3] 4)
    have h:=ah g16 hb16;refine cL (aD (us:=[U A1 n1 c1,U A2 n2 c2]) 3 J J fe J) J (eS g16 J) J ?_;refine Y ?_;obtain ⟨y17,hy17,h⟩:=aa h;refine dn (ai (jK hy17) tK J (hJ (ab (i:=1) J J) (hJ (ab (i:=2) J J) ac)) gX) J (eS g16 J) J ?_;rintro _ _ ⟨_,⟨rfl,rfl⟩,rfl⟩;refine Y ?_;obtain rfl:=aq h;exact ae sA (cS [0,1,2,3] 4)
   refine Y ?_;obtain ⟨b18,hb18,h⟩:=aa h;refine aO 12 48 b18 ?_ ?_
   ·clear h;refine aN 36 J (fun g18=> ?_) (fun g18=> ?_)
    ·have h:=ag g18 hb18;refine Y ?_;obtain rfl:=aq h;exact ae sA (cS [0,1,2,3] 4)
    have h:=ah g18 hb18;refine Y ?_;obtain ⟨b19,hb19,h⟩:=aa h;refine aO 8 47 b19 ?_ ?_
    ·clear h;refine aN 39 J (fun g19=> ?_) (fun g19=> ?_)
     ·have h:=ag g19 hb19;refine Y ?_;obtain ⟨q20,h⟩:=ap h;refine o8 (lK J J q20.1 q20.2) J (bU g19 J) J ?_;obtain ⟨x21,hx21,h⟩:=aa h;obtain ⟨lx21,ux21,hx21⟩:=aA hx21;refine cL (aX 0 J av J J z3 dP lx21 ux21) J (bU g19 J) J ?_;refine cL (bH (u:=iV x21) 0 J av J hx21 dy (fun _ _ _ h=>by rw [show _=_ from h];rfl)) J (bU g19 J) J ?_;refine Y ?_;obtain rfl:=aq h;exact ae sA (cS [0,1,2,3] 4)
     have h:=ah g19 hb19;refine Y ?_;obtain rfl:=aq h;exact ae sA (cS [0,1,2,3] 4)
    refine Y ?_;obtain rfl:=aq h;exact ae sA (cS [0,1,2,3] 4)
   refine Y ?_;refine au J (fun g22=> ?_) (fun g22=> ?_)
   ·replace h:=ag g22 h;refine Y ?_;obtain rfl:=aq h;exact aL J J (cS [] 4) ⟨J,J⟩
   replace h:=ah g22 h;refine Y ?_;obtain ⟨q23,h⟩:=ap h;refine gE (aW J J q23.1 q23.2) ?_;refine Y ?_;exact ⟨m11,_,_,Tk _,⟨p12+1,h,J,J⟩,sA,cS [0,1,2,3] 4⟩
  replace h:=ah g13 h;refine Y ?_;exact ⟨_,_,⟨h,J,J⟩,sA,cS [0,1,2,3] 4⟩
 rintro _ _ ⟨h,rfl,rfl⟩;refine aM (fun s L=>xv N=some r∧s=[(6,.bool false)]∧L=[]) ?_ ?_
 ·refine Y ?_;refine gR (aU 2 J av J t9) ?_;refine Y ?_;refine bv (fun m s L=> ∃p26,oC N a0 a2 m p26=some r∧s=[(2,U A4 n4 c4),(6,.bool false),(51,U A2 n2 c2),(52,iV (a0.Old.length:Int)),(53,iV p26)]∧L=[ex A4 n4 c4 a2,bB A2 n2 c2 a0.Old]) N _ _ ⟨0,h,J,J⟩ sA (cS [0,2] 4) ?_;rintro (_|m25) _ _ ⟨p26,h,rfl,rfl⟩
  ·exact aG h
  rw [oC.eq_2] at h;refine Y ?_;refine ax ?_;refine au J (fun g27=> ?_) (fun g27=> ?_)
  ·replace h:=ag g27 h;refine Y ?_;refine ax ?_;refine Y ?_;obtain ⟨x28,hx28,h⟩:=aa h;obtain ⟨lx28,ux28,hx28⟩:=aA hx28;refine gR (aX 1 J av J J t9 bL lx28 ux28) ?_;refine wa 1 J hx28 (gh x28) ?_;rintro _ _ ⟨A29,n29,c29,A30,n30,c30,rfl,rfl⟩;refine gR (nb (us:=[iV x28.Kind,iV x28.Shape,iV x28.Flags,iV x28.Age,U A29 n29 c29,U A30 n30 c30]) 0 J J bA J) ?_;refine gD (aE eA J) ?_;rintro _ _ ⟨B32,rfl,rfl⟩;refine Y ?_;refine gO (ao (us:=[iV x28.Kind,iV x28.Shape,iV x28.Flags,iV x28.Age,U A29 n29 c29,U A30 n30 c30]) (cs':=[iV x28.Kind,iV x28.Shape,iV x28.Flags,iV x28.Age,U A29 n29 c29,U A30 n30 c30]) 0 J J J J bL J J J) ?_;rintro _ _ rfl;refine Y ?_;refine gR (aD (us:=[iV x28.Kind,iV x28.Shape,iV x28.Flags,iV x28.Age,U A29 n29 c29,U A30 n30 c30]) 0 J J bA J) ?_;obtain ⟨y33,hy33,h⟩:=aa h;refine gD (ai (qD hy33) Jz J (hJ (ab (i:=2) J J) (hJ (ab (i:=3) J J) ac)) oW) ?_;rintro _ _ ⟨_,⟨A34,n34,c34,rfl,rfl⟩,rfl⟩;obtain ⟨y35,hy35,h⟩:=aa h;refine gD (ai (du hy35 ⟨ac,138, #[], #[],J,zQ,fun _ _ hh=>kS hh⟩) AG J (hJ (ad (i:=0) J) ac) dc) ?_;rintro _ _ ⟨_,⟨rfl,rfl⟩,rfl⟩;refine Y ?_;obtain ⟨b36,hb36,h⟩:=aa h;refine aO 7 68 b36 ?_ ?_
   ·clear h;refine aN 61 J (fun g36=> ?_) (fun g36=> ?_)
    ·have h:=ag g36 hb36;refine Y ?_;obtain ⟨q37,h⟩:=ap h;refine o8 (rZ J J q37.1 q37.2) J (bU g36 J) J ?_;obtain ⟨q38,h⟩:=ap h;refine o8 (aW J J q38.1 q38.2) J (bU g36 J) J ?_;obtain ⟨y39,hy39,h⟩:=aa h;refine dn (ai (jC hy39) BY J (hJ (ab (i:=5) J J) ac) iz) J (bU g36 J) J ?_;rintro _ _ ⟨_,⟨rfl,rfl⟩,rfl⟩;refine Y ?_;obtain rfl:=aq h;exact ae sA (cS [0,1,2,3,4,5,6] 7)
    have h:=ah g36 hb36;refine Y ?_;obtain rfl:=aq h;exact ae sA (cS [0,1,2,3,4,5,6] 7)
   refine Y ?_;refine au J (fun g40=> ?_) (fun g40=> ?_)
   ·replace h:=ag g40 h;refine Y ?_;obtain rfl:=aq h;exact aL J J (cS [] 7) ⟨J,J⟩
   replace h:=ah g40 h;refine Y ?_;obtain ⟨q41,h⟩:=ap h;refine gE (aW J J q41.1 q41.2) ?_;refine Y ?_;exact ⟨m25,_,_,Tk _,⟨p26+1,h,J,J⟩,sA,cS [5,6] 7⟩
  replace h:=ah g27 h;refine Y ?_;exact ⟨_,_,⟨h,J,J⟩,sA,cS [] 2⟩
 rintro _ _ ⟨h,rfl,rfl⟩;refine Y ?_;obtain rfl:=aq h;exact aL J J (cS [] 0) ⟨J,J⟩
theorem C6 {r:Bool}: ∀v post,((fun (u:Value) (post:List Chunk)=>u=.bool r∧post=[])) v post→ ∀c∈post,ce c:=by
 rintro _ _ ⟨rfl,rfl⟩;exact ac
def cy (N:Nat)(a0:SQ)(a1:Int):Option SQ:=
 (fz N a1).bind fun y7=>(bif y7 then (some (!((lk a0.seen_ a1).getD false))) else (some false)).bind fun b8=>bif b8 then (bi (bQ (a0.met_.length+([a1]:List Int).length)) (some (⟨a0.m_,a0.kept_,a0.met_++([a1]:List Int),um a0.seen_ a1 true,a0.next_⟩:SQ))) else (some a0)
theorem iE {N:Nat}{a0:SQ}{a1:Int}{r:SQ}(h:cy N a0 a1=some r):Okc Tryz.prog 177 [pV B1 0,iV a1] ([bB A2 n2 c2 a0.m_.Young,bB A3 n3 c3 a0.m_.Old,ex A4 n4 c4 a0.kept_,am B1 186 [U A2 n2 c2,U A3 n3 c3,U A4 n4 c4,U A5 n5 c5,.map (some M6),iV a0.next_],eC A5 n5 c5 a0.met_,aK bR cG M6 a0.seen_]) (fun u post=> ∃A0 n0 c0 A1 n1 c1 A2 n2 c2 A3 n3 c3 M4,u=.tuple #[]∧post=[am B1 186 [U A0 n0 c0,U A1 n1 c1,U A2 n2 c2,U A3 n3 c3,.map (some M4),iV r.next_],bB A0 n0 c0 r.m_.Young,bB A1 n1 c1 r.m_.Old,ex A2 n2 c2 r.kept_,eC A3 n3 c3 r.met_,aK bR cG M4 r.seen_]):=by
 refine bp Tryz.func177 J J ?_;simp only [aP];refine Y ?_;obtain ⟨y7,hy7,h⟩:=aa h;refine gD (ai (kS hy7) zQ J (ac) ll) ?_;rintro _ _ ⟨_,⟨rfl,rfl⟩,rfl⟩;refine Y ?_;obtain ⟨b8,hb8,h⟩:=aa h;refine aO 8 14 b8 ?_ ?_
 ·clear h;refine aN 6 J (fun g8=> ?_) (fun g8=> ?_)
  ·have h:=ag g8 hb8;refine Y ?_;refine cL (CH (a:=a1) (z:=false) 5 J tq J J z9 (d5 hP) Gi) J (bU g8 J) J ?_;refine Y ?_;obtain rfl:=aq h;exact ae sA (cS [0,1,2,3,4,5] 6)
  have h:=ah g8 hb8;refine Y ?_;obtain rfl:=aq h;exact ae sA (cS [0,1,2,3,4,5] 6)
 refine Y ?_;refine au J (fun g9=> ?_) (fun g9=> ?_)
 ·replace h:=ag g9 h;refine Y ?_;refine gO (gw (a:=a1) (b:=true) 5 J J J J z9 (d5 hP)) ?_;rintro _ _ rfl;refine Y ?_;refine gD (bJ (R:=(iP .i64)) (vss:=[[iV a1]]) (xs:=[a1]) J (ma _) J J (fun _ _ hr=> .cons J All2.nil)) ?_;rintro _ _ ⟨A10,n10,c10,rfl,rfl⟩;obtain ⟨q11,h⟩:=ap h;refine gD (bK 5 0 J J aH J J z3 HF J J q11) ?_;rintro _ _ ⟨A12,n12,c12,rfl,rfl⟩;refine Y ?_;refine gO (ao (us:=[U A12 n12 c12]) (cs':=[U A2 n2 c2,U A3 n3 c3,U A4 n4 c4,U A12 n12 c12,.map (some M6),iV a0.next_]) 4 J J J J rP J J J) ?_;rintro _ _ rfl;refine cp ?_;refine pI ?_;obtain rfl:=aq h;exact jn J (cS [4,1,2,3,5,6] 7) ⟨_,_,_,_,_,_,_,_,_,_,_,_,_,J,J⟩
 replace h:=ah g9 h;refine DR ?_;obtain rfl:=aq h;exact jn J (cS [3,0,1,2,4,5] 6) ⟨_,_,_,_,_,_,_,_,_,_,_,_,_,J,J⟩
def bY (N:Nat)(a0:SQ)(a1:Int):Option Ta:=
 (fz N a1).bind fun y8=>bif y8 then (bi (in64 (a1.tdiv 2)) ((aF a0.m_.Young (a1.tdiv 2)).bind fun x11=>some x11)) else (bi (in64 (a1.tdiv 2)) (bi (in64 ((a1.tdiv 2) - 1)) ((aF a0.m_.Old ((a1.tdiv 2) - 1)).bind fun x17=>some x17)))
theorem fP {N:Nat}{a0:SQ}{a1:Int}{r:Ta}(h:bY N a0 a1=some r):Okc Tryz.prog 137 [pV B1 0,iV a1] ([bB A2 n2 c2 a0.m_.Young,bB A3 n3 c3 a0.m_.Old,ex A4 n4 c4 a0.kept_,am B1 186 [U A2 n2 c2,U A3 n3 c3,U A4 n4 c4,U A5 n5 c5,.map (some M6),iV a0.next_],eC A5 n5 c5 a0.met_,aK bR cG M6 a0.seen_]) (fun u post=> ∃A500 n500 c500 A501 n501 c501,u=.agg #[iV r.Kind,iV r.Shape,iV r.Flags,iV r.Age,U A500 n500 c500,U A501 n501 c501]∧post=[bE A500 n500 c500 r.Slots,bE A501 n501 c501 r.More,am B1 186 [U A2 n2 c2,U A3 n3 c3,U A4 n4 c4,U A5 n5 c5,.map (some M6),iV a0.next_],eC A5 n5 c5 a0.met_,aK bR cG M6 a0.seen_]):=by
 refine bp Tryz.func137 J J ?_;simp only [aP];refine Y ?_;refine gD (aE eA J) ?_;rintro _ _ ⟨B7,rfl,rfl⟩;refine Y ?_;refine ax ?_;refine Y ?_;obtain ⟨y8,hy8,h⟩:=aa h;refine gD (ai (kS hy8) zQ J (ac) ll) ?_;rintro _ _ ⟨_,⟨rfl,rfl⟩,rfl⟩;refine Y ?_;refine au J (fun g9=> ?_) (fun g9=> ?_)
 ·replace h:=ag g9 h;refine Y ?_;obtain ⟨q10,h⟩:=ap h;refine gE (yc J J (by decide) q10.1 q10.2) ?_;obtain ⟨x11,hx11,h⟩:=aa h;obtain ⟨lx11,ux11,hx11⟩:=aA hx11;refine gR (aX 1 J av J J t9 bL lx11 ux11) ?_;refine wa 1 J hx11 (gh x11) ?_;rintro _ _ ⟨A12,n12,c12,A13,n13,c13,rfl,rfl⟩;refine gR (nb (us:=[iV x11.Kind,iV x11.Shape,iV x11.Flags,iV x11.Age,U A12 n12 c12,U A13 n13 c13]) 0 J J bA J) ?_;refine gO (ao (us:=[iV x11.Kind,iV x11.Shape,iV x11.Flags,iV x11.Age,U A12 n12 c12,U A13 n13 c13]) (cs':=[iV x11.Kind,iV x11.Shape,iV x11.Flags,iV x11.Age,U A12 n12 c12,U A13 n13 c13]) 3 J J J J bL J J J) ?_;rintro _ _ rfl;refine Y ?_;obtain rfl:=aq h;exact db (rs:=[.cell 4 42]) (vs:=[.agg #[iV x11.Kind,iV x11.Shape,iV x11.Flags,iV x11.Age,U A12 n12 c12,U A13 n13 c13]]) J (.cons (bT 3 J J bA) .nil) J (cS [1,2,7,8,9] 10) ⟨_,_,_,_,_,_,J,J⟩
 replace h:=ah g9 h;refine Y ?_;obtain ⟨q15,h⟩:=ap h;refine gE (yc J J (by decide) q15.1 q15.2) ?_;obtain ⟨q16,h⟩:=ap h;refine gE (lK J J q16.1 q16.2) ?_;obtain ⟨x17,hx17,h⟩:=aa h;obtain ⟨lx17,ux17,hx17⟩:=aA hx17;refine gR (aX 2 J av J J t9 bL lx17 ux17) ?_;refine wa 2 J hx17 (gh x17) ?_;rintro _ _ ⟨A18,n18,c18,A19,n19,c19,rfl,rfl⟩;refine gR (nb (us:=[iV x17.Kind,iV x17.Shape,iV x17.Flags,iV x17.Age,U A18 n18 c18,U A19 n19 c19]) 0 J J bA J) ?_;refine gO (ao (us:=[iV x17.Kind,iV x17.Shape,iV x17.Flags,iV x17.Age,U A18 n18 c18,U A19 n19 c19]) (cs':=[iV x17.Kind,iV x17.Shape,iV x17.Flags,iV x17.Age,U A18 n18 c18,U A19 n19 c19]) 3 J J J J bL J J J) ?_;rintro _ _ rfl;refine Y ?_;obtain rfl:=aq h;exact db (rs:=[.cell 4 42]) (vs:=[.agg #[iV x17.Kind,iV x17.Shape,iV x17.Flags,iV x17.Age,U A18 n18 c18,U A19 n19 c19]]) J (.cons (bT 3 J J bA) .nil) J (cS [1,2,7,8,9] 10) ⟨_,_,_,_,_,_,J,J⟩
def fB (N:Nat)(kb7:(List Ta)→(List Ta)→(List Int)→(List Int)→(List (Int×Bool))→Int→Option SQ)(p16:(List Ta))(p17:(List Ta))(p18:(List Int))(p19:(List Int))(p20:(List (Int×Bool)))(p21:Int):Option SQ:=
 bi (in64 (p21+1)) (kb7 p16 p17 p18 p19 p20 (p21+1))
def fA (N:Nat)(kb7:(List Ta)→(List Ta)→(List Int)→(List Int)→(List (Int×Bool))→Int→Option SQ)(y28:((List Int))):Nat→Int→(List Ta)→(List Ta)→(List Int)→(List Int)→(List (Int×Bool))→Int→Option SQ
 |0,_,_,_,_,_,_,_=>none
 |m31+1,p32,p33,p34,p35,p36,p37,p38=>bif decide (p32<(y28.length:Int)) then ((aF y28 p32).bind fun x40=>(cy N (⟨(⟨p33,p34⟩:SP),p35,p36,p37,p38⟩:SQ) x40).bind fun y41=>bi (in64 (p32+1)) ((fA N kb7 y28 m31) (p32+1) y41.m_.Young y41.m_.Old y41.kept_ y41.met_ y41.seen_ y41.next_)) else (fB N kb7 p33 p34 p35 p36 p37 p38)
def ci (N:Nat):Nat→(List Ta)→(List Ta)→(List Int)→(List Int)→(List (Int×Bool))→Int→Option SQ
 |0,_,_,_,_,_,_=>none
 |m7+1,p8,p9,p10,p11,p12,p13=>bif decide (p13<(p11.length:Int)) then ((aF p11 p13).bind fun x22=>(bY N (⟨(⟨p8,p9⟩:SP),p10,p11,p12,p13⟩:SQ) x22).bind fun y23=>(eW N y23).bind fun y28=>fA N (ci N m7) y28 N 0 p8 p9 p10 p11 p12 p13) else (some (⟨(⟨p8,p9⟩:SP),p10,p11,p12,p13⟩:SQ))
def eP (N:Nat)(a0:SQ):Option SQ:=
 ci N N a0.m_.Young a0.m_.Old a0.kept_ a0.met_ a0.seen_ a0.next_
set_option maxHeartbeats 4000000 in
theorem mK {N:Nat}{a0:SQ}{r:SQ}(h:eP N a0=some r):Okc Tryz.prog 178 [pV B1 0] ([bB A2 n2 c2 a0.m_.Young,bB A3 n3 c3 a0.m_.Old,ex A4 n4 c4 a0.kept_,am B1 186 [U A2 n2 c2,U A3 n3 c3,U A4 n4 c4,U A5 n5 c5,.map (some M6),iV a0.next_],eC A5 n5 c5 a0.met_,aK bR cG M6 a0.seen_]) (fun u post=> ∃A0 n0 c0 A1 n1 c1 A2 n2 c2 A3 n3 c3 M4,u=.tuple #[]∧post=[am B1 186 [U A0 n0 c0,U A1 n1 c1,U A2 n2 c2,U A3 n3 c3,.map (some M4),iV r.next_],bB A0 n0 c0 r.m_.Young,bB A1 n1 c1 r.m_.Old,ex A2 n2 c2 r.kept_,eC A3 n3 c3 r.met_,aK bR cG M4 r.seen_]):=by
 refine bp Tryz.func178 J J ?_;simp only [aP];refine iK ?_;refine bv (fun m s L=> ∃p8 p9 p10 p11 p12 p13 A8 n8 c8 A9 n9 c9 A10 n10 c10 A11 n11 c11 M12,ci N m p8 p9 p10 p11 p12 p13=some r∧s=[(0,pV B1 0)]∧L=[bB A8 n8 c8 p8,bB A9 n9 c9 p9,ex A10 n10 c10 p10,eC A11 n11 c11 p11,aK bR cG M12 p12,am B1 186 [U A8 n8 c8,U A9 n9 c9,U A10 n10 c10,U A11 n11 c11,.map (some M12),iV p13]]) N _ _ ⟨a0.m_.Young,a0.m_.Old,a0.kept_,a0.met_,a0.seen_,a0.next_,A2,n2,c2,A3,n3,c3,A4,n4,c4,A5,n5,c5,M6,h,J,J⟩ sA (cS [0,1,2,4,5,3] 6) ?_;rintro (_|m7) _ _ ⟨p8,p9,p10,p11,p12,p13,A8,n8,c8,A9,n9,c9,A10,n10,c10,A11,n11,c11,M12,h,rfl,rfl⟩
 ·exact aG h
 rw [ci.eq_2] at h;refine ax ?_;refine ax ?_;refine bN I _ (aj _) ?_;refine zE 0 J (aw J) ?_;refine zE 1 J (aB J) ?_;refine zE 2 J (bz J Dw) ?_;refine zR 3 J (aJ 5 J J dy J) ?_;refine zE 4 J (aw J) ?_;refine zE 5 J (aB J) ?_;refine zE 6 J (bz J o4) ?_;refine zR 7 J (aJ 5 J J lA J) ?_;refine zR 8 J (aU 3 J aH J z3) ?_;refine zE 9 J (Mr J J) ?_;refine aZ I ?_;refine fb ?_;refine au J (fun g14=> ?_) (fun g14=> ?_)
 ·replace h:=ag g14 h;refine Y ?_;refine aM (fun s L=> ∃p16 p17 p18 p19 p20 p21 A16 n16 c16 A17 n17 c17 A18 n18 c18 A19 n19 c19 M20,fB N (ci N m7) p16 p17 p18 p19 p20 p21=some r∧s=[(0,pV B1 0)]∧L=[bB A16 n16 c16 p16,bB A17 n17 c17 p17,ex A18 n18 c18 p18,eC A19 n19 c19 p19,aK bR cG M20 p20,am B1 186 [U A16 n16 c16,U A17 n17 c17,U A18 n18 c18,U A19 n19 c19,.map (some M20),iV p21]]) ?_ ?_
  ·refine iK ?_;refine ax ?_;obtain ⟨x22,hx22,h⟩:=aa h;obtain ⟨lx22,ux22,hx22⟩:=aA hx22;obtain ⟨y23,hy23,h⟩:=aa h;obtain ⟨y28,hy28,h⟩:=aa h;refine ik (t:=[(0,pV B1 0)]) ?_ mN (aj _)
   refine jS I 15 [] [12,13,14] [21,22,23,24,25,26,27,28,29,30,31,32,33,34,35] [[],[],[1],[2],[3],[],[5],[6],[7],[4,8],[9],[0,10],[11],[12],[]] [aV (pV B1 0),
 aV (pV B1 0),
 aV (pV B1 0),
 aV (pV B1 3),
 aV (U A11 n11 c11),
 aV (pV B1 0),
 aV (pV B1 0),
 aV (pV B1 5),
 aV (iV p13),
 aV (fw (U A11 n11 c11) p13.toNat 1 0),
 aV (iV x22),
 aX6 (fun (A26:Option Addr) (n26 c26:Nat) (A27:Option Addr) (n27 c27:Nat)=> .agg #[iV y23.Kind,iV y23.Shape,iV y23.Flags,iV y23.Age,U A26 n26 c26,U A27 n27 c27]) (fun A26 n26 c26 A27 n27 c27=> [bE A26 n26 c26 y23.Slots,bE A27 n27 c27 y23.More]),
 aX3 (fun (A30:Option Addr) (n30 c30:Nat)=> U A30 n30 c30) (fun A30 n30 c30=> [eC A30 n30 c30 y28]),
 aV (iV (y28.length:Int)),
 aV (iV 0)] [] (aj _) (mr) I rfl rfl ?_ ?_ ?_
   ·exact mq
   ·refine ak J ?_ ?_
    ·exact cF (aw J) J (bq J (aj _))
    refine ak J ?_ ?_
    ·intro A30 n30 c30;exact fi (aU 0 J aH J z3) J (bq J (aj _))
    refine ak J ?_ ?_
    ·intro A26 n26 c26 A27 n27 c27;refine vW (ai (iX hy28) yg J (hJ (ab (i:=0) J J) (hJ (ab (i:=1) J J) ac)) gk) J ?_;rintro _ _ ⟨_,⟨A29,n29,c29,rfl,rfl⟩,rfl⟩;exact DC A29 n29 c29 (aj _)
    refine ak J ?_ ?_
    ·refine vW (aT (fP hy23) zS J (aI [0,1,2] [5,3,4] [0,1,2] 6 J)) J ?_;rintro _ _ ⟨_,⟨A24,n24,c24,A25,n25,c25,rfl,rfl⟩,rfl⟩;exact Rb A24 n24 c24 A25 n25 c25 (cS [0,1,5,6,7,3,4,2] 8)
    refine ak J ?_ ?_
    ·exact fi (bH (u:=iV x22) 3 J aH J hx22 dy (fun _ _ _ h=>by rw [show _=_ from h];rfl)) J (bq J (aj _))
    refine ak J ?_ ?_
    ·exact fi (aX 3 J aH J J z3 dP lx22 ux22) J (bq J (aj _))
    refine ak J ?_ ?_
    ·exact fi (aJ 5 J J dy J) J (bq J (aj _))
    refine ak J ?_ ?_
    ·exact cF (bz J Dw) J (bq J (aj _))
    refine ak J ?_ ?_
    ·exact cF (aB J) J (bq J (aj _))
    refine ak J ?_ ?_
    ·exact cF (aw J) J (bq J (aj _))
    refine ak J ?_ ?_
    ·exact fi (aJ 5 J J lA J) J (bq J (aj _))
    refine ak J ?_ ?_
    ·exact cF (bz J o4) J (bq J (aj _))
    refine ak J ?_ ?_
    ·exact cF (aB J) J (bq J (aj _))
    refine ak J ?_ ?_
    ·exact cF (aw J) J (bq J (aj _))
    refine ak J ?_ ?_
    ·exact cF (aw J) J (bq J (aj _))
    exact fo
   intro A30 n30 c30;refine nP (t:=[(33,U A30 n30 c30),(34,iV (y28.length:Int)),(35,iV 0),(0,pV B1 0)]) (L':=[eC A30 n30 c30 y28,bB A8 n8 c8 p8,bB A9 n9 c9 p9,ex A10 n10 c10 p10,eC A11 n11 c11 p11,aK bR cG M12 p12,am B1 186 [U A8 n8 c8,U A9 n9 c9,U A10 n10 c10,U A11 n11 c11,.map (some M12),iV p13]]) ?_ mN (aj _);refine mB I ?_;refine Y ?_;refine bv (fun m s L=> ∃p32 p33 p34 p35 p36 p37 p38 A33 n33 c33 A34 n34 c34 A35 n35 c35 A36 n36 c36 M37,fA N (ci N m7) y28 m p32 p33 p34 p35 p36 p37 p38=some r∧s=[(0,pV B1 0),(33,U A30 n30 c30),(34,iV (y28.length:Int)),(35,iV p32)]∧L=[eC A30 n30 c30 y28,bB A33 n33 c33 p33,bB A34 n34 c34 p34,ex A35 n35 c35 p35,eC A36 n36 c36 p36,aK bR cG M37 p37,am B1 186 [U A33 n33 c33,U A34 n34 c34,U A35 n35 c35,U A36 n36 c36,.map (some M37),iV p38]]) N _ _ ⟨0,p8,p9,p10,p11,p12,p13,A8,n8,c8,A9,n9,c9,A10,n10,c10,A11,n11,c11,M12,h,J,J⟩ sA (cS [0,1,2,3,4,5,6] 7) ?_;rintro (_|m31) _ _ ⟨p32,p33,p34,p35,p36,p37,p38,A33,n33,c33,A34,n34,c34,A35,n35,c35,A36,n36,c36,M37,h,rfl,rfl⟩
   ·exact aG h
   rw [fA.eq_2] at h;refine Y ?_;refine ax ?_;refine au J (fun g39=> ?_) (fun g39=> ?_)
   ·replace h:=ag g39 h;refine Y ?_;refine ax ?_;refine Y ?_;obtain ⟨x40,hx40,h⟩:=aa h;obtain ⟨lx40,ux40,hx40⟩:=aA hx40;refine gR (aX 0 J aH J J z3 dP lx40 ux40) ?_;refine gR (bH (u:=iV x40) 0 J aH J hx40 dy (fun _ _ _ h=>by rw [show _=_ from h];rfl)) ?_;refine Y ?_;obtain ⟨y41,hy41,h⟩:=aa h;refine gD (aT (iE hy41) BX J (aI [1,2,3] [6,4,5] [0,1,2,3] 7 J)) ?_;rintro _ _ ⟨_,⟨A42,n42,c42,A43,n43,c43,A44,n44,c44,A45,n45,c45,M46,rfl,rfl⟩,rfl⟩;refine Y ?_;obtain ⟨q47,h⟩:=ap h;refine gE (aW J J q47.1 q47.2) ?_;refine Y ?_;exact ⟨m31,_,_,Tk _,⟨p32+1,y41.m_.Young,y41.m_.Old,y41.kept_,y41.met_,y41.seen_,y41.next_,A42,n42,c42,A43,n43,c43,A44,n44,c44,A45,n45,c45,M46,h,J,J⟩,sA,cS [6,1,2,3,4,5,0] 10⟩
   replace h:=ah g39 h;refine Y ?_;exact ⟨_,_,⟨p33,p34,p35,p36,p37,p38,A33,n33,c33,A34,n34,c34,A35,n35,c35,A36,n36,c36,M37,h,J,J⟩,sA,cS [1,2,3,4,5,6] 7⟩
  rintro _ _ ⟨p16,p17,p18,p19,p20,p21,A16,n16,c16,A17,n17,c17,A18,n18,c18,A19,n19,c19,M20,h,rfl,rfl⟩;refine Y ?_;obtain ⟨q48,h⟩:=ap h;refine gE (aW J J q48.1 q48.2) ?_;refine Y ?_;refine gO (ao (us:=[iV (p21+1)]) (cs':=[U A16 n16 c16,U A17 n17 c17,U A18 n18 c18,U A19 n19 c19,.map (some M20),iV (p21+1)]) 5 J J J J dP J J J) ?_;rintro _ _ rfl;refine Y ?_;exact ⟨m7,_,_,Tk _,⟨p16,p17,p18,p19,p20,p21+1,A16,n16,c16,A17,n17,c17,A18,n18,c18,A19,n19,c19,M20,h,J,J⟩,sA,cS [0,1,2,3,4,5] 6⟩
 replace h:=ah g14 h;refine Y ?_;obtain rfl:=aq h;exact jn J (cS [5,0,1,2,3,4] 6) ⟨_,_,_,_,_,_,_,_,_,_,_,_,_,J,J⟩
def kU (N:Nat)(a0:SQ)(p8:(List Int)):Option (List Int):=
 bi (bQ (p8.length+a0.met_.length)) (some (p8++a0.met_))
def er (N:Nat)(a0:SQ):Nat→(List Int)→Int→Option (List Int)
 |0,_,_=>none
 |m9+1,p10,p11=>bif decide (p11<(a0.m_.Old.length:Int)) then (bi (in64 (2*p11)) (bi (in64 ((2*p11)+2)) (bi (bQ (p10.length+([(2*p11)+2]:List Int).length)) (bi (in64 (p11+1)) ((er N a0 m9) (p10++([(2*p11)+2]:List Int)) (p11+1)))))) else (kU N a0 p10)
def eY (N:Nat)(a0:SQ):Option (List Int):=
 er N a0 N [] 0
theorem oV {N:Nat}{a0:SQ}{r:(List Int)}(h:eY N a0=some r):Okc Tryz.prog 133 [pV B1 0] ([aR B1 186 [U A2 n2 c2,U A3 n3 c3,U A4 n4 c4,U A5 n5 c5,.map (some M6),iV a0.next_],bB A2 n2 c2 a0.m_.Young,bB A3 n3 c3 a0.m_.Old,ex A4 n4 c4 a0.kept_,ex A5 n5 c5 a0.met_,fh bR cG M6 a0.seen_]) (fun u post=> ∃A0 n0 c0,u=U A0 n0 c0∧post=[eC A0 n0 c0 r]):=by
 refine bp Tryz.func133 J J ?_;simp only [aP];refine Y ?_;refine aM (fun s L=> ∃p8 A8 n8 c8,kU N a0 p8=some r∧s=[(0,pV B1 0),(2,U none 0 0),(3,U A8 n8 c8)]∧L=[eC A8 n8 c8 p8,bB A2 n2 c2 a0.m_.Young,bB A3 n3 c3 a0.m_.Old,ex A4 n4 c4 a0.kept_,ex A5 n5 c5 a0.met_,fh bR cG M6 a0.seen_,aR B1 186 [U A2 n2 c2,U A3 n3 c3,U A4 n4 c4,U A5 n5 c5,.map (some M6),iV a0.next_]]) ?_ ?_
 ·refine Y ?_;refine gR (ba 0 J J oU J) ?_;refine gR (aU 2 J av J t9) ?_;refine Y ?_;refine bv (fun m s L=> ∃p10 p11 A10 n10 c10,er N a0 m p10 p11=some r∧s=[(0,pV B1 0),(2,U none 0 0),(3,U A10 n10 c10),(10,iV (a0.m_.Old.length:Int)),(11,iV p11)]∧L=[eC A10 n10 c10 p10,bB A2 n2 c2 a0.m_.Young,bB A3 n3 c3 a0.m_.Old,ex A4 n4 c4 a0.kept_,ex A5 n5 c5 a0.met_,fh bR cG M6 a0.seen_,aR B1 186 [U A2 n2 c2,U A3 n3 c3,U A4 n4 c4,U A5 n5 c5,.map (some M6),iV a0.next_]]) N _ _ ⟨[],0,none,0,0,h,J,J⟩ sA ((cn (iP .i64) 3 _).trans (cS [0,2,3,4,5,6,1] 7)) ?_;rintro (_|m9) _ _ ⟨p10,p11,A10,n10,c10,h,rfl,rfl⟩
  ·exact aG h
  rw [er.eq_2] at h;refine Y ?_;refine ax ?_;refine au J (fun g13=> ?_) (fun g13=> ?_)
  ·replace h:=ag g13 h;refine Y ?_;refine ax ?_;refine Y ?_;obtain ⟨q14,h⟩:=ap h;refine gE (rZ J J q14.1 q14.2) ?_;obtain ⟨q15,h⟩:=ap h;refine gE (aW J J q15.1 q15.2) ?_;refine gD (bJ (R:=(iP .i64)) (vss:=[[iV ((2*p11)+2)]]) (xs:=[(2*p11)+2]) J (ma _) J J (fun _ _ hr=> .cons J All2.nil)) ?_;rintro _ _ ⟨A16,n16,c16,rfl,rfl⟩;obtain ⟨q17,h⟩:=ap h;refine gD (bK 1 0 J J aH J J z3 HF J J q17) ?_;rintro _ _ ⟨A18,n18,c18,rfl,rfl⟩;refine Y ?_;obtain ⟨q19,h⟩:=ap h;refine gE (aW J J q19.1 q19.2) ?_;refine Y ?_;exact ⟨m9,_,_,Tk _,⟨p10++([(2*p11)+2]:List Int),p11+1,A18,n18,c18,h,J,J⟩,sA,cS [1,2,3,4,5,6,7] 8⟩
  replace h:=ah g13 h;refine Y ?_;exact ⟨_,_,⟨p10,A10,n10,c10,h,J,J⟩,sA,cS [0,1,2,3,4,5,6] 7⟩
 rintro _ _ ⟨p8,A8,n8,c8,h,rfl,rfl⟩;refine Y ?_;refine gR (ba 6 J J lA J) ?_;obtain ⟨q20,h⟩:=ap h;refine gD (bK 0 4 J J av J J z3 HF J J q20) ?_;rintro _ _ ⟨A21,n21,c21,rfl,rfl⟩;refine Y ?_;obtain rfl:=aq h;exact aL J J (cS [0] 7) ⟨_,_,_,J,J⟩
theorem nk {r:(List Int)}: ∀v post,((fun (u:Value) (post:List Chunk)=> ∃A0 n0 c0,u=U A0 n0 c0∧post=[eC A0 n0 c0 r])) v post→ ∀c∈post,ce c:=by
 rintro _ _ ⟨_,_,_,rfl,rfl⟩;exact hJ bP (ac)
def ld (N:Nat)(p3:(List Int)):Option (List Int):=
 some p3
def pc (N:Nat)(a1:Int):Option (List Int):=
 bif decide (a1<0) then none else (bi (in64 (0 - 0)) (bi (in64 (a1 - (0 - 0))) (bif decide (0<a1 - (0 - 0)) then (bi ((0:Int)<(a1 - (0 - 0))∧(a1 - (0 - 0))≤1099511627776) (ld N ([]:List Int))) else (ld N []))))
theorem Aa {N:Nat}{a1:Int}{r:(List Int)}(h:pc N a1=some r):Okc Tryz.prog 142 [U none 0 0,iV a1] ([]) (fun u post=> ∃A0 n0 c0,u=U A0 n0 c0∧post=[eC A0 n0 c0 r]):=by
 refine bp Tryz.func142 J J ?_;simp only [aP];refine Y ?_;refine ax ?_;refine Y ?_;refine au J (fun g1=> ?_) (fun g1=> ?_)
 ·replace h:=ag g1 h;exact aG h
 replace h:=ah g1 h;refine Y ?_;refine aM (fun s L=> ∃p3 A3 n3 c3,ld N p3=some r∧s=[(0,U A3 n3 c3),(4,U none 0 0)]∧L=[eC A3 n3 c3 p3]) ?_ ?_
 ·refine Y ?_;refine gE (wB J z3) ?_;refine Y ?_;refine gE (nA J z3) ?_;obtain ⟨q4,h⟩:=ap h;refine gE (lK J J q4.1 q4.2) ?_;obtain ⟨q5,h⟩:=ap h;refine gE (lK J J q5.1 q5.2) ?_;refine Y ?_;refine au J (fun g6=> ?_) (fun g6=> ?_)
  ·replace h:=ag g6 h;refine Y ?_;refine gE (wB J z3) ?_;refine gE (AD J z3 dP J) ?_;refine Y ?_;obtain ⟨q7,h⟩:=ap h;refine gD (xV J J z3 hP HF J q7.1 q7.2) ?_;rintro _ _ ⟨A8,n8,c8,rfl,rfl⟩;refine Y ?_;refine gE (nA J z3) ?_;refine gD (FA (R:=(iP .i64)) 0 J J z3 dP J J) ?_;rintro _ _ ⟨A9,n9,c9,rfl,rfl⟩;refine Y ?_;exact ⟨_,_,⟨([]:List Int),A9,n9,c9,h,J,J⟩,sA,cS [0] 1⟩
  replace h:=ah g6 h;refine Y ?_;exact ⟨_,_,⟨[],none,0,0,h,J,J⟩,sA,(cn (iP .i64) 3 _).trans (cS [0] 1)⟩
 rintro _ _ ⟨p3,A3,n3,c3,h,rfl,rfl⟩;refine Y ?_;obtain rfl:=aq h;exact aL J J (cS [0] 1) ⟨_,_,_,J,J⟩
theorem xH {r:(List Int)}: ∀v post,((fun (u:Value) (post:List Chunk)=> ∃A0 n0 c0,u=U A0 n0 c0∧post=[eC A0 n0 c0 r])) v post→ ∀c∈post,ce c:=by
 rintro _ _ ⟨_,_,_,rfl,rfl⟩;exact hJ bP (ac)
def mU (N:Nat)(p12:(List Int)):Option (List Int):=
 some p12
def nT (N:Nat)(a0_0:(List Int))(a0_1:(List Int)):Option (List Int):=
 (pc N ((0+(a0_0.length:Int))+(a0_1.length:Int))).bind fun y9=>bi (bQ (y9.length+a0_0.length)) (bi (bQ ((y9++a0_0).length+a0_1.length)) (mU N ((y9++a0_0)++a0_1)))
def jV (N:Nat)(a0_0:(List Int))(a0_1:(List Int)):Option (List Int):=
 bi (in64 (0+(a0_0.length:Int))) (bif decide (0+(a0_0.length:Int)<0) then none else (bi (in64 ((0+(a0_0.length:Int))+(a0_1.length:Int))) (bif decide ((0+(a0_0.length:Int))+(a0_1.length:Int)<0) then none else (nT N a0_0 a0_1))))
set_option maxHeartbeats 4000000 in
theorem sj {N:Nat}{a0_0:(List Int)}{a0_1:(List Int)}{r:(List Int)}(h:jV N a0_0 a0_1=some r):Okc Tryz.prog 96 [.slice (some ⟨B1,0,none⟩) 2 2] ([aR B1 39 [U A2 n2 c2,U A3 n3 c3],ex A2 n2 c2 a0_0,ex A3 n3 c3 a0_1]) (fun u post=> ∃A0 n0 c0,u=U A0 n0 c0∧post=[eC A0 n0 c0 r]):=by
 refine bp Tryz.func96 J J ?_;simp only [aP];refine Y ?_;refine aM (fun s L=>nT N a0_0 a0_1=some r∧s=[(0,.slice (some ⟨B1,0,none⟩) 2 2),(2,U none 0 0),(3,iV ((0+(a0_0.length:Int))+(a0_1.length:Int)))]∧L=[ex A2 n2 c2 a0_0,ex A3 n3 c3 a0_1,aR B1 39 [U A2 n2 c2,U A3 n3 c3]]) ?_ ?_
 ·refine Y ?_;refine gE (nA J EM) ?_;refine Y ?_;refine qZ 3 ?_;refine sd ?_;refine Y ?_;refine ax ?_;refine ea J ?_;refine Y ?_;refine ax ?_;refine Y ?_;refine gE (mx J J EM rP (by decide) (by decide)) ?_;refine gR (ba 0 J J lA J) ?_;refine Y ?_;refine gR (aU 1 J av J z3) ?_;obtain ⟨q5,h⟩:=ap h;refine gE (aW J J q5.1 q5.2) ?_;refine Y ?_;refine au J (fun g6=> ?_) (fun g6=> ?_)
  ·replace h:=ag g6 h;exact aG h
  replace h:=ah g6 h;refine Y ?_;refine gE (aW J J (by decide) (by decide)) ?_;refine Y ?_;refine sd ?_;refine Y ?_;refine ax ?_;refine ea J ?_;refine Y ?_;refine ax ?_;refine Y ?_;refine gE (mx J J EM rP (by decide) (by decide)) ?_;refine gR (ba 0 J J lA J) ?_;refine Y ?_;refine gR (aU 2 J av J z3) ?_;obtain ⟨q7,h⟩:=ap h;refine gE (aW J J q7.1 q7.2) ?_;refine Y ?_;refine au J (fun g8=> ?_) (fun g8=> ?_)
  ·replace h:=ag g8 h;exact aG h
  replace h:=ah g8 h;refine Y ?_;refine gE (aW J J (by decide) (by decide)) ?_;refine Y ?_;refine sd ?_;refine Y ?_;refine ax ?_;refine dE J ?_;refine Y ?_;exact ⟨_,_,⟨h,J,J⟩,sA,cS [1,2,0] 3⟩
 rintro _ _ ⟨h,rfl,rfl⟩;refine Y ?_;obtain ⟨y9,hy9,h⟩:=aa h;refine gD (ai (Aa hy9) O0 J (ac) xH) ?_;rintro _ _ ⟨_,⟨A10,n10,c10,rfl,rfl⟩,rfl⟩;refine Y ?_;refine aM (fun s L=> ∃p12 A12 n12 c12,mU N p12=some r∧s=[(2,U none 0 0),(6,U A12 n12 c12)]∧L=[eC A12 n12 c12 p12]) ?_ ?_
 ·refine Y ?_;refine gE (nA J EM) ?_;refine Y ?_;refine qZ 3 ?_;refine sd ?_;refine Y ?_;refine ax ?_;refine ea J ?_;refine Y ?_;refine ax ?_;refine Y ?_;refine gE (mx J J EM rP (by decide) (by decide)) ?_;refine gR (ba 3 J J lA J) ?_;refine Y ?_;obtain ⟨q13,h⟩:=ap h;refine gD (bK 0 1 J J av J J z3 HF J J q13) ?_;rintro _ _ ⟨A14,n14,c14,rfl,rfl⟩;refine Y ?_;refine gE (aW J J (by decide) (by decide)) ?_;refine Y ?_;refine sd ?_;refine Y ?_;refine ax ?_;refine ea J ?_;refine Y ?_;refine ax ?_;refine Y ?_;refine gE (mx J J EM rP (by decide) (by decide)) ?_;refine gR (ba 3 J J lA J) ?_;refine Y ?_;obtain ⟨q15,h⟩:=ap h;refine gD (bK 0 2 J J av J J z3 HF J J q15) ?_;rintro _ _ ⟨A16,n16,c16,rfl,rfl⟩;refine Y ?_;refine gE (aW J J (by decide) (by decide)) ?_;refine Y ?_;refine sd ?_;refine Y ?_;refine ax ?_;refine dE J ?_;refine Y ?_;exact ⟨_,_,⟨(y9++a0_0)++a0_1,A16,n16,c16,h,J,J⟩,sA,cS [0] 4⟩
 rintro _ _ ⟨p12,A12,n12,c12,h,rfl,rfl⟩;refine Y ?_;obtain rfl:=aq h;exact aL J J (cS [0] 1) ⟨_,_,_,J,J⟩
theorem qi {r:(List Int)}: ∀v post,((fun (u:Value) (post:List Chunk)=> ∃A0 n0 c0,u=U A0 n0 c0∧post=[eC A0 n0 c0 r])) v post→ ∀c∈post,ce c:=by
 rintro _ _ ⟨_,_,_,rfl,rfl⟩;exact hJ bP (ac)
end Go.Proofs.YtdcccmadhipinaaGreat
namespace Go.Proofs.YtdcccmadhipinaaGreat
variable {A1 A2 A3 A4 A5 A6 A7:Option Addr} {B1 B2 B3 B8 M2 M6 M9 c1 c2 c3 c4 c5 c6 c7 n1 n2 n3 n4 n5 n6 n7:Nat}
open Go.RowKit Asn
set_option maxRecDepth 20000
def kT (N:Nat)(a0:SQ)(p10:(List Ta))(p11:(List Ta))(p12:(List Int))(p13:(List Int))(p14:(List (Int×Bool)))(p15:Int):Option (Bool×SQ):=
 some (decide ((a0.met_.length:Int)<(p13.length:Int)),(⟨(⟨p10,p11⟩:SP),p12,p13,p14,p15⟩:SQ))
def ig (N:Nat)(kb21:Int→(List Ta)→(List Ta)→(List Int)→(List Int)→(List (Int×Bool))→Int→Option (Bool×SQ))(a0:SQ)(y18:((List Int)))(p22:Int)(y7:((List Int)))(p31:(List Ta))(p32:(List Ta))(p33:(List Int))(p34:(List Int))(p35:(List (Int×Bool)))(p36:Int):Option (Bool×SQ):=
 bi (in64 (p22+1)) (kb21 (p22+1) p31 p32 p33 p34 p35 p36)
def ie (N:Nat)(kb21:Int→(List Ta)→(List Ta)→(List Int)→(List Int)→(List (Int×Bool))→Int→Option (Bool×SQ))(a0:SQ)(y18:((List Int)))(p22:Int)(y41:((List Int)))(y7:((List Int))):Nat→Int→(List Ta)→(List Ta)→(List Int)→(List Int)→(List (Int×Bool))→Int→Option (Bool×SQ)
 |0,_,_,_,_,_,_,_=>none
 |m43+1,p44,p45,p46,p47,p48,p49,p50=>bif decide (p44<(y41.length:Int)) then ((aF y41 p44).bind fun x52=>(cy N (⟨(⟨p45,p46⟩:SP),p47,p48,p49,p50⟩:SQ) x52).bind fun y53=>bi (in64 (p44+1)) ((ie N kb21 a0 y18 p22 y41 y7 m43) (p44+1) y53.m_.Young y53.m_.Old y53.kept_ y53.met_ y53.seen_ y53.next_)) else (ig N kb21 a0 y18 p22 y7 p45 p46 p47 p48 p49 p50)
def cj (N:Nat)(a0:SQ)(y18:((List Int)))(y7:((List Int))):Nat→Int→(List Ta)→(List Ta)→(List Int)→(List Int)→(List (Int×Bool))→Int→Option (Bool×SQ)
 |0,_,_,_,_,_,_,_=>none
 |m21+1,p22,p23,p24,p25,p26,p27,p28=>bif decide (p22<(y18.length:Int)) then ((aF y18 p22).bind fun x37=>(bY N (⟨(⟨p23,p24⟩:SP),p25,p26,p27,p28⟩:SQ) x37).bind fun y38=>(mP N y38 y7).bind fun y41=>ie N (cj N a0 y18 y7 m21) a0 y18 p22 y41 y7 N 0 p23 p24 p25 p26 p27 p28) else (kT N a0 p23 p24 p25 p26 p27 p28)
def gq (N:Nat)(a0:SQ):Option (Bool×SQ):=
 (eY N a0).bind fun y7=>(jV N a0.kept_ a0.met_).bind fun y18=>cj N a0 y18 y7 N 0 a0.m_.Young a0.m_.Old a0.kept_ a0.met_ a0.seen_ a0.next_
set_option maxHeartbeats 4000000 in
theorem vm {N:Nat}{a0:SQ}{r:(Bool×SQ)}(h:gq N a0=some r):Okc Tryz.prog 179 [pV B1 0] ([bB A2 n2 c2 a0.m_.Young,bB A3 n3 c3 a0.m_.Old,ex A4 n4 c4 a0.kept_,am B1 186 [U A2 n2 c2,U A3 n3 c3,U A4 n4 c4,U A5 n5 c5,.map (some M6),iV a0.next_],eC A5 n5 c5 a0.met_,aK bR cG M6 a0.seen_]) (fun u post=> ∃A0 n0 c0 A1 n1 c1 A2 n2 c2 A3 n3 c3 M4,u=.bool r.1∧post=[am B1 186 [U A0 n0 c0,U A1 n1 c1,U A2 n2 c2,U A3 n3 c3,.map (some M4),iV r.2.next_],bB A0 n0 c0 r.2.m_.Young,bB A1 n1 c1 r.2.m_.Old,ex A2 n2 c2 r.2.kept_,eC A3 n3 c3 r.2.met_,aK bR cG M4 r.2.seen_]):=by
 refine bp Tryz.func179 J J ?_;simp only [aP];refine Y ?_;refine gR (aU 4 J aH J z3) ?_;refine Y ?_;obtain ⟨y7,hy7,h⟩:=aa h;refine gD (ai (oV hy7) JL J (hJ (az (i:=3) J) (hJ (ab (i:=0) J J) (hJ (ab (i:=1) J J) (hJ (ab (i:=2) J J) (hJ (ad (i:=4) J) (hJ (bc (i:=5) J) ac)))))) nk) ?_;rintro _ _ ⟨_,⟨A8,n8,c8,rfl,rfl⟩,rfl⟩;refine Y ?_;refine aM (fun s L=> ∃p10 p11 p12 p13 p14 p15 A10 n10 c10 A11 n11 c11 A12 n12 c12 A13 n13 c13 M14,kT N a0 p10 p11 p12 p13 p14 p15=some r∧s=[(0,pV B1 0),(2,.bool false),(3,iV (a0.met_.length:Int))]∧L=[bB A10 n10 c10 p10,bB A11 n11 c11 p11,ex A12 n12 c12 p12,eC A13 n13 c13 p13,aK bR cG M14 p14,am B1 186 [U A10 n10 c10,U A11 n11 c11,U A12 n12 c12,U A13 n13 c13,.map (some M14),iV p15]]) ?_ ?_
 ·refine ax ?_;obtain ⟨y18,hy18,h⟩:=aa h;refine ik (t:=[(0,pV B1 0),(2,.bool false),(3,iV (a0.met_.length:Int)),(4,U A8 n8 c8)]) ?_ mN (aj _)
  refine jS I 12 [] [9,10,11] [16,17,18,19,20,21,22,23,24,25,26,27] [[],[0],[1],[2],[],[4],[5],[6],[3,7],[8],[9],[]] [aV (pV B1 0),
 aV (pV B1 0),
 aV (pV B1 2),
 aV (U A4 n4 c4),
 aV (pV B1 0),
 aV (pV B1 0),
 aV (pV B1 3),
 aV (U A5 n5 c5),
 aX1 (fun (B17:Nat)=> .slice (some ⟨B17,0,none⟩) 2 2) (fun B17=> [am B17 39 [U A4 n4 c4,U A5 n5 c5]]),
 aX3 (fun (A20:Option Addr) (n20 c20:Nat)=> U A20 n20 c20) (fun A20 n20 c20=> [eC A20 n20 c20 y18]),
 aV (iV (y18.length:Int)),
 aV (iV 0)] [] (aj _) (mr) I rfl rfl ?_ ?_ ?_
  ·exact mq
  ·refine ak J ?_ ?_
   ·exact cF (aw J) J (bq J (aj _))
   refine ak J ?_ ?_
   ·intro A20 n20 c20;exact fi (aU 0 J aH J z3) J (bq J (aj _))
   refine ak J ?_ ?_
   ·intro B17;refine vW (ai (sj hy18) MI J (hJ (az (i:=0) J) (hJ (ab (i:=4) J J) (hJ (ad (i:=6) J) ac))) qi) J ?_;rintro _ _ ⟨_,⟨A19,n19,c19,rfl,rfl⟩,rfl⟩;exact DC A19 n19 c19 (aj _)
   refine ak J ?_ ?_
   ·refine vW (eO (cs:=[U A4 n4 c4,U A5 n5 c5]) J (E3 _ _ _ _ _ _)) J ?_;rintro _ _ ⟨B16,rfl,rfl⟩;exact Rc B16 (aj _)
   refine ak J ?_ ?_
   ·exact fi (aJ 4 J J lA J) J (bq J (aj _))
   refine ak J ?_ ?_
   ·exact cF (bz J o4) J (bq J (aj _))
   refine ak J ?_ ?_
   ·exact cF (aB J) J (bq J (aj _))
   refine ak J ?_ ?_
   ·exact cF (aw J) J (bq J (aj _))
   refine ak J ?_ ?_
   ·exact fi (aJ 4 J J lA J) J (bq J (aj _))
   refine ak J ?_ ?_
   ·exact cF (bz J Hc) J (bq J (aj _))
   refine ak J ?_ ?_
   ·exact cF (aB J) J (bq J (aj _))
   refine ak J ?_ ?_
   ·exact cF (aw J) J (bq J (aj _))
   exact fo
  intro A20 n20 c20;refine nP (t:=[(25,U A20 n20 c20),(26,iV (y18.length:Int)),(27,iV 0),(0,pV B1 0),(2,.bool false),(3,iV (a0.met_.length:Int)),(4,U A8 n8 c8)]) (L':=[eC A20 n20 c20 y18,eC A8 n8 c8 y7,bB A2 n2 c2 a0.m_.Young,bB A3 n3 c3 a0.m_.Old,ex A4 n4 c4 a0.kept_,am B1 186 [U A2 n2 c2,U A3 n3 c3,U A4 n4 c4,U A5 n5 c5,.map (some M6),iV a0.next_],eC A5 n5 c5 a0.met_,aK bR cG M6 a0.seen_]) ?_ mN (aj _);refine mB I ?_;refine Y ?_;refine bv (fun m s L=> ∃p22 p23 p24 p25 p26 p27 p28 A23 n23 c23 A24 n24 c24 A25 n25 c25 A26 n26 c26 M27,cj N a0 y18 y7 m p22 p23 p24 p25 p26 p27 p28=some r∧s=[(0,pV B1 0),(2,.bool false),(3,iV (a0.met_.length:Int)),(4,U A8 n8 c8),(25,U A20 n20 c20),(26,iV (y18.length:Int)),(27,iV p22)]∧L=[eC A8 n8 c8 y7,eC A20 n20 c20 y18,bB A23 n23 c23 p23,bB A24 n24 c24 p24,ex A25 n25 c25 p25,eC A26 n26 c26 p26,aK bR cG M27 p27,am B1 186 [U A23 n23 c23,U A24 n24 c24,U A25 n25 c25,U A26 n26 c26,.map (some M27),iV p28]]) N _ _ ⟨0,a0.m_.Young,a0.m_.Old,a0.kept_,a0.met_,a0.seen_,a0.next_,A2,n2,c2,A3,n3,c3,A4,n4,c4,A5,n5,c5,M6,h,J,J⟩ sA (cS [1,0,2,3,4,6,7,5] 8) ?_;rintro (_|m21) _ _ ⟨p22,p23,p24,p25,p26,p27,p28,A23,n23,c23,A24,n24,c24,A25,n25,c25,A26,n26,c26,M27,h,rfl,rfl⟩
  ·exact aG h
  rw [cj.eq_2] at h;refine Y ?_;refine ax ?_;refine au J (fun g29=> ?_) (fun g29=> ?_)
  ·replace h:=ag g29 h;refine Y ?_;refine aM (fun s L=> ∃p31 p32 p33 p34 p35 p36 A31 n31 c31 A32 n32 c32 A33 n33 c33 A34 n34 c34 M35,ig N (cj N a0 y18 y7 m21) a0 y18 p22 y7 p31 p32 p33 p34 p35 p36=some r∧s=[(0,pV B1 0),(2,.bool false),(3,iV (a0.met_.length:Int)),(4,U A8 n8 c8),(25,U A20 n20 c20),(26,iV (y18.length:Int)),(27,iV p22)]∧L=[eC A8 n8 c8 y7,eC A20 n20 c20 y18,bB A31 n31 c31 p31,bB A32 n32 c32 p32,ex A33 n33 c33 p33,eC A34 n34 c34 p34,aK bR cG M35 p35,am B1 186 [U A31 n31 c31,U A32 n32 c32,U A33 n33 c33,U A34 n34 c34,.map (some M35),iV p36]]) ?_ ?_
   ·refine Y ?_;obtain ⟨x37,hx37,h⟩:=aa h;obtain ⟨lx37,ux37,hx37⟩:=aA hx37;refine gR (aX 1 J aH J J z3 dP lx37 ux37) ?_;refine gR (bH (u:=iV x37) 1 J aH J hx37 dy (fun _ _ _ h=>by rw [show _=_ from h];rfl)) ?_;refine Y ?_;obtain ⟨y38,hy38,h⟩:=aa h;refine gD (aT (fP hy38) zS J (aI [2,3,4] [7,5,6] [0,1,2,3,4] 8 J)) ?_;rintro _ _ ⟨_,⟨A39,n39,c39,A40,n40,c40,rfl,rfl⟩,rfl⟩;refine Y ?_;obtain ⟨y41,hy41,h⟩:=aa h;refine gD (ai (xa hy41) Ju J (hJ (ab (i:=0) J J) (hJ (ab (i:=1) J J) (hJ (ad (i:=5) J) ac))) tS) ?_;rintro _ _ ⟨_,⟨A42,n42,c42,rfl,rfl⟩,rfl⟩;refine gR (aU 0 J aH J z3) ?_;refine Y ?_;refine bv (fun m s L=> ∃p44 p45 p46 p47 p48 p49 p50 A45 n45 c45 A46 n46 c46 A47 n47 c47 A48 n48 c48 M49,ie N (cj N a0 y18 y7 m21) a0 y18 p22 y41 y7 m p44 p45 p46 p47 p48 p49 p50=some r∧s=[(0,pV B1 0),(2,.bool false),(3,iV (a0.met_.length:Int)),(4,U A8 n8 c8),(25,U A20 n20 c20),(26,iV (y18.length:Int)),(27,iV p22),(35,U A42 n42 c42),(36,iV (y41.length:Int)),(37,iV p44)]∧L=[eC A8 n8 c8 y7,eC A20 n20 c20 y18,eC A42 n42 c42 y41,bB A45 n45 c45 p45,bB A46 n46 c46 p46,ex A47 n47 c47 p47,eC A48 n48 c48 p48,aK bR cG M49 p49,am B1 186 [U A45 n45 c45,U A46 n46 c46,U A47 n47 c47,U A48 n48 c48,.map (some M49),iV p50]]) N _ _ ⟨0,p23,p24,p25,p26,p27,p28,A23,n23,c23,A24,n24,c24,A25,n25,c25,A26,n26,c26,M27,h,J,J⟩ sA (cS [6,7,0,8,9,10,4,5,3] 11) ?_
    rintro (_|m43) _ _ ⟨p44,p45,p46,p47,p48,p49,p50,A45,n45,c45,A46,n46,c46,A47,n47,c47,A48,n48,c48,M49,h,rfl,rfl⟩
    ·exact aG h
    rw [ie.eq_2] at h;refine Y ?_;refine ax ?_;refine au J (fun g51=> ?_) (fun g51=> ?_)
    ·replace h:=ag g51 h;refine Y ?_;refine ax ?_;refine Y ?_;obtain ⟨x52,hx52,h⟩:=aa h;obtain ⟨lx52,ux52,hx52⟩:=aA hx52;refine gR (aX 2 J aH J J z3 dP lx52 ux52) ?_;refine gR (bH (u:=iV x52) 2 J aH J hx52 dy (fun _ _ _ h=>by rw [show _=_ from h];rfl)) ?_;refine Y ?_;obtain ⟨y53,hy53,h⟩:=aa h;refine gD (aT (iE hy53) BX J (aI [3,4,5] [8,6,7] [0,1,2,3,4,5] 9 J)) ?_;rintro _ _ ⟨_,⟨A54,n54,c54,A55,n55,c55,A56,n56,c56,A57,n57,c57,M58,rfl,rfl⟩,rfl⟩;refine Y ?_;obtain ⟨q59,h⟩:=ap h;refine gE (aW J J q59.1 q59.2) ?_;refine Y ?_;exact ⟨m43,_,_,Tk _,⟨p44+1,y53.m_.Young,y53.m_.Old,y53.kept_,y53.met_,y53.seen_,y53.next_,A54,n54,c54,A55,n55,c55,A56,n56,c56,A57,n57,c57,M58,h,J,J⟩,sA,cS [6,7,8,1,2,3,4,5,0] 12⟩
    replace h:=ah g51 h;refine Y ?_;exact ⟨_,_,⟨p45,p46,p47,p48,p49,p50,A45,n45,c45,A46,n46,c46,A47,n47,c47,A48,n48,c48,M49,h,J,J⟩,sA,cS [0,1,3,4,5,6,7,8] 9⟩
   rintro _ _ ⟨p31,p32,p33,p34,p35,p36,A31,n31,c31,A32,n32,c32,A33,n33,c33,A34,n34,c34,M35,h,rfl,rfl⟩;refine cE ?_;obtain ⟨q60,h⟩:=ap h;refine gE (aW J J q60.1 q60.2) ?_;refine Y ?_;exact ⟨m21,_,_,Tk _,⟨p22+1,p31,p32,p33,p34,p35,p36,A31,n31,c31,A32,n32,c32,A33,n33,c33,A34,n34,c34,M35,h,J,J⟩,sA,cS [0,1,2,3,4,5,6,7] 8⟩
  replace h:=ah g29 h;refine Y ?_;exact ⟨_,_,⟨p23,p24,p25,p26,p27,p28,A23,n23,c23,A24,n24,c24,A25,n25,c25,A26,n26,c26,M27,h,J,J⟩,sA,cS [2,3,4,5,6,7] 8⟩
 rintro _ _ ⟨p10,p11,p12,p13,p14,p15,A10,n10,c10,A11,n11,c11,A12,n12,c12,A13,n13,c13,M14,h,rfl,rfl⟩;refine Y ?_;refine gR (aU 3 J aH J z3) ?_;refine Y ?_;obtain rfl:=aq h;exact aL J J (cS [5,0,1,2,3,4] 6) ⟨_,_,_,_,_,_,_,_,_,_,_,_,_,J,J⟩
def rU (N:Nat)(p98:(List Ta))(p99:(List Ta))(p100:(List Int))(p101:(List Int))(p102:(List (Int×Bool)))(p103:Int):Option SQ:=
 some (⟨(⟨p98,p99⟩:SP),p100,p101,p102,p103⟩:SQ)
def jk (N:Nat):Nat→(List Ta)→(List Ta)→(List Int)→(List Int)→(List (Int×Bool))→Int→Option SQ
 |0,_,_,_,_,_,_=>none
 |m104+1,p105,p106,p107,p108,p109,p110=>(gq N (⟨(⟨p105,p106⟩:SP),p107,p108,p109,p110⟩:SQ)).bind fun y111=>bif y111.1 then ((eP N y111.2).bind fun y118=>(jk N m104) y118.m_.Young y118.m_.Old y118.kept_ y118.met_ y118.seen_ y118.next_) else (rU N y111.2.m_.Young y111.2.m_.Old y111.2.kept_ y111.2.met_ y111.2.seen_ y111.2.next_)
def rV (N:Nat)(p45:(List Ta))(p46:(List Ta))(p47:(List Int))(p48:(List Int))(p49:(List (Int×Bool)))(p50:Int):Option SQ:=
 (eP N (⟨(⟨p45,p46⟩:SP),p47,p48,p49,p50⟩:SQ)).bind fun y91=>jk N N y91.m_.Young y91.m_.Old y91.kept_ y91.met_ y91.seen_ y91.next_
def oE (N:Nat)(kb51:Int→(List Ta)→(List Ta)→(List Int)→(List Int)→(List (Int×Bool))→Int→Option SQ)(a2:(List Int))(p52:Int)(p61:(List Ta))(p62:(List Ta))(p63:(List Int))(p64:(List Int))(p65:(List (Int×Bool)))(p66:Int):Option SQ:=
 bi (in64 (p52+1)) (kb51 (p52+1) p61 p62 p63 p64 p65 p66)
def oD (N:Nat)(kb51:Int→(List Ta)→(List Ta)→(List Int)→(List Int)→(List (Int×Bool))→Int→Option SQ)(a2:(List Int))(p52:Int)(y71:((List Int))):Nat→Int→(List Ta)→(List Ta)→(List Int)→(List Int)→(List (Int×Bool))→Int→Option SQ
 |0,_,_,_,_,_,_,_=>none
 |m73+1,p74,p75,p76,p77,p78,p79,p80=>bif decide (p74<(y71.length:Int)) then ((aF y71 p74).bind fun x82=>(cy N (⟨(⟨p75,p76⟩:SP),p77,p78,p79,p80⟩:SQ) x82).bind fun y83=>bi (in64 (p74+1)) ((oD N kb51 a2 p52 y71 m73) (p74+1) y83.m_.Young y83.m_.Old y83.kept_ y83.met_ y83.seen_ y83.next_)) else (oE N kb51 a2 p52 p75 p76 p77 p78 p79 p80)
def d8 (N:Nat)(a2:(List Int)):Nat→Int→(List Ta)→(List Ta)→(List Int)→(List Int)→(List (Int×Bool))→Int→Option SQ
 |0,_,_,_,_,_,_,_=>none
 |m51+1,p52,p53,p54,p55,p56,p57,p58=>bif decide (p52<(a2.length:Int)) then ((aF a2 p52).bind fun x67=>(bY N (⟨(⟨p53,p54⟩:SP),p55,p56,p57,p58⟩:SQ) x67).bind fun y68=>(eW N y68).bind fun y71=>oD N (d8 N a2 m51) a2 p52 y71 N 0 p53 p54 p55 p56 p57 p58) else (rV N p53 p54 p55 p56 p57 p58)
def tp (N:Nat)(a2:(List Int))(p9:(List Ta))(p10:(List Ta))(p11:(List Int))(p12:(List Int))(p13:(List (Int×Bool)))(p14:Int):Option SQ:=
 d8 N a2 N 0 p9 p10 p11 p12 p13 p14
def oF (N:Nat)(kb15:Int→(List Ta)→(List Ta)→(List Int)→(List Int)→(List (Int×Bool))→Int→Option SQ)(a1:(List SR))(p16:Int)(a2:(List Int))(p27:(List Ta))(p28:(List Ta))(p29:(List Int))(p30:(List Int))(p31:(List (Int×Bool)))(p32:Int):Option SQ:=
 bi (in64 (p16+1)) (kb15 (p16+1) p27 p28 p29 p30 p31 p32)
def gG (N:Nat)(a1:(List SR))(a2:(List Int)):Nat→Int→(List Ta)→(List Ta)→(List Int)→(List Int)→(List (Int×Bool))→Int→Option SQ
 |0,_,_,_,_,_,_,_=>none
 |m15+1,p16,p17,p18,p19,p20,p21,p22=>bif decide (p16<(a1.length:Int)) then ((aF a1 p16).bind fun x33=>(jY N x33).bind fun y35=>bif y35.2 then ((cy N (⟨(⟨p17,p18⟩:SP),p19,p20,p21,p22⟩:SQ) y35.1).bind fun y37=>oF N (gG N a1 a2 m15) a1 p16 a2 y37.m_.Young y37.m_.Old y37.kept_ y37.met_ y37.seen_ y37.next_) else (oF N (gG N a1 a2 m15) a1 p16 a2 p17 p18 p19 p20 p21 p22)) else (tp N a2 p17 p18 p19 p20 p21 p22)
def kV (N:Nat)(a0:SP)(a1:(List SR))(a2:(List Int)):Option SQ:=
 gG N a1 a2 N 0 a0.Young a0.Old a2 [] ([]:(List (Int×Bool))) 0
set_option maxHeartbeats 4000000 in
theorem FF {N:Nat}{a0:SP}{a1:(List SR)}{a2:(List Int)}{r:SQ}(h:kV N a0 a1 a2=some r):Okc Tryz.prog 131 [.agg #[U A1 n1 c1,U A2 n2 c2],U A3 n3 c3,U A4 n4 c4] ([bB A1 n1 c1 a0.Young,bB A2 n2 c2 a0.Old,bE A3 n3 c3 a1,ex A4 n4 c4 a2]) (fun u post=> ∃B0 A1 n1 c1 A2 n2 c2 A3 n3 c3 A4 n4 c4 M5,u=pV B0 0∧post=[am B0 186 [U A1 n1 c1,U A2 n2 c2,U A3 n3 c3,U A4 n4 c4,.map (some M5),iV r.next_],bB A1 n1 c1 r.m_.Young,bB A2 n2 c2 r.m_.Old,ex A3 n3 c3 r.kept_,eC A4 n4 c4 r.met_,aK bR cG M5 r.seen_]):=by
 refine bp Tryz.func131 J J ?_;simp only [aP];refine Y ?_;refine gD (bn J J) ?_;rintro _ _ ⟨B5,rfl,rfl⟩;refine Y ?_;refine gR (aD (us:=[U A1 n1 c1,U A2 n2 c2]) 0 J J fe J) ?_;refine Y ?_;refine gD (qB (ek:=bR) (ev:=cG)) ?_;rintro _ _ ⟨M6,rfl,rfl⟩;refine gE (bo J (Ef _ _ _ _ _ _ _ _ _ _)) ?_;refine gD (bn J J) ?_;rintro _ _ ⟨B7,rfl,rfl⟩;refine Y ?_;refine aM (fun s L=> ∃p9 p10 p11 p12 p13 p14 A9 n9 c9 A10 n10 c10 A11 n11 c11 A12 n12 c12 M13,tp N a2 p9 p10 p11 p12 p13 p14=some r∧s=[(2,U A4 n4 c4),(6,.pointer none),(7,pV B7 0)]∧L=[ex A4 n4 c4 a2,bB A9 n9 c9 p9,bB A10 n10 c10 p10,ex A11 n11 c11 p11,eC A12 n12 c12 p12,aK bR cG M13 p13,am B7 186 [U A9 n9 c9,U A10 n10 c10,U A11 n11 c11,U A12 n12 c12,.map (some M13),iV p14]]) ?_ ?_
 ·refine Y ?_;refine gR (aU 5 J av J t0) ?_;refine Y ?_;refine bv (fun m s L=> ∃p16 p17 p18 p19 p20 p21 p22 A17 n17 c17 A18 n18 c18 A19 n19 c19 A20 n20 c20 M21,gG N a1 a2 m p16 p17 p18 p19 p20 p21 p22=some r∧s=[(2,U A4 n4 c4),(6,.pointer none),(7,pV B7 0),(21,U A3 n3 c3),(22,iV (a1.length:Int)),(23,iV p16)]∧L=[ex A4 n4 c4 a2,bE A3 n3 c3 a1,bB A17 n17 c17 p17,bB A18 n18 c18 p18,ex A19 n19 c19 p19,eC A20 n20 c20 p20,aK bR cG M21 p21,am B7 186 [U A17 n17 c17,U A18 n18 c18,U A19 n19 c19,U A20 n20 c20,.map (some M21),iV p22]]) N _ _ ⟨0,a0.Young,a0.Old,a2,[],([]:(List (Int×Bool))),0,A1,n1,c1,A2,n2,c2,A4,n4,c4,none,0,0,M6,h,J,J⟩ sA ((Iq 6 J J).trans ((cn (iP .i64) 3 _).trans (cS [8,7,5,6,1,0,3,2] 9))) ?_;rintro (_|m15) _ _ ⟨p16,p17,p18,p19,p20,p21,p22,A17,n17,c17,A18,n18,c18,A19,n19,c19,A20,n20,c20,M21,h,rfl,rfl⟩
  ·exact aG h
  rw [gG.eq_2] at h;refine Y ?_;refine ax ?_;refine au J (fun g25=> ?_) (fun g25=> ?_)
  ·replace h:=ag g25 h;refine Y ?_;refine aM (fun s L=> ∃p27 p28 p29 p30 p31 p32 A27 n27 c27 A28 n28 c28 A29 n29 c29 A30 n30 c30 M31,oF N (gG N a1 a2 m15) a1 p16 a2 p27 p28 p29 p30 p31 p32=some r∧s=[(2,U A4 n4 c4),(6,.pointer none),(7,pV B7 0),(21,U A3 n3 c3),(22,iV (a1.length:Int)),(23,iV p16)]∧L=[ex A4 n4 c4 a2,bE A3 n3 c3 a1,bB A27 n27 c27 p27,bB A28 n28 c28 p28,ex A29 n29 c29 p29,eC A30 n30 c30 p30,aK bR cG M31 p31,am B7 186 [U A27 n27 c27,U A28 n28 c28,U A29 n29 c29,U A30 n30 c30,.map (some M31),iV p32]]) ?_ ?_
   ·refine Y ?_;obtain ⟨x33,hx33,h⟩:=aa h;obtain ⟨lx33,ux33,hx33⟩:=aA hx33;refine gR (aX 1 J av J J t0 aS lx33 ux33) ?_;refine gR (bG (us:=[iV x33.Kind,iV x33.N,.string x33.S]) 1 J av J hx33 bV (fun _ _ _ h=>by rw [show _=_ from h];rfl)) ?_;refine gD (aE d7 J) ?_;rintro _ _ ⟨B34,rfl,rfl⟩;refine gO (ao (us:=[iV x33.Kind,iV x33.N,.string x33.S]) (cs':=[iV x33.Kind,iV x33.N,.string x33.S]) 0 J J J J aS J J J) ?_;rintro _ _ rfl;refine Y ?_;refine gR (aD (us:=[iV x33.Kind,iV x33.N,.string x33.S]) 0 J J bV J) ?_;obtain ⟨y35,hy35,h⟩:=aa h;refine gD (ai (sG hy35) JA J (ac) qE) ?_;rintro _ _ ⟨_,⟨rfl,rfl⟩,rfl⟩;refine Y ?_;refine au J (fun g36=> ?_) (fun g36=> ?_)
    ·replace h:=ag g36 h;refine Y ?_;obtain ⟨y37,hy37,h⟩:=aa h;refine gD (aT (iE hy37) BX J (aI [3,4,5] [8,6,7] [0,1,2,3,4,5] 9 J)) ?_;rintro _ _ ⟨_,⟨A38,n38,c38,A39,n39,c39,A40,n40,c40,A41,n41,c41,M42,rfl,rfl⟩,rfl⟩;refine Y ?_;exact ⟨_,_,⟨y37.m_.Young,y37.m_.Old,y37.kept_,y37.met_,y37.seen_,y37.next_,A38,n38,c38,A39,n39,c39,A40,n40,c40,A41,n41,c41,M42,h,J,J⟩,sA,cS [7,8,1,2,3,4,5,0] 12⟩
    replace h:=ah g36 h;refine Y ?_;exact ⟨_,_,⟨p17,p18,p19,p20,p21,p22,A17,n17,c17,A18,n18,c18,A19,n19,c19,A20,n20,c20,M21,h,J,J⟩,sA,cS [1,2,3,4,5,6,7,8] 9⟩
   rintro _ _ ⟨p27,p28,p29,p30,p31,p32,A27,n27,c27,A28,n28,c28,A29,n29,c29,A30,n30,c30,M31,h,rfl,rfl⟩;refine cE ?_;obtain ⟨q43,h⟩:=ap h;refine gE (aW J J q43.1 q43.2) ?_;refine Y ?_;exact ⟨m15,_,_,Tk _,⟨p16+1,p27,p28,p29,p30,p31,p32,A27,n27,c27,A28,n28,c28,A29,n29,c29,A30,n30,c30,M31,h,J,J⟩,sA,cS [0,1,2,3,4,5,6,7] 8⟩
  replace h:=ah g25 h;refine Y ?_;exact ⟨_,_,⟨p17,p18,p19,p20,p21,p22,A17,n17,c17,A18,n18,c18,A19,n19,c19,A20,n20,c20,M21,h,J,J⟩,sA,cS [0,2,3,4,5,6,7] 8⟩
 rintro _ _ ⟨p9,p10,p11,p12,p13,p14,A9,n9,c9,A10,n10,c10,A11,n11,c11,A12,n12,c12,M13,h,rfl,rfl⟩;refine aM (fun s L=> ∃p45 p46 p47 p48 p49 p50 A45 n45 c45 A46 n46 c46 A47 n47 c47 A48 n48 c48 M49,rV N p45 p46 p47 p48 p49 p50=some r∧s=[(6,.pointer none),(7,pV B7 0)]∧L=[bB A45 n45 c45 p45,bB A46 n46 c46 p46,ex A47 n47 c47 p47,eC A48 n48 c48 p48,aK bR cG M49 p49,am B7 186 [U A45 n45 c45,U A46 n46 c46,U A47 n47 c47,U A48 n48 c48,.map (some M49),iV p50]]) ?_ ?_
 ·refine Y ?_;refine gR (aU 0 J av J z3) ?_;refine Y ?_;refine bv (fun m s L=> ∃p52 p53 p54 p55 p56 p57 p58 A53 n53 c53 A54 n54 c54 A55 n55 c55 A56 n56 c56 M57,d8 N a2 m p52 p53 p54 p55 p56 p57 p58=some r∧s=[(6,.pointer none),(7,pV B7 0),(37,U A4 n4 c4),(38,iV (a2.length:Int)),(39,iV p52)]∧L=[ex A4 n4 c4 a2,bB A53 n53 c53 p53,bB A54 n54 c54 p54,ex A55 n55 c55 p55,eC A56 n56 c56 p56,aK bR cG M57 p57,am B7 186 [U A53 n53 c53,U A54 n54 c54,U A55 n55 c55,U A56 n56 c56,.map (some M57),iV p58]]) N _ _ ⟨0,p9,p10,p11,p12,p13,p14,A9,n9,c9,A10,n10,c10,A11,n11,c11,A12,n12,c12,M13,h,J,J⟩ sA (cS [0,1,2,3,4,5,6] 7) ?_;rintro (_|m51) _ _ ⟨p52,p53,p54,p55,p56,p57,p58,A53,n53,c53,A54,n54,c54,A55,n55,c55,A56,n56,c56,M57,h,rfl,rfl⟩
  ·exact aG h
  rw [d8.eq_2] at h;refine Y ?_;refine ax ?_;refine au J (fun g59=> ?_) (fun g59=> ?_)
  ·replace h:=ag g59 h;refine Y ?_;refine aM (fun s L=> ∃p61 p62 p63 p64 p65 p66 A61 n61 c61 A62 n62 c62 A63 n63 c63 A64 n64 c64 M65,oE N (d8 N a2 m51) a2 p52 p61 p62 p63 p64 p65 p66=some r∧s=[(6,.pointer none),(7,pV B7 0),(37,U A4 n4 c4),(38,iV (a2.length:Int)),(39,iV p52)]∧L=[ex A4 n4 c4 a2,bB A61 n61 c61 p61,bB A62 n62 c62 p62,ex A63 n63 c63 p63,eC A64 n64 c64 p64,aK bR cG M65 p65,am B7 186 [U A61 n61 c61,U A62 n62 c62,U A63 n63 c63,U A64 n64 c64,.map (some M65),iV p66]]) ?_ ?_
   ·refine Y ?_;obtain ⟨x67,hx67,h⟩:=aa h;obtain ⟨lx67,ux67,hx67⟩:=aA hx67;refine gR (aX 0 J av J J z3 dP lx67 ux67) ?_;refine gR (bH (u:=iV x67) 0 J av J hx67 dy (fun _ _ _ h=>by rw [show _=_ from h];rfl)) ?_;refine Y ?_;obtain ⟨y68,hy68,h⟩:=aa h;refine gD (aT (fP hy68) zS J (aI [1,2,3] [6,4,5] [0,1,2,3] 7 J)) ?_;rintro _ _ ⟨_,⟨A69,n69,c69,A70,n70,c70,rfl,rfl⟩,rfl⟩;refine cp ?_;obtain ⟨y71,hy71,h⟩:=aa h;refine gD (ai (iX hy71) yg J (hJ (ab (i:=0) J J) (hJ (ab (i:=1) J J) ac)) gk) ?_;rintro _ _ ⟨_,⟨A72,n72,c72,rfl,rfl⟩,rfl⟩;refine gR (aU 0 J aH J z3) ?_;refine Y ?_;refine bv (fun m s L=> ∃p74 p75 p76 p77 p78 p79 p80 A75 n75 c75 A76 n76 c76 A77 n77 c77 A78 n78 c78 M79,oD N (d8 N a2 m51) a2 p52 y71 m p74 p75 p76 p77 p78 p79 p80=some r∧s=[(6,.pointer none),(7,pV B7 0),(37,U A4 n4 c4),(38,iV (a2.length:Int)),(39,iV p52),(46,U A72 n72 c72),(47,iV (y71.length:Int)),(48,iV p74)]∧L=[ex A4 n4 c4 a2,eC A72 n72 c72 y71,bB A75 n75 c75 p75,bB A76 n76 c76 p76,ex A77 n77 c77 p77,eC A78 n78 c78 p78,aK bR cG M79 p79,am B7 186 [U A75 n75 c75,U A76 n76 c76,U A77 n77 c77,U A78 n78 c78,.map (some M79),iV p80]]) N _ _ ⟨0,p53,p54,p55,p56,p57,p58,A53,n53,c53,A54,n54,c54,A55,n55,c55,A56,n56,c56,M57,h,J,J⟩ sA (cS [6,0,7,8,9,4,5,3] 10) ?_;rintro (_|m73) _ _ ⟨p74,p75,p76,p77,p78,p79,p80,A75,n75,c75,A76,n76,c76,A77,n77,c77,A78,n78,c78,M79,h,rfl,rfl⟩
    ·exact aG h
    rw [oD.eq_2] at h;refine Y ?_;refine ax ?_;refine au J (fun g81=> ?_) (fun g81=> ?_)
    ·replace h:=ag g81 h;refine Y ?_;refine ax ?_;refine Y ?_;obtain ⟨x82,hx82,h⟩:=aa h;obtain ⟨lx82,ux82,hx82⟩:=aA hx82;refine gR (aX 1 J aH J J z3 dP lx82 ux82) ?_;refine gR (bH (u:=iV x82) 1 J aH J hx82 dy (fun _ _ _ h=>by rw [show _=_ from h];rfl)) ?_;refine Y ?_;obtain ⟨y83,hy83,h⟩:=aa h;refine gD (aT (iE hy83) BX J (aI [2,3,4] [7,5,6] [0,1,2,3,4] 8 J)) ?_;rintro _ _ ⟨_,⟨A84,n84,c84,A85,n85,c85,A86,n86,c86,A87,n87,c87,M88,rfl,rfl⟩,rfl⟩;refine Y ?_;obtain ⟨q89,h⟩:=ap h;refine gE (aW J J q89.1 q89.2) ?_;refine Y ?_;exact ⟨m73,_,_,Tk _,⟨p74+1,y83.m_.Young,y83.m_.Old,y83.kept_,y83.met_,y83.seen_,y83.next_,A84,n84,c84,A85,n85,c85,A86,n86,c86,A87,n87,c87,M88,h,J,J⟩,sA,cS [6,7,1,2,3,4,5,0] 11⟩
    replace h:=ah g81 h;refine Y ?_;exact ⟨_,_,⟨p75,p76,p77,p78,p79,p80,A75,n75,c75,A76,n76,c76,A77,n77,c77,A78,n78,c78,M79,h,J,J⟩,sA,cS [0,2,3,4,5,6,7] 8⟩
   rintro _ _ ⟨p61,p62,p63,p64,p65,p66,A61,n61,c61,A62,n62,c62,A63,n63,c63,A64,n64,c64,M65,h,rfl,rfl⟩;refine cE ?_;obtain ⟨q90,h⟩:=ap h;refine gE (aW J J q90.1 q90.2) ?_;refine Y ?_;exact ⟨m51,_,_,Tk _,⟨p52+1,p61,p62,p63,p64,p65,p66,A61,n61,c61,A62,n62,c62,A63,n63,c63,A64,n64,c64,M65,h,J,J⟩,sA,cS [0,1,2,3,4,5,6] 7⟩
  replace h:=ah g59 h;refine Y ?_;exact ⟨_,_,⟨p53,p54,p55,p56,p57,p58,A53,n53,c53,A54,n54,c54,A55,n55,c55,A56,n56,c56,M57,h,J,J⟩,sA,cS [1,2,3,4,5,6] 7⟩
 rintro _ _ ⟨p45,p46,p47,p48,p49,p50,A45,n45,c45,A46,n46,c46,A47,n47,c47,A48,n48,c48,M49,h,rfl,rfl⟩;refine Y ?_;obtain ⟨y91,hy91,h⟩:=aa h;refine gD (aT (mK hy91) Jy J (aI [0,1,2] [5,3,4] [0,1,2] 6 J)) ?_;rintro _ _ ⟨_,⟨A92,n92,c92,A93,n93,c93,A94,n94,c94,A95,n95,c95,M96,rfl,rfl⟩,rfl⟩;refine Y ?_;refine aM (fun s L=> ∃p98 p99 p100 p101 p102 p103 A98 n98 c98 A99 n99 c99 A100 n100 c100 A101 n101 c101 M102,rU N p98 p99 p100 p101 p102 p103=some r∧s=[(6,.pointer none),(7,pV B7 0)]∧L=[bB A98 n98 c98 p98,bB A99 n99 c99 p99,ex A100 n100 c100 p100,eC A101 n101 c101 p101,aK bR cG M102 p102,am B7 186 [U A98 n98 c98,U A99 n99 c99,U A100 n100 c100,U A101 n101 c101,.map (some M102),iV p103]]) ?_ ?_
 ·refine iK ?_;refine bv (fun m s L=> ∃p105 p106 p107 p108 p109 p110 A105 n105 c105 A106 n106 c106 A107 n107 c107 A108 n108 c108 M109,jk N m p105 p106 p107 p108 p109 p110=some r∧s=[(6,.pointer none),(7,pV B7 0)]∧L=[bB A105 n105 c105 p105,bB A106 n106 c106 p106,ex A107 n107 c107 p107,eC A108 n108 c108 p108,aK bR cG M109 p109,am B7 186 [U A105 n105 c105,U A106 n106 c106,U A107 n107 c107,U A108 n108 c108,.map (some M109),iV p110]]) N _ _ ⟨y91.m_.Young,y91.m_.Old,y91.kept_,y91.met_,y91.seen_,y91.next_,A92,n92,c92,A93,n93,c93,A94,n94,c94,A95,n95,c95,M96,h,J,J⟩ sA (cS [1,2,3,4,5,0] 9) ?_;rintro (_|m104) _ _ ⟨p105,p106,p107,p108,p109,p110,A105,n105,c105,A106,n106,c106,A107,n107,c107,A108,n108,c108,M109,h,rfl,rfl⟩
  ·exact aG h
  rw [jk.eq_2] at h;refine ax ?_;refine Y ?_;obtain ⟨y111,hy111,h⟩:=aa h;refine gD (aT (vm hy111) OI J (aI [0,1,2] [5,3,4] [0,1,2] 6 J)) ?_;rintro _ _ ⟨_,⟨A112,n112,c112,A113,n113,c113,A114,n114,c114,A115,n115,c115,M116,rfl,rfl⟩,rfl⟩;refine cp ?_;refine Y ?_;refine au J (fun g117=> ?_) (fun g117=> ?_)
  ·replace h:=ag g117 h;refine Y ?_;obtain ⟨y118,hy118,h⟩:=aa h;refine gD (aT (mK hy118) Jy J (aI [1,2,3] [0,4,5] [1,2,3,6,7,8] 9 J)) ?_;rintro _ _ ⟨_,⟨A119,n119,c119,A120,n120,c120,A121,n121,c121,A122,n122,c122,M123,rfl,rfl⟩,rfl⟩;refine Y ?_;exact ⟨m104,_,_,Tk _,⟨y118.m_.Young,y118.m_.Old,y118.kept_,y118.met_,y118.seen_,y118.next_,A119,n119,c119,A120,n120,c120,A121,n121,c121,A122,n122,c122,M123,h,J,J⟩,sA,cS [1,2,3,4,5,0] 12⟩
  replace h:=ah g117 h;refine Y ?_;exact ⟨_,_,⟨y111.2.m_.Young,y111.2.m_.Old,y111.2.kept_,y111.2.met_,y111.2.seen_,y111.2.next_,A112,n112,c112,A113,n113,c113,A114,n114,c114,A115,n115,c115,M116,h,J,J⟩,sA,cS [1,2,3,4,5,0] 9⟩
 rintro _ _ ⟨p98,p99,p100,p101,p102,p103,A98,n98,c98,A99,n99,c99,A100,n100,c100,A101,n101,c101,M102,h,rfl,rfl⟩;refine Y ?_;obtain rfl:=aq h;exact aL J J (cS [5,0,1,2,3,4] 6) ⟨_,_,_,_,_,_,_,_,_,_,_,_,_,_,J,J⟩
def nj (N:Nat)(a0:SQ)(p8:(List Int)):Option (List Int):=
 some p8
def f9 (N:Nat)(kb9:(List Int)→Int→Int→Int→Option (List Int))(a0:SQ)(p13:Int)(p17:(List Int))(p18:Int)(p19:Int):Option (List Int):=
 bi (in64 (p13+1)) (kb9 p17 p18 p19 (p13+1))
def cC (N:Nat)(a0:SQ):Nat→(List Int)→Int→Int→Int→Option (List Int)
 |0,_,_,_,_=>none
 |m9+1,p10,p11,p12,p13=>bif decide (p13<(a0.met_.length:Int)) then ((aF a0.met_ p13).bind fun x20=>(bY N a0 x20).bind fun y21=>bif decide (y21.Age=0) then (bi (in64 (2*p11)) (bi (in64 ((2*p11)+1)) (bi (bQ (p10.length+([(2*p11)+1]:List Int).length)) (bi (in64 (p11+1)) (f9 N (cC N a0 m9) a0 p13 (p10++([(2*p11)+1]:List Int)) (p11+1) p12))))) else (bi (in64 (2*p12)) (bi (in64 ((2*p12)+2)) (bi (bQ (p10.length+([(2*p12)+2]:List Int).length)) (bi (in64 (p12+1)) (f9 N (cC N a0 m9) a0 p13 (p10++([(2*p12)+2]:List Int)) p11 (p12+1))))))) else (nj N a0 p10)
def fm (N:Nat)(a0:SQ):Option (List Int):=
 cC N a0 N [] 0 (a0.m_.Old.length:Int) 0
set_option maxHeartbeats 4000000 in
theorem tj {N:Nat}{a0:SQ}{r:(List Int)}(h:fm N a0=some r):Okc Tryz.prog 132 [pV B1 0] ([bB A2 n2 c2 a0.m_.Young,bB A3 n3 c3 a0.m_.Old,ex A4 n4 c4 a0.kept_,am B1 186 [U A2 n2 c2,U A3 n3 c3,U A4 n4 c4,U A5 n5 c5,.map (some M6),iV a0.next_],eC A5 n5 c5 a0.met_,aK bR cG M6 a0.seen_]) (fun u post=> ∃A500 n500 c500,u=U A500 n500 c500∧post=[eC A500 n500 c500 r,am B1 186 [U A2 n2 c2,U A3 n3 c3,U A4 n4 c4,U A5 n5 c5,.map (some M6),iV a0.next_],eC A5 n5 c5 a0.met_,aK bR cG M6 a0.seen_]):=by
 refine bp Tryz.func132 J J ?_;simp only [aP];refine Y ?_;refine ax ?_;refine bN I _ (aj _) ?_;refine zE 0 J (aw J) ?_;refine zE 1 J (aB J) ?_;refine zE 2 J (dK J Hd) ?_;refine zE 3 J (bz J zA) ?_;refine zR 4 J (aJ 3 J J oU J) ?_;refine zR 5 J (aU 1 J av J t9) ?_;refine zE 6 J (aC J) ?_;refine zE 7 J (aC J) ?_;refine aZ I ?_;refine fb ?_;refine aM (fun s L=> ∃p8 A8 n8 c8,nj N a0 p8=some r∧s=[(2,U none 0 0),(3,U A8 n8 c8)]∧L=[eC A8 n8 c8 p8,bB A2 n2 c2 a0.m_.Young,bB A3 n3 c3 a0.m_.Old,ex A4 n4 c4 a0.kept_,eC A5 n5 c5 a0.met_,aK bR cG M6 a0.seen_,am B1 186 [U A2 n2 c2,U A3 n3 c3,U A4 n4 c4,U A5 n5 c5,.map (some M6),iV a0.next_]]) ?_ ?_
 ·refine Y ?_;refine gR (aU 4 J aH J z3) ?_;refine Y ?_;refine bv (fun m s L=> ∃p10 p11 p12 p13 A10 n10 c10,cC N a0 m p10 p11 p12 p13=some r∧s=[(0,pV B1 0),(2,U none 0 0),(3,U A10 n10 c10),(4,iV p11),(5,iV p12),(17,U A5 n5 c5),(18,iV (a0.met_.length:Int)),(19,iV p13)]∧L=[eC A10 n10 c10 p10,eC A5 n5 c5 a0.met_,bB A2 n2 c2 a0.m_.Young,bB A3 n3 c3 a0.m_.Old,ex A4 n4 c4 a0.kept_,aK bR cG M6 a0.seen_,am B1 186 [U A2 n2 c2,U A3 n3 c3,U A4 n4 c4,U A5 n5 c5,.map (some M6),iV a0.next_]]) N _ _ ⟨[],0,(a0.m_.Old.length:Int),0,none,0,0,h,J,J⟩ sA ((cn (iP .i64) 3 _).trans (cS [0,5,1,2,3,6,4] 7)) ?_;rintro (_|m9) _ _ ⟨p10,p11,p12,p13,A10,n10,c10,h,rfl,rfl⟩
  ·exact aG h
  rw [cC.eq_2] at h;refine Y ?_;refine ax ?_;refine au J (fun g15=> ?_) (fun g15=> ?_)
  ·replace h:=ag g15 h;refine Y ?_;refine aM (fun s L=> ∃p17 p18 p19 A17 n17 c17,f9 N (cC N a0 m9) a0 p13 p17 p18 p19=some r∧s=[(0,pV B1 0),(2,U none 0 0),(3,U A17 n17 c17),(4,iV p18),(5,iV p19),(17,U A5 n5 c5),(18,iV (a0.met_.length:Int)),(19,iV p13)]∧L=[eC A17 n17 c17 p17,eC A5 n5 c5 a0.met_,bB A2 n2 c2 a0.m_.Young,bB A3 n3 c3 a0.m_.Old,ex A4 n4 c4 a0.kept_,aK bR cG M6 a0.seen_,am B1 186 [U A2 n2 c2,U A3 n3 c3,U A4 n4 c4,U A5 n5 c5,.map (some M6),iV a0.next_]]) ?_ ?_
   ·refine Y ?_;obtain ⟨x20,hx20,h⟩:=aa h;obtain ⟨lx20,ux20,hx20⟩:=aA hx20;refine gR (aX 1 J aH J J z3 dP lx20 ux20) ?_;refine gR (bH (u:=iV x20) 1 J aH J hx20 dy (fun _ _ _ h=>by rw [show _=_ from h];rfl)) ?_;refine Y ?_;obtain ⟨y21,hy21,h⟩:=aa h;refine gD (aT (fP hy21) zS J (aI [2,3,4] [6,1,5] [0,2,3,4] 7 J)) ?_;rintro _ _ ⟨_,⟨A22,n22,c22,A23,n23,c23,rfl,rfl⟩,rfl⟩;refine gE (vI J (Mg _ _ _ _ _ _ _ _ _ _)) ?_;refine Y ?_;refine au J (fun g24=> ?_) (fun g24=> ?_)
    ·replace h:=ag g24 h;refine Y ?_;obtain ⟨q25,h⟩:=ap h;refine gE (rZ J J q25.1 q25.2) ?_;obtain ⟨q26,h⟩:=ap h;refine gE (aW J J q26.1 q26.2) ?_;refine gD (bJ (R:=(iP .i64)) (vss:=[[iV ((2*p11)+1)]]) (xs:=[(2*p11)+1]) J (ma _) J J (fun _ _ hr=> .cons J All2.nil)) ?_;rintro _ _ ⟨A27,n27,c27,rfl,rfl⟩;obtain ⟨q28,h⟩:=ap h;refine gD (bK 6 0 J J aH J J z3 HF J J q28) ?_;rintro _ _ ⟨A29,n29,c29,rfl,rfl⟩;refine Y ?_;obtain ⟨q30,h⟩:=ap h;refine gE (aW J J q30.1 q30.2) ?_;refine Y ?_;exact ⟨_,_,⟨p10++([(2*p11)+1]:List Int),p11+1,p12,A29,n29,c29,h,J,J⟩,sA,cS [6,4,7,8,9,5,3] 10⟩
    replace h:=ah g24 h;refine Y ?_;obtain ⟨q31,h⟩:=ap h;refine gE (rZ J J q31.1 q31.2) ?_;obtain ⟨q32,h⟩:=ap h;refine gE (aW J J q32.1 q32.2) ?_;refine gD (bJ (R:=(iP .i64)) (vss:=[[iV ((2*p12)+2)]]) (xs:=[(2*p12)+2]) J (ma _) J J (fun _ _ hr=> .cons J All2.nil)) ?_;rintro _ _ ⟨A33,n33,c33,rfl,rfl⟩;obtain ⟨q34,h⟩:=ap h;refine gD (bK 6 0 J J aH J J z3 HF J J q34) ?_;rintro _ _ ⟨A35,n35,c35,rfl,rfl⟩;refine cp ?_;refine Y ?_;obtain ⟨q36,h⟩:=ap h;refine gE (aW J J q36.1 q36.2) ?_;refine Y ?_;exact ⟨_,_,⟨p10++([(2*p12)+2]:List Int),p11,p12+1,A35,n35,c35,h,J,J⟩,sA,cS [6,4,7,8,9,5,3] 10⟩
   rintro _ _ ⟨p17,p18,p19,A17,n17,c17,h,rfl,rfl⟩;refine cE ?_;obtain ⟨q37,h⟩:=ap h;refine gE (aW J J q37.1 q37.2) ?_;refine Y ?_;exact ⟨m9,_,_,Tk _,⟨p17,p18,p19,p13+1,A17,n17,c17,h,J,J⟩,sA,cS [0,1,2,3,4,5,6] 7⟩
  replace h:=ah g15 h;refine Y ?_;exact ⟨_,_,⟨p10,A10,n10,c10,h,J,J⟩,sA,cS [0,2,3,4,1,5,6] 7⟩
 rintro _ _ ⟨p8,A8,n8,c8,h,rfl,rfl⟩;refine Y ?_;obtain rfl:=aq h;exact aL J J (cS [0,6,4,5] 7) ⟨_,_,_,J,J⟩
def iU (N:Nat)(a0:Ta)(a1:(List Int))(a2:(List SR)):Option (Ta×(List SR)):=
 bif decide (a0.Kind=8) then ((jz N a0 a1).bind fun y8=>some (y8,a2)) else (bif decide (a0.Kind=10) then ((jm N a0 a1).bind fun y12=>bi (bQ (a2.length+y12.2.length)) (some (y12.1,a2++y12.2))) else (some (a0,a2)))
theorem vo {N:Nat}{a0:Ta}{a1:(List Int)}{a2:(List SR)}{r:(Ta×(List SR))}(h:iU N a0 a1 a2=some r):Okc Tryz.prog 135 [.agg #[iV a0.Kind,iV a0.Shape,iV a0.Flags,iV a0.Age,U A1 n1 c1,U A2 n2 c2],U A3 n3 c3,U A4 n4 c4] ([bE A1 n1 c1 a0.Slots,bE A2 n2 c2 a0.More,ex A3 n3 c3 a1,bf A4 n4 c4 a2]) (fun u post=> ∃A0 n0 c0 A1 n1 c1 A2 n2 c2,u=.tuple #[.agg #[iV r.1.Kind,iV r.1.Shape,iV r.1.Flags,iV r.1.Age,U A0 n0 c0,U A1 n1 c1],U A2 n2 c2]∧post=[bE A0 n0 c0 r.1.Slots,bE A1 n1 c1 r.1.More,bf A2 n2 c2 r.2]):=by
 refine bp Tryz.func135 J J ?_;simp only [aP];refine Y ?_;refine gD (bn J J) ?_;rintro _ _ ⟨B5,rfl,rfl⟩;refine gD (aE eA J) ?_;rintro _ _ ⟨B6,rfl,rfl⟩;refine Y ?_;refine ax ?_;refine Y ?_;refine au J (fun g7=> ?_) (fun g7=> ?_)
 ·replace h:=ag g7 h;refine Y ?_;refine gR (aD (us:=[iV a0.Kind,iV a0.Shape,iV a0.Flags,iV a0.Age,U A1 n1 c1,U A2 n2 c2]) 1 J J bA J) ?_;refine Y ?_;obtain ⟨y8,hy8,h⟩:=aa h;refine gD (ai (xb hy8) JN J (hJ (ab (i:=2) J J) (hJ (ab (i:=3) J J) (hJ (ab (i:=4) J J) ac))) tT) ?_;rintro _ _ ⟨_,⟨A9,n9,c9,A10,n10,c10,rfl,rfl⟩,rfl⟩;refine Y ?_;refine gO (ao (us:=[iV y8.Kind,iV y8.Shape,iV y8.Flags,iV y8.Age,U A9 n9 c9,U A10 n10 c10]) (cs':=[iV y8.Kind,iV y8.Shape,iV y8.Flags,iV y8.Age,U A9 n9 c9,U A10 n10 c10]) 2 J J J J bL J J J) ?_;rintro _ _ rfl;refine Y ?_;obtain rfl:=aq h;exact db (rs:=[.cell 6 42,.tmp 7]) (vs:=[.agg #[iV y8.Kind,iV y8.Shape,iV y8.Flags,iV y8.Age,U A9 n9 c9,U A10 n10 c10],U A4 n4 c4]) J (.cons (bT 2 J J bA) (.cons (dr J) .nil)) J ((cV 0 J).trans ((cV 1 J).trans (cS [0,1,7] 8))) ⟨_,_,_,_,_,_,_,_,_,J,J⟩
 replace h:=ah g7 h;refine Y ?_;refine au J (fun g11=> ?_) (fun g11=> ?_)
 ·replace h:=ag g11 h;refine Y ?_;refine gR (aD (us:=[iV a0.Kind,iV a0.Shape,iV a0.Flags,iV a0.Age,U A1 n1 c1,U A2 n2 c2]) 1 J J bA J) ?_;refine Y ?_;obtain ⟨y12,hy12,h⟩:=aa h;refine gD (ai (ug hy12) JM J (hJ (ab (i:=2) J J) (hJ (ab (i:=3) J J) (hJ (ab (i:=4) J J) ac))) rC) ?_;rintro _ _ ⟨_,⟨A13,n13,c13,A14,n14,c14,A15,n15,c15,rfl,rfl⟩,rfl⟩;refine Y ?_;refine gD (aE eA J) ?_;rintro _ _ ⟨B16,rfl,rfl⟩;refine gO (ao (us:=[iV y12.1.Kind,iV y12.1.Shape,iV y12.1.Flags,iV y12.1.Age,U A13 n13 c13,U A14 n14 c14]) (cs':=[iV y12.1.Kind,iV y12.1.Shape,iV y12.1.Flags,iV y12.1.Age,U A13 n13 c13,U A14 n14 c14]) 0 J J J J bL J J J) ?_;rintro _ _ rfl;refine Y ?_;refine ax ?_;refine bN I ([am B16 42 [iV y12.1.Kind,iV y12.1.Shape,iV y12.1.Flags,iV y12.1.Age,U A13 n13 c13,U A14 n14 c14],bf A13 n13 c13 y12.1.Slots,bf A14 n14 c14 y12.1.More,bf A15 n15 c15 y12.2,am B5 42 [iV a0.Kind,iV a0.Shape,iV a0.Flags,iV a0.Age,U A1 n1 c1,U A2 n2 c2],bE A1 n1 c1 a0.Slots,bE A2 n2 c2 a0.More,ex A3 n3 c3 a1]) (cS [0,1,2,3,5,6,7,8] 10) ?_;refine zR 0 J (aD (us:=[iV y12.1.Kind,iV y12.1.Shape,iV y12.1.Flags,iV y12.1.Age,U A13 n13 c13,U A14 n14 c14]) 0 J J bA J) ?_;refine zE 1 J (aw J) ?_;refine zE 2 J (aw J) ?_;obtain ⟨q17,h⟩:=ap h;refine zD 3 J (bK 9 3 J J aH J J t0 Ce J J q17) ?_;rintro _ _ ⟨A18,n18,c18,rfl,rfl⟩
  refine be (cS [0,1,2,3,5,6,7,8] 10) ?_;refine zO 4 J (ao (us:=[iV y12.1.Kind,iV y12.1.Shape,iV y12.1.Flags,iV y12.1.Age,U A13 n13 c13,U A14 n14 c14]) (cs':=[iV y12.1.Kind,iV y12.1.Shape,iV y12.1.Flags,iV y12.1.Age,U A13 n13 c13,U A14 n14 c14]) 4 J J J J bL J J J) ?_;rintro _ _ rfl;refine be (cS [0,1,2,3,5,6,7,8] 10) ?_;refine zE 5 J (aC J) ?_;refine aZ I ?_;refine Y ?_;obtain rfl:=aq h;exact db (rs:=[.cell 6 42,.tmp 7]) (vs:=[.agg #[iV y12.1.Kind,iV y12.1.Shape,iV y12.1.Flags,iV y12.1.Age,U A13 n13 c13,U A14 n14 c14],U A18 n18 c18]) J (.cons (bT 4 J J bA) (.cons (dr J) .nil)) J ((cV 1 J).trans ((cV 2 J).trans (cS [1,2,9] 10))) ⟨_,_,_,_,_,_,_,_,_,J,J⟩
 replace h:=ah g11 h;refine Y ?_;refine gR (aD (us:=[iV a0.Kind,iV a0.Shape,iV a0.Flags,iV a0.Age,U A1 n1 c1,U A2 n2 c2]) 1 J J bA J) ?_;refine Y ?_;refine gO (ao (us:=[iV a0.Kind,iV a0.Shape,iV a0.Flags,iV a0.Age,U A1 n1 c1,U A2 n2 c2]) (cs':=[iV a0.Kind,iV a0.Shape,iV a0.Flags,iV a0.Age,U A1 n1 c1,U A2 n2 c2]) 0 J J J J bL J J J) ?_;rintro _ _ rfl;refine cp ?_;refine Y ?_;obtain rfl:=aq h;exact db (rs:=[.cell 6 42,.tmp 7]) (vs:=[.agg #[iV a0.Kind,iV a0.Shape,iV a0.Flags,iV a0.Age,U A1 n1 c1,U A2 n2 c2],U A4 n4 c4]) J (.cons (bT 0 J J bA) (.cons (dr J) .nil)) J (cS [2,3,5] 6) ⟨_,_,_,_,_,_,_,_,_,J,J⟩
def qW (N:Nat)(y21:(Ta))(p25:(List SR))(p26:(List SR)):Option Ta:=
 some (⟨y21.Kind,y21.Shape,y21.Flags,y21.Age,p25,p26⟩:Ta)
def qU (N:Nat)(p9:(List (Int×Int)))(p29:(List SR))(y21:(Ta))(p44:(List SR)):Option Ta:=
 qW N y21 p29 p44
def nF (N:Nat)(kb45:(List SR)→Int→Option Ta)(y21:(Ta))(p47:Int)(p9:(List (Int×Int)))(p29:(List SR))(p50:(List SR)):Option Ta:=
 bi (in64 (p47+1)) (kb45 p50 (p47+1))
def fX (N:Nat)(y21:(Ta))(p9:(List (Int×Int)))(p29:(List SR)):Nat→(List SR)→Int→Option Ta
 |0,_,_=>none
 |m45+1,p46,p47=>bif decide (p47<(y21.More.length:Int)) then ((aF p46 p47).bind fun x51=>(bif (lk p9 x51.N).isSome then ((lr N x51).bind fun y54=>some y54) else (some false)).bind fun b53=>bif b53 then ((aF p46 p47).bind fun x56=>nF N (fX N y21 p9 p29 m45) y21 p47 p9 p29 (List.set p46 p47.toNat (⟨x56.Kind,(lk p9 x51.N).getD 0,x56.S⟩:SR))) else (nF N (fX N y21 p9 p29 m45) y21 p47 p9 p29 p46)) else (qU N p9 p29 y21 p46)
def qV (N:Nat)(p9:(List (Int×Int)))(y21:(Ta))(p29:(List SR)):Option Ta:=
 fX N y21 p9 p29 N y21.More 0
def nG (N:Nat)(kb30:(List SR)→Int→Option Ta)(y21:(Ta))(p32:Int)(p9:(List (Int×Int)))(p35:(List SR)):Option Ta:=
 bi (in64 (p32+1)) (kb30 p35 (p32+1))
def fY (N:Nat)(y21:(Ta))(p9:(List (Int×Int))):Nat→(List SR)→Int→Option Ta
 |0,_,_=>none
 |m30+1,p31,p32=>bif decide (p32<(y21.Slots.length:Int)) then ((aF p31 p32).bind fun x36=>(bif (lk p9 x36.N).isSome then ((lr N x36).bind fun y39=>some y39) else (some false)).bind fun b38=>bif b38 then ((aF p31 p32).bind fun x41=>nG N (fY N y21 p9 m30) y21 p32 p9 (List.set p31 p32.toNat (⟨x41.Kind,(lk p9 x36.N).getD 0,x41.S⟩:SR))) else (nG N (fY N y21 p9 m30) y21 p32 p9 p31)) else (qV N p9 y21 p31)
def oL (N:Nat)(a0:Ta)(p9:(List (Int×Int))):Option Ta:=
 (fZ N a0).bind fun y21=>fY N y21 p9 N y21.Slots 0
def la (N:Nat)(kb10:(List (Int×Int))→Int→Option Ta)(a1:(List Int))(p12:Int)(a2:(List Int))(a0:Ta)(p15:(List (Int×Int))):Option Ta:=
 bi (in64 (p12+1)) (kb10 p15 (p12+1))
def eV (N:Nat)(a1:(List Int))(a2:(List Int))(a0:Ta):Nat→(List (Int×Int))→Int→Option Ta
 |0,_,_=>none
 |m10+1,p11,p12=>bif decide (p12<(a1.length:Int)) then ((aF a1 p12).bind fun x16=>bif (lk p11 x16).isSome then (la N (eV N a1 a2 a0 m10) a1 p12 a2 a0 p11) else (bif decide (p12<(a2.length:Int)) then ((aF a2 p12).bind fun x19=>la N (eV N a1 a2 a0 m10) a1 p12 a2 a0 (um (um p11 x16 x16) x16 x19)) else (la N (eV N a1 a2 a0 m10) a1 p12 a2 a0 (um p11 x16 x16)))) else (oL N a0 p11)
def fD (N:Nat)(a0:Ta)(a1:(List Int))(a2:(List Int)):Option Ta:=
 eV N a1 a2 a0 N ([]:(List (Int×Int))) 0
set_option maxHeartbeats 4000000 in
theorem sa {N:Nat}{a0:Ta}{a1:(List Int)}{a2:(List Int)}{r:Ta}(h:fD N a0 a1 a2=some r):Okc Tryz.prog 136 [.agg #[iV a0.Kind,iV a0.Shape,iV a0.Flags,iV a0.Age,U A1 n1 c1,U A2 n2 c2],U A3 n3 c3,U A4 n4 c4] ([bE A1 n1 c1 a0.Slots,bE A2 n2 c2 a0.More,ex A3 n3 c3 a1,ex A4 n4 c4 a2]) (fun u post=> ∃A0 n0 c0 A1 n1 c1,u=.agg #[iV r.Kind,iV r.Shape,iV r.Flags,iV r.Age,U A0 n0 c0,U A1 n1 c1]∧post=[bf A0 n0 c0 r.Slots,bf A1 n1 c1 r.More]):=by
 refine bp Tryz.func136 J J ?_;simp only [aP];refine Y ?_;refine gD (bn J J) ?_;rintro _ _ ⟨B5,rfl,rfl⟩;refine gD (aE eA J) ?_;rintro _ _ ⟨B6,rfl,rfl⟩;refine Y ?_;refine gR (aU 4 J av J z3) ?_;refine gD (Bg (ek:=bR) (ev:=gc) J Ex) ?_;rintro _ _ ⟨M7,rfl,rfl⟩;refine Y ?_;refine aM (fun s L=> ∃p9,oL N a0 p9=some r∧s=[(3,pV B5 0),(6,pV B6 0),(7,.map (some M7))]∧L=[aK bR gc M7 p9,bE A1 n1 c1 a0.Slots,bE A2 n2 c2 a0.More,am B5 42 [iV a0.Kind,iV a0.Shape,iV a0.Flags,iV a0.Age,U A1 n1 c1,U A2 n2 c2],am B6 42 [iV 0,iV 0,iV 0,iV 0,U none 0 0,U none 0 0]]) ?_ ?_
 ·refine Y ?_;refine gR (aU 5 J av J z3) ?_;refine Y ?_;refine bv (fun m s L=> ∃p11 p12,eV N a1 a2 a0 m p11 p12=some r∧s=[(2,U A4 n4 c4),(3,pV B5 0),(6,pV B6 0),(7,.map (some M7)),(21,U A3 n3 c3),(22,iV (a1.length:Int)),(23,iV p12)]∧L=[ex A4 n4 c4 a2,aK bR gc M7 p11,ex A3 n3 c3 a1,bE A1 n1 c1 a0.Slots,bE A2 n2 c2 a0.More,am B5 42 [iV a0.Kind,iV a0.Shape,iV a0.Flags,iV a0.Age,U A1 n1 c1,U A2 n2 c2],am B6 42 [iV 0,iV 0,iV 0,iV 0,U none 0 0,U none 0 0]]) N _ _ ⟨([]:(List (Int×Int))),0,h,J,J⟩ sA (cS [6,0,5,3,4,2,1] 7) ?_;rintro (_|m10) _ _ ⟨p11,p12,h,rfl,rfl⟩
  ·exact aG h
  rw [eV.eq_2] at h;refine Y ?_;refine ax ?_;refine au J (fun g13=> ?_) (fun g13=> ?_)
  ·replace h:=ag g13 h;refine Y ?_;refine aM (fun s L=> ∃p15,la N (eV N a1 a2 a0 m10) a1 p12 a2 a0 p15=some r∧s=[(2,U A4 n4 c4),(3,pV B5 0),(6,pV B6 0),(7,.map (some M7)),(21,U A3 n3 c3),(22,iV (a1.length:Int)),(23,iV p12)]∧L=[ex A4 n4 c4 a2,aK bR gc M7 p15,ex A3 n3 c3 a1,bE A1 n1 c1 a0.Slots,bE A2 n2 c2 a0.More,am B5 42 [iV a0.Kind,iV a0.Shape,iV a0.Flags,iV a0.Age,U A1 n1 c1,U A2 n2 c2],am B6 42 [iV 0,iV 0,iV 0,iV 0,U none 0 0,U none 0 0]]) ?_ ?_
   ·refine Y ?_;obtain ⟨x16,hx16,h⟩:=aa h;obtain ⟨lx16,ux16,hx16⟩:=aA hx16;refine gR (aX 2 J av J J z3 dP lx16 ux16) ?_;refine gR (bH (u:=iV x16) 2 J av J hx16 dy (fun _ _ _ h=>by rw [show _=_ from h];rfl)) ?_;refine Y ?_;refine ax ?_;refine Y ?_;refine gR (qv (a:=x16) (z:=0) 1 J tq J J Ex (d5 hP) Gj) ?_;refine Y ?_;refine au J (fun g17=> ?_) (fun g17=> ?_)
    ·replace h:=ag g17 h;refine Y ?_;exact ⟨_,_,⟨p11,h,J,J⟩,sA,cS [0,1,2,3,4,5,6] 7⟩
    replace h:=ah g17 h;refine Y ?_;refine gO (gw (a:=x16) (b:=x16) 1 J J J J Ex (d5 hP)) ?_;rintro _ _ rfl;refine Y ?_;refine gR (aU 0 J av J z3) ?_;refine Y ?_;refine au J (fun g18=> ?_) (fun g18=> ?_)
    ·replace h:=ag g18 h;refine Y ?_;obtain ⟨x19,hx19,h⟩:=aa h;obtain ⟨lx19,ux19,hx19⟩:=aA hx19;refine gR (aX 0 J av J J z3 dP lx19 ux19) ?_;refine gR (bH (u:=iV x19) 0 J av J hx19 dy (fun _ _ _ h=>by rw [show _=_ from h];rfl)) ?_;refine gO (gw (a:=x16) (b:=x19) 1 J J J J Ex (d5 hP)) ?_;rintro _ _ rfl;refine Y ?_;exact ⟨_,_,⟨um (um p11 x16 x16) x16 x19,h,J,J⟩,sA,cS [0,1,2,3,4,5,6] 7⟩
    replace h:=ah g18 h;refine Y ?_;exact ⟨_,_,⟨um p11 x16 x16,h,J,J⟩,sA,cS [0,1,2,3,4,5,6] 7⟩
   rintro _ _ ⟨p15,h,rfl,rfl⟩;refine cE ?_;obtain ⟨q20,h⟩:=ap h;refine gE (aW J J q20.1 q20.2) ?_;refine Y ?_;exact ⟨m10,_,_,Tk _,⟨p15,p12+1,h,J,J⟩,sA,cS [0,1,2,3,4,5,6] 7⟩
  replace h:=ah g13 h;refine Y ?_;exact ⟨_,_,⟨p11,h,J,J⟩,sA,cS [1,3,4,5,6] 7⟩
 rintro _ _ ⟨p9,h,rfl,rfl⟩;refine Y ?_;refine gR (aD (us:=[iV a0.Kind,iV a0.Shape,iV a0.Flags,iV a0.Age,U A1 n1 c1,U A2 n2 c2]) 3 J J bA J) ?_;obtain ⟨y21,hy21,h⟩:=aa h;refine gD (ai (lu hy21) AH J (hJ (ab (i:=1) J J) (hJ (ab (i:=2) J J) ac)) jt) ?_;rintro _ _ ⟨_,⟨A22,n22,c22,A23,n23,c23,rfl,rfl⟩,rfl⟩;refine gO (ao (us:=[iV y21.Kind,iV y21.Shape,iV y21.Flags,iV y21.Age,U A22 n22 c22,U A23 n23 c23]) (cs':=[iV y21.Kind,iV y21.Shape,iV y21.Flags,iV y21.Age,U A22 n22 c22,U A23 n23 c23]) 5 J J J J bL J J J) ?_;rintro _ _ rfl;refine cp ?_;refine Y ?_;refine aM (fun s L=> ∃p25 p26 A25 n25 c25 A26 n26 c26,qW N y21 p25 p26=some r∧s=[(3,pV B5 0),(6,pV B6 0)]∧L=[bf A25 n25 c25 p25,bf A26 n26 c26 p26,am B5 42 [iV y21.Kind,iV y21.Shape,iV y21.Flags,iV y21.Age,U A25 n25 c25,U A26 n26 c26],am B6 42 [iV 0,iV 0,iV 0,iV 0,U none 0 0,U none 0 0]]) ?_ ?_
 ·refine Y ?_;refine gD (eO (cs:=[U A22 n22 c22,U A23 n23 c23]) J (lZ _ _ _ _ _ _)) ?_;rintro _ _ ⟨B27,rfl,rfl⟩;refine gE (nA J SJ) ?_;refine Y ?_;refine qZ 3 ?_;refine sd ?_;refine Y ?_;refine ax ?_;refine ea J ?_;refine Y ?_;refine aM (fun s L=> ∃p29 A29 n29 c29,qV N p9 y21 p29=some r∧s=[(3,pV B5 0),(6,pV B6 0),(7,.map (some M7)),(55,.slice (some ⟨B27,0,none⟩) 2 2),(56,iV 2),(57,iV 0)]∧L=[aK bR gc M7 p9,bf A29 n29 c29 p29,bf A23 n23 c23 y21.More,am B5 42 [iV y21.Kind,iV y21.Shape,iV y21.Flags,iV y21.Age,U A29 n29 c29,U A23 n23 c23],am B6 42 [iV 0,iV 0,iV 0,iV 0,U none 0 0,U none 0 0],am B27 30 [U A29 n29 c29,U A23 n23 c23]]) ?_ ?_
  ·refine Y ?_;refine gE (mx J J SJ eJ (by decide) (by decide)) ?_;refine Y ?_;refine gR (aU 1 J aH J t0) ?_;refine Y ?_;refine bv (fun m s L=> ∃p31 p32 A31 n31 c31,fY N y21 p9 m p31 p32=some r∧s=[(3,pV B5 0),(6,pV B6 0),(7,.map (some M7)),(13,U A31 n31 c31),(55,.slice (some ⟨B27,0,none⟩) 2 2),(56,iV 2),(57,iV 0),(61,U A31 n31 c31),(62,iV (y21.Slots.length:Int)),(63,iV p32)]∧L=[aK bR gc M7 p9,bf A31 n31 c31 p31,bf A23 n23 c23 y21.More,am B5 42 [iV y21.Kind,iV y21.Shape,iV y21.Flags,iV y21.Age,U A31 n31 c31,U A23 n23 c23],am B6 42 [iV 0,iV 0,iV 0,iV 0,U none 0 0,U none 0 0],am B27 30 [U A31 n31 c31,U A23 n23 c23]]) N _ _ ⟨y21.Slots,0,A22,n22,c22,h,J,J⟩ sA (cS [3,1,2,6,7,0] 8) ?_;rintro (_|m30) _ _ ⟨p31,p32,A31,n31,c31,h,rfl,rfl⟩
   ·exact aG h
   rw [fY.eq_2] at h;refine Y ?_;refine ax ?_;refine au J (fun g33=> ?_) (fun g33=> ?_)
   ·replace h:=ag g33 h;refine Y ?_;refine aM (fun s L=> ∃p35 A35 n35 c35,nG N (fY N y21 p9 m30) y21 p32 p9 p35=some r∧s=[(3,pV B5 0),(6,pV B6 0),(7,.map (some M7)),(13,U A35 n35 c35),(55,.slice (some ⟨B27,0,none⟩) 2 2),(56,iV 2),(57,iV 0),(61,U A35 n35 c35),(62,iV (y21.Slots.length:Int)),(63,iV p32)]∧L=[aK bR gc M7 p9,bf A35 n35 c35 p35,bf A23 n23 c23 y21.More,am B5 42 [iV y21.Kind,iV y21.Shape,iV y21.Flags,iV y21.Age,U A35 n35 c35,U A23 n23 c23],am B6 42 [iV 0,iV 0,iV 0,iV 0,U none 0 0,U none 0 0],am B27 30 [U A35 n35 c35,U A23 n23 c23]]) ?_ ?_
    ·refine Y ?_;obtain ⟨x36,hx36,h⟩:=aa h;obtain ⟨lx36,ux36,hx36⟩:=aA hx36;refine gR (aX 1 J aH J J t0 aS lx36 ux36) ?_;refine gR (bG (us:=[iV x36.Kind,iV x36.N,.string x36.S]) 1 J aH J hx36 bV (fun _ _ _ h=>by rw [show _=_ from h];rfl)) ?_;refine gD (aE d7 J) ?_;rintro _ _ ⟨B37,rfl,rfl⟩;refine Y ?_;refine gO (ao (us:=[iV x36.Kind,iV x36.N,.string x36.S]) (cs':=[iV x36.Kind,iV x36.N,.string x36.S]) 0 J J J J aS J J J) ?_;rintro _ _ rfl;refine Y ?_;refine gR (qv (a:=x36.N) (z:=0) 1 J tq J J Ex (d5 hP) Gj) ?_;refine Y ?_;obtain ⟨b38,hb38,h⟩:=aa h;refine aO 3 79 b38 ?_ ?_
     ·clear h;refine aN 76 J (fun g38=> ?_) (fun g38=> ?_)
      ·have h:=ag g38 hb38;refine cL (aD (us:=[iV x36.Kind,iV x36.N,.string x36.S]) 0 J J bV J) J (bU g38 J) J ?_;obtain ⟨y39,hy39,h⟩:=aa h;refine dn (ai (r9 hy39) F6 J (ac) pq) J (bU g38 J) J ?_;rintro _ _ ⟨_,⟨rfl,rfl⟩,rfl⟩;refine Y ?_;obtain rfl:=aq h;exact ae sA (cS [0,1,2,3,4,5,6] 7)
      have h:=ah g38 hb38;refine Y ?_;obtain rfl:=aq h;exact ae sA (cS [0,1,2,3,4,5,6] 7)
     refine Y ?_;refine au J (fun g40=> ?_) (fun g40=> ?_)
     ·replace h:=ag g40 h;refine Y ?_;obtain ⟨x41,hx41,h⟩:=aa h;obtain ⟨lx41,ux41,hx41⟩:=aA hx41;refine gR (aX 2 J aH J J t0 aS lx41 ux41) ?_;refine gR (AX 2 J aH J (fE lx41 ux41) rE) ?_;refine gO (ED (us:=[iV ((lk p9 x36.N).getD 0)]) (z:=(⟨x41.Kind,(lk p9 x36.N).getD 0,x41.S⟩:SR)) 2 J J J J dP J (fE lx41 ux41) J (fun S w vs xk hk hr ho=>by obtain rfl:=Option.some.inj (hk.symm.trans hx41);rw [show _=_ from hr];rfl)) ?_;rintro _ _ rfl;refine Y ?_;exact ⟨_,_,⟨List.set p31 p32.toNat (⟨x41.Kind,(lk p9 x36.N).getD 0,x41.S⟩:SR),A31,n31,c31,h,J,J⟩,sA,cS [1,2,3,4,5,6] 7⟩
     replace h:=ah g40 h;refine Y ?_;exact ⟨_,_,⟨p31,A31,n31,c31,h,J,J⟩,sA,cS [1,2,3,4,5,6] 7⟩
    rintro _ _ ⟨p35,A35,n35,c35,h,rfl,rfl⟩;refine cE ?_;obtain ⟨q42,h⟩:=ap h;refine gE (aW J J q42.1 q42.2) ?_;refine Y ?_;exact ⟨m30,_,_,Tk _,⟨p35,p32+1,A35,n35,c35,h,J,J⟩,sA,cS [0,1,2,3,4,5] 6⟩
   replace h:=ah g33 h;refine Y ?_;exact ⟨_,_,⟨p31,A31,n31,c31,h,J,J⟩,sA,cS [0,1,2,3,4,5] 6⟩
  rintro _ _ ⟨p29,A29,n29,c29,h,rfl,rfl⟩;refine cE ?_;refine gE (aW J J (by decide) (by decide)) ?_;refine Y ?_;refine sd ?_;refine Y ?_;refine ax ?_;refine ea J ?_;refine Y ?_;refine aM (fun s L=> ∃p44 A44 n44 c44,qU N p9 p29 y21 p44=some r∧s=[(3,pV B5 0),(6,pV B6 0),(7,.map (some M7)),(55,.slice (some ⟨B27,0,none⟩) 2 2),(56,iV 2),(57,iV 1)]∧L=[aK bR gc M7 p9,bf A29 n29 c29 p29,bf A44 n44 c44 p44,am B5 42 [iV y21.Kind,iV y21.Shape,iV y21.Flags,iV y21.Age,U A29 n29 c29,U A44 n44 c44],am B6 42 [iV 0,iV 0,iV 0,iV 0,U none 0 0,U none 0 0],am B27 30 [U A29 n29 c29,U A44 n44 c44]]) ?_ ?_
  ·refine Y ?_;refine gE (mx J J SJ eJ (by decide) (by decide)) ?_;refine Y ?_;refine gR (aU 2 J aH J t0) ?_;refine Y ?_;refine bv (fun m s L=> ∃p46 p47 A46 n46 c46,fX N y21 p9 p29 m p46 p47=some r∧s=[(3,pV B5 0),(6,pV B6 0),(7,.map (some M7)),(13,U A46 n46 c46),(55,.slice (some ⟨B27,0,none⟩) 2 2),(56,iV 2),(57,iV 1),(61,U A46 n46 c46),(62,iV (y21.More.length:Int)),(63,iV p47)]∧L=[aK bR gc M7 p9,bf A46 n46 c46 p46,bf A29 n29 c29 p29,am B5 42 [iV y21.Kind,iV y21.Shape,iV y21.Flags,iV y21.Age,U A29 n29 c29,U A46 n46 c46],am B6 42 [iV 0,iV 0,iV 0,iV 0,U none 0 0,U none 0 0],am B27 30 [U A29 n29 c29,U A46 n46 c46]]) N _ _ ⟨y21.More,0,A23,n23,c23,h,J,J⟩ sA (cS [0,2,1,3,4,5] 6) ?_;rintro (_|m45) _ _ ⟨p46,p47,A46,n46,c46,h,rfl,rfl⟩
   ·exact aG h
   rw [fX.eq_2] at h;refine Y ?_;refine ax ?_;refine au J (fun g48=> ?_) (fun g48=> ?_)
   ·replace h:=ag g48 h;refine Y ?_;refine aM (fun s L=> ∃p50 A50 n50 c50,nF N (fX N y21 p9 p29 m45) y21 p47 p9 p29 p50=some r∧s=[(3,pV B5 0),(6,pV B6 0),(7,.map (some M7)),(13,U A50 n50 c50),(55,.slice (some ⟨B27,0,none⟩) 2 2),(56,iV 2),(57,iV 1),(61,U A50 n50 c50),(62,iV (y21.More.length:Int)),(63,iV p47)]∧L=[aK bR gc M7 p9,bf A50 n50 c50 p50,bf A29 n29 c29 p29,am B5 42 [iV y21.Kind,iV y21.Shape,iV y21.Flags,iV y21.Age,U A29 n29 c29,U A50 n50 c50],am B6 42 [iV 0,iV 0,iV 0,iV 0,U none 0 0,U none 0 0],am B27 30 [U A29 n29 c29,U A50 n50 c50]]) ?_ ?_
    ·refine Y ?_;obtain ⟨x51,hx51,h⟩:=aa h;obtain ⟨lx51,ux51,hx51⟩:=aA hx51;refine gR (aX 1 J aH J J t0 aS lx51 ux51) ?_;refine gR (bG (us:=[iV x51.Kind,iV x51.N,.string x51.S]) 1 J aH J hx51 bV (fun _ _ _ h=>by rw [show _=_ from h];rfl)) ?_;refine gD (aE d7 J) ?_;rintro _ _ ⟨B52,rfl,rfl⟩;refine Y ?_;refine gO (ao (us:=[iV x51.Kind,iV x51.N,.string x51.S]) (cs':=[iV x51.Kind,iV x51.N,.string x51.S]) 0 J J J J aS J J J) ?_;rintro _ _ rfl;refine cp ?_;refine Y ?_;refine gR (qv (a:=x51.N) (z:=0) 1 J tq J J Ex (d5 hP) Gj) ?_;refine Y ?_;obtain ⟨b53,hb53,h⟩:=aa h;refine aO 3 79 b53 ?_ ?_
     ·clear h;refine aN 76 J (fun g53=> ?_) (fun g53=> ?_)
      ·have h:=ag g53 hb53;refine cL (aD (us:=[iV x51.Kind,iV x51.N,.string x51.S]) 0 J J bV J) J (bU g53 J) J ?_;obtain ⟨y54,hy54,h⟩:=aa h;refine dn (ai (r9 hy54) F6 J (ac) pq) J (bU g53 J) J ?_;rintro _ _ ⟨_,⟨rfl,rfl⟩,rfl⟩;refine Y ?_;obtain rfl:=aq h;exact ae sA (cS [0,1,2,3,4,5,6] 7)
      have h:=ah g53 hb53;refine Y ?_;obtain rfl:=aq h;exact ae sA (cS [0,1,2,3,4,5,6] 7)
     refine Y ?_;refine au J (fun g55=> ?_) (fun g55=> ?_)
     ·replace h:=ag g55 h;refine Y ?_;obtain ⟨x56,hx56,h⟩:=aa h;obtain ⟨lx56,ux56,hx56⟩:=aA hx56;refine gR (aX 2 J aH J J t0 aS lx56 ux56) ?_;refine gR (AX 2 J aH J (fE lx56 ux56) rE) ?_;refine gO (ED (us:=[iV ((lk p9 x51.N).getD 0)]) (z:=(⟨x56.Kind,(lk p9 x51.N).getD 0,x56.S⟩:SR)) 2 J J J J dP J (fE lx56 ux56) J (fun S w vs xk hk hr ho=>by obtain rfl:=Option.some.inj (hk.symm.trans hx56);rw [show _=_ from hr];rfl)) ?_;rintro _ _ rfl;refine Y ?_;exact ⟨_,_,⟨List.set p46 p47.toNat (⟨x56.Kind,(lk p9 x51.N).getD 0,x56.S⟩:SR),A46,n46,c46,h,J,J⟩,sA,cS [1,2,3,4,5,6] 7⟩
     replace h:=ah g55 h;refine Y ?_;exact ⟨_,_,⟨p46,A46,n46,c46,h,J,J⟩,sA,cS [1,2,3,4,5,6] 7⟩
    rintro _ _ ⟨p50,A50,n50,c50,h,rfl,rfl⟩;refine cE ?_;obtain ⟨q57,h⟩:=ap h;refine gE (aW J J q57.1 q57.2) ?_;refine Y ?_;exact ⟨m45,_,_,Tk _,⟨p50,p47+1,A50,n50,c50,h,J,J⟩,sA,cS [0,1,2,3,4,5] 6⟩
   replace h:=ah g48 h;refine Y ?_;exact ⟨_,_,⟨p46,A46,n46,c46,h,J,J⟩,sA,cS [0,2,1,3,4,5] 6⟩
  rintro _ _ ⟨p44,A44,n44,c44,h,rfl,rfl⟩;refine cE ?_;refine gE (aW J J (by decide) (by decide)) ?_;refine Y ?_;refine sd ?_;refine Y ?_;refine ax ?_;refine dE J ?_;refine Y ?_;exact ⟨_,_,⟨p29,p44,A29,n29,c29,A44,n44,c44,h,J,J⟩,sA,cS [1,2,3,4] 6⟩
 rintro _ _ ⟨p25,p26,A25,n25,c25,A26,n26,c26,h,rfl,rfl⟩;refine Y ?_;refine gR (aD (us:=[iV y21.Kind,iV y21.Shape,iV y21.Flags,iV y21.Age,U A25 n25 c25,U A26 n26 c26]) 2 J J bA J) ?_;refine gO (ao (us:=[iV y21.Kind,iV y21.Shape,iV y21.Flags,iV y21.Age,U A25 n25 c25,U A26 n26 c26]) (cs':=[iV y21.Kind,iV y21.Shape,iV y21.Flags,iV y21.Age,U A25 n25 c25,U A26 n26 c26]) 3 J J J J bL J J J) ?_;rintro _ _ rfl;refine Y ?_;obtain rfl:=aq h;exact db (rs:=[.cell 6 42]) (vs:=[.agg #[iV y21.Kind,iV y21.Shape,iV y21.Flags,iV y21.Age,U A25 n25 c25,U A26 n26 c26]]) J (.cons (bT 3 J J bA) .nil) J (cS [0,1] 4) ⟨_,_,_,_,_,_,J,J⟩
theorem pt {r:Ta}: ∀v post,((fun (u:Value) (post:List Chunk)=> ∃A0 n0 c0 A1 n1 c1,u=.agg #[iV r.Kind,iV r.Shape,iV r.Flags,iV r.Age,U A0 n0 c0,U A1 n1 c1]∧post=[bf A0 n0 c0 r.Slots,bf A1 n1 c1 r.More])) v post→ ∀c∈post,ce c:=by
 rintro _ _ ⟨_,_,_,_,_,_,rfl,rfl⟩;exact hJ bP (hJ bP (ac))
def iT (N:Nat)(a0:(List SR))(a1:(List Int))(a2:(List Int)):Option (List SR):=
 (fD N (⟨0,0,0,0,[],a0⟩:Ta) a1 a2).bind fun y4=>some y4.More
theorem vl {N:Nat}{a0:(List SR)}{a1:(List Int)}{a2:(List Int)}{r:(List SR)}(h:iT N a0 a1 a2=some r):Okc Tryz.prog 139 [U A1 n1 c1,U A2 n2 c2,U A3 n3 c3] ([bE A1 n1 c1 a0,ex A2 n2 c2 a1,ex A3 n3 c3 a2]) (fun u post=> ∃A0 n0 c0,u=U A0 n0 c0∧post=[bf A0 n0 c0 r]):=by
 refine bp Tryz.func139 J J ?_;simp only [aP];refine Y ?_;refine gE (bo J (Ng _ _ _)) ?_;refine Y ?_;obtain ⟨y4,hy4,h⟩:=aa h;refine gD (ai (sa hy4) F8 J (hJ (LV) (hJ (ab (i:=0) J J) (hJ (ab (i:=1) J J) (hJ (ab (i:=2) J J) ac)))) pt) ?_;rintro _ _ ⟨_,⟨A5,n5,c5,A6,n6,c6,rfl,rfl⟩,rfl⟩;refine gE (vI J (Dq _ _ _ _ _ _ _ _ _ _)) ?_;refine Y ?_;obtain rfl:=aq h;exact aL J J (cS [1] 5) ⟨_,_,_,J,J⟩
theorem sF {r:(List SR)}: ∀v post,((fun (u:Value) (post:List Chunk)=> ∃A0 n0 c0,u=U A0 n0 c0∧post=[bf A0 n0 c0 r])) v post→ ∀c∈post,ce c:=by
 rintro _ _ ⟨_,_,_,rfl,rfl⟩;exact hJ bP (ac)
end Go.Proofs.YtdcccmadhipinaaGreat