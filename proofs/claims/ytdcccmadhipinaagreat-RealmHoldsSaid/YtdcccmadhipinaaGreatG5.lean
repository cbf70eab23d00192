/- Merged texts: part 5. No conditions of their own. -/
import Derived.Test.YtdcccmadhipinaaGreatG4
namespace Go.Proofs.YtdcccmadhipinaaGreat
theorem Ex:type_of% Tryz.underlying170:=Tryz.underlying170
theorem z9:type_of% Tryz.underlying145:=Tryz.underlying145
variable {A1 A2 A3 A4:Option Addr} {B1 M2 M5 c1 c2 c3 c4 n1 n2 n3 n4:Nat}
open Go.RowKit Asn
set_option maxRecDepth 20000
def fq (N:Nat)(a0:SP)(a1:Int):Option Ta:=
 (lS N a0 a1).bind fun y5=>bif !y5.2.2 then (some (⟨0,0,0,0,[],[]⟩:Ta)) else ((aF y5.1 y5.2.1).bind fun x10=>(fZ N x10).bind fun y14=>some y14)
theorem uR {N:Nat}{a0:SP}{a1:Int}{r:Ta}(h:fq N a0 a1=some r):Okc Tryz.prog 126 [.agg #[U A1 n1 c1,U A2 n2 c2],iV a1] ([bB A1 n1 c1 a0.Young,bB A2 n2 c2 a0.Old]) (fun u post=> ∃A0 n0 c0 A1 n1 c1,u=.agg #[iV r.Kind,iV r.Shape,iV r.Flags,iV r.Age,U A0 n0 c0,U A1 n1 c1]∧post=[bf A0 n0 c0 r.Slots,bf A1 n1 c1 r.More]):=by
 refine bp Tryz.func126 J J ?_;simp only [aP];refine Y ?_;refine gD (bn J J) ?_;rintro _ _ ⟨B3,rfl,rfl⟩;refine gD (aE eA J) ?_;rintro _ _ ⟨B4,rfl,rfl⟩;refine Y ?_;refine gR (aD (us:=[U A1 n1 c1,U A2 n2 c2]) 1 J J fe J) ?_;refine Y ?_;obtain ⟨y5,hy5,h⟩:=aa h;refine gD (aT (uO hy5) JC J (aI [2,3] [] [0,1,2,3] 4 J)) ?_;rintro _ _ ⟨_,⟨A6,n6,c6,rfl,rfl⟩,rfl⟩;refine Y ?_;refine ax ?_;refine Y ?_;refine au J (fun g7=> ?_) (fun g7=> ?_)
 ·replace h:=ag g7 h;refine Y ?_;refine gE (bo J (zT)) ?_;refine gO (ao (us:=[iV 0,iV 0,iV 0,iV 0,U none 0 0,U none 0 0]) (cs':=[iV 0,iV 0,iV 0,iV 0,U none 0 0,U none 0 0]) 1 J J J J bL J J J) ?_;rintro _ _ rfl;refine Y ?_;obtain rfl:=aq h;exact db (rs:=[.cell 4 42]) (vs:=[.agg #[iV 0,iV 0,iV 0,iV 0,U none 0 0,U none 0 0]]) J (.cons (bT 1 J J bA) .nil) J ((cn bj 23 _).trans ((cn bj 23 _).trans (cS [1,0] 7))) ⟨_,_,_,_,_,_,J,J⟩
 replace h:=ah g7 h;refine Y ?_;obtain ⟨x10,hx10,h⟩:=aa h;obtain ⟨lx10,ux10,hx10⟩:=aA hx10;refine gR (aX 0 J av J J t9 bL lx10 ux10) ?_;refine wa 0 J hx10 (gh x10) ?_;rintro _ _ ⟨A11,n11,c11,A12,n12,c12,rfl,rfl⟩;refine gR (nb (us:=[iV x10.Kind,iV x10.Shape,iV x10.Flags,iV x10.Age,U A11 n11 c11,U A12 n12 c12]) 0 J J bA J) ?_;obtain ⟨y14,hy14,h⟩:=aa h;refine gD (ai (lu hy14) AH J (hJ (ab (i:=1) J J) (hJ (ab (i:=2) J J) ac)) jt) ?_;rintro _ _ ⟨_,⟨A15,n15,c15,A16,n16,c16,rfl,rfl⟩,rfl⟩;refine gO (ao (us:=[iV y14.Kind,iV y14.Shape,iV y14.Flags,iV y14.Age,U A15 n15 c15,U A16 n16 c16]) (cs':=[iV y14.Kind,iV y14.Shape,iV y14.Flags,iV y14.Age,U A15 n15 c15,U A16 n16 c16]) 6 J J J J bL J J J) ?_;rintro _ _ rfl;refine cp ?_;refine Y ?_;obtain rfl:=aq h;exact db (rs:=[.cell 4 42]) (vs:=[.agg #[iV y14.Kind,iV y14.Shape,iV y14.Flags,iV y14.Age,U A15 n15 c15,U A16 n16 c16]]) J (.cons (bT 6 J J bA) .nil) J (cS [0,1] 10) ⟨_,_,_,_,_,_,J,J⟩
theorem rQ {r:Ta}: ∀v post,((fun (u:Value) (post:List Chunk)=> ∃A0 n0 c0 A1 n1 c1,u=.agg #[iV r.Kind,iV r.Shape,iV r.Flags,iV r.Age,U A0 n0 c0,U A1 n1 c1]∧post=[bf A0 n0 c0 r.Slots,bf A1 n1 c1 r.More])) v post→ ∀c∈post,ce c:=by
 rintro _ _ ⟨_,_,_,_,_,_,rfl,rfl⟩;exact hJ bP (hJ bP (ac))
def fM (N:Nat):Nat→(List Ta)→(List Ta)→(List Int)→(List (Int×Unit))→Int→Option Tf
 |0,_,_,_,_,_=>none
 |m6+1,p7,p8,p9,p10,p11=>bif decide (p11<(p9.length:Int)) then ((aF p9 p11).bind fun x13=>(fq N (⟨p7,p8⟩:SP) x13).bind fun y14=>(eW N y14).bind fun y17=>(eb N (⟨(⟨p7,p8⟩:SP),p9,p10,p11⟩:Tf) y17).bind fun y19=>bi (in64 (y19.done_+1)) ((fM N m6) y19.m_.Young y19.m_.Old y19.all_ y19.met_ (y19.done_+1))) else (some (⟨(⟨p7,p8⟩:SP),p9,p10,p11⟩:Tf))
def gn (N:Nat)(a0:Tf):Option Tf:=
 fM N N a0.m_.Young a0.m_.Old a0.all_ a0.met_ a0.done_
theorem oT {N:Nat}{a0:Tf}{r:Tf}(h:gn N a0=some r):Okc Tryz.prog 191 [pV B1 0] ([bB A2 n2 c2 a0.m_.Young,bB A3 n3 c3 a0.m_.Old,am B1 229 [U A2 n2 c2,U A3 n3 c3,U A4 n4 c4,.map (some M5),iV a0.done_],eC A4 n4 c4 a0.all_,aK bR Bn M5 a0.met_]) (fun u post=> ∃A0 n0 c0 A1 n1 c1 A2 n2 c2 M3,u=.tuple #[]∧post=[am B1 229 [U A0 n0 c0,U A1 n1 c1,U A2 n2 c2,.map (some M3),iV r.done_],bB A0 n0 c0 r.m_.Young,bB A1 n1 c1 r.m_.Old,eC A2 n2 c2 r.all_,aK bR Bn M3 r.met_]):=by
 refine bp Tryz.func191 J J ?_;simp only [aP];refine iK ?_;refine bv (fun m s L=> ∃p7 p8 p9 p10 p11 A7 n7 c7 A8 n8 c8 A9 n9 c9 M10,fM N m p7 p8 p9 p10 p11=some r∧s=[(0,pV B1 0)]∧L=[bB A7 n7 c7 p7,bB A8 n8 c8 p8,eC A9 n9 c9 p9,aK bR Bn M10 p10,am B1 229 [U A7 n7 c7,U A8 n8 c8,U A9 n9 c9,.map (some M10),iV p11]]) N _ _ ⟨a0.m_.Young,a0.m_.Old,a0.all_,a0.met_,a0.done_,A2,n2,c2,A3,n3,c3,A4,n4,c4,M5,h,J,J⟩ sA (cS [0,1,3,4,2] 5) ?_;rintro (_|m6) _ _ ⟨p7,p8,p9,p10,p11,A7,n7,c7,A8,n8,c8,A9,n9,c9,M10,h,rfl,rfl⟩
 ·exact aG h
 rw [fM.eq_2] at h;refine ax ?_;refine ax ?_;refine bN I _ (aj _) ?_;refine zE 0 J (aw J) ?_;refine zE 1 J (aB J) ?_;refine zE 2 J (bz J Dv) ?_;refine zR 3 J (aJ 4 J J dy J) ?_;refine zE 4 J (aw J) ?_;refine zE 5 J (aB J) ?_;refine zE 6 J (bz J zB) ?_;refine zR 7 J (aJ 4 J J lA J) ?_;refine zR 8 J (aU 2 J aH J z3) ?_;refine zE 9 J (Mr J J) ?_;refine aZ I ?_;refine fb ?_;refine au J (fun g12=> ?_) (fun g12=> ?_)
 ·replace h:=ag g12 h;refine Y ?_;refine ax ?_;refine iK ?_;obtain ⟨x13,hx13,h⟩:=aa h;obtain ⟨lx13,ux13,hx13⟩:=aA hx13;refine ik (t:=[(0,pV B1 0)]) ?_ mN (aj _)
  refine jS I 15 [0] [0,4,14] [19,20,21,22,23,24,25,26,27,28,29,30,31,32,33] [[],[],[1],[2],[3],[],[5],[6],[7],[],[9],[10],[11],[8,12],[13]] [aV (pV B1 0),
 aV (pV B1 0),
 aV (pV B1 0),
 aV (pV B1 0),
 aV (.agg #[U A7 n7 c7,U A8 n8 c8]),
 aV (pV B1 0),
 aV (pV B1 0),
 aV (pV B1 2),
 aV (U A9 n9 c9),
 aV (pV B1 0),
 aV (pV B1 0),
 aV (pV B1 4),
 aV (iV p11),
 aV (fw (U A9 n9 c9) p11.toNat 1 0),
 aV (iV x13)] [] (aj _) (wl rfl mr) I rfl rfl ?_ ?_ ?_
  ·refine wk J ?_ ?_
   ·exact E8 (aw J) J (bq J (aj _))
   exact mq
  ·refine ak J ?_ ?_
   ·exact fi (bH (u:=iV x13) 2 J aH J hx13 dy (fun _ _ _ h=>by rw [show _=_ from h];rfl)) J (bq J (aj _))
   refine ak J ?_ ?_
   ·exact fi (aX 2 J aH J J z3 dP lx13 ux13) J (bq J (aj _))
   refine ak J ?_ ?_
   ·exact fi (aJ 4 J J dy J) J (bq J (aj _))
   refine ak J ?_ ?_
   ·exact cF (bz J Dv) J (bq J (aj _))
   refine ak J ?_ ?_
   ·exact cF (aB J) J (bq J (aj _))
   refine ak J ?_ ?_
   ·exact cF (aw J) J (bq J (aj _))
   refine ak J ?_ ?_
   ·exact fi (aJ 4 J J lA J) J (bq J (aj _))
   refine ak J ?_ ?_
   ·exact cF (bz J zB) J (bq J (aj _))
   refine ak J ?_ ?_
   ·exact cF (aB J) J (bq J (aj _))
   refine ak J ?_ ?_
   ·exact cF (aw J) J (bq J (aj _))
   refine ak J ?_ ?_
   ·exact fi (aD (us:=[U A7 n7 c7,U A8 n8 c8]) 4 J J fe J) J (bq J (aj _))
   refine ak J ?_ ?_
   ·exact cF (dK J Hb) J (bq J (aj _))
   refine ak J ?_ ?_
   ·exact cF (aB J) J (bq J (aj _))
   refine ak J ?_ ?_
   ·exact cF (aw J) J (bq J (aj _))
   refine ak J ?_ ?_
   ·exact cF (aw J) J (bq J (aj _))
   exact fo
  refine nP (t:=[(19,pV B1 0),(23,.agg #[U A7 n7 c7,U A8 n8 c8]),(33,iV x13),(0,pV B1 0)]) (L':=[bB A7 n7 c7 p7,bB A8 n8 c8 p8,eC A9 n9 c9 p9,aK bR Bn M10 p10,am B1 229 [U A7 n7 c7,U A8 n8 c8,U A9 n9 c9,.map (some M10),iV p11]]) ?_ mN (aj _);obtain ⟨y14,hy14,h⟩:=aa h;refine pH 15 J I (ai (uR hy14) F9 J (hJ (ab (i:=0) J J) (hJ (ab (i:=1) J J) ac)) rQ) J J J ?_;rintro _ _ ⟨_,⟨A15,n15,c15,A16,n16,c16,rfl,rfl⟩,rfl⟩;obtain ⟨y17,hy17,h⟩:=aa h;refine pH 16 J I (ai (iX hy17) yg J (hJ (ad (i:=0) J) (hJ (ad (i:=1) J) ac)) gk) J J J ?_;rintro _ _ ⟨_,⟨A18,n18,c18,rfl,rfl⟩,rfl⟩;refine nP ?_ cB (cV 0 J);obtain ⟨y19,hy19,h⟩:=aa h;refine pH 17 J I (aT (sw hy19) F5 J (aI [3,4,0] [7,5,6] [0,1,2,3,4] 8 J)) J J J ?_;rintro _ _ ⟨_,⟨A20,n20,c20,A21,n21,c21,A22,n22,c22,M23,rfl,rfl⟩,rfl⟩;refine mB I ?_;refine Y ?_;obtain ⟨q24,h⟩:=ap h;refine gE (aW J J q24.1 q24.2) ?_;refine Y ?_;refine gO (ao (us:=[iV (y19.done_+1)]) (cs':=[U A20 n20 c20,U A21 n21 c21,U A22 n22 c22,.map (some M23),iV (y19.done_+1)]) 0 J J J J dP J J J) ?_;rintro _ _ rfl;refine cp ?_;refine Y ?_;exact ⟨m6,_,_,Tk _,⟨y19.m_.Young,y19.m_.Old,y19.all_,y19.met_,y19.done_+1,A20,n20,c20,A21,n21,c21,A22,n22,c22,M23,h,J,J⟩,sA,cS [1,2,3,4,0] 10⟩
 replace h:=ah g12 h;refine Y ?_;obtain rfl:=aq h;exact jn J (cS [4,0,1,2,3] 5) ⟨_,_,_,_,_,_,_,_,_,_,J,J⟩
def qu (N:Nat)(p9:(List Ta))(p10:(List Ta))(p11:(List Int))(p12:(List (Int×Unit)))(p13:Int):Option Tf:=
 (gn N (⟨(⟨p9,p10⟩:SP),p11,p12,p13⟩:Tf)).bind fun y31=>some y31
def iu (N:Nat)(a1:(List SR)):Nat→Int→(List Ta)→(List Ta)→(List Int)→(List (Int×Unit))→Int→Option Tf
 |0,_,_,_,_,_,_=>none
 |m14+1,p15,p16,p17,p18,p19,p20=>bif decide (p15<(a1.length:Int)) then ((aF a1 p15).bind fun x23=>(nV N x23 (⟨(⟨p16,p17⟩:SP),p18,p19,p20⟩:Tf)).bind fun y25=>bi (in64 (p15+1)) ((iu N a1 m14) (p15+1) y25.m_.Young y25.m_.Old y25.all_ y25.met_ y25.done_)) else (qu N p16 p17 p18 p19 p20)
def ke (N:Nat)(a0:SP)(a1:(List SR)):Option Tf:=
 iu N a1 N 0 a0.Young a0.Old [] ([]:(List (Int×Unit))) 0
theorem CE {N:Nat}{a0:SP}{a1:(List SR)}{r:Tf}(h:ke N a0 a1=some r):Okc Tryz.prog 189 [.agg #[U A1 n1 c1,U A2 n2 c2],U A3 n3 c3] ([bB A1 n1 c1 a0.Young,bB A2 n2 c2 a0.Old,bE A3 n3 c3 a1]) (fun u post=> ∃B0 A1 n1 c1 A2 n2 c2 A3 n3 c3 M4,u=pV B0 0∧post=[am B0 229 [U A1 n1 c1,U A2 n2 c2,U A3 n3 c3,.map (some M4),iV r.done_],bB A1 n1 c1 r.m_.Young,bB A2 n2 c2 r.m_.Old,eC A3 n3 c3 r.all_,aK bR Bn M4 r.met_]):=by
 refine bp Tryz.func189 J J ?_;simp only [aP];refine Y ?_;refine gD (bn J J) ?_;rintro _ _ ⟨B4,rfl,rfl⟩;refine Y ?_;refine gR (aD (us:=[U A1 n1 c1,U A2 n2 c2]) 0 J J fe J) ?_;refine gD (qB (ek:=bR) (ev:=Bn)) ?_;rintro _ _ ⟨M5,rfl,rfl⟩;refine gE (bo J (Hx _ _ _ _ _ _ _)) ?_;refine gD (bn J J) ?_;rintro _ _ ⟨B6,rfl,rfl⟩;refine gD (aE Nv J) ?_;rintro _ _ ⟨B7,rfl,rfl⟩;refine gO (ao (us:=[pV B6 0]) (cs':=[pV B6 0]) 0 J J J J NH J J J) ?_;rintro _ _ rfl;refine Y ?_;refine gE (dZ J) ?_;refine Y ?_;refine aM (fun s L=> ∃p9 p10 p11 p12 p13 A9 n9 c9 A10 n10 c10 A11 n11 c11 M12,qu N p9 p10 p11 p12 p13=some r∧s=[(4,.pointer none),(5,pV B7 0)]∧L=[am B7 225 [pV B6 0],bB A9 n9 c9 p9,bB A10 n10 c10 p10,eC A11 n11 c11 p11,aK bR Bn M12 p12,am B6 229 [U A9 n9 c9,U A10 n10 c10,U A11 n11 c11,.map (some M12),iV p13]]) ?_ ?_
 ·refine Y ?_;refine gR (aU 6 J av J t0) ?_;refine Y ?_;refine bv (fun m s L=> ∃p15 p16 p17 p18 p19 p20 A16 n16 c16 A17 n17 c17 A18 n18 c18 M19,iu N a1 m p15 p16 p17 p18 p19 p20=some r∧s=[(4,.pointer none),(5,pV B7 0),(6,.func (.func 207) #[] #[pV B7 0]),(14,U A3 n3 c3),(15,iV (a1.length:Int)),(16,iV p15)]∧L=[bE A3 n3 c3 a1,am B7 225 [pV B6 0],bB A16 n16 c16 p16,bB A17 n17 c17 p17,eC A18 n18 c18 p18,aK bR Bn M19 p19,am B6 229 [U A16 n16 c16,U A17 n17 c17,U A18 n18 c18,.map (some M19),iV p20]]) N _ _ ⟨0,a0.Young,a0.Old,[],([]:(List (Int×Unit))),0,A1,n1,c1,A2,n2,c2,none,0,0,M5,h,J,J⟩ sA ((cn (iP .i64) 3 _).trans (cS [7,1,5,6,0,3,2] 8)) ?_;rintro (_|m14) _ _ ⟨p15,p16,p17,p18,p19,p20,A16,n16,c16,A17,n17,c17,A18,n18,c18,M19,h,rfl,rfl⟩
  ·exact aG h
  rw [iu.eq_2] at h;refine Y ?_;refine ax ?_;refine au J (fun g22=> ?_) (fun g22=> ?_)
  ·replace h:=ag g22 h;refine Y ?_;refine ax ?_;refine Y ?_;obtain ⟨x23,hx23,h⟩:=aa h;obtain ⟨lx23,ux23,hx23⟩:=aA hx23;refine gR (aX 0 J av J J t0 aS lx23 ux23) ?_;refine gR (bG (us:=[iV x23.Kind,iV x23.N,.string x23.S]) 0 J av J hx23 bV (fun _ _ _ h=>by rw [show _=_ from h];rfl)) ?_;refine gD (aE d7 J) ?_;rintro _ _ ⟨B24,rfl,rfl⟩;refine gO (ao (us:=[iV x23.Kind,iV x23.N,.string x23.S]) (cs':=[iV x23.Kind,iV x23.N,.string x23.S]) 0 J J J J aS J J J) ?_;rintro _ _ rfl;refine Y ?_;refine gR (aD (us:=[iV x23.Kind,iV x23.N,.string x23.S]) 0 J J bV J) ?_;obtain ⟨y25,hy25,h⟩:=aa h;refine gD (fO (yG hy25) Oz J J J (aI [3,4] [2,7,5,6] [0,1,3,4] 8 J)) ?_;rintro _ _ ⟨_,⟨A26,n26,c26,A27,n27,c27,A28,n28,c28,M29,rfl,rfl⟩,rfl⟩;refine cp ?_;refine Y ?_;obtain ⟨q30,h⟩:=ap h;refine gE (aW J J q30.1 q30.2) ?_;refine Y ?_;exact ⟨m14,_,_,Tk _,⟨p15+1,y25.m_.Young,y25.m_.Old,y25.all_,y25.met_,y25.done_,A26,n26,c26,A27,n27,c27,A28,n28,c28,M29,h,J,J⟩,sA,cS [7,5,1,2,3,4,0] 10⟩
  replace h:=ah g22 h;refine Y ?_;exact ⟨_,_,⟨p16,p17,p18,p19,p20,A16,n16,c16,A17,n17,c17,A18,n18,c18,M19,h,J,J⟩,sA,cS [1,2,3,4,5,6] 7⟩
 rintro _ _ ⟨p9,p10,p11,p12,p13,A9,n9,c9,A10,n10,c10,A11,n11,c11,M12,h,rfl,rfl⟩;refine Y ?_;obtain ⟨y31,hy31,h⟩:=aa h;refine gD (aT (oT hy31) Jw J (aI [1,2] [5,3,4] [0,1,2] 6 J)) ?_;rintro _ _ ⟨_,⟨A32,n32,c32,A33,n33,c33,A34,n34,c34,M35,rfl,rfl⟩,rfl⟩;refine Y ?_;obtain rfl:=aq h;exact aL J J (cS [0,1,2,3,4] 8) ⟨_,_,_,_,_,_,_,_,_,_,_,J,J⟩
def se (N:Nat)(a0:Ta):Option Bool:=
 (bif decide (a0.Kind=8) then ((eg N a0).bind fun y5=>some y5) else (some false)).bind fun b4=>some b4
theorem Ch {N:Nat}{a0:Ta}{r:Bool}(h:se N a0=some r):Okc Tryz.prog 167 [.agg #[iV a0.Kind,iV a0.Shape,iV a0.Flags,iV a0.Age,U A1 n1 c1,U A2 n2 c2]] ([bE A1 n1 c1 a0.Slots,bE A2 n2 c2 a0.More]) (fun u post=>u=.bool r∧post=[]):=by
 refine bp Tryz.func167 J J ?_;simp only [aP];refine Y ?_;refine gD (bn J J) ?_;rintro _ _ ⟨B3,rfl,rfl⟩;refine Y ?_;obtain ⟨b4,hb4,h⟩:=aa h;refine aO 3 9 b4 ?_ ?_
 ·clear h;refine aN 6 J (fun g4=> ?_) (fun g4=> ?_)
  ·have h:=ag g4 hb4;refine cL (aD (us:=[iV a0.Kind,iV a0.Shape,iV a0.Flags,iV a0.Age,U A1 n1 c1,U A2 n2 c2]) 0 J J bA J) J (bU g4 J) J ?_;obtain ⟨y5,hy5,h⟩:=aa h;refine dn (ai (lY hy5) DI J (hJ (ab (i:=1) J J) (hJ (ab (i:=2) J J) ac)) kd) J (bU g4 J) J ?_;rintro _ _ ⟨_,⟨rfl,rfl⟩,rfl⟩;refine Y ?_;obtain rfl:=aq h;exact ae sA (cS [0,1,2] 3)
  have h:=ah g4 hb4;refine Y ?_;obtain rfl:=aq h;exact ae sA (cS [0,1,2] 3)
 refine Y ?_;obtain rfl:=aq h;exact aL J J (cS [] 3) ⟨J,J⟩
theorem yo {r:Bool}: ∀v post,((fun (u:Value) (post:List Chunk)=>u=.bool r∧post=[])) v post→ ∀c∈post,ce c:=by
 rintro _ _ ⟨rfl,rfl⟩;exact ac
def ei (N:Nat){σ:Type}(fy:(SR×SR)→σ→Option (Bool×σ))(a1:Ta):Nat→Int→σ→Option σ
 |0,_,_=>none
 |m4+1,p5,p6=>bi (in64 (p5+1)) (bif decide (p5+1<(a1.More.length:Int)) then ((aF a1.More p5).bind fun x9=>bi (in64 (p5+1)) ((aF a1.More (p5+1)).bind fun x11=>(fy (x9,x11) p6).bind fun y12=>bif !y12.1 then (some y12.2) else (bi (in64 (p5+2)) ((ei N fy a1 m4) (p5+2) y12.2)))) else (some p6))
def iy (N:Nat){σ:Type}(a1:Ta)(fy:(SR×SR)→σ→Option (Bool×σ))(s0:σ):Option σ:=
 ei N fy a1 N 0 s0
theorem pZ {N:Nat}{σ:Type}{a1:Ta}{fy:(SR×SR)→σ→Option (Bool×σ)}{s0:σ}{r:σ}(h:iy N a1 fy s0=some r){l:Nat}{G:σ→List Chunk}(hY:rJ Tryz.prog l G (fun x=> [.agg #[iV x.1.Kind,iV x.1.N,.string x.1.S],.agg #[iV x.2.Kind,iV x.2.N,.string x.2.S]]) fy):Okc Tryz.prog 210 [.func (.yield l) #[] #[],pV B1 0] (aR B1 42 [iV a1.Kind,iV a1.Shape,iV a1.Flags,iV a1.Age,U A2 n2 c2,U A3 n3 c3]::bE A2 n2 c2 a1.Slots::bE A3 n3 c3 a1.More::(G s0)) (fun u post=>u=.tuple #[]∧post=G r):=by
 refine bp Tryz.func210 J J ?_;simp only [aP];refine Y ?_;refine bv (fun m s L=> ∃p5 p6,ei N fy a1 m p5 p6=some r∧s=[(0,.func (.yield l) #[] #[]),(1,pV B1 0),(3,iV p5)]∧L=bE A2 n2 c2 a1.Slots::bE A3 n3 c3 a1.More::aR B1 42 [iV a1.Kind,iV a1.Shape,iV a1.Flags,iV a1.Age,U A2 n2 c2,U A3 n3 c3]::(G p6)) N _ _ ⟨0,s0,h,J,J⟩ sA (cS [1,2,0] 3) ?_;rintro (_|m4) _ _ ⟨p5,p6,h,rfl,rfl⟩
 ·exact aG h
 rw [ei.eq_2] at h;refine ax ?_;refine Y ?_;obtain ⟨q7,h⟩:=ap h;refine gE (aW J J q7.1 q7.2) ?_;refine Y ?_;refine gR (ba 2 J J dD J) ?_;refine gR (aU 1 J av J t0) ?_;refine Y ?_;refine au J (fun g8=> ?_) (fun g8=> ?_)
 ·replace h:=ag g8 h;refine Y ?_;refine ax ?_;refine iK ?_;refine ax ?_;obtain ⟨x9,hx9,h⟩:=aa h;obtain ⟨lx9,ux9,hx9⟩:=aA hx9;obtain ⟨q10,h⟩:=ap h;obtain ⟨x11,hx11,h⟩:=aa h;obtain ⟨lx11,ux11,hx11⟩:=aA hx11;refine ik (t:=[(0,.func (.yield l) #[] #[]),(1,pV B1 0),(3,iV p5)]) ?_ mN (aj _)
  refine jS I 12 [] [0,5,11] [12,13,14,15,16,17,18,19,20,21,22,23] [[],[],[1],[],[2,3],[4],[],[6],[],[8],[7,9],[10]] [aV (.func (.yield l) #[] #[]),
 aV (pV B1 5),
 aV (U A3 n3 c3),
 aV (iV p5),
 aV (fw (U A3 n3 c3) p5.toNat 3 0),
 aV (.agg #[iV x9.Kind,iV x9.N,.string x9.S]),
 aV (pV B1 5),
 aV (U A3 n3 c3),
 aV (iV p5),
 aV (iV (p5+1)),
 aV (fw (U A3 n3 c3) ((p5+1).toNat) 3 0),
 aV (.agg #[iV x11.Kind,iV x11.N,.string x11.S])] [] (aj _) (mr) I rfl rfl ?_ ?_ ?_
  ·exact mq
  ·refine ak J ?_ ?_
   ·exact fi (bG (us:=[iV x11.Kind,iV x11.N,.string x11.S]) 1 J av J hx11 bV (fun _ _ _ h=>by rw [show _=_ from h];rfl)) J (bq J (aj _))
   refine ak J ?_ ?_
   ·exact fi (aX 1 J av J J t0 aS lx11 ux11) J (bq J (aj _))
   refine ak J ?_ ?_
   ·exact cF (aW J J q10.1 q10.2) J (bq J (aj _))
   refine ak J ?_ ?_
   ·exact cF (aw J) J (bq J (aj _))
   refine ak J ?_ ?_
   ·exact fi (ba 2 J J dD J) J (bq J (aj _))
   refine ak J ?_ ?_
   ·exact cF (bz J kC) J (bq J (aj _))
   refine ak J ?_ ?_
   ·exact fi (bG (us:=[iV x9.Kind,iV x9.N,.string x9.S]) 1 J av J hx9 bV (fun _ _ _ h=>by rw [show _=_ from h];rfl)) J (bq J (aj _))
   refine ak J ?_ ?_
   ·exact fi (aX 1 J av J J t0 aS lx9 ux9) J (bq J (aj _))
   refine ak J ?_ ?_
   ·exact cF (aw J) J (bq J (aj _))
   refine ak J ?_ ?_
   ·exact fi (ba 2 J J dD J) J (bq J (aj _))
   refine ak J ?_ ?_
   ·exact cF (bz J kC) J (bq J (aj _))
   refine ak J ?_ ?_
   ·exact cF (aw J) J (bq J (aj _))
   exact fo
  refine nP (t:=[(12,.func (.yield l) #[] #[]),(17,.agg #[iV x9.Kind,iV x9.N,.string x9.S]),(23,.agg #[iV x11.Kind,iV x11.N,.string x11.S]),(0,.func (.yield l) #[] #[]),(1,pV B1 0),(3,iV p5)]) (L':=bE A2 n2 c2 a1.Slots::bE A3 n3 c3 a1.More::aR B1 42 [iV a1.Kind,iV a1.Shape,iV a1.Flags,iV a1.Age,U A2 n2 c2,U A3 n3 c3]::(G p6)) ?_ mN (aj _);obtain ⟨y12,hy12,h⟩:=aa h;refine pH 12 J I (wo (a:=(x9,x11)) [bE A2 n2 c2 a1.Slots,bE A3 n3 c3 a1.More,aR B1 42 [iV a1.Kind,iV a1.Shape,iV a1.Flags,iV a1.Age,U A2 n2 c2,U A3 n3 c3]] hY hy12 J J) J J J ?_;rintro _ _ ⟨rfl,rfl⟩;refine AO 13 J I (FZ J) J J J ?_;refine mB I ?_;refine fb ?_;refine au J (fun g13=> ?_) (fun g13=> ?_)
  ·replace h:=ag g13 h;refine Y ?_;obtain rfl:=aq h;exact EY J (cS [] 3) ⟨J,J⟩
  replace h:=ah g13 h;refine Y ?_;obtain ⟨q14,h⟩:=ap h;refine gE (aW J J q14.1 q14.2) ?_;refine Y ?_;exact ⟨m4,_,_,Tk _,⟨p5+2,y12.2,h,J,J⟩,sA,cS [0,1,2] 3⟩
 replace h:=ah g8 h;refine Y ?_;obtain rfl:=aq h;exact jn J (cS [] 3) ⟨J,J⟩
def kF (N:Nat)(a0:Ta):Option Unit:=
 some ()
theorem tR {N:Nat}{a0:Ta}{r:Unit}(h:kF N a0=some r):Okc Tryz.prog 192 [.agg #[iV a0.Kind,iV a0.Shape,iV a0.Flags,iV a0.Age,U A1 n1 c1,U A2 n2 c2]] ([bE A1 n1 c1 a0.Slots,bE A2 n2 c2 a0.More]) (fun u post=> ∃B900,u=.func (.func 210) #[] #[pV B900 0]∧post=[am B900 42 [iV a0.Kind,iV a0.Shape,iV a0.Flags,iV a0.Age,U A1 n1 c1,U A2 n2 c2]]):=by
 refine bp Tryz.func192 J J ?_;simp only [aP];refine Y ?_;refine gD (bn J J) ?_;rintro _ _ ⟨B3,rfl,rfl⟩;refine Y ?_;refine gE (dZ J) ?_;refine Y ?_;obtain rfl:=aq h;exact aL J J (cS [0] 3) ⟨_,J,J⟩
theorem re {a0:Ta}{A1:Option Addr}{n1:Nat}{c1:Nat}{A2:Option Addr}{n2:Nat}{c2:Nat}: ∀v post,((fun (u:Value) (post:List Chunk)=> ∃B900,u=.func (.func 210) #[] #[pV B900 0]∧post=[am B900 42 [iV a0.Kind,iV a0.Shape,iV a0.Flags,iV a0.Age,U A1 n1 c1,U A2 n2 c2]])) v post→ ∀c∈post,ce c:=by
 rintro _ _ ⟨_,rfl,rfl⟩;exact hJ o3 (ac)
def tV (N:Nat):Option Int:=
 some (-1)
def jT (N:Nat)(a1:Int)(a0:(List Int)):Nat→Int→Option Int
 |0,_=>none
 |m3+1,p4=>bif decide (p4<(a0.length:Int)) then ((aF a0 p4).bind fun x6=>bif decide (a1=x6) then (some p4) else (bi (in64 (p4+1)) ((jT N a1 a0 m3) (p4+1)))) else (tV N)
def qh (N:Nat)(a0:(List Int))(a1:Int):Option Int:=
 jT N a1 a0 N 0
theorem Bx {N:Nat}{a0:(List Int)}{a1:Int}{r:Int}(h:qh N a0 a1=some r):Okc Tryz.prog 180 [U A1 n1 c1,iV a1] ([ex A1 n1 c1 a0]) (fun u post=>u=iV r∧post=[]):=by
 refine bp Tryz.func180 J J ?_;simp only [aP];refine Y ?_;refine aM (fun s L=>tV N=some r∧s=[(4,iV 0)]∧L=[]) ?_ ?_
 ·refine Y ?_;refine gR (aU 0 J av J z3) ?_;refine Y ?_;refine bv (fun m s L=> ∃p4,jT N a1 a0 m p4=some r∧s=[(0,U A1 n1 c1),(1,iV a1),(4,iV 0),(7,iV (a0.length:Int)),(8,iV p4)]∧L=[ex A1 n1 c1 a0]) N _ _ ⟨0,h,J,J⟩ sA (cS [0] 1) ?_;rintro (_|m3) _ _ ⟨p4,h,rfl,rfl⟩
  ·exact aG h
  rw [jT.eq_2] at h;refine Y ?_;refine ax ?_;refine au J (fun g5=> ?_) (fun g5=> ?_)
  ·replace h:=ag g5 h;refine Y ?_;refine ax ?_;refine Y ?_;obtain ⟨x6,hx6,h⟩:=aa h;obtain ⟨lx6,ux6,hx6⟩:=aA hx6;refine gR (aX 0 J av J J z3 dP lx6 ux6) ?_;refine gR (bH (u:=iV x6) 0 J av J hx6 dy (fun _ _ _ h=>by rw [show _=_ from h];rfl)) ?_;refine Y ?_;refine au J (fun g7=> ?_) (fun g7=> ?_)
   ·replace h:=ag g7 h;refine Y ?_;obtain rfl:=aq h;exact aL J J (cS [] 1) ⟨J,J⟩
   replace h:=ah g7 h;refine Y ?_;obtain ⟨q8,h⟩:=ap h;refine gE (aW J J q8.1 q8.2) ?_;refine Y ?_;exact ⟨m3,_,_,Tk _,⟨p4+1,h,J,J⟩,sA,cS [0] 1⟩
  replace h:=ah g5 h;refine Y ?_;exact ⟨_,_,⟨h,J,J⟩,sA,cS [] 1⟩
 rintro _ _ ⟨h,rfl,rfl⟩;refine Y ?_;obtain rfl:=aq h;exact aL J J (cS [] 0) ⟨J,J⟩
theorem yw {r:Int}: ∀v post,((fun (u:Value) (post:List Chunk)=>u=iV r∧post=[])) v post→ ∀c∈post,ce c:=by
 rintro _ _ ⟨rfl,rfl⟩;exact ac
def dM (N:Nat)(a0:(List Int))(a1:Int):Option Bool:=
 (qh N a0 a1).bind fun y2=>some (decide (0≤y2))
theorem jC {N:Nat}{a0:(List Int)}{a1:Int}{r:Bool}(h:dM N a0 a1=some r):Okc Tryz.prog 134 [U A1 n1 c1,iV a1] ([ex A1 n1 c1 a0]) (fun u post=>u=.bool r∧post=[]):=by
 refine bp Tryz.func134 J J ?_;simp only [aP];refine Y ?_;obtain ⟨y2,hy2,h⟩:=aa h;refine gD (ai (Bx hy2) OH J (hJ (ab (i:=0) J J) ac) yw) ?_;rintro _ _ ⟨_,⟨rfl,rfl⟩,rfl⟩;refine Y ?_;obtain rfl:=aq h;exact aL J J (cS [] 1) ⟨J,J⟩
theorem iz {r:Bool}: ∀v post,((fun (u:Value) (post:List Chunk)=>u=.bool r∧post=[])) v post→ ∀c∈post,ce c:=by
 rintro _ _ ⟨rfl,rfl⟩;exact ac
def gT (N:Nat)(a1:(List Int))(x12:SR×SR):((List Int))→Option (Option Exit×(List Int))
 |p13=>(bif decide (x12.2.Kind=7) then (some true) else (some (decide (x12.2.Kind=9)))).bind fun b18=>(bif b18 then ((dM N a1 x12.1.N).bind fun y20=>some y20) else (some false)).bind fun b19=>bif b19 then (bi (bQ (p13.length+([x12.2.N]:List Int).length)) (some (none,p13++([x12.2.N]:List Int)))) else (some (none,p13))
def mP (N:Nat)(a0:Ta)(a1:(List Int)):Option (List Int):=
 (se N a0).bind fun y6=>bif !y6 then (some []) else ((kF N a0).bind fun y10=>(iy N a0 (cY (fun x st=>gT N a1 x st)) (none,[])).bind fun y14=>nO y14.1 (some y14.2) none (fun _=>none))
set_option maxHeartbeats 4000000 in
theorem xa {N:Nat}{a0:Ta}{a1:(List Int)}{r:(List Int)}(h:mP N a0 a1=some r):Okc Tryz.prog 195 [.agg #[iV a0.Kind,iV a0.Shape,iV a0.Flags,iV a0.Age,U A1 n1 c1,U A2 n2 c2],U A3 n3 c3] ([bE A1 n1 c1 a0.Slots,bE A2 n2 c2 a0.More,ex A3 n3 c3 a1]) (fun u post=> ∃A0 n0 c0,u=U A0 n0 c0∧post=[eC A0 n0 c0 r]):=by
 refine bp Tryz.func195 J J ?_;simp only [aP];refine Y ?_;refine gD (bn J J) ?_;rintro _ _ ⟨B4,rfl,rfl⟩;refine gD (bn J J) ?_;rintro _ _ ⟨B5,rfl,rfl⟩;refine Y ?_;refine ax ?_;refine Y ?_;refine gR (aD (us:=[iV a0.Kind,iV a0.Shape,iV a0.Flags,iV a0.Age,U A1 n1 c1,U A2 n2 c2]) 1 J J bA J) ?_;obtain ⟨y6,hy6,h⟩:=aa h;refine gD (ai (Ch hy6) JB J (hJ (ab (i:=2) J J) (hJ (ab (i:=3) J J) ac)) yo) ?_;rintro _ _ ⟨_,⟨rfl,rfl⟩,rfl⟩;refine Y ?_;refine au J (fun g7=> ?_) (fun g7=> ?_)
 ·replace h:=ag g7 h;refine Y ?_;obtain rfl:=aq h;exact aL J J ((cn (iP .i64) 3 _).trans (cS [0] 6)) ⟨_,_,_,J,J⟩
 replace h:=ah g7 h;refine Y ?_;refine gD (aE HG J) ?_;rintro _ _ ⟨B9,rfl,rfl⟩;refine Y ?_;refine ax ?_;refine Y ?_;refine gR (aD (us:=[iV a0.Kind,iV a0.Shape,iV a0.Flags,iV a0.Age,U A1 n1 c1,U A2 n2 c2]) 2 J J bA J) ?_;obtain ⟨y10,hy10,h⟩:=aa h;refine gD (ai (tR hy10) Jv J (hJ (ab (i:=3) J J) (hJ (ab (i:=4) J J) ac)) re) ?_;rintro _ _ ⟨_,⟨B11,rfl,rfl⟩,rfl⟩;refine pI ?_;refine fb ?_;refine ik ?_ cB (gP 0 J);obtain ⟨y14,hy14,h⟩:=aa h;refine sS (en:=(fun x=> [.agg #[iV x.1.Kind,iV x.1.N,.string x.1.S],.agg #[iV x.2.Kind,iV x.2.N,.string x.2.S]])) (fun x st=>gT N a1 x st) (fun (st:(List Int)) (mz:((Option Addr×Nat×Nat)))=> [ex A3 n3 c3 a1,am B5 39 [U A3 n3 c3],eN (iP .i64) 3 (.slice mz.1 mz.2.1 mz.2.2) st,am B9 39 [.slice mz.1 mz.2.1 mz.2.2]]) [aR B11 42 [iV a0.Kind,iV a0.Shape,iV a0.Flags,iV a0.Age,U A1 n1 c1,U A2 n2 c2],bE A1 n1 c1 a0.Slots,bE A2 n2 c2 a0.More] ([]) ((none,0,0)) J J Jt J (fun _=>J) (fun l G hY=>(pZ hy14 hY).mono fun _ _ hh=>hh.2) ((cn (iP .i64) 3 _).trans (aI [1,5,6] [] [7,3,0,2] 8 J)) h ?_ ?_ ?_ ?_
 ·rintro l x12 p13 je sr12 ⟨A13,n13,c13⟩ h;replace h:gT N a1 x12 p13=some (je,sr12):=h;simp only [zJ,List.zip_cons_cons,List.zip_nil_left,List.zip_nil_right,List.reverse_cons,List.reverse_nil,List.nil_append,List.cons_append];refine Y ?_;refine gD (aE d7 J) ?_;rintro _ _ ⟨B16,rfl,rfl⟩;refine gO (ao (us:=[iV x12.1.Kind,iV x12.1.N,.string x12.1.S]) (cs':=[iV x12.1.Kind,iV x12.1.N,.string x12.1.S]) 0 J J J J aS J J J) ?_;rintro _ _ rfl;refine Y ?_;refine gD (aE d7 J) ?_;rintro _ _ ⟨B17,rfl,rfl⟩;refine gO (ao (us:=[iV x12.2.Kind,iV x12.2.N,.string x12.2.S]) (cs':=[iV x12.2.Kind,iV x12.2.N,.string x12.2.S]) 0 J J J J aS J J J) ?_;rintro _ _ rfl;refine cp ?_;refine Y ?_;obtain ⟨b18,hb18,h⟩:=aa h;refine aO 4 22 b18 ?_ ?_
  ·clear h;refine aN 18 J (fun g18=> ?_) (fun g18=> ?_)
   ·have h:=ag g18 hb18;refine Y ?_;obtain rfl:=aq h;exact ae sA (cS [0,1,2,3,4,5] 6)
   have h:=ah g18 hb18;refine Y ?_;obtain rfl:=aq h;exact ae sA (cS [0,1,2,3,4,5] 6)
  refine Y ?_;obtain ⟨b19,hb19,h⟩:=aa h;refine aO 5 28 b19 ?_ ?_
  ·clear h;refine aN 23 J (fun g19=> ?_) (fun g19=> ?_)
   ·have h:=ag g19 hb19;refine Y ?_;obtain ⟨y20,hy20,h⟩:=aa h;refine dn (ai (jC hy20) BY J (hJ (ab (i:=2) J J) ac) iz) J (bU g19 J) J ?_;rintro _ _ ⟨_,⟨rfl,rfl⟩,rfl⟩;refine Y ?_;obtain rfl:=aq h;exact ae sA (cS [0,1,2,3,4,5] 6)
   have h:=ah g19 hb19;refine Y ?_;obtain rfl:=aq h;exact ae sA (cS [0,1,2,3,4,5] 6)
  refine Y ?_;refine au J (fun g21=> ?_) (fun g21=> ?_)
  ·replace h:=ag g21 h;refine Y ?_;refine gD (bJ (R:=(iP .i64)) (vss:=[[iV x12.2.N]]) (xs:=[x12.2.N]) J (ma _) J J (fun _ _ hr=> .cons J All2.nil)) ?_;rintro _ _ ⟨A22,n22,c22,rfl,rfl⟩;obtain ⟨q23,h⟩:=ap h;refine gD (bK 5 0 J J aH J J z3 HF J J q23) ?_;rintro _ _ ⟨A24,n24,c24,rfl,rfl⟩;refine gO (ao (us:=[U A24 n24 c24]) (cs':=[U A24 n24 c24]) 6 J J J J rP J J J) ?_;rintro _ _ rfl;refine Y ?_;obtain ⟨rfl,rfl⟩:=Prod.mk.inj (Option.some.inj h);exact BL ((cS [3,4,5,6] 7).trans (fV (A24,n24,c24) J))
  replace h:=ah g21 h;refine Y ?_;obtain ⟨rfl,rfl⟩:=Prod.mk.inj (Option.some.inj h);exact BL ((cS [2,3,4,5] 6).trans (fV (A13,n13,c13) J))
 ·rintro ⟨A13,n13,c13⟩ h;refine oM ([ex A3 n3 c3 a1,am B5 39 [U A3 n3 c3],eC A13 n13 c13 y14.2,am B9 39 [U A13 n13 c13]]) J ?_;refine Y ?_;obtain rfl:=aq h;exact aL J J (cS [2] 4) ⟨_,_,_,J,J⟩
 ·rintro ⟨A13,n13,c13⟩ h;exact aG h
 rintro i ⟨A13,n13,c13⟩ h;exact aG h
theorem tS {r:(List Int)}: ∀v post,((fun (u:Value) (post:List Chunk)=> ∃A0 n0 c0,u=U A0 n0 c0∧post=[eC A0 n0 c0 r])) v post→ ∀c∈post,ce c:=by
 rintro _ _ ⟨_,_,_,rfl,rfl⟩;exact hJ bP (ac)
def rq (N:Nat)(a0:Tf)(p7:(List Ta))(p8:(List Ta))(p9:(List Int))(p10:(List (Int×Unit)))(p11:Int):Option (Bool×Tf):=
 some (decide ((a0.all_.length:Int)<(p9.length:Int)),(⟨(⟨p7,p8⟩:SP),p9,p10,p11⟩:Tf))
def jJ (N:Nat)(kb13:Int→(List Ta)→(List Ta)→(List Int)→(List (Int×Unit))→Int→Option (Bool×Tf))(a0:Tf)(p14:Int)(p22:(List Ta))(p23:(List Ta))(p24:(List Int))(p25:(List (Int×Unit)))(p26:Int):Option (Bool×Tf):=
 bi (in64 (p14+1)) (kb13 (p14+1) p22 p23 p24 p25 p26)
def dt (N:Nat)(a0:Tf):Nat→Int→(List Ta)→(List Ta)→(List Int)→(List (Int×Unit))→Int→Option (Bool×Tf)
 |0,_,_,_,_,_,_=>none
 |m13+1,p14,p15,p16,p17,p18,p19=>bif decide (p14<((List.take a0.all_.length a0.all_).length:Int)) then ((aF (List.take a0.all_.length p17) p14).bind fun x27=>(fq N (⟨p15,p16⟩:SP) x27).bind fun y28=>bif decide (y28.Kind=8) then ((mP N y28 p17).bind fun y33=>(eb N (⟨(⟨p15,p16⟩:SP),p17,p18,p19⟩:Tf) y33).bind fun y35=>jJ N (dt N a0 m13) a0 p14 y35.m_.Young y35.m_.Old y35.all_ y35.met_ y35.done_) else (jJ N (dt N a0 m13) a0 p14 p15 p16 p17 p18 p19)) else (rq N a0 p15 p16 p17 p18 p19)
def jj (N:Nat)(a0:Tf):Option (Bool×Tf):=
 dt N a0 N 0 a0.m_.Young a0.m_.Old a0.all_ a0.met_ a0.done_
set_option maxHeartbeats 4000000 in
theorem yF {N:Nat}{a0:Tf}{r:(Bool×Tf)}(h:jj N a0=some r):Okc Tryz.prog 190 [pV B1 0] ([bB A2 n2 c2 a0.m_.Young,bB A3 n3 c3 a0.m_.Old,am B1 229 [U A2 n2 c2,U A3 n3 c3,U A4 n4 c4,.map (some M5),iV a0.done_],eC A4 n4 c4 a0.all_,aK bR Bn M5 a0.met_]) (fun u post=> ∃A0 n0 c0 A1 n1 c1 A2 n2 c2 M3,u=.bool r.1∧post=[am B1 229 [U A0 n0 c0,U A1 n1 c1,U A2 n2 c2,.map (some M3),iV r.2.done_],bB A0 n0 c0 r.2.m_.Young,bB A1 n1 c1 r.2.m_.Old,eC A2 n2 c2 r.2.all_,aK bR Bn M3 r.2.met_]):=by
 refine bp Tryz.func190 J J ?_;simp only [aP];refine Y ?_;refine gR (aU 3 J aH J z3) ?_;refine Y ?_;refine aM (fun s L=> ∃p7 p8 p9 p10 p11 A7 n7 c7 A8 n8 c8 A9 n9 c9 M10,rq N a0 p7 p8 p9 p10 p11=some r∧s=[(0,pV B1 0),(2,.bool false),(3,iV (a0.all_.length:Int))]∧L=[bB A7 n7 c7 p7,bB A8 n8 c8 p8,eC A9 n9 c9 p9,aK bR Bn M10 p10,am B1 229 [U A7 n7 c7,U A8 n8 c8,U A9 n9 c9,.map (some M10),iV p11]]) ?_ ?_
 ·refine Rv ?_;refine Rx ?_;refine wb (MC 3 J) ?_;refine gD (NT (n:=a0.all_.length) 3 J J z3 dP J J J (Nat.le_refl _)) ?_;rintro _ _ ⟨A12,rfl,rfl⟩;refine gR (aU 3 J DB J z3) ?_;refine Y ?_;refine bv (fun m s L=> ∃p14 p15 p16 p17 p18 p19 A15 n15 c15 A16 n16 c16 A17 n17 c17 M18,dt N a0 m p14 p15 p16 p17 p18 p19=some r∧s=[(0,pV B1 0),(2,.bool false),(3,iV (a0.all_.length:Int)),(18,.slice A12 a0.all_.length a0.all_.length),(19,iV ((List.take a0.all_.length a0.all_).length:Int)),(20,iV p14)]∧L=[bB A15 n15 c15 p15,bB A16 n16 c16 p16,kZ (iP .i64) 3 (U A17 n17 c17) p17 (.slice A12 a0.all_.length a0.all_.length) a0.all_.length,aK bR Bn M18 p18,am B1 229 [U A15 n15 c15,U A16 n16 c16,U A17 n17 c17,.map (some M18),iV p19]]) N _ _ ⟨0,a0.m_.Young,a0.m_.Old,a0.all_,a0.met_,a0.done_,A2,n2,c2,A3,n3,c3,A4,n4,c4,M5,h,J,J⟩ sA (cS [0,1,3,4,2] 5) ?_;rintro (_|m13) _ _ ⟨p14,p15,p16,p17,p18,p19,A15,n15,c15,A16,n16,c16,A17,n17,c17,M18,h,rfl,rfl⟩
  ·exact aG h
  rw [dt.eq_2] at h;refine Y ?_;refine ax ?_;refine au J (fun g20=> ?_) (fun g20=> ?_)
  ·replace h:=ag g20 h;refine Y ?_;refine aM (fun s L=> ∃p22 p23 p24 p25 p26 A22 n22 c22 A23 n23 c23 A24 n24 c24 M25,jJ N (dt N a0 m13) a0 p14 p22 p23 p24 p25 p26=some r∧s=[(0,pV B1 0),(2,.bool false),(3,iV (a0.all_.length:Int)),(18,.slice A12 a0.all_.length a0.all_.length),(19,iV ((List.take a0.all_.length a0.all_).length:Int)),(20,iV p14)]∧L=[bB A22 n22 c22 p22,bB A23 n23 c23 p23,kZ (iP .i64) 3 (U A24 n24 c24) p24 (.slice A12 a0.all_.length a0.all_.length) a0.all_.length,aK bR Bn M25 p25,am B1 229 [U A22 n22 c22,U A23 n23 c23,U A24 n24 c24,.map (some M25),iV p26]]) ?_ ?_
   ·refine Y ?_;obtain ⟨x27,hx27,h⟩:=aa h;obtain ⟨lx27,ux27,hx27⟩:=aA hx27;refine gR (aX 2 J DB J J z3 dP lx27 ux27) ?_;refine gR (bH (u:=iV x27) 2 J DB J hx27 dy (fun _ _ _ h=>by rw [show _=_ from h];rfl)) ?_;refine Y ?_;refine gR (aD (us:=[U A15 n15 c15,U A16 n16 c16]) 4 J J fe J) ?_;refine Y ?_;obtain ⟨y28,hy28,h⟩:=aa h;refine gD (ai (uR hy28) F9 J (hJ (ab (i:=0) J J) (hJ (ab (i:=1) J J) ac)) rQ) ?_;rintro _ _ ⟨_,⟨A29,n29,c29,A30,n30,c30,rfl,rfl⟩,rfl⟩;refine gD (aE eA J) ?_;rintro _ _ ⟨B31,rfl,rfl⟩;refine gO (ao (us:=[iV y28.Kind,iV y28.Shape,iV y28.Flags,iV y28.Age,U A29 n29 c29,U A30 n30 c30]) (cs':=[iV y28.Kind,iV y28.Shape,iV y28.Flags,iV y28.Age,U A29 n29 c29,U A30 n30 c30]) 0 J J J J bL J J J) ?_;rintro _ _ rfl;refine cp ?_;refine Y ?_;refine au J (fun g32=> ?_) (fun g32=> ?_)
    ·replace h:=ag g32 h;refine ik (t:=[(0,pV B1 0),(2,.bool false),(3,iV (a0.all_.length:Int)),(6,pV B31 0),(18,.slice A12 a0.all_.length a0.all_.length),(19,iV ((List.take a0.all_.length a0.all_).length:Int)),(20,iV p14)]) ?_ mN (aj _)
     refine jS I 6 [0] [0,1,5] [33,34,35,36,37,38] [[],[],[],[2],[3],[4]] [aV (pV B1 0),
 aV (.agg #[iV y28.Kind,iV y28.Shape,iV y28.Flags,iV y28.Age,U A29 n29 c29,U A30 n30 c30]),
 aV (pV B1 0),
 aV (pV B1 0),
 aV (pV B1 2),
 aV (U A17 n17 c17)] [] (aj _) (wl rfl mr) I rfl rfl ?_ ?_ ?_
     ·refine wk J ?_ ?_
      ·exact E8 (aw J) J (bq J (aj _))
      exact mq
     ·refine ak J ?_ ?_
      ·exact fi (aJ 7 J J lA J) J (bq J (aj _))
      refine ak J ?_ ?_
      ·exact cF (bz J zB) J (bq J (aj _))
      refine ak J ?_ ?_
      ·exact cF (aB J) J (bq J (aj _))
      refine ak J ?_ ?_
      ·exact cF (aw J) J (bq J (aj _))
      refine ak J ?_ ?_
      ·exact fi (aD (us:=[iV y28.Kind,iV y28.Shape,iV y28.Flags,iV y28.Age,U A29 n29 c29,U A30 n30 c30]) 0 J J bA J) J (bq J (aj _))
      refine ak J ?_ ?_
      ·exact cF (aw J) J (bq J (aj _))
      exact fo
     refine nP (t:=[(33,pV B1 0),(34,.agg #[iV y28.Kind,iV y28.Shape,iV y28.Flags,iV y28.Age,U A29 n29 c29,U A30 n30 c30]),(38,U A17 n17 c17),(0,pV B1 0),(2,.bool false),(3,iV (a0.all_.length:Int)),(6,pV B31 0),(18,.slice A12 a0.all_.length a0.all_.length),(19,iV ((List.take a0.all_.length a0.all_).length:Int)),(20,iV p14)]) (L':=[am B31 42 [iV y28.Kind,iV y28.Shape,iV y28.Flags,iV y28.Age,U A29 n29 c29,U A30 n30 c30],bf A29 n29 c29 y28.Slots,bf A30 n30 c30 y28.More,bB A15 n15 c15 p15,bB A16 n16 c16 p16,kZ (iP .i64) 3 (U A17 n17 c17) p17 (.slice A12 a0.all_.length a0.all_.length) a0.all_.length,aK bR Bn M18 p18,am B1 229 [U A15 n15 c15,U A16 n16 c16,U A17 n17 c17,.map (some M18),iV p19]]) ?_ mN (aj _);obtain ⟨y33,hy33,h⟩:=aa h;refine pH 6 J I (ai (xa hy33) Ju J (hJ (ad (i:=1) J) (hJ (ad (i:=2) J) (hJ (KK (i:=5) J) ac))) tS) J J J ?_;rintro _ _ ⟨_,⟨A34,n34,c34,rfl,rfl⟩,rfl⟩;refine nP ?_ cB (cV 0 J);obtain ⟨y35,hy35,h⟩:=aa h;refine pH 7 J I (aT (xR hy35) F5 J (aI [4,5,0] [8,6,7] [0,1,2,3,4,5] 9 J)) J J J ?_;rintro _ _ ⟨_,⟨A36,n36,c36,A37,n37,c37,A38,n38,c38,M39,rfl,rfl⟩,rfl⟩;refine mB I ?_;refine Y ?_;exact ⟨_,_,⟨y35.m_.Young,y35.m_.Old,y35.all_,y35.met_,y35.done_,A36,n36,c36,A37,n37,c37,A38,n38,c38,M39,h,J,J⟩,sA,cS [1,2,3,4,0] 11⟩
    replace h:=ah g32 h;refine Y ?_;exact ⟨_,_,⟨p15,p16,p17,p18,p19,A15,n15,c15,A16,n16,c16,A17,n17,c17,M18,h,J,J⟩,sA,cS [3,4,5,6,7] 8⟩
   rintro _ _ ⟨p22,p23,p24,p25,p26,A22,n22,c22,A23,n23,c23,A24,n24,c24,M25,h,rfl,rfl⟩;refine cE ?_;obtain ⟨q40,h⟩:=ap h;refine gE (aW J J q40.1 q40.2) ?_;refine Y ?_;exact ⟨m13,_,_,Tk _,⟨p14+1,p22,p23,p24,p25,p26,A22,n22,c22,A23,n23,c23,A24,n24,c24,M25,h,J,J⟩,sA,cS [0,1,2,3,4] 5⟩
  replace h:=ah g20 h;refine Y ?_;exact ⟨_,_,⟨p15,p16,p17,p18,p19,A15,n15,c15,A16,n16,c16,A17,n17,c17,M18,h,J,J⟩,sA,(K4 2 J).trans (cS [0,1,2,3,4] 5)⟩
 rintro _ _ ⟨p7,p8,p9,p10,p11,A7,n7,c7,A8,n8,c8,A9,n9,c9,M10,h,rfl,rfl⟩;refine Y ?_;refine gR (aU 2 J aH J z3) ?_;refine Y ?_;obtain rfl:=aq h;exact aL J J (cS [4,0,1,2,3] 5) ⟨_,_,_,_,_,_,_,_,_,_,J,J⟩
def ph (N:Nat)(p12:(List Ta))(p13:(List Ta))(p14:(List Int))(p15:(List (Int×Unit)))(p16:Int):Option (List Int):=
 some p14
def jX (N:Nat):Nat→(List Ta)→(List Ta)→(List Int)→(List (Int×Unit))→Int→Option (List Int)
 |0,_,_,_,_,_=>none
 |m17+1,p18,p19,p20,p21,p22=>(jj N (⟨(⟨p18,p19⟩:SP),p20,p21,p22⟩:Tf)).bind fun y23=>bif y23.1 then ((gn N y23.2).bind fun y29=>(jX N m17) y29.m_.Young y29.m_.Old y29.all_ y29.met_ y29.done_) else (ph N y23.2.m_.Young y23.2.m_.Old y23.2.all_ y23.2.met_ y23.2.done_)
def eE (N:Nat)(a0:SP)(a1:(List SR)):Option (List Int):=
 (ke N a0 a1).bind fun y5=>jX N N y5.m_.Young y5.m_.Old y5.all_ y5.met_ y5.done_
theorem CG {N:Nat}{a0:SP}{a1:(List SR)}{r:(List Int)}(h:eE N a0 a1=some r):Okc Tryz.prog 164 [.agg #[U A1 n1 c1,U A2 n2 c2],U A3 n3 c3] ([bB A1 n1 c1 a0.Young,bB A2 n2 c2 a0.Old,bE A3 n3 c3 a1]) (fun u post=> ∃A0 n0 c0,u=U A0 n0 c0∧post=[eC A0 n0 c0 r]):=by
 refine bp Tryz.func164 J J ?_;simp only [aP];refine Y ?_;refine gD (bn J J) ?_;rintro _ _ ⟨B4,rfl,rfl⟩;refine Y ?_;refine gR (aD (us:=[U A1 n1 c1,U A2 n2 c2]) 0 J J fe J) ?_;refine Y ?_;obtain ⟨y5,hy5,h⟩:=aa h;refine gD (aT (CE hy5) OE J (aI [1,2,3] [] [0,1,2,3] 4 J)) ?_;rintro _ _ ⟨_,⟨B6,A7,n7,c7,A8,n8,c8,A9,n9,c9,M10,rfl,rfl⟩,rfl⟩;refine Y ?_;refine aM (fun s L=> ∃p12 p13 p14 p15 p16 A12 n12 c12 A13 n13 c13 A14 n14 c14 M15,ph N p12 p13 p14 p15 p16=some r∧s=[(4,U none 0 0),(5,pV B6 0)]∧L=[bB A12 n12 c12 p12,bB A13 n13 c13 p13,eC A14 n14 c14 p14,aK bR Bn M15 p15,am B6 229 [U A12 n12 c12,U A13 n13 c13,U A14 n14 c14,.map (some M15),iV p16]]) ?_ ?_
 ·refine iK ?_;refine bv (fun m s L=> ∃p18 p19 p20 p21 p22 A18 n18 c18 A19 n19 c19 A20 n20 c20 M21,jX N m p18 p19 p20 p21 p22=some r∧s=[(4,U none 0 0),(5,pV B6 0)]∧L=[bB A18 n18 c18 p18,bB A19 n19 c19 p19,eC A20 n20 c20 p20,aK bR Bn M21 p21,am B6 229 [U A18 n18 c18,U A19 n19 c19,U A20 n20 c20,.map (some M21),iV p22]]) N _ _ ⟨y5.m_.Young,y5.m_.Old,y5.all_,y5.met_,y5.done_,A7,n7,c7,A8,n8,c8,A9,n9,c9,M10,h,J,J⟩ sA (cS [1,2,3,4,0] 9) ?_;rintro (_|m17) _ _ ⟨p18,p19,p20,p21,p22,A18,n18,c18,A19,n19,c19,A20,n20,c20,M21,h,rfl,rfl⟩
  ·exact aG h
  rw [jX.eq_2] at h;refine ax ?_;refine Y ?_;obtain ⟨y23,hy23,h⟩:=aa h;refine gD (aT (yF hy23) OD J (aI [0,1] [4,2,3] [0,1] 5 J)) ?_;rintro _ _ ⟨_,⟨A24,n24,c24,A25,n25,c25,A26,n26,c26,M27,rfl,rfl⟩,rfl⟩;refine Y ?_;refine au J (fun g28=> ?_) (fun g28=> ?_)
  ·replace h:=ag g28 h;refine Y ?_;obtain ⟨y29,hy29,h⟩:=aa h;refine gD (aT (oT hy29) Jw J (aI [1,2] [0,3,4] [1,2,5,6] 7 J)) ?_;rintro _ _ ⟨_,⟨A30,n30,c30,A31,n31,c31,A32,n32,c32,M33,rfl,rfl⟩,rfl⟩;refine cp ?_;refine Y ?_;exact ⟨m17,_,_,Tk _,⟨y29.m_.Young,y29.m_.Old,y29.all_,y29.met_,y29.done_,A30,n30,c30,A31,n31,c31,A32,n32,c32,M33,h,J,J⟩,sA,cS [1,2,3,4,0] 9⟩
  replace h:=ah g28 h;refine Y ?_;exact ⟨_,_,⟨y23.2.m_.Young,y23.2.m_.Old,y23.2.all_,y23.2.met_,y23.2.done_,A24,n24,c24,A25,n25,c25,A26,n26,c26,M27,h,J,J⟩,sA,cS [1,2,3,4,0] 7⟩
 rintro _ _ ⟨p12,p13,p14,p15,p16,A12,n12,c12,A13,n13,c13,A14,n14,c14,M15,h,rfl,rfl⟩;refine Y ?_;obtain rfl:=aq h;exact aL J J (cS [2] 5) ⟨_,_,_,J,J⟩
theorem Ah {r:(List Int)}: ∀v post,((fun (u:Value) (post:List Chunk)=> ∃A0 n0 c0,u=U A0 n0 c0∧post=[eC A0 n0 c0 r])) v post→ ∀c∈post,ce c:=by
 rintro _ _ ⟨_,_,_,rfl,rfl⟩;exact hJ bP (ac)
def rH (N:Nat)(a0:Int):Option Bool:=
 some (!decide (a0=a0))
theorem zN {N:Nat}{a0:Int}{r:Bool}(h:rH N a0=some r):Okc Tryz.prog 182 [iV a0] ([]) (fun u post=>u=.bool r∧post=[]):=by
 refine bp Tryz.func182 J J ?_;simp only [aP];refine Y ?_;obtain rfl:=aq h;exact aL J J (cS [] 0) ⟨J,J⟩
theorem vK {r:Bool}: ∀v post,((fun (u:Value) (post:List Chunk)=>u=.bool r∧post=[])) v post→ ∀c∈post,ce c:=by
 rintro _ _ ⟨rfl,rfl⟩;exact ac
def tD (N:Nat)(a0:Int)(a1:Int):Option Bool:=
 (rH N a0).bind fun y1=>(bif y1 then ((rH N a1).bind fun y3=>some (!y3)) else (some false)).bind fun b2=>(bif b2 then (some true) else (some (decide (a0<a1)))).bind fun b4=>some b4
theorem Ho {N:Nat}{a0:Int}{a1:Int}{r:Bool}(h:tD N a0 a1=some r):Okc Tryz.prog 144 [iV a0,iV a1] ([]) (fun u post=>u=.bool r∧post=[]):=by
 refine bp Tryz.func144 J J ?_;simp only [aP];refine Y ?_;obtain ⟨y1,hy1,h⟩:=aa h;refine gD (ai (zN hy1) Jx J (ac) vK) ?_;rintro _ _ ⟨_,⟨rfl,rfl⟩,rfl⟩;refine Y ?_;obtain ⟨b2,hb2,h⟩:=aa h;refine aO 4 11 b2 ?_ ?_
 ·clear h;refine aN 7 J (fun g2=> ?_) (fun g2=> ?_)
  ·have h:=ag g2 hb2;refine Y ?_;obtain ⟨y3,hy3,h⟩:=aa h;refine dn (ai (zN hy3) Jx J (ac) vK) J (bU g2 J) J ?_;rintro _ _ ⟨_,⟨rfl,rfl⟩,rfl⟩;refine Y ?_;obtain rfl:=aq h;exact ae sA (cS [] 0)
  have h:=ah g2 hb2;refine Y ?_;obtain rfl:=aq h;exact ae sA (cS [] 0)
 refine Y ?_;obtain ⟨b4,hb4,h⟩:=aa h;refine aO 4 16 b4 ?_ ?_
 ·clear h;refine aN 12 J (fun g4=> ?_) (fun g4=> ?_)
  ·have h:=ag g4 hb4;refine Y ?_;obtain rfl:=aq h;exact ae sA (cS [] 0)
  have h:=ah g4 hb4;refine Y ?_;obtain rfl:=aq h;exact ae sA (cS [] 0)
 refine Y ?_;obtain rfl:=aq h;exact aL J J (cS [] 0) ⟨J,J⟩
theorem Ec {r:Bool}: ∀v post,((fun (u:Value) (post:List Chunk)=>u=.bool r∧post=[])) v post→ ∀c∈post,ce c:=by
 rintro _ _ ⟨rfl,rfl⟩;exact ac
def ed (N:Nat)(a0:SP)(a1:(List SR)):Option (List Int):=
 (eE N a0 a1).bind fun y5=>(lP N y5).bind fun y7=>some y7
theorem DY {N:Nat}{a0:SP}{a1:(List SR)}{r:(List Int)}(h:ed N a0 a1=some r):Okc Tryz.prog 124 [.agg #[U A1 n1 c1,U A2 n2 c2],U A3 n3 c3] ([bB A1 n1 c1 a0.Young,bB A2 n2 c2 a0.Old,bE A3 n3 c3 a1]) (fun u post=> ∃A0 n0 c0,u=U A0 n0 c0∧post=[eC A0 n0 c0 r]):=by
 refine bp Tryz.func124 J J ?_;simp only [aP];refine Y ?_;refine gD (bn J J) ?_;rintro _ _ ⟨B4,rfl,rfl⟩;refine Y ?_;refine gR (aD (us:=[U A1 n1 c1,U A2 n2 c2]) 0 J J fe J) ?_;refine Y ?_;obtain ⟨y5,hy5,h⟩:=aa h;refine gD (ai (CG hy5) OQ J (hJ (ab (i:=1) J J) (hJ (ab (i:=2) J J) (hJ (ab (i:=3) J J) ac))) Ah) ?_;rintro _ _ ⟨_,⟨A6,n6,c6,rfl,rfl⟩,rfl⟩;refine Y ?_;obtain ⟨y7,hy7,h⟩:=aa h;refine gD (aT (Cp hy7) OY J (aI [] [0] [1,2,3,4] 5 J)) ?_;rintro _ _ ⟨_,⟨rfl,rfl⟩,rfl⟩;refine Y ?_;obtain rfl:=aq h;exact aL J J (cS [0] 5) ⟨_,_,_,J,J⟩
theorem BE {r:(List Int)}: ∀v post,((fun (u:Value) (post:List Chunk)=> ∃A0 n0 c0,u=U A0 n0 c0∧post=[eC A0 n0 c0 r])) v post→ ∀c∈post,ce c:=by
 rintro _ _ ⟨_,_,_,rfl,rfl⟩;exact hJ bP (ac)
def np (N:Nat){σ:Type}(kb4:Int→Int→σ→Option σ)(fy:(Int×Int)→σ→Option (Bool×σ))(p6:Int)(a1:(List Int))(p10:Int)(p11:σ):Option σ:=
 bi (in64 (p6+1)) (kb4 p10 (p6+1) p11)
def jN (N:Nat){σ:Type}(kb4:Int→Int→σ→Option σ)(kb13:Int→Int→σ→Option σ)(fy:(Int×Int)→σ→Option (Bool×σ))(x12:Int)(p6:Int)(a1:(List Int))(p15:Int)(p19:Int)(p20:σ):Option σ:=
 bi (in64 (p15+1)) (kb13 p19 (p15+1) p20)
def da (N:Nat){σ:Type}(kb4:Int→Int→σ→Option σ)(fy:(Int×Int)→σ→Option (Bool×σ))(x12:Int)(p6:Int)(a1:(List Int)):Nat→Int→Int→σ→Option σ
 |0,_,_,_=>none
 |m13+1,p14,p15,p16=>bif decide (p15<(a1.length:Int)) then ((aF a1 p15).bind fun x21=>bif !decide (x21.tmod 2=x12) then (jN N kb4 (da N kb4 fy x12 p6 a1 m13) fy x12 p6 a1 p15 p14 p16) else ((fy (p14,x21) p16).bind fun y23=>bif !y23.1 then (some y23.2) else (bi (in64 (p14+1)) (jN N kb4 (da N kb4 fy x12 p6 a1 m13) fy x12 p6 a1 p15 (p14+1) y23.2)))) else (np N kb4 fy p6 a1 p14 p16)
def eR (N:Nat){σ:Type}(fy:(Int×Int)→σ→Option (Bool×σ))(a1:(List Int)):Nat→Int→Int→σ→Option σ
 |0,_,_,_=>none
 |m4+1,p5,p6,p7=>bif decide (p6<(([0,1]:List Int).length:Int)) then ((aF ([0,1]:List Int) p6).bind fun x12=>da N (eR N fy a1 m4) fy x12 p6 a1 N p5 0 p7) else (some p7)
def eu (N:Nat){σ:Type}(a1:(List Int))(fy:(Int×Int)→σ→Option (Bool×σ))(s0:σ):Option σ:=
 eR N fy a1 N 0 0 s0
set_option maxHeartbeats 4000000 in
theorem ry {N:Nat}{σ:Type}{a1:(List Int)}{fy:(Int×Int)→σ→Option (Bool×σ)}{s0:σ}{r:σ}(h:eu N a1 fy s0=some r){l:Nat}{G:σ→List Chunk}(hY:rJ Tryz.prog l G (fun x=> [iV x.1,iV x.2]) fy):Okc Tryz.prog 165 [.func (.yield l) #[] #[],pV B1 0] (aR B1 39 [U A2 n2 c2]::ex A2 n2 c2 a1::(G s0)) (fun u post=>u=.tuple #[]∧post=G r):=by
 refine bp Tryz.func165 J J ?_;simp only [aP];refine Y ?_;refine gD (bJ (R:=(iP .i64)) (vss:=[[iV 0],[iV 1]]) (xs:=[0,1]) J (Na _ _) J J (fun _ _ hr=> .cons J (.cons J All2.nil))) ?_;rintro _ _ ⟨A3,n3,c3,rfl,rfl⟩;refine gR (aU 0 J aH J z3) ?_;refine Y ?_;refine bv (fun m s L=> ∃p5 p6 p7,eR N fy a1 m p5 p6 p7=some r∧s=[(0,.func (.yield l) #[] #[]),(1,pV B1 0),(3,iV p5),(8,U A3 n3 c3),(9,iV (([0,1]:List Int).length:Int)),(10,iV p6)]∧L=eC A3 n3 c3 ([0,1]:List Int)::ex A2 n2 c2 a1::aR B1 39 [U A2 n2 c2]::(G p7)) N _ _ ⟨0,0,s0,h,J,J⟩ sA (cS [0,2,1] 3) ?_;rintro (_|m4) _ _ ⟨p5,p6,p7,h,rfl,rfl⟩
 ·exact aG h
 rw [eR.eq_2] at h;refine Y ?_;refine ax ?_;refine au J (fun g8=> ?_) (fun g8=> ?_)
 ·replace h:=ag g8 h;refine Y ?_;refine aM (fun s L=> ∃p10 p11,np N (eR N fy a1 m4) fy p6 a1 p10 p11=some r∧s=[(0,.func (.yield l) #[] #[]),(1,pV B1 0),(3,iV p10),(8,U A3 n3 c3),(9,iV (([0,1]:List Int).length:Int)),(10,iV p6)]∧L=eC A3 n3 c3 ([0,1]:List Int)::ex A2 n2 c2 a1::aR B1 39 [U A2 n2 c2]::(G p11)) ?_ ?_
  ·refine Y ?_;obtain ⟨x12,hx12,h⟩:=aa h;obtain ⟨lx12,ux12,hx12⟩:=aA hx12;refine gR (aX 0 J aH J J z3 dP lx12 ux12) ?_;refine gR (bH (u:=iV x12) 0 J aH J hx12 dy (fun _ _ _ h=>by rw [show _=_ from h];rfl)) ?_;refine Y ?_;refine gR (ba 2 J J lA J) ?_;refine gR (aU 1 J av J z3) ?_;refine Y ?_;refine bv (fun m s L=> ∃p14 p15 p16,da N (eR N fy a1 m4) fy x12 p6 a1 m p14 p15 p16=some r∧s=[(0,.func (.yield l) #[] #[]),(1,pV B1 0),(3,iV p14),(5,iV x12),(8,U A3 n3 c3),(9,iV (([0,1]:List Int).length:Int)),(10,iV p6),(14,U A2 n2 c2),(15,iV (a1.length:Int)),(16,iV p15)]∧L=eC A3 n3 c3 ([0,1]:List Int)::ex A2 n2 c2 a1::aR B1 39 [U A2 n2 c2]::(G p16)) N _ _ ⟨p5,0,p7,h,J,J⟩ sA (cS [0,1,2] 3) ?_;rintro (_|m13) _ _ ⟨p14,p15,p16,h,rfl,rfl⟩
   ·exact aG h
   rw [da.eq_2] at h;refine Y ?_;refine ax ?_;refine au J (fun g17=> ?_) (fun g17=> ?_)
   ·replace h:=ag g17 h;refine Y ?_;refine aM (fun s L=> ∃p19 p20,jN N (eR N fy a1 m4) (da N (eR N fy a1 m4) fy x12 p6 a1 m13) fy x12 p6 a1 p15 p19 p20=some r∧s=[(0,.func (.yield l) #[] #[]),(1,pV B1 0),(3,iV p19),(5,iV x12),(8,U A3 n3 c3),(9,iV (([0,1]:List Int).length:Int)),(10,iV p6),(14,U A2 n2 c2),(15,iV (a1.length:Int)),(16,iV p15)]∧L=eC A3 n3 c3 ([0,1]:List Int)::ex A2 n2 c2 a1::aR B1 39 [U A2 n2 c2]::(G p20)) ?_ ?_
    ·refine Y ?_;obtain ⟨x21,hx21,h⟩:=aa h;obtain ⟨lx21,ux21,hx21⟩:=aA hx21;refine gR (aX 1 J av J J z3 dP lx21 ux21) ?_;refine gR (bH (u:=iV x21) 1 J av J hx21 dy (fun _ _ _ h=>by rw [show _=_ from h];rfl)) ?_;refine Y ?_;refine ax ?_;refine Y ?_;refine gE (tx J J (by decide)) ?_;refine Y ?_;refine au J (fun g22=> ?_) (fun g22=> ?_)
     ·replace h:=ag g22 h;refine Y ?_;exact ⟨_,_,⟨p14,p16,h,J,J⟩,sA,cS [0,1,2] 3⟩
     replace h:=ah g22 h;refine Y ?_;refine ax ?_;refine Y ?_;obtain ⟨y23,hy23,h⟩:=aa h;refine gD (wo (a:=(p14,x21)) [eC A3 n3 c3 ([0,1]:List Int),ex A2 n2 c2 a1,aR B1 39 [U A2 n2 c2]] hY hy23 J J) ?_;rintro _ _ ⟨rfl,rfl⟩;refine Y ?_;refine au J (fun g24=> ?_) (fun g24=> ?_)
     ·replace h:=ag g24 h;refine Y ?_;obtain rfl:=aq h;exact EY J (cS [] 3) ⟨J,J⟩
     replace h:=ah g24 h;refine Y ?_;obtain ⟨q25,h⟩:=ap h;refine gE (aW J J q25.1 q25.2) ?_;refine Y ?_;exact ⟨_,_,⟨p14+1,y23.2,h,J,J⟩,sA,cS [0,1,2] 3⟩
    rintro _ _ ⟨p19,p20,h,rfl,rfl⟩;refine cE ?_;obtain ⟨q26,h⟩:=ap h;refine gE (aW J J q26.1 q26.2) ?_;refine Y ?_;exact ⟨m13,_,_,Tk _,⟨p19,p15+1,p20,h,J,J⟩,sA,cS [0,1,2] 3⟩
   replace h:=ah g17 h;refine Y ?_;exact ⟨_,_,⟨p14,p16,h,J,J⟩,sA,cS [0,1,2] 3⟩
  rintro _ _ ⟨p10,p11,h,rfl,rfl⟩;refine cE ?_;obtain ⟨q27,h⟩:=ap h;refine gE (aW J J q27.1 q27.2) ?_;refine Y ?_;exact ⟨m4,_,_,Tk _,⟨p10,p6+1,p11,h,J,J⟩,sA,cS [0,1,2] 3⟩
 replace h:=ah g8 h;refine Y ?_;obtain rfl:=aq h;exact jn J (cS [] 3) ⟨J,J⟩
def iW (N:Nat)(a0:(List Int)):Option Unit:=
 some ()
theorem vv {N:Nat}{a0:(List Int)}{r:Unit}(h:iW N a0=some r):Okc Tryz.prog 125 [U A1 n1 c1] ([ex A1 n1 c1 a0]) (fun u post=> ∃B900,u=.func (.func 165) #[] #[pV B900 0]∧post=[am B900 39 [U A1 n1 c1]]):=by
 refine bp Tryz.func125 J J ?_;simp only [aP];refine Y ?_;refine gD (bn J J) ?_;rintro _ _ ⟨B2,rfl,rfl⟩;refine Y ?_;refine gE (dZ J) ?_;refine Y ?_;obtain rfl:=aq h;exact aL J J (cS [0] 2) ⟨_,J,J⟩
theorem sI {A1:Option Addr}{n1:Nat}{c1:Nat}: ∀v post,((fun (u:Value) (post:List Chunk)=> ∃B900,u=.func (.func 165) #[] #[pV B900 0]∧post=[am B900 39 [U A1 n1 c1]])) v post→ ∀c∈post,ce c:=by
 rintro _ _ ⟨_,rfl,rfl⟩;exact hJ o3 (ac)
def iq (N:Nat)(a0:SR)(a1:(List Int)):Option Bool:=
 (dM N a1 a0.N).bind fun y4=>some y4
theorem z1 {N:Nat}{a0:SR}{a1:(List Int)}{r:Bool}(h:iq N a0 a1=some r):Okc Tryz.prog 169 [(fC a0),pV B1 0] ([aR B1 39 [U A2 n2 c2],ex A2 n2 c2 a1]) (fun u post=>u=.bool r∧post=[]):=by
 refine bp Tryz.func169 J J ?_;simp only [aP];refine Y ?_;refine gD (bn J J) ?_;rintro _ _ ⟨B3,rfl,rfl⟩;refine Y ?_;refine gR (ba 1 J J lA J) ?_;refine Y ?_;obtain ⟨y4,hy4,h⟩:=aa h;refine gD (ai (jC hy4) BY J (hJ (ab (i:=2) J J) ac) iz) ?_;rintro _ _ ⟨_,⟨rfl,rfl⟩,rfl⟩;refine Y ?_;obtain rfl:=aq h;exact aL J J (cS [] 3) ⟨J,J⟩
def iL (N:Nat)(ff:SR→Option Bool)(y6:(Ta))(x12:SR×SR):((List SR))→Option (Option Exit×(List SR))
 |p13=>(ff x12.1).bind fun y18=>bif y18 then (bi (bQ (p13.length+([x12.1,x12.2]:List SR).length)) (some (none,p13++([x12.1,x12.2]:List SR)))) else (some (none,p13))
def uz (N:Nat)(a0:Ta)(ff:SR→Option Bool):Option Ta:=
 (fZ N a0).bind fun y6=>(kF N a0).bind fun y10=>(iy N a0 (cY (fun x st=>iL N ff y6 x st)) (none,[])).bind fun y14=>nO y14.1 (some (⟨y6.Kind,y6.Shape,y6.Flags,y6.Age,y6.Slots,y14.2⟩:Ta)) none (fun _=>none)
set_option maxHeartbeats 4000000 in
theorem Fb {N:Nat}{a0:Ta}{ff:SR→Option Bool}{r:Ta}(h:uz N a0 ff=some r){vf:Value}{G:List Chunk}(hf:IJ Tryz.prog vf G (fun x=> [.agg #[iV x.Kind,iV x.N,.string x.S]]) (fun r=> .bool r) ff):Okc Tryz.prog 168 [.agg #[iV a0.Kind,iV a0.Shape,iV a0.Flags,iV a0.Age,U A1 n1 c1,U A2 n2 c2],vf] (bE A1 n1 c1 a0.Slots::bE A2 n2 c2 a0.More::G) (fun u post=> ∃A0 n0 c0 A1 n1 c1,u=.agg #[iV r.Kind,iV r.Shape,iV r.Flags,iV r.Age,U A0 n0 c0,U A1 n1 c1]∧post=[bf A0 n0 c0 r.Slots,bf A1 n1 c1 r.More]):=by
 refine bp Tryz.func168 J J ?_;simp only [aP];refine Y ?_;refine gD (bn J J) ?_;rintro _ _ ⟨B3,rfl,rfl⟩;refine gD (bn J (Mf hf)) ?_;rintro _ _ ⟨B4,rfl,rfl⟩;refine gD (aE eA J) ?_;rintro _ _ ⟨B5,rfl,rfl⟩;refine Y ?_;refine gR (aD (us:=[iV a0.Kind,iV a0.Shape,iV a0.Flags,iV a0.Age,U A1 n1 c1,U A2 n2 c2]) 2 J J bA J) ?_;obtain ⟨y6,hy6,h⟩:=aa h;refine gD (ai (lu hy6) AH J (hJ (ab (i:=3) J J) (hJ (ab (i:=4) J J) ac)) jt) ?_;rintro _ _ ⟨_,⟨A7,n7,c7,A8,n8,c8,rfl,rfl⟩,rfl⟩;refine gD (aE eA J) ?_;rintro _ _ ⟨B9,rfl,rfl⟩;refine gO (ao (us:=[iV y6.Kind,iV y6.Shape,iV y6.Flags,iV y6.Age,U A7 n7 c7,U A8 n8 c8]) (cs':=[iV y6.Kind,iV y6.Shape,iV y6.Flags,iV y6.Age,U A7 n7 c7,U A8 n8 c8]) 0 J J J J bL J J J) ?_;rintro _ _ rfl;refine Y ?_;refine gO (ao (us:=[U none 0 0]) (cs':=[iV y6.Kind,iV y6.Shape,iV y6.Flags,iV y6.Age,U A7 n7 c7,U none 0 0]) 0 J J J J eJ J J J) ?_;rintro _ _ rfl;refine Y ?_;refine ax ?_;refine Y ?_;refine gR (aD (us:=[iV a0.Kind,iV a0.Shape,iV a0.Flags,iV a0.Age,U A1 n1 c1,U A2 n2 c2]) 5 J J bA J) ?_;obtain ⟨y10,hy10,h⟩:=aa h;refine gD (ai (tR hy10) Jv J (hJ (ab (i:=6) J J) (hJ (ab (i:=7) J J) ac)) re) ?_;rintro _ _ ⟨_,⟨B11,rfl,rfl⟩,rfl⟩;refine pI ?_;refine fb ?_;refine ik ?_ cB (gP 0 J);refine Eh ?_;obtain ⟨y14,hy14,h⟩:=aa h
 refine sS (en:=(fun x=> [.agg #[iV x.1.Kind,iV x.1.N,.string x.1.S],.agg #[iV x.2.Kind,iV x.2.N,.string x.2.S]])) (fun x st=>iL N ff y6 x st) (fun (st:(List SR)) (mz:((Option Addr×Nat×Nat)))=> [am B4 89 [vf],am B5 42 [iV 0,iV 0,iV 0,iV 0,U none 0 0,U none 0 0],bf A7 n7 c7 y6.Slots,eN bj 23 (.slice mz.1 mz.2.1 mz.2.2) st,am B9 42 [iV y6.Kind,iV y6.Shape,iV y6.Flags,iV y6.Age,U A7 n7 c7,.slice mz.1 mz.2.1 mz.2.2]]++G) [aR B11 42 [iV a0.Kind,iV a0.Shape,iV a0.Flags,iV a0.Age,U A1 n1 c1,U A2 n2 c2],bE A1 n1 c1 a0.Slots,bE A2 n2 c2 a0.More] ([]) ((none,0,0)) J J Jt J (fun _=>J) (fun l G hY=>(pZ hy14 hY).mono fun _ _ hh=>hh.2) ((cn bj 23 _).trans (aI [1,8,9] [] [6,5,3,0,2] 10 J)) h ?_ ?_ ?_ ?_
 ·rintro l x12 p13 je sr12 ⟨A13,n13,c13⟩ h;replace h:iL N ff y6 x12 p13=some (je,sr12):=h;simp only [zJ,List.zip_cons_cons,List.zip_nil_left,List.zip_nil_right,List.reverse_cons,List.reverse_nil,List.nil_append,List.cons_append];refine Y ?_;refine gD (aE d7 J) ?_;rintro _ _ ⟨B16,rfl,rfl⟩;refine gO (ao (us:=[iV x12.1.Kind,iV x12.1.N,.string x12.1.S]) (cs':=[iV x12.1.Kind,iV x12.1.N,.string x12.1.S]) 0 J J J J aS J J J) ?_;rintro _ _ rfl;refine Y ?_;refine gD (aE d7 J) ?_;rintro _ _ ⟨B17,rfl,rfl⟩;refine gO (ao (us:=[iV x12.2.Kind,iV x12.2.N,.string x12.2.S]) (cs':=[iV x12.2.Kind,iV x12.2.N,.string x12.2.S]) 0 J J J J aS J J J) ?_;rintro _ _ rfl;refine Y ?_;refine gR (aD (us:=[iV x12.1.Kind,iV x12.1.N,.string x12.1.S]) 1 J J bV J) ?_;obtain ⟨y18,hy18,h⟩:=aa h;refine gD (CY (a:=x12.1) [am B17 23 [iV x12.2.Kind,iV x12.2.N,.string x12.2.S],am B16 23 [iV x12.1.Kind,iV x12.1.N,.string x12.1.S],am B4 89 [vf],am B5 42 [iV 0,iV 0,iV 0,iV 0,U none 0 0,U none 0 0],bf A7 n7 c7 y6.Slots,bf A13 n13 c13 p13,am B9 42 [iV y6.Kind,iV y6.Shape,iV y6.Flags,iV y6.Age,U A7 n7 c7,U A13 n13 c13]] hf hy18 J J) ?_;rintro _ _ ⟨rfl,rfl⟩;refine cp ?_;refine Y ?_;refine au J (fun g19=> ?_) (fun g19=> ?_)
  ·replace h:=ag g19 h;refine Y ?_;refine gR (aD (us:=[iV x12.1.Kind,iV x12.1.N,.string x12.1.S]) 1 J J bV J) ?_;refine gR (aD (us:=[iV x12.2.Kind,iV x12.2.N,.string x12.2.S]) 0 J J bV J) ?_;refine gD (bJ (R:=bj) (vss:=[[iV x12.1.Kind,iV x12.1.N,.string x12.1.S],[iV x12.2.Kind,iV x12.2.N,.string x12.2.S]]) (xs:=[x12.1,x12.2]) J (vT _ _ _ _ _ _) J J (fun _ _ hr=> .cons J (.cons J All2.nil))) ?_;rintro _ _ ⟨A20,n20,c20,rfl,rfl⟩;obtain ⟨q21,h⟩:=ap h;refine gD (bK 6 0 J J aH J J t0 Ce J J q21) ?_;rintro _ _ ⟨A22,n22,c22,rfl,rfl⟩;refine Y ?_;refine gO (ao (us:=[U A22 n22 c22]) (cs':=[iV y6.Kind,iV y6.Shape,iV y6.Flags,iV y6.Age,U A7 n7 c7,U A22 n22 c22]) 7 J J J J eJ J J J) ?_;rintro _ _ rfl;refine Y ?_;obtain ⟨rfl,rfl⟩:=Prod.mk.inj (Option.some.inj h);exact BL ((cS [3,4,5,6,7] 8).trans (fV (A22,n22,c22) J))
  replace h:=ah g19 h;refine Y ?_;obtain ⟨rfl,rfl⟩:=Prod.mk.inj (Option.some.inj h);exact BL ((cS [2,3,4,5,6] 7).trans (fV (A13,n13,c13) J))
 ·rintro ⟨A13,n13,c13⟩ h;refine oM (am B4 89 [vf]::am B5 42 [iV 0,iV 0,iV 0,iV 0,U none 0 0,U none 0 0]::bf A7 n7 c7 y6.Slots::bf A13 n13 c13 y14.2::am B9 42 [iV y6.Kind,iV y6.Shape,iV y6.Flags,iV y6.Age,U A7 n7 c7,U A13 n13 c13]::G) J ?_;refine Y ?_;refine gR (aD (us:=[iV y6.Kind,iV y6.Shape,iV y6.Flags,iV y6.Age,U A7 n7 c7,U A13 n13 c13]) 4 J J bA J) ?_;refine gO (ao (us:=[iV y6.Kind,iV y6.Shape,iV y6.Flags,iV y6.Age,U A7 n7 c7,U A13 n13 c13]) (cs':=[iV y6.Kind,iV y6.Shape,iV y6.Flags,iV y6.Age,U A7 n7 c7,U A13 n13 c13]) 1 J J J J bL J J J) ?_;rintro _ _ rfl;refine cp ?_;refine Y ?_;obtain rfl:=aq h;exact db (rs:=[.cell 4 42]) (vs:=[.agg #[iV y6.Kind,iV y6.Shape,iV y6.Flags,iV y6.Age,U A7 n7 c7,U A13 n13 c13]]) J (.cons (bT 1 J J bA) .nil) J (tz [2,3] 5 J J) ⟨_,_,_,_,_,_,J,J⟩
 ·rintro ⟨A13,n13,c13⟩ h;exact aG h
 rintro i ⟨A13,n13,c13⟩ h;exact aG h
theorem Cg {r:Ta}: ∀v post,((fun (u:Value) (post:List Chunk)=> ∃A0 n0 c0 A1 n1 c1,u=.agg #[iV r.Kind,iV r.Shape,iV r.Flags,iV r.Age,U A0 n0 c0,U A1 n1 c1]∧post=[bf A0 n0 c0 r.Slots,bf A1 n1 c1 r.More])) v post→ ∀c∈post,ce c:=by
 rintro _ _ ⟨_,_,_,_,_,_,rfl,rfl⟩;exact hJ bP (hJ bP (ac))
def jz (N:Nat)(a0:Ta)(a1:(List Int)):Option Ta:=
 (se N a0).bind fun y7=>bif !y7 then (some (⟨0,0,0,0,[],[]⟩:Ta)) else ((uz N a0 (fun x=>iq N x a1)).bind fun y11=>some y11)
theorem xb {N:Nat}{a0:Ta}{a1:(List Int)}{r:Ta}(h:jz N a0 a1=some r):Okc Tryz.prog 127 [.agg #[iV a0.Kind,iV a0.Shape,iV a0.Flags,iV a0.Age,U A1 n1 c1,U A2 n2 c2],U A3 n3 c3] ([bE A1 n1 c1 a0.Slots,bE A2 n2 c2 a0.More,ex A3 n3 c3 a1]) (fun u post=> ∃A0 n0 c0 A1 n1 c1,u=.agg #[iV r.Kind,iV r.Shape,iV r.Flags,iV r.Age,U A0 n0 c0,U A1 n1 c1]∧post=[bf A0 n0 c0 r.Slots,bf A1 n1 c1 r.More]):=by
 refine bp Tryz.func127 J J ?_;simp only [aP];refine Y ?_;refine gD (bn J J) ?_;rintro _ _ ⟨B4,rfl,rfl⟩;refine gD (bn J J) ?_;rintro _ _ ⟨B5,rfl,rfl⟩;refine gD (aE eA J) ?_;rintro _ _ ⟨B6,rfl,rfl⟩;refine Y ?_;refine ax ?_;refine Y ?_;refine gR (aD (us:=[iV a0.Kind,iV a0.Shape,iV a0.Flags,iV a0.Age,U A1 n1 c1,U A2 n2 c2]) 2 J J bA J) ?_;obtain ⟨y7,hy7,h⟩:=aa h;refine gD (ai (Ch hy7) JB J (hJ (ab (i:=3) J J) (hJ (ab (i:=4) J J) ac)) yo) ?_;rintro _ _ ⟨_,⟨rfl,rfl⟩,rfl⟩;refine Y ?_;refine au J (fun g8=> ?_) (fun g8=> ?_)
 ·replace h:=ag g8 h;refine Y ?_;refine gE (bo J (zT)) ?_;refine gO (ao (us:=[iV 0,iV 0,iV 0,iV 0,U none 0 0,U none 0 0]) (cs':=[iV 0,iV 0,iV 0,iV 0,U none 0 0,U none 0 0]) 0 J J J J bL J J J) ?_;rintro _ _ rfl;refine Y ?_;obtain rfl:=aq h;exact db (rs:=[.cell 4 42]) (vs:=[.agg #[iV 0,iV 0,iV 0,iV 0,U none 0 0,U none 0 0]]) J (.cons (bT 0 J J bA) .nil) J ((cn bj 23 _).trans ((cn bj 23 _).trans (cS [1,0] 8))) ⟨_,_,_,_,_,_,J,J⟩
 replace h:=ah g8 h;refine Y ?_;refine gR (aD (us:=[iV a0.Kind,iV a0.Shape,iV a0.Flags,iV a0.Age,U A1 n1 c1,U A2 n2 c2]) 2 J J bA J) ?_;refine gE (dZ J) ?_;obtain ⟨y11,hy11,h⟩:=aa h;refine gD (ai (Fb hy11 ⟨hJ J (hJ J ac),169, #[], #[pV B5 0],J,OO,fun _ _ hh=>z1 hh⟩) OP J (hJ (ab (i:=3) J J) (hJ (ab (i:=4) J J) (hJ (az (i:=1) J) (hJ (ab (i:=5) J J) ac)))) Cg) ?_;rintro _ _ ⟨_,⟨A12,n12,c12,A13,n13,c13,rfl,rfl⟩,rfl⟩;refine gO (ao (us:=[iV y11.Kind,iV y11.Shape,iV y11.Flags,iV y11.Age,U A12 n12 c12,U A13 n13 c13]) (cs':=[iV y11.Kind,iV y11.Shape,iV y11.Flags,iV y11.Age,U A12 n12 c12,U A13 n13 c13]) 2 J J J J bL J J J) ?_;rintro _ _ rfl;refine Y ?_;obtain rfl:=aq h;exact db (rs:=[.cell 4 42]) (vs:=[.agg #[iV y11.Kind,iV y11.Shape,iV y11.Flags,iV y11.Age,U A12 n12 c12,U A13 n13 c13]]) J (.cons (bT 2 J J bA) .nil) J (cS [0,1] 8) ⟨_,_,_,_,_,_,J,J⟩
theorem tT {r:Ta}: ∀v post,((fun (u:Value) (post:List Chunk)=> ∃A0 n0 c0 A1 n1 c1,u=.agg #[iV r.Kind,iV r.Shape,iV r.Flags,iV r.Age,U A0 n0 c0,U A1 n1 c1]∧post=[bf A0 n0 c0 r.Slots,bf A1 n1 c1 r.More])) v post→ ∀c∈post,ce c:=by
 rintro _ _ ⟨_,_,_,_,_,_,rfl,rfl⟩;exact hJ bP (hJ bP (ac))
def rB (N:Nat)(a0:Ta):Option Bool:=
 (bif decide (a0.Kind=10) then ((eg N a0).bind fun y5=>some y5) else (some false)).bind fun b4=>some b4
theorem FU {N:Nat}{a0:Ta}{r:Bool}(h:rB N a0=some r):Okc Tryz.prog 170 [.agg #[iV a0.Kind,iV a0.Shape,iV a0.Flags,iV a0.Age,U A1 n1 c1,U A2 n2 c2]] ([bE A1 n1 c1 a0.Slots,bE A2 n2 c2 a0.More]) (fun u post=>u=.bool r∧post=[]):=by
 refine bp Tryz.func170 J J ?_;simp only [aP];refine Y ?_;refine gD (bn J J) ?_;rintro _ _ ⟨B3,rfl,rfl⟩;refine Y ?_;obtain ⟨b4,hb4,h⟩:=aa h;refine aO 3 9 b4 ?_ ?_
 ·clear h;refine aN 6 J (fun g4=> ?_) (fun g4=> ?_)
  ·have h:=ag g4 hb4;refine cL (aD (us:=[iV a0.Kind,iV a0.Shape,iV a0.Flags,iV a0.Age,U A1 n1 c1,U A2 n2 c2]) 0 J J bA J) J (bU g4 J) J ?_;obtain ⟨y5,hy5,h⟩:=aa h;refine dn (ai (lY hy5) DI J (hJ (ab (i:=1) J J) (hJ (ab (i:=2) J J) ac)) kd) J (bU g4 J) J ?_;rintro _ _ ⟨_,⟨rfl,rfl⟩,rfl⟩;refine Y ?_;obtain rfl:=aq h;exact ae sA (cS [0,1,2] 3)
  have h:=ah g4 hb4;refine Y ?_;obtain rfl:=aq h;exact ae sA (cS [0,1,2] 3)
 refine Y ?_;obtain rfl:=aq h;exact aL J J (cS [] 3) ⟨J,J⟩
theorem Dr {r:Bool}: ∀v post,((fun (u:Value) (post:List Chunk)=>u=.bool r∧post=[])) v post→ ∀c∈post,ce c:=by
 rintro _ _ ⟨rfl,rfl⟩;exact ac
def rY (N:Nat)(a0:Ta):Option Ta:=
 (cR N a0.Slots).bind fun y5=>(aF a0.More 0).bind fun x7=>some (⟨a0.Kind,a0.Shape,a0.Flags,a0.Age,y5,([x7]:List SR)⟩:Ta)
theorem Dt {N:Nat}{a0:Ta}{r:Ta}(h:rY N a0=some r):Okc Tryz.prog 171 [.agg #[iV a0.Kind,iV a0.Shape,iV a0.Flags,iV a0.Age,U A1 n1 c1,U A2 n2 c2]] ([bE A1 n1 c1 a0.Slots,bE A2 n2 c2 a0.More]) (fun u post=> ∃A0 n0 c0 A1 n1 c1,u=.agg #[iV r.Kind,iV r.Shape,iV r.Flags,iV r.Age,U A0 n0 c0,U A1 n1 c1]∧post=[bf A0 n0 c0 r.Slots,bf A1 n1 c1 r.More]):=by
 refine bp Tryz.func171 J J ?_;simp only [aP];refine Y ?_;refine gD (bn J J) ?_;rintro _ _ ⟨B3,rfl,rfl⟩;refine gD (aE eA J) ?_;rintro _ _ ⟨B4,rfl,rfl⟩;refine Y ?_;obtain ⟨y5,hy5,h⟩:=aa h;refine gD (ai (fc hy5) vR J (hJ (ab (i:=2) J J) ac) dN) ?_;rintro _ _ ⟨_,⟨A6,n6,c6,rfl,rfl⟩,rfl⟩;refine Y ?_;refine gO (ao (us:=[U A6 n6 c6]) (cs':=[iV a0.Kind,iV a0.Shape,iV a0.Flags,iV a0.Age,U A6 n6 c6,U A2 n2 c2]) 2 J J J J eJ J J J) ?_;rintro _ _ rfl;refine Y ?_;obtain ⟨x7,hx7,h⟩:=aa h;obtain ⟨lx7,ux7,hx7⟩:=aA hx7;refine gR (aX 4 J av J J t0 aS lx7 ux7) ?_;refine gR (bG (us:=[iV x7.Kind,iV x7.N,.string x7.S]) 4 J av J hx7 bV (fun _ _ _ h=>by rw [show _=_ from h];rfl)) ?_;refine gD (bJ (R:=bj) (vss:=[[iV x7.Kind,iV x7.N,.string x7.S]]) (xs:=[x7]) J (vU _ _ _) J J (fun _ _ hr=> .cons J All2.nil)) ?_;rintro _ _ ⟨A8,n8,c8,rfl,rfl⟩;refine Y ?_;refine gO (ao (us:=[U A8 n8 c8]) (cs':=[iV a0.Kind,iV a0.Shape,iV a0.Flags,iV a0.Age,U A6 n6 c6,U A8 n8 c8]) 3 J J J J eJ J J J) ?_;rintro _ _ rfl;refine Y ?_;refine gR (aD (us:=[iV a0.Kind,iV a0.Shape,iV a0.Flags,iV a0.Age,U A6 n6 c6,U A8 n8 c8]) 3 J J bA J) ?_;refine gO (ao (us:=[iV a0.Kind,iV a0.Shape,iV a0.Flags,iV a0.Age,U A6 n6 c6,U A8 n8 c8]) (cs':=[iV a0.Kind,iV a0.Shape,iV a0.Flags,iV a0.Age,U A6 n6 c6,U A8 n8 c8]) 2 J J J J bL J J J) ?_;rintro _ _ rfl;refine cp ?_
 refine Y ?_;obtain rfl:=aq h;exact db (rs:=[.cell 2 42]) (vs:=[.agg #[iV a0.Kind,iV a0.Shape,iV a0.Flags,iV a0.Age,U A6 n6 c6,U A8 n8 c8]]) J (.cons (bT 2 J J bA) .nil) J (cS [1,0] 6) ⟨_,_,_,_,_,_,J,J⟩
theorem AC {r:Ta}: ∀v post,((fun (u:Value) (post:List Chunk)=> ∃A0 n0 c0 A1 n1 c1,u=.agg #[iV r.Kind,iV r.Shape,iV r.Flags,iV r.Age,U A0 n0 c0,U A1 n1 c1]∧post=[bf A0 n0 c0 r.Slots,bf A1 n1 c1 r.More])) v post→ ∀c∈post,ce c:=by
 rintro _ _ ⟨_,_,_,_,_,_,rfl,rfl⟩;exact hJ bP (hJ bP (ac))
def fU (N:Nat){σ:Type}(fy:(Int×(List SR))→σ→Option (Bool×σ))(a1:Ta):Nat→Int→σ→Option σ
 |0,_,_=>none
 |m4+1,p5,p6=>bi (in64 (p5+4)) (bif decide (p5+4≤(a1.More.length:Int)) then (bi (in64 (p5+4)) (bi (in64 (p5+4)) (bi ((0:Int)≤p5∧(0:Int)≤p5+4∧p5.toNat≤(p5+4).toNat∧(p5+4).toNat≤a1.More.length) ((fy (p5,(a1.More.drop p5.toNat).take ((p5+4).toNat - p5.toNat)) p6).bind fun y13=>bif !y13.1 then (some y13.2) else (bi (in64 (p5+4)) ((fU N fy a1 m4) (p5+4) y13.2)))))) else (some p6))
def lJ (N:Nat){σ:Type}(a1:Ta)(fy:(Int×(List SR))→σ→Option (Bool×σ))(s0:σ):Option σ:=
 fU N fy a1 N 1 s0
theorem vE {N:Nat}{σ:Type}{a1:Ta}{fy:(Int×(List SR))→σ→Option (Bool×σ)}{s0:σ}{r:σ}(h:lJ N a1 fy s0=some r){l:Nat}{G:σ→List Chunk}(hY:sR Tryz.prog l G (fun (x:Int×(List SR)) vs cs=> ∃A1 n1 c1,vs=[iV x.1,U A1 n1 c1]∧cs=[bE A1 n1 c1 x.2]) fy):Okc Tryz.prog 193 [.func (.yield l) #[] #[],pV B1 0] (aR B1 42 [iV a1.Kind,iV a1.Shape,iV a1.Flags,iV a1.Age,U A2 n2 c2,U A3 n3 c3]::bE A2 n2 c2 a1.Slots::bE A3 n3 c3 a1.More::(G s0)) (fun u post=>u=.tuple #[]∧post=G r):=by
 refine bp Tryz.func193 J J ?_;simp only [aP];refine Y ?_;refine bv (fun m s L=> ∃p5 p6,fU N fy a1 m p5 p6=some r∧s=[(0,.func (.yield l) #[] #[]),(1,pV B1 0),(3,iV p5)]∧L=bE A2 n2 c2 a1.Slots::bE A3 n3 c3 a1.More::aR B1 42 [iV a1.Kind,iV a1.Shape,iV a1.Flags,iV a1.Age,U A2 n2 c2,U A3 n3 c3]::(G p6)) N _ _ ⟨1,s0,h,J,J⟩ sA (cS [1,2,0] 3) ?_;rintro (_|m4) _ _ ⟨p5,p6,h,rfl,rfl⟩
 ·exact aG h
 rw [fU.eq_2] at h;refine ax ?_;refine Y ?_;obtain ⟨q7,h⟩:=ap h;refine gE (aW J J q7.1 q7.2) ?_;refine Y ?_;refine gR (ba 2 J J dD J) ?_;refine gR (aU 1 J av J t0) ?_;refine Y ?_;refine au J (fun g8=> ?_) (fun g8=> ?_)
 ·replace h:=ag g8 h;refine Y ?_;refine ax ?_;refine Y ?_;refine gR (ba 2 J J dD J) ?_;refine Y ?_;obtain ⟨q9,h⟩:=ap h;refine gE (aW J J q9.1 q9.2) ?_;refine Y ?_;obtain ⟨q10,h⟩:=ap h;refine gE (aW J J q10.1 q10.2) ?_;obtain ⟨q11,h⟩:=ap h;refine Nu 1 J (l:=p5.toNat) (h:=(p5+4).toNat) q11.2.2.1 q11.2.2.2 ?_;rintro A12 n12 c12 e12;refine gR (IX 2 J e12 J t0 aS J (by rw [Int.toNat_of_nonneg q11.1];rfl) (by rw [Int.toNat_of_nonneg q11.2.1];rfl) (by rw [Int.toNat_of_nonneg q11.2.1];rfl) q11.2.2.1 q11.2.2.2) ?_;obtain ⟨y13,hy13,h⟩:=aa h;refine gD (EC (a:=(p5,(a1.More.drop p5.toNat).take ((p5+4).toNat - p5.toNat))) [bE A12 n12 c12 ((a1.More.drop p5.toNat).take ((p5+4).toNat - p5.toNat)),bE A2 n2 c2 a1.Slots,bE A3 n3 c3 a1.More,aR B1 42 [iV a1.Kind,iV a1.Shape,iV a1.Flags,iV a1.Age,U A2 n2 c2,U A3 n3 c3]] hY hy13 J J ⟨_,_,_,J,J⟩ (Iq 0 J J)) ?_;rintro _ _ ⟨rfl,rfl⟩;refine Y ?_;refine au J (fun g14=> ?_) (fun g14=> ?_)
  ·replace h:=ag g14 h;refine Y ?_;obtain rfl:=aq h;exact EY J (cS [] 4) ⟨J,J⟩
  replace h:=ah g14 h;refine Y ?_;obtain ⟨q15,h⟩:=ap h;refine gE (aW J J q15.1 q15.2) ?_;refine Y ?_;exact ⟨m4,_,_,Tk _,⟨p5+4,y13.2,h,J,J⟩,sA,cS [1,2,3] 4⟩
 replace h:=ah g8 h;refine Y ?_;obtain rfl:=aq h;exact jn J (cS [] 3) ⟨J,J⟩
def oo (N:Nat)(a0:Ta):Option Unit:=
 some ()
theorem zv {N:Nat}{a0:Ta}{r:Unit}(h:oo N a0=some r):Okc Tryz.prog 172 [.agg #[iV a0.Kind,iV a0.Shape,iV a0.Flags,iV a0.Age,U A1 n1 c1,U A2 n2 c2]] ([bE A1 n1 c1 a0.Slots,bE A2 n2 c2 a0.More]) (fun u post=> ∃B900,u=.func (.func 193) #[] #[pV B900 0]∧post=[am B900 42 [iV a0.Kind,iV a0.Shape,iV a0.Flags,iV a0.Age,U A1 n1 c1,U A2 n2 c2]]):=by
 refine bp Tryz.func172 J J ?_;simp only [aP];refine Y ?_;refine gD (bn J J) ?_;rintro _ _ ⟨B3,rfl,rfl⟩;refine Y ?_;refine gE (dZ J) ?_;refine Y ?_;obtain rfl:=aq h;exact aL J J (cS [0] 3) ⟨_,J,J⟩
theorem wY {a0:Ta}{A1:Option Addr}{n1:Nat}{c1:Nat}{A2:Option Addr}{n2:Nat}{c2:Nat}: ∀v post,((fun (u:Value) (post:List Chunk)=> ∃B900,u=.func (.func 193) #[] #[pV B900 0]∧post=[am B900 42 [iV a0.Kind,iV a0.Shape,iV a0.Flags,iV a0.Age,U A1 n1 c1,U A2 n2 c2]])) v post→ ∀c∈post,ce c:=by
 rintro _ _ ⟨_,rfl,rfl⟩;exact hJ o3 (ac)
def lp (N:Nat)(x28:(Int×(List SR)))(a0:Ta)(p14:(List (Int×Bool)))(y21:(Ta))(p30:(List SR))(p31:(List SR))(p46:Int)(p47:Int)(p48:ByteArray):Option (Option Exit×(List SR)×(List SR)):=
 (aF x28.2 0).bind fun x51=>(aF x28.2 1).bind fun x52=>(aF x28.2 3).bind fun x53=>bi (bQ (p30.length+([x51,x52,(⟨p46,p47,p48⟩:SR),x53]:List SR).length)) (some (none,(p30++([x51,x52,(⟨p46,p47,p48⟩:SR),x53]:List SR),p31)))
def ft (N:Nat)(a0:Ta)(p14:(List (Int×Bool)))(y21:(Ta))(x28:Int×(List SR)):((List SR)×(List SR))→Option (Option Exit×((List SR)×(List SR)))
 |(p30,p31)=>(aF x28.2 0).bind fun x34=>bif !((lk p14 x34.N).getD false) then ((aF a0.More 0).bind fun x36=>(aF x28.2 1).bind fun x37=>(aF x28.2 3).bind fun x38=>bi (bQ (p31.length+([x36,x37,x38]:List SR).length)) (some (none,(p30,p31++([x36,x37,x38]:List SR))))) else ((aF x28.2 2).bind fun x43=>(bif decide (x43.Kind=7) then (some (!((lk p14 x43.N).getD false))) else (some false)).bind fun b49=>bif b49 then (lp N x28 a0 p14 y21 p30 p31 0 0 (⟨#[]⟩)) else (lp N x28 a0 p14 y21 p30 p31 x43.Kind x43.N x43.S))
def oq (N:Nat)(a0:Ta)(p14:(List (Int×Bool))):Option (Ta×(List SR)):=
 (rY N a0).bind fun y21=>(oo N a0).bind fun y26=>(lJ N a0 (cY (fun x st=>ft N a0 p14 y21 x st)) (none,(y21.More,[]))).bind fun y32=>nO y32.1 (some ((⟨y21.Kind,y21.Shape,y21.Flags,y21.Age,y21.Slots,y32.2.1⟩:Ta),y32.2.2)) none (fun _=>none)
def gN (N:Nat)(a1:(List Int))(a0:Ta):Nat→Int→(List (Int×Bool))→Option (Ta×(List SR))
 |0,_,_=>none
 |m15+1,p16,p17=>bif decide (p16<(a1.length:Int)) then ((aF a1 p16).bind fun x19=>bi (in64 (p16+1)) ((gN N a1 a0 m15) (p16+1) (um p17 x19 true))) else (oq N a0 p17)
def jm (N:Nat)(a0:Ta)(a1:(List Int)):Option (Ta×(List SR)):=
 (rB N a0).bind fun y6=>bif !y6 then (some ((⟨0,0,0,0,[],[]⟩:Ta),[])) else (gN N a1 a0 N 0 ([]:(List (Int×Bool))))
set_option maxHeartbeats 4000000 in
theorem ug {N:Nat}{a0:Ta}{a1:(List Int)}{r:(Ta×(List SR))}(h:jm N a0 a1=some r):Okc Tryz.prog 128 [.agg #[iV a0.Kind,iV a0.Shape,iV a0.Flags,iV a0.Age,U A1 n1 c1,U A2 n2 c2],U A3 n3 c3] ([bE A1 n1 c1 a0.Slots,bE A2 n2 c2 a0.More,ex A3 n3 c3 a1]) (fun u post=> ∃A0 n0 c0 A1 n1 c1 A2 n2 c2,u=.tuple #[.agg #[iV r.1.Kind,iV r.1.Shape,iV r.1.Flags,iV r.1.Age,U A0 n0 c0,U A1 n1 c1],U A2 n2 c2]∧post=[bf A0 n0 c0 r.1.Slots,bf A1 n1 c1 r.1.More,bf A2 n2 c2 r.2]):=by
 refine bp Tryz.func128 J J ?_;simp only [aP];refine Y ?_;refine gD (bn J J) ?_;rintro _ _ ⟨B4,rfl,rfl⟩;refine gD (aE eA J) ?_;rintro _ _ ⟨B5,rfl,rfl⟩;refine Y ?_;refine ax ?_;refine Y ?_;refine gR (aD (us:=[iV a0.Kind,iV a0.Shape,iV a0.Flags,iV a0.Age,U A1 n1 c1,U A2 n2 c2]) 1 J J bA J) ?_;obtain ⟨y6,hy6,h⟩:=aa h;refine gD (ai (FU hy6) ON J (hJ (ab (i:=2) J J) (hJ (ab (i:=3) J J) ac)) Dr) ?_;rintro _ _ ⟨_,⟨rfl,rfl⟩,rfl⟩;refine Y ?_;refine au J (fun g7=> ?_) (fun g7=> ?_)
 ·replace h:=ag g7 h;refine Y ?_;refine gE (bo J (zT)) ?_;refine gO (ao (us:=[iV 0,iV 0,iV 0,iV 0,U none 0 0,U none 0 0]) (cs':=[iV 0,iV 0,iV 0,iV 0,U none 0 0,U none 0 0]) 0 J J J J bL J J J) ?_;rintro _ _ rfl;refine Y ?_;obtain rfl:=aq h;exact db (rs:=[.cell 4 42,.tmp 5]) (vs:=[.agg #[iV 0,iV 0,iV 0,iV 0,U none 0 0,U none 0 0],U none 0 0]) J (.cons (bT 0 J J bA) (.cons (dr J) .nil)) J ((cn bj 23 _).trans ((cn bj 23 _).trans ((cn bj 23 _).trans (cS [2,1,0] 8)))) ⟨_,_,_,_,_,_,_,_,_,J,J⟩
 replace h:=ah g7 h;refine Y ?_;refine gR (aU 4 J av J z3) ?_;refine gD (Bg (ek:=bR) (ev:=cG) J z9) ?_;rintro _ _ ⟨M11,rfl,rfl⟩;refine gD (aE Nz J) ?_;rintro _ _ ⟨B12,rfl,rfl⟩;refine gO (ao (us:=[.map (some M11)]) (cs':=[.map (some M11)]) 0 J J J J NL J J J) ?_;rintro _ _ rfl;refine Y ?_;refine aM (fun s L=> ∃p14,oq N a0 p14=some r∧s=[(2,pV B4 0),(4,pV B5 0),(5,U none 0 0),(6,pV B12 0)]∧L=[bE A1 n1 c1 a0.Slots,bE A2 n2 c2 a0.More,am B4 42 [iV a0.Kind,iV a0.Shape,iV a0.Flags,iV a0.Age,U A1 n1 c1,U A2 n2 c2],am B5 42 [iV 0,iV 0,iV 0,iV 0,U none 0 0,U none 0 0],aK bR cG M11 p14,am B12 145 [.map (some M11)]]) ?_ ?_
 ·refine Y ?_;refine gR (aU 6 J av J z3) ?_;refine Y ?_;refine bv (fun m s L=> ∃p16 p17,gN N a1 a0 m p16 p17=some r∧s=[(2,pV B4 0),(4,pV B5 0),(5,U none 0 0),(6,pV B12 0),(21,U A3 n3 c3),(22,iV (a1.length:Int)),(23,iV p16)]∧L=[ex A3 n3 c3 a1,bE A1 n1 c1 a0.Slots,bE A2 n2 c2 a0.More,am B4 42 [iV a0.Kind,iV a0.Shape,iV a0.Flags,iV a0.Age,U A1 n1 c1,U A2 n2 c2],am B5 42 [iV 0,iV 0,iV 0,iV 0,U none 0 0,U none 0 0],aK bR cG M11 p17,am B12 145 [.map (some M11)]]) N _ _ ⟨0,([]:(List (Int×Bool))),h,J,J⟩ sA (cS [6,4,5,3,2,1,0] 7) ?_;rintro (_|m15) _ _ ⟨p16,p17,h,rfl,rfl⟩
  ·exact aG h
  rw [gN.eq_2] at h;refine Y ?_;refine ax ?_;refine au J (fun g18=> ?_) (fun g18=> ?_)
  ·replace h:=ag g18 h;refine Y ?_;refine ax ?_;refine Y ?_;obtain ⟨x19,hx19,h⟩:=aa h;obtain ⟨lx19,ux19,hx19⟩:=aA hx19;refine gR (aX 0 J av J J z3 dP lx19 ux19) ?_;refine gR (bH (u:=iV x19) 0 J av J hx19 dy (fun _ _ _ h=>by rw [show _=_ from h];rfl)) ?_;refine Y ?_;refine gO (gw (a:=x19) (b:=true) 5 J J J J z9 (d5 hP)) ?_;rintro _ _ rfl;refine cp ?_;refine Y ?_;obtain ⟨q20,h⟩:=ap h;refine gE (aW J J q20.1 q20.2) ?_;refine Y ?_;exact ⟨m15,_,_,Tk _,⟨p16+1,um p17 x19 true,h,J,J⟩,sA,cS [0,1,2,3,4,5,6] 7⟩
  replace h:=ah g18 h;refine Y ?_;exact ⟨_,_,⟨p17,h,J,J⟩,sA,cS [1,2,3,4,5,6] 7⟩
 rintro _ _ ⟨p14,h,rfl,rfl⟩;refine Y ?_;refine gR (aD (us:=[iV a0.Kind,iV a0.Shape,iV a0.Flags,iV a0.Age,U A1 n1 c1,U A2 n2 c2]) 2 J J bA J) ?_;obtain ⟨y21,hy21,h⟩:=aa h;refine gD (ai (Dt hy21) OM J (hJ (ab (i:=0) J J) (hJ (ab (i:=1) J J) ac)) AC) ?_;rintro _ _ ⟨_,⟨A22,n22,c22,A23,n23,c23,rfl,rfl⟩,rfl⟩;refine gD (aE eA J) ?_;rintro _ _ ⟨B24,rfl,rfl⟩;refine gO (ao (us:=[iV y21.Kind,iV y21.Shape,iV y21.Flags,iV y21.Age,U A22 n22 c22,U A23 n23 c23]) (cs':=[iV y21.Kind,iV y21.Shape,iV y21.Flags,iV y21.Age,U A22 n22 c22,U A23 n23 c23]) 0 J J J J bL J J J) ?_;rintro _ _ rfl;refine Y ?_;refine gD (aE Le J) ?_;rintro _ _ ⟨B25,rfl,rfl⟩;refine Y ?_;refine ax ?_;refine Y ?_;refine gR (aD (us:=[iV a0.Kind,iV a0.Shape,iV a0.Flags,iV a0.Age,U A1 n1 c1,U A2 n2 c2]) 6 J J bA J) ?_;obtain ⟨y26,hy26,h⟩:=aa h;refine gD (ai (zv hy26) OL J (hJ (ab (i:=4) J J) (hJ (ab (i:=5) J J) ac)) wY) ?_;rintro _ _ ⟨_,⟨B27,rfl,rfl⟩,rfl⟩;refine pI ?_;refine fb ?_;refine ik ?_ cB (gP 0 J);obtain ⟨y32,hy32,h⟩:=aa h
 refine E9 (R:=(fun (x:Int×(List SR)) vs cs=> ∃A1 n1 c1,vs=[iV x.1,U A1 n1 c1]∧cs=[bE A1 n1 c1 x.2])) (fun x st=>ft N a0 p14 y21 x st) (fun (st:(List SR)×(List SR)) (mz:((Option Addr×Nat×Nat)×(Option Addr×Nat×Nat)))=> [bE A1 n1 c1 a0.Slots,bE A2 n2 c2 a0.More,am B4 42 [iV a0.Kind,iV a0.Shape,iV a0.Flags,iV a0.Age,U A1 n1 c1,U A2 n2 c2],am B5 42 [iV 0,iV 0,iV 0,iV 0,U none 0 0,U none 0 0],aK bR cG M11 p14,am B12 145 [.map (some M11)],bf A22 n22 c22 y21.Slots,eN bj 23 (.slice mz.1.1 mz.1.2.1 mz.1.2.2) st.1,am B24 42 [iV y21.Kind,iV y21.Shape,iV y21.Flags,iV y21.Age,U A22 n22 c22,.slice mz.1.1 mz.1.2.1 mz.1.2.2],eN bj 23 (.slice mz.2.1 mz.2.2.1 mz.2.2.2) st.2,am B25 30 [.slice mz.2.1 mz.2.2.1 mz.2.2.2]]) [aR B27 42 [iV a0.Kind,iV a0.Shape,iV a0.Flags,iV a0.Age,U A1 n1 c1,U A2 n2 c2],bE A1 n1 c1 a0.Slots,bE A2 n2 c2 a0.More] ((y21.More,[])) (((A23,n23,c23),(none,0,0))) J J OC J (by rintro _ _ _ ⟨_,_,_,rfl,rfl⟩;rfl) (fun l G hY=>(vE hy32 hY).mono fun _ _ hh=>hh.2) ((cn bj 23 _).trans (aI [1,6,7] [] [6,7,8,9,10,11,4,5,3,0,2] 12 J)) h ?_ ?_ ?_ ?_
 ·rintro l x28 ⟨p30,p31⟩ je sr28 ⟨⟨A30,n30,c30⟩,⟨A31,n31,c31⟩⟩ h _ _ ⟨A29,n29,c29,rfl,rfl⟩;replace h:ft N a0 p14 y21 x28 (p30,p31)=some (je,sr28):=h;simp only [zJ,List.zip_cons_cons,List.zip_nil_left,List.zip_nil_right,List.reverse_cons,List.reverse_nil,List.nil_append,List.cons_append];refine Y ?_;refine ax ?_;refine ax ?_;refine bN I _ (aj _) ?_;refine zR 0 J (aJ 6 J J H9 J) ?_;refine zE 1 J (aw J) ?_;obtain ⟨x34,hx34,h⟩:=aa h;obtain ⟨lx34,ux34,hx34⟩:=aA hx34;refine zR 2 J (aX 0 J av J J t0 aS lx34 ux34) ?_;refine zR 3 J (AX 0 J av J (fE lx34 ux34) rE) ?_;refine zR 4 J (bH (u:=iV x34.N) 0 J av J hx34 dy (fun _ _ _ h=>by rw [show _=_ from h];rfl)) ?_;refine zR 5 J (CH (a:=x34.N) (z:=false) 5 J tq J J z9 (d5 hP) Gi) ?_;refine zE 6 J (FZ J) ?_;refine aZ I ?_;refine fb ?_;refine au J (fun g35=> ?_) (fun g35=> ?_)
  ·replace h:=ag g35 h;refine ax ?_;obtain ⟨x36,hx36,h⟩:=aa h;obtain ⟨lx36,ux36,hx36⟩:=aA hx36;obtain ⟨x37,hx37,h⟩:=aa h;obtain ⟨lx37,ux37,hx37⟩:=aA hx37;obtain ⟨x38,hx38,h⟩:=aa h;obtain ⟨lx38,ux38,hx38⟩:=aA hx38;refine ik (t:=[(2,pV B4 0),(4,pV B5 0),(5,U none 0 0),(6,pV B12 0),(9,pV B24 0),(10,pV B25 0),(12,U A29 n29 c29)]) ?_ mN (aj _)
   refine jS I 12 [] [0,11] [43,44,45,46,47,48,49,50,51,52,53,54] [[],[],[1],[2],[3],[],[5],[6],[],[8],[9],[4,7,10]] [aV (U A31 n31 c31),
aV (pV B4 5),
aV (U A2 n2 c2),
aV (fw (U A2 n2 c2) ((0:Int).toNat) 3 0),
aV (.agg #[iV x36.Kind,iV x36.N,.string x36.S]),
aV (U A29 n29 c29),
aV (fw (U A29 n29 c29) ((1:Int).toNat) 3 0),
aV (.agg #[iV x37.Kind,iV x37.N,.string x37.S]),
aV (U A29 n29 c29),
aV (fw (U A29 n29 c29) ((3:Int).toNat) 3 0),
aV (.agg #[iV x38.Kind,iV x38.N,.string x38.S]),
aX3 (fun (A40:Option Addr) (n40 c40:Nat)=> U A40 n40 c40) (fun A40 n40 c40=> [bf A40 n40 c40 ([x36,x37,x38]:List SR)])] [] (aj _) (mr) I rfl rfl ?_ ?_ ?_
   ·exact mq
   ·refine ak J ?_ ?_
    ·refine vW (bJ (R:=bj) (vss:=[[iV x36.Kind,iV x36.N,.string x36.S],[iV x37.Kind,iV x37.N,.string x37.S],[iV x38.Kind,iV x38.N,.string x38.S]]) (xs:=[x36,x37,x38]) J (Nc _ _ _ _ _ _ _ _ _) J J (fun _ _ hr=> .cons J (.cons J (.cons J All2.nil)))) J ?_;rintro _ _ ⟨A39,n39,c39,rfl,rfl⟩;exact DC A39 n39 c39 (aj _)
    refine ak J ?_ ?_
    ·exact fi (bG (us:=[iV x38.Kind,iV x38.N,.string x38.S]) 0 J av J hx38 bV (fun _ _ _ h=>by rw [show _=_ from h];rfl)) J (bq J (aj _))
    refine ak J ?_ ?_
    ·exact fi (aX 0 J av J J t0 aS lx38 ux38) J (bq J (aj _))
    refine ak J ?_ ?_
    ·exact cF (aw J) J (bq J (aj _))
    refine ak J ?_ ?_
    ·exact fi (bG (us:=[iV x37.Kind,iV x37.N,.string x37.S]) 0 J av J hx37 bV (fun _ _ _ h=>by rw [show _=_ from h];rfl)) J (bq J (aj _))
    refine ak J ?_ ?_
    ·exact fi (aX 0 J av J J t0 aS lx37 ux37) J (bq J (aj _))
    refine ak J ?_ ?_
    ·exact cF (aw J) J (bq J (aj _))
    refine ak J ?_ ?_
    ·exact fi (bG (us:=[iV x36.Kind,iV x36.N,.string x36.S]) 2 J av J hx36 bV (fun _ _ _ h=>by rw [show _=_ from h];rfl)) J (bq J (aj _))
    refine ak J ?_ ?_
    ·exact fi (aX 2 J av J J t0 aS lx36 ux36) J (bq J (aj _))
    refine ak J ?_ ?_
    ·exact fi (aJ 3 J J dD J) J (bq J (aj _))
    refine ak J ?_ ?_
    ·exact cF (bz J kC) J (bq J (aj _))
    refine ak J ?_ ?_
    ·exact fi (aJ 11 J J dD J) J (bq J (aj _))
    exact fo
   intro A40 n40 c40;refine nP (t:=[(43,U A31 n31 c31),(54,U A40 n40 c40),(2,pV B4 0),(4,pV B5 0),(5,U none 0 0),(6,pV B12 0),(9,pV B24 0),(10,pV B25 0),(12,U A29 n29 c29)]) (L':=[bf A40 n40 c40 ([x36,x37,x38]:List SR),bE A29 n29 c29 x28.2,bE A1 n1 c1 a0.Slots,bE A2 n2 c2 a0.More,am B4 42 [iV a0.Kind,iV a0.Shape,iV a0.Flags,iV a0.Age,U A1 n1 c1,U A2 n2 c2],am B5 42 [iV 0,iV 0,iV 0,iV 0,U none 0 0,U none 0 0],aK bR cG M11 p14,am B12 145 [.map (some M11)],bf A22 n22 c22 y21.Slots,bf A30 n30 c30 p30,am B24 42 [iV y21.Kind,iV y21.Shape,iV y21.Flags,iV y21.Age,U A22 n22 c22,U A30 n30 c30],bf A31 n31 c31 p31,am B25 30 [U A31 n31 c31]]) ?_ mN (aj _);obtain ⟨q41,h⟩:=ap h;refine pH 12 J I (bK 11 0 J J aH J J t0 Ce J J q41) J J J ?_;rintro _ _ ⟨A42,n42,c42,rfl,rfl⟩;refine EF ?_;refine Bu 13 J I (ao (us:=[U A42 n42 c42]) (cs':=[U A42 n42 c42]) 12 J J J J eJ J J J) J J ?_;rintro _ _ rfl;refine mB I ?_;refine Y ?_;obtain ⟨rfl,rfl⟩:=Prod.mk.inj (Option.some.inj h);exact BL ((cS [2,3,4,5,6,7,8,9,10,11,12] 13).trans (fV ((A30,n30,c30),(A42,n42,c42)) J))
  replace h:=ah g35 h;refine Y ?_;obtain ⟨x43,hx43,h⟩:=aa h;obtain ⟨lx43,ux43,hx43⟩:=aA hx43;refine gR (aX 0 J av J J t0 aS lx43 ux43) ?_;refine gR (bG (us:=[iV x43.Kind,iV x43.N,.string x43.S]) 0 J av J hx43 bV (fun _ _ _ h=>by rw [show _=_ from h];rfl)) ?_;refine gD (aE d7 J) ?_;rintro _ _ ⟨B44,rfl,rfl⟩;refine gO (ao (us:=[iV x43.Kind,iV x43.N,.string x43.S]) (cs':=[iV x43.Kind,iV x43.N,.string x43.S]) 0 J J J J aS J J J) ?_;rintro _ _ rfl;refine Y ?_;refine aM (fun s L=> ∃p46 p47 p48,lp N x28 a0 p14 y21 p30 p31 p46 p47 p48=some (je,sr28)∧s=[(2,pV B4 0),(4,pV B5 0),(5,U none 0 0),(6,pV B12 0),(9,pV B24 0),(10,pV B25 0),(12,U A29 n29 c29),(13,pV B44 0)]∧L=[bE A29 n29 c29 x28.2,bE A1 n1 c1 a0.Slots,bE A2 n2 c2 a0.More,am B4 42 [iV a0.Kind,iV a0.Shape,iV a0.Flags,iV a0.Age,U A1 n1 c1,U A2 n2 c2],am B5 42 [iV 0,iV 0,iV 0,iV 0,U none 0 0,U none 0 0],aK bR cG M11 p14,am B12 145 [.map (some M11)],bf A22 n22 c22 y21.Slots,bf A30 n30 c30 p30,am B24 42 [iV y21.Kind,iV y21.Shape,iV y21.Flags,iV y21.Age,U A22 n22 c22,U A30 n30 c30],bf A31 n31 c31 p31,am B25 30 [U A31 n31 c31],am B44 23 [iV p46,iV p47,.string p48]]) ?_ ?_
  ·refine Y ?_;obtain ⟨b49,hb49,h⟩:=aa h;refine aO 6 68 b49 ?_ ?_
   ·clear h;refine aN 62 J (fun g49=> ?_) (fun g49=> ?_)
    ·have h:=ag g49 hb49;refine Y ?_;refine cL (CH (a:=x43.N) (z:=false) 6 J tq J J z9 (d5 hP) Gi) J (bU g49 J) J ?_;refine Y ?_;obtain rfl:=aq h;exact ae sA (cS [0,1,2,3,4,5,6,7,8,9,10,11,12] 13)
    have h:=ah g49 hb49;refine Y ?_;obtain rfl:=aq h;exact ae sA (cS [0,1,2,3,4,5,6,7,8,9,10,11,12] 13)
   refine Y ?_;refine au J (fun g50=> ?_) (fun g50=> ?_)
   ·replace h:=ag g50 h;refine cE ?_;refine gE (bo J (wF)) ?_;refine gO (ao (us:=[iV 0,iV 0,.string (⟨#[]⟩)]) (cs':=[iV 0,iV 0,.string (⟨#[]⟩)]) 0 J J J J aS J J J) ?_;rintro _ _ rfl;refine cp ?_;refine Y ?_;exact ⟨_,_,⟨0,0,⟨#[]⟩,h,J,J⟩,sA,cS [1,2,3,4,5,6,7,8,9,10,11,12,0] 13⟩
   replace h:=ah g50 h;refine Y ?_;exact ⟨_,_,⟨x43.Kind,x43.N,x43.S,h,J,J⟩,sA,cS [1,2,3,4,5,6,7,8,9,10,11,12,0] 13⟩
  rintro _ _ ⟨p46,p47,p48,h,rfl,rfl⟩;refine bN I ([bE A29 n29 c29 x28.2,bE A1 n1 c1 a0.Slots,bE A2 n2 c2 a0.More,am B4 42 [iV a0.Kind,iV a0.Shape,iV a0.Flags,iV a0.Age,U A1 n1 c1,U A2 n2 c2],am B5 42 [iV 0,iV 0,iV 0,iV 0,U none 0 0,U none 0 0],aK bR cG M11 p14,am B12 145 [.map (some M11)],bf A22 n22 c22 y21.Slots,am B24 42 [iV y21.Kind,iV y21.Shape,iV y21.Flags,iV y21.Age,U A22 n22 c22,U A30 n30 c30],bf A31 n31 c31 p31,am B25 30 [U A31 n31 c31],am B44 23 [iV p46,iV p47,.string p48]]) (cS [0,1,2,3,4,5,6,7,9,10,11,12] 13) ?_;refine zE 0 J (bz J kC) ?_;refine zR 1 J (aJ 8 J J dD J) ?_;refine zE 2 J (aw J) ?_;obtain ⟨x51,hx51,h⟩:=aa h;obtain ⟨lx51,ux51,hx51⟩:=aA hx51;refine zR 3 J (aX 0 J av J J t0 aS lx51 ux51) ?_;refine zR 4 J (bG (us:=[iV x51.Kind,iV x51.N,.string x51.S]) 0 J av J hx51 bV (fun _ _ _ h=>by rw [show _=_ from h];rfl)) ?_;refine zE 5 J (aw J) ?_;obtain ⟨x52,hx52,h⟩:=aa h;obtain ⟨lx52,ux52,hx52⟩:=aA hx52;refine zR 6 J (aX 0 J av J J t0 aS lx52 ux52) ?_;refine zR 7 J (bG (us:=[iV x52.Kind,iV x52.N,.string x52.S]) 0 J av J hx52 bV (fun _ _ _ h=>by rw [show _=_ from h];rfl)) ?_;refine zR 8 J (aD (us:=[iV p46,iV p47,.string p48]) 11 J J bV J) ?_;refine zE 9 J (aw J) ?_;obtain ⟨x53,hx53,h⟩:=aa h;obtain ⟨lx53,ux53,hx53⟩:=aA hx53;refine zR 10 J (aX 0 J av J J t0 aS lx53 ux53) ?_
  refine zR 11 J (bG (us:=[iV x53.Kind,iV x53.N,.string x53.S]) 0 J av J hx53 bV (fun _ _ _ h=>by rw [show _=_ from h];rfl)) ?_;refine zD 12 J (bJ (R:=bj) (vss:=[[iV x51.Kind,iV x51.N,.string x51.S],[iV x52.Kind,iV x52.N,.string x52.S],[iV p46,iV p47,.string p48],[iV x53.Kind,iV x53.N,.string x53.S]]) (xs:=[x51,x52,(⟨p46,p47,p48⟩:SR),x53]) J (Nb _ _ _ _ _ _ _ _ _ _ _ _) J J (fun _ _ hr=> .cons J (.cons J (.cons J (.cons J All2.nil))))) ?_;rintro _ _ ⟨A54,n54,c54,rfl,rfl⟩;refine be (cS [1,2,3,4,5,6,7,8,10,11,12,13] 14) ?_;obtain ⟨q55,h⟩:=ap h;refine zD 13 J (bK 9 0 J J aH J J t0 Ce J J q55) ?_;rintro _ _ ⟨A56,n56,c56,rfl,rfl⟩;refine be (cS [1,2,3,4,5,6,7,8,10,11,12,13] 14) ?_;refine zE 14 J (bz J kC) ?_;refine pU 15 J I I (ao (us:=[U A56 n56 c56]) (cs':=[iV y21.Kind,iV y21.Shape,iV y21.Flags,iV y21.Age,U A22 n22 c22,U A56 n56 c56]) 10 J J J J eJ J J J) ?_;rintro _ _ rfl;refine aZ I ?_;refine Qt ?_;obtain ⟨rfl,rfl⟩:=Prod.mk.inj (Option.some.inj h);exact BL ((cS [2,3,4,5,6,7,8,9,10,11,12] 14).trans (fV ((A56,n56,c56),(A31,n31,c31)) J))
 ·rintro ⟨⟨A30,n30,c30⟩,⟨A31,n31,c31⟩⟩ h;refine oM ([bE A1 n1 c1 a0.Slots,bE A2 n2 c2 a0.More,am B4 42 [iV a0.Kind,iV a0.Shape,iV a0.Flags,iV a0.Age,U A1 n1 c1,U A2 n2 c2],am B5 42 [iV 0,iV 0,iV 0,iV 0,U none 0 0,U none 0 0],aK bR cG M11 p14,am B12 145 [.map (some M11)],bf A22 n22 c22 y21.Slots,bf A30 n30 c30 y32.2.1,am B24 42 [iV y21.Kind,iV y21.Shape,iV y21.Flags,iV y21.Age,U A22 n22 c22,U A30 n30 c30],bf A31 n31 c31 y32.2.2,am B25 30 [U A31 n31 c31]]) J ?_;refine Y ?_;refine ax ?_;refine bN I ([bE A1 n1 c1 a0.Slots,bE A2 n2 c2 a0.More,am B4 42 [iV a0.Kind,iV a0.Shape,iV a0.Flags,iV a0.Age,U A1 n1 c1,U A2 n2 c2],aK bR cG M11 p14,am B12 145 [.map (some M11)],bf A22 n22 c22 y21.Slots,bf A30 n30 c30 y32.2.1,am B24 42 [iV y21.Kind,iV y21.Shape,iV y21.Flags,iV y21.Age,U A22 n22 c22,U A30 n30 c30],bf A31 n31 c31 y32.2.2,am B25 30 [U A31 n31 c31]]) (cS [0,1,2,4,5,6,7,8,9,10] 11) ?_;refine zR 0 J (aD (us:=[iV y21.Kind,iV y21.Shape,iV y21.Flags,iV y21.Age,U A22 n22 c22,U A30 n30 c30]) 7 J J bA J) ?_;refine zR 1 J (aJ 9 J J dD J) ?_;refine zO 2 J (ao (us:=[iV y21.Kind,iV y21.Shape,iV y21.Flags,iV y21.Age,U A22 n22 c22,U A30 n30 c30]) (cs':=[iV y21.Kind,iV y21.Shape,iV y21.Flags,iV y21.Age,U A22 n22 c22,U A30 n30 c30]) 3 J J J J bL J J J) ?_;rintro _ _ rfl;refine be (cS [0,1,2,4,5,6,7,8,9,10] 11) ?_;refine zE 3 J (aC J) ?_
  refine aZ I ?_;refine Y ?_;obtain rfl:=aq h;exact db (rs:=[.cell 4 42,.tmp 5]) (vs:=[.agg #[iV y21.Kind,iV y21.Shape,iV y21.Flags,iV y21.Age,U A22 n22 c22,U A30 n30 c30],U A31 n31 c31]) J (.cons (bT 3 J J bA) (.cons (dr J) .nil)) J (cS [6,7,9] 11) ⟨_,_,_,_,_,_,_,_,_,J,J⟩
 ·rintro ⟨⟨A30,n30,c30⟩,⟨A31,n31,c31⟩⟩ h;exact aG h
 rintro i ⟨⟨A30,n30,c30⟩,⟨A31,n31,c31⟩⟩ h;exact aG h
theorem rC {r:(Ta×(List SR))}: ∀v post,((fun (u:Value) (post:List Chunk)=> ∃A0 n0 c0 A1 n1 c1 A2 n2 c2,u=.tuple #[.agg #[iV r.1.Kind,iV r.1.Shape,iV r.1.Flags,iV r.1.Age,U A0 n0 c0,U A1 n1 c1],U A2 n2 c2]∧post=[bf A0 n0 c0 r.1.Slots,bf A1 n1 c1 r.1.More,bf A2 n2 c2 r.2])) v post→ ∀c∈post,ce c:=by
 rintro _ _ ⟨_,_,_,_,_,_,_,_,_,rfl,rfl⟩;exact hJ bP (hJ bP (hJ bP (ac)))
def vy (N:Nat)(p4:(List SR)):Option (List SR):=
 some p4
def md (N:Nat)(kb5:(List SR)→Int→Option (List SR))(a0:(List SR))(p7:Int)(a1:(List (Int×Int)))(p6:(List SR))(x10:SR)(p13:Int):Option (List SR):=
 bi (bQ (p6.length+([(⟨x10.Kind,p13,x10.S⟩:SR)]:List SR).length)) (bi (in64 (p7+1)) (kb5 (p6++([(⟨x10.Kind,p13,x10.S⟩:SR)]:List SR)) (p7+1)))
def fQ (N:Nat)(a0:(List SR))(a1:(List (Int×Int))):Nat→(List SR)→Int→Option (List SR)
 |0,_,_=>none
 |m5+1,p6,p7=>bif decide (p7<(a0.length:Int)) then ((aF a0 p7).bind fun x10=>(bif (lk a1 x10.N).isSome then ((bif decide (x10.Kind=7) then (some true) else (some (decide (x10.Kind=9)))).bind fun b15=>some b15) else (some false)).bind fun b14=>bif b14 then (md N (fQ N a0 a1 m5) a0 p7 a1 p6 x10 ((lk a1 x10.N).getD 0)) else (md N (fQ N a0 a1 m5) a0 p7 a1 p6 x10 x10.N)) else (vy N p6)
def d9 (N:Nat)(a0:(List SR))(a1:(List (Int×Int))):Option (List SR):=
 fQ N a0 a1 N [] 0
set_option maxHeartbeats 4000000 in
theorem nq {N:Nat}{a0:(List SR)}{a1:(List (Int×Int))}{r:(List SR)}(h:d9 N a0 a1=some r):Okc Tryz.prog 129 [U A1 n1 c1,.map (some M2)] ([bE A1 n1 c1 a0,fh bR gc M2 a1]) (fun u post=> ∃A0 n0 c0,u=U A0 n0 c0∧post=[bf A0 n0 c0 r]):=by
 refine bp Tryz.func129 J J ?_;simp only [aP];refine Y ?_;refine aM (fun s L=> ∃p4 A4 n4 c4,vy N p4=some r∧s=[(4,U none 0 0),(5,U A4 n4 c4)]∧L=[bf A4 n4 c4 p4]) ?_ ?_
 ·refine Y ?_;refine gR (aU 0 J av J t0) ?_;refine Y ?_;refine bv (fun m s L=> ∃p6 p7 A6 n6 c6,fQ N a0 a1 m p6 p7=some r∧s=[(1,.map (some M2)),(4,U none 0 0),(5,U A6 n6 c6),(10,U A1 n1 c1),(11,iV (a0.length:Int)),(12,iV p7)]∧L=[fh bR gc M2 a1,bf A6 n6 c6 p6,bE A1 n1 c1 a0]) N _ _ ⟨[],0,none,0,0,h,J,J⟩ sA ((cn bj 23 _).trans (cS [2,0,1] 3)) ?_;rintro (_|m5) _ _ ⟨p6,p7,A6,n6,c6,h,rfl,rfl⟩
  ·exact aG h
  rw [fQ.eq_2] at h;refine Y ?_;refine ax ?_;refine au J (fun g9=> ?_) (fun g9=> ?_)
  ·replace h:=ag g9 h;refine Y ?_;refine ax ?_;refine Y ?_;obtain ⟨x10,hx10,h⟩:=aa h;obtain ⟨lx10,ux10,hx10⟩:=aA hx10;refine gR (aX 2 J av J J t0 aS lx10 ux10) ?_;refine gR (bG (us:=[iV x10.Kind,iV x10.N,.string x10.S]) 2 J av J hx10 bV (fun _ _ _ h=>by rw [show _=_ from h];rfl)) ?_;refine gD (aE d7 J) ?_;rintro _ _ ⟨B11,rfl,rfl⟩;refine gO (ao (us:=[iV x10.Kind,iV x10.N,.string x10.S]) (cs':=[iV x10.Kind,iV x10.N,.string x10.S]) 0 J J J J aS J J J) ?_;rintro _ _ rfl;refine Y ?_;refine aM (fun s L=> ∃p13,md N (fQ N a0 a1 m5) a0 p7 a1 p6 x10 p13=some r∧s=[(1,.map (some M2)),(4,U none 0 0),(5,U A6 n6 c6),(7,pV B11 0),(10,U A1 n1 c1),(11,iV (a0.length:Int)),(12,iV p7)]∧L=[fh bR gc M2 a1,bf A6 n6 c6 p6,bE A1 n1 c1 a0,am B11 23 [iV x10.Kind,iV p13,.string x10.S]]) ?_ ?_
   ·refine Y ?_;refine gR (qv (a:=x10.N) (z:=0) 1 J PM J J Ex (d5 hP) Gj) ?_;refine Y ?_;obtain ⟨b14,hb14,h⟩:=aa h;refine aO 9 33 b14 ?_ ?_
    ·clear h;refine aN 24 J (fun g14=> ?_) (fun g14=> ?_)
     ·have h:=ag g14 hb14;refine Y ?_;obtain ⟨b15,hb15,h⟩:=aa h;refine aO 4 32 b15 ?_ ?_
      ·clear h;refine aN 28 J (fun g15=> ?_) (fun g15=> ?_)
       ·have h:=ag g15 hb15;refine Y ?_;obtain rfl:=aq h;exact ae sA (cS [0,1,2,3] 4)
       have h:=ah g15 hb15;refine Y ?_;obtain rfl:=aq h;exact ae sA (cS [0,1,2,3] 4)
      refine Y ?_;obtain rfl:=aq h;exact ae sA (cS [0,1,2,3] 4)
     have h:=ah g14 hb14;refine Y ?_;obtain rfl:=aq h;exact ae sA (cS [0,1,2,3] 4)
    refine Y ?_;refine au J (fun g16=> ?_) (fun g16=> ?_)
    ·replace h:=ag g16 h;refine Y ?_;refine gO (ao (us:=[iV ((lk a1 x10.N).getD 0)]) (cs':=[iV x10.Kind,iV ((lk a1 x10.N).getD 0),.string x10.S]) 0 J J J J dP J J J) ?_;rintro _ _ rfl;refine Y ?_;exact ⟨_,_,⟨(lk a1 x10.N).getD 0,h,J,J⟩,sA,cS [1,2,3,0] 4⟩
    replace h:=ah g16 h;refine Y ?_;exact ⟨_,_,⟨x10.N,h,J,J⟩,sA,cS [1,2,3,0] 4⟩
   rintro _ _ ⟨p13,h,rfl,rfl⟩;refine Y ?_;refine gR (aD (us:=[iV x10.Kind,iV p13,.string x10.S]) 3 J J bV J) ?_;refine gD (bJ (R:=bj) (vss:=[[iV x10.Kind,iV p13,.string x10.S]]) (xs:=[(⟨x10.Kind,p13,x10.S⟩:SR)]) J (vU _ _ _) J J (fun _ _ hr=> .cons J All2.nil)) ?_;rintro _ _ ⟨A17,n17,c17,rfl,rfl⟩;obtain ⟨q18,h⟩:=ap h;refine gD (bK 2 0 J J aH J J t0 Ce J J q18) ?_;rintro _ _ ⟨A19,n19,c19,rfl,rfl⟩;refine cp ?_;refine Y ?_;obtain ⟨q20,h⟩:=ap h;refine gE (aW J J q20.1 q20.2) ?_;refine Y ?_;exact ⟨m5,_,_,Tk _,⟨p6++([(⟨x10.Kind,p13,x10.S⟩:SR)]:List SR),p7+1,A19,n19,c19,h,J,J⟩,sA,cS [1,2,3] 5⟩
  replace h:=ah g9 h;refine Y ?_;exact ⟨_,_,⟨p6,A6,n6,c6,h,J,J⟩,sA,cS [1] 3⟩
 rintro _ _ ⟨p4,A4,n4,c4,h,rfl,rfl⟩;refine Y ?_;obtain rfl:=aq h;exact aL J J (cS [0] 1) ⟨_,_,_,J,J⟩
theorem lm {r:(List SR)}: ∀v post,((fun (u:Value) (post:List Chunk)=> ∃A0 n0 c0,u=U A0 n0 c0∧post=[bf A0 n0 c0 r])) v post→ ∀c∈post,ce c:=by
 rintro _ _ ⟨_,_,_,rfl,rfl⟩;exact hJ bP (ac)
end Go.Proofs.YtdcccmadhipinaaGreat