/- Merged texts: part 8. No conditions of their own. -/
import Derived.Test.YtmimkglhbmcokaaGreatG7
namespace Go.Proofs.YtmimkglhbmcokaaGreat
variable {A1 A2 A3 A4 A5 A8 A9:Option Addr} {B1 B6 M7 c1 c2 c3 c4 c5 c8 c9 n1 n2 n3 n4 n5 n8 n9:Nat}
open Go.RowKit Asn
set_option maxRecDepth 20000
def lL (N:Nat)(a0:Re):Option ((List Q5)×Re):=
 (aT N a0).bind fun y8=>bif y8 then (some ([],a0)) else (some (a0.pending_,(⟨a0.m_,a0.roots_,[],a0.set_⟩:Re)))
theorem uP {N:Nat}{a0:Re}{r:((List Q5)×Re)}(h:lL N a0=some r):Okc Tryz.prog 150 [pV B1 0] ([ay B1 86 [O A2 n2 c2,O A3 n3 c3,O A4 n4 c4,O A5 n5 c5,pV B6 0],cA A2 n2 c2 a0.m_.Young,cA A3 n3 c3 a0.m_.Old,bG A4 n4 c4 a0.roots_,bG A5 n5 c5 a0.pending_,ay B6 157 [.map (some M7)],bq cB d8 M7 a0.set_.at_]) (fun u post=> ∃A0 n0 c0 A1 n1 c1 A2 n2 c2 A3 n3 c3 A4 n4 c4 M5,u=O A0 n0 c0∧post=[bG A0 n0 c0 r.1,ay B1 86 [O A1 n1 c1,O A2 n2 c2,O A3 n3 c3,O A4 n4 c4,pV B6 0],cA A1 n1 c1 r.2.m_.Young,cA A2 n2 c2 r.2.m_.Old,bG A3 n3 c3 r.2.roots_,bG A4 n4 c4 r.2.pending_,ay B6 157 [.map (some M5)],bq cB d8 M5 r.2.set_.at_]):=by
 refine bw Tryz.func150 U U ?_;simp only [aQ];refine D ?_;refine az ?_;refine D ?_;obtain ⟨y8,hy8,h⟩:=aa h;refine gD (ak (bQ hy8) nw U (hE (aX (i:=0) U) (hE (ar (i:=1) U) (hE (ar (i:=2) U) (hE (ar (i:=3) U) (hE (ar (i:=4) U) (hE (aX (i:=5) U) (hE (cy (i:=6) U) ab))))))) bF) ?_;rintro _ _ ⟨_,⟨rfl,rfl⟩,rfl⟩;refine D ?_;refine av U (fun g9=> ?_) (fun g9=> ?_)
 ·replace h:=ag g9 h;refine D ?_;obtain rfl:=ao h;exact aC U U ((bj aS 52 _).trans (cS [0,1,2,3,4,5,6,7] 8)) ⟨_,_,_,_,_,_,_,_,_,_,_,_,_,_,_,_,U,U⟩
 replace h:=ah g9 h;refine D ?_;refine gO (aq (us:=[O none 0 0]) (cs':=[O A2 n2 c2,O A3 n3 c3,O A4 n4 c4,O none 0 0,pV B6 0]) 0 U U U U du U U U) ?_;rintro _ _ rfl;refine D ?_;obtain rfl:=ao h;exact aC U U ((bj aS 52 _).trans (cS [5,1,2,3,4,0,6,7] 8)) ⟨_,_,_,_,_,_,_,_,_,_,_,_,_,_,_,_,U,U⟩
def fV (N:Nat)(p14:Int)(p15:Int)(p16:Bool)(p17:Int)(p18:Int)(p19:Int)(p20:Int)(p21:(List Q5))(p22:(List Q5))(p23:Int)(p24:Int)(p25:ByteArray)(p26:(List Q5))(p27:(List Ra))(p28:(List Ra))(p29:(List Q5))(p30:(List Q5))(p31:(List (Int×Bool))):Option (Rc×Re):=
 some ((⟨p14,p15,p16,(⟨p17,p18,p19,p20,p21,p22⟩:Ra),(⟨p23,p24,p25⟩:Q5),p26⟩:Rc),(⟨(⟨p27,p28⟩:Rg),p29,p30,(⟨p31⟩:Rh)⟩:Re))
def xo (N:Nat)(a0:Re)(a1:Rf):Option (Rc×Re):=
 bif decide (a1.Kind=0) then ((gC N a0 a1.C).bind fun y33=>fV N y33.1 y33.2.1 false 0 0 0 0 [] [] 0 0 (⟨#[]⟩) [] y33.2.2.m_.Young y33.2.2.m_.Old y33.2.2.roots_ y33.2.2.pending_ y33.2.2.set_.at_) else (bif decide (a1.Kind=1) then ((mh N a0 a1.N a1.C).bind fun y43=>fV N 0 y43.1 false 0 0 0 0 [] [] 0 0 (⟨#[]⟩) [] y43.2.m_.Young y43.2.m_.Old y43.2.roots_ y43.2.pending_ y43.2.set_.at_) else (bif decide (a1.Kind=2) then ((jf N a0 a1.V).bind fun y53=>fV N y53.1 0 false 0 0 0 0 [] [] 0 0 (⟨#[]⟩) [] y53.2.m_.Young y53.2.m_.Old y53.2.roots_ y53.2.pending_ y53.2.set_.at_) else (bif decide (a1.Kind=3) then ((iZ N a0 a1.N a1.V).bind fun y63=>fV N 0 0 y63.1 0 0 0 0 [] [] 0 0 (⟨#[]⟩) [] y63.2.m_.Young y63.2.m_.Old y63.2.roots_ y63.2.pending_ y63.2.set_.at_) else (bif decide (a1.Kind=4) then ((jT N a0 a1.N).bind fun y73=>fV N 0 0 false 0 0 0 0 [] [] 0 0 (⟨#[]⟩) [] y73.m_.Young y73.m_.Old y73.roots_ y73.pending_ y73.set_.at_) else (bif decide (a1.Kind=5) then ((dq N a0).bind fun y83=>fV N 0 y83.1 false 0 0 0 0 [] [] 0 0 (⟨#[]⟩) [] y83.2.m_.Young y83.2.m_.Old y83.2.roots_ y83.2.pending_ y83.2.set_.at_) else (bif decide (a1.Kind=6) then ((dY N a0).bind fun y93=>fV N 0 y93.1 false 0 0 0 0 [] [] 0 0 (⟨#[]⟩) [] y93.2.m_.Young y93.2.m_.Old y93.2.roots_ y93.2.pending_ y93.2.set_.at_) else (bif decide (a1.Kind=7) then ((lL N a0).bind fun y103=>fV N 0 0 false 0 0 0 0 [] [] 0 0 (⟨#[]⟩) y103.1 y103.2.m_.Young y103.2.m_.Old y103.2.roots_ y103.2.pending_ y103.2.set_.at_) else (bif decide (a1.Kind=8) then ((la N a0 a1.N).bind fun y113=>fV N 0 0 y113.2 y113.1.Kind y113.1.Shape y113.1.Flags y113.1.Age y113.1.Slots y113.1.More 0 0 (⟨#[]⟩) [] a0.m_.Young a0.m_.Old a0.roots_ a0.pending_ a0.set_.at_) else ((gB N a0 a1.N).bind fun y117=>fV N 0 0 false 0 0 0 0 [] [] y117.Kind y117.N y117.S [] a0.m_.Young a0.m_.Old a0.roots_ a0.pending_ a0.set_.at_)))))))))
theorem Jd {N:Nat}{a0:Re}{a1:Rf}{r:(Rc×Re)}(h:xo N a0 a1=some r):Okc Tryz.prog 62 [pV B1 0,.agg #[iV a1.Kind,iV a1.N,iV a1.C.Kind,iV a1.C.Shape,iV a1.C.Flags,iV a1.C.Age,O A8 n8 c8,O A9 n9 c9,iV a1.V.Kind,iV a1.V.N,.string a1.V.S]] ([bm A8 n8 c8 a1.C.Slots,bm A9 n9 c9 a1.C.More,ay B1 86 [O A2 n2 c2,O A3 n3 c3,O A4 n4 c4,O A5 n5 c5,pV B6 0],cA A2 n2 c2 a0.m_.Young,cA A3 n3 c3 a0.m_.Old,bG A4 n4 c4 a0.roots_,bG A5 n5 c5 a0.pending_,ay B6 157 [.map (some M7)],bq cB d8 M7 a0.set_.at_]) (fun u post=> ∃A0 n0 c0 A1 n1 c1 A2 n2 c2 A3 n3 c3 A4 n4 c4 A5 n5 c5 A6 n6 c6 M7,u=.agg #[iV r.1.N,iV r.1.E,.bool r.1.Ok,iV r.1.C.Kind,iV r.1.C.Shape,iV r.1.C.Flags,iV r.1.C.Age,O A0 n0 c0,O A1 n1 c1,iV r.1.V.Kind,iV r.1.V.N,.string r.1.V.S,O A2 n2 c2]∧post=[bG A0 n0 c0 r.1.C.Slots,bG A1 n1 c1 r.1.C.More,bG A2 n2 c2 r.1.L,ay B1 86 [O A3 n3 c3,O A4 n4 c4,O A5 n5 c5,O A6 n6 c6,pV B6 0],cA A3 n3 c3 r.2.m_.Young,cA A4 n4 c4 r.2.m_.Old,bG A5 n5 c5 r.2.roots_,bG A6 n6 c6 r.2.pending_,ay B6 157 [.map (some M7)],bq cB d8 M7 r.2.set_.at_]):=by
 refine bw Tryz.func62 U U ?_;simp only [aQ];refine D ?_;refine gD (bd U U) ?_;rintro _ _ ⟨B10,rfl,rfl⟩;refine gD (aN Ks U) ?_;rintro _ _ ⟨B11,rfl,rfl⟩;refine D ?_;refine gD (aN Ks U) ?_;rintro _ _ ⟨B12,rfl,rfl⟩;refine D ?_;refine aO (fun s L=> ∃p14 p15 p16 p17 p18 p19 p20 p21 p22 p23 p24 p25 p26 p27 p28 p29 p30 p31 A21 n21 c21 A22 n22 c22 A26 n26 c26 A27 n27 c27 A28 n28 c28 A29 n29 c29 A30 n30 c30 M31,fV N p14 p15 p16 p17 p18 p19 p20 p21 p22 p23 p24 p25 p26 p27 p28 p29 p30 p31=some r∧s=[(4,pV B11 0),(5,pV B12 0)]∧L=[ay B11 74 [iV 0,iV 0,.bool false,iV 0,iV 0,iV 0,iV 0,O none 0 0,O none 0 0,iV 0,iV 0,.string (⟨#[]⟩),O none 0 0],bG A21 n21 c21 p21,bG A22 n22 c22 p22,bG A26 n26 c26 p26,ay B12 74 [iV p14,iV p15,.bool p16,iV p17,iV p18,iV p19,iV p20,O A21 n21 c21,O A22 n22 c22,iV p23,iV p24,.string p25,O A26 n26 c26],cA A27 n27 c27 p27,cA A28 n28 c28 p28,bG A29 n29 c29 p29,bG A30 n30 c30 p30,ay B1 86 [O A27 n27 c27,O A28 n28 c28,O A29 n29 c29,O A30 n30 c30,pV B6 0],bq cB d8 M31 p31,ay B6 157 [.map (some M31)]]) ?_ ?_
 ·refine D ?_;refine av U (fun g32=> ?_) (fun g32=> ?_)
  ·replace h:=ag g32 h;refine D ?_;refine gR (aA (us:=[iV a1.C.Kind,iV a1.C.Shape,iV a1.C.Flags,iV a1.C.Age,O A8 n8 c8,O A9 n9 c9]) 2 U U be U) ?_;obtain ⟨y33,hy33,h⟩:=aa h;refine gD (aZ (nk hy33) HM U (aJ [3,4] [5,6,7,8,9,10,11] [0,1,2,3,4] 12 U)) ?_;rintro _ _ ⟨_,⟨A34,n34,c34,A35,n35,c35,A36,n36,c36,A37,n37,c37,M38,rfl,rfl⟩,rfl⟩;refine D ?_;refine gO (aq (us:=[iV y33.1]) (cs':=[iV y33.1,iV 0,.bool false,iV 0,iV 0,iV 0,iV 0,O none 0 0,O none 0 0,iV 0,iV 0,.string (⟨#[]⟩),O none 0 0]) 7 U U U U dh U U U) ?_;rintro _ _ rfl;refine D ?_;refine gO (aq (us:=[iV y33.2.1]) (cs':=[iV y33.1,iV y33.2.1,.bool false,iV 0,iV 0,iV 0,iV 0,O none 0 0,O none 0 0,iV 0,iV 0,.string (⟨#[]⟩),O none 0 0]) 7 U U U U EO U U U) ?_;rintro _ _ rfl;refine cq ?_;refine D ?_;exact ⟨_,_,⟨y33.1,y33.2.1,false,0,0,0,0,[],[],0,0,⟨#[]⟩,[],y33.2.2.m_.Young,y33.2.2.m_.Old,y33.2.2.roots_,y33.2.2.pending_,y33.2.2.set_.at_,none,0,0,none,0,0,none,0,0,A34,n34,c34,A35,n35,c35,A36,n36,c36,A37,n37,c37,M38,h,U,U⟩,sA,(bj aS 52 _).trans ((bj aS 52 _).trans ((bj aS 52 _).trans (cS [11,2,1,0,10,4,5,6,7,3,9,8] 15)))⟩
  replace h:=ah g32 h;refine D ?_;refine av U (fun g42=> ?_) (fun g42=> ?_)
  ·replace h:=ag g42 h;refine D ?_;refine gR (aA (us:=[iV a1.C.Kind,iV a1.C.Shape,iV a1.C.Flags,iV a1.C.Age,O A8 n8 c8,O A9 n9 c9]) 2 U U be U) ?_;obtain ⟨y43,hy43,h⟩:=aa h;refine gD (aZ (zB hy43) Pa U (aJ [3,4] [5,6,7,8,9,10,11] [0,1,2,3,4] 12 U)) ?_;rintro _ _ ⟨_,⟨A44,n44,c44,A45,n45,c45,A46,n46,c46,A47,n47,c47,M48,rfl,rfl⟩,rfl⟩;refine D ?_;refine gO (aq (us:=[iV y43.1]) (cs':=[iV 0,iV y43.1,.bool false,iV 0,iV 0,iV 0,iV 0,O none 0 0,O none 0 0,iV 0,iV 0,.string (⟨#[]⟩),O none 0 0]) 7 U U U U EO U U U) ?_;rintro _ _ rfl;refine D ?_;exact ⟨_,_,⟨0,y43.1,false,0,0,0,0,[],[],0,0,⟨#[]⟩,[],y43.2.m_.Young,y43.2.m_.Old,y43.2.roots_,y43.2.pending_,y43.2.set_.at_,none,0,0,none,0,0,none,0,0,A44,n44,c44,A45,n45,c45,A46,n46,c46,A47,n47,c47,M48,h,U,U⟩,sA,(bj aS 52 _).trans ((bj aS 52 _).trans ((bj aS 52 _).trans (cS [11,2,1,0,10,4,5,6,7,3,9,8] 15)))⟩
  replace h:=ah g42 h;refine D ?_;refine av U (fun g52=> ?_) (fun g52=> ?_)
  ·replace h:=ag g52 h;refine D ?_;refine gR (aA (us:=[iV a1.V.Kind,iV a1.V.N,.string a1.V.S]) 2 U U bW U) ?_;obtain ⟨y53,hy53,h⟩:=aa h;refine gD (aZ (ra hy53) LJ U (aJ [] [5,6,7,8,9,10,11] [0,1,2,3,4] 12 U)) ?_;rintro _ _ ⟨_,⟨A54,n54,c54,A55,n55,c55,A56,n56,c56,A57,n57,c57,M58,rfl,rfl⟩,rfl⟩;refine cq ?_;refine D ?_;refine gO (aq (us:=[iV y53.1]) (cs':=[iV y53.1,iV 0,.bool false,iV 0,iV 0,iV 0,iV 0,O none 0 0,O none 0 0,iV 0,iV 0,.string (⟨#[]⟩),O none 0 0]) 7 U U U U dh U U U) ?_;rintro _ _ rfl;refine D ?_;exact ⟨_,_,⟨y53.1,0,false,0,0,0,0,[],[],0,0,⟨#[]⟩,[],y53.2.m_.Young,y53.2.m_.Old,y53.2.roots_,y53.2.pending_,y53.2.set_.at_,none,0,0,none,0,0,none,0,0,A54,n54,c54,A55,n55,c55,A56,n56,c56,A57,n57,c57,M58,h,U,U⟩,sA,(bj aS 52 _).trans ((bj aS 52 _).trans ((bj aS 52 _).trans (cS [11,2,1,0,10,4,5,6,7,3,9,8] 15)))⟩
  replace h:=ah g52 h;refine D ?_;refine av U (fun g62=> ?_) (fun g62=> ?_)
  ·replace h:=ag g62 h;refine D ?_;refine gR (aA (us:=[iV a1.V.Kind,iV a1.V.N,.string a1.V.S]) 2 U U bW U) ?_;obtain ⟨y63,hy63,h⟩:=aa h;refine gD (aZ (uO hy63) Pb U (aJ [] [5,6,7,8,9,10,11] [0,1,2,3,4] 12 U)) ?_;rintro _ _ ⟨_,⟨A64,n64,c64,A65,n65,c65,A66,n66,c66,A67,n67,c67,M68,rfl,rfl⟩,rfl⟩;refine D ?_;refine gO (aq (us:=[.bool y63.1]) (cs':=[iV 0,iV 0,.bool y63.1,iV 0,iV 0,iV 0,iV 0,O none 0 0,O none 0 0,iV 0,iV 0,.string (⟨#[]⟩),O none 0 0]) 7 U U U U wo U U U) ?_;rintro _ _ rfl;refine cq ?_;refine D ?_;exact ⟨_,_,⟨0,0,y63.1,0,0,0,0,[],[],0,0,⟨#[]⟩,[],y63.2.m_.Young,y63.2.m_.Old,y63.2.roots_,y63.2.pending_,y63.2.set_.at_,none,0,0,none,0,0,none,0,0,A64,n64,c64,A65,n65,c65,A66,n66,c66,A67,n67,c67,M68,h,U,U⟩,sA,(bj aS 52 _).trans ((bj aS 52 _).trans ((bj aS 52 _).trans (cS [11,2,1,0,10,4,5,6,7,3,9,8] 15)))⟩
  replace h:=ah g62 h;refine D ?_;refine av U (fun g72=> ?_) (fun g72=> ?_)
  ·replace h:=ag g72 h;refine D ?_;obtain ⟨y73,hy73,h⟩:=aa h;refine gD (aZ (sv hy73) IU U (aJ [] [5,6,7,8,9,10,11] [0,1,2,3,4] 12 U)) ?_;rintro _ _ ⟨_,⟨A74,n74,c74,A75,n75,c75,A76,n76,c76,A77,n77,c77,M78,rfl,rfl⟩,rfl⟩;refine D ?_;exact ⟨_,_,⟨0,0,false,0,0,0,0,[],[],0,0,⟨#[]⟩,[],y73.m_.Young,y73.m_.Old,y73.roots_,y73.pending_,y73.set_.at_,none,0,0,none,0,0,none,0,0,A74,n74,c74,A75,n75,c75,A76,n76,c76,A77,n77,c77,M78,h,U,U⟩,sA,(bj aS 52 _).trans ((bj aS 52 _).trans ((bj aS 52 _).trans (cS [11,2,1,0,10,4,5,6,7,3,9,8] 15)))⟩
  replace h:=ah g72 h;refine D ?_;refine av U (fun g82=> ?_) (fun g82=> ?_)
  ·replace h:=ag g82 h;refine D ?_;obtain ⟨y83,hy83,h⟩:=aa h;refine gD (aZ (jI hy83) Fu U (aJ [] [5,6,7,8,9,10,11] [0,1,2,3,4] 12 U)) ?_;rintro _ _ ⟨_,⟨A84,n84,c84,A85,n85,c85,A86,n86,c86,A87,n87,c87,M88,rfl,rfl⟩,rfl⟩;refine D ?_;refine gO (aq (us:=[iV y83.1]) (cs':=[iV 0,iV y83.1,.bool false,iV 0,iV 0,iV 0,iV 0,O none 0 0,O none 0 0,iV 0,iV 0,.string (⟨#[]⟩),O none 0 0]) 7 U U U U EO U U U) ?_;rintro _ _ rfl;refine cq ?_;refine D ?_;exact ⟨_,_,⟨0,y83.1,false,0,0,0,0,[],[],0,0,⟨#[]⟩,[],y83.2.m_.Young,y83.2.m_.Old,y83.2.roots_,y83.2.pending_,y83.2.set_.at_,none,0,0,none,0,0,none,0,0,A84,n84,c84,A85,n85,c85,A86,n86,c86,A87,n87,c87,M88,h,U,U⟩,sA,(bj aS 52 _).trans ((bj aS 52 _).trans ((bj aS 52 _).trans (cS [11,2,1,0,10,4,5,6,7,3,9,8] 15)))⟩
  replace h:=ah g82 h;refine D ?_;refine av U (fun g92=> ?_) (fun g92=> ?_)
  ·replace h:=ag g92 h;refine D ?_;obtain ⟨y93,hy93,h⟩:=aa h;refine gD (aZ (mu hy93) HO U (aJ [] [5,6,7,8,9,10,11] [0,1,2,3,4] 12 U)) ?_;rintro _ _ ⟨_,⟨A94,n94,c94,A95,n95,c95,A96,n96,c96,A97,n97,c97,M98,rfl,rfl⟩,rfl⟩;refine D ?_;refine gO (aq (us:=[iV y93.1]) (cs':=[iV 0,iV y93.1,.bool false,iV 0,iV 0,iV 0,iV 0,O none 0 0,O none 0 0,iV 0,iV 0,.string (⟨#[]⟩),O none 0 0]) 7 U U U U EO U U U) ?_;rintro _ _ rfl;refine D ?_;exact ⟨_,_,⟨0,y93.1,false,0,0,0,0,[],[],0,0,⟨#[]⟩,[],y93.2.m_.Young,y93.2.m_.Old,y93.2.roots_,y93.2.pending_,y93.2.set_.at_,none,0,0,none,0,0,none,0,0,A94,n94,c94,A95,n95,c95,A96,n96,c96,A97,n97,c97,M98,h,U,U⟩,sA,(bj aS 52 _).trans ((bj aS 52 _).trans ((bj aS 52 _).trans (cS [11,2,1,0,10,4,5,6,7,3,9,8] 15)))⟩
  replace h:=ah g92 h;refine D ?_;refine av U (fun g102=> ?_) (fun g102=> ?_)
  ·replace h:=ag g102 h;refine D ?_;obtain ⟨y103,hy103,h⟩:=aa h;refine gD (aZ (uP hy103) N5 U (aJ [] [5,6,7,8,9,10,11] [0,1,2,3,4] 12 U)) ?_;rintro _ _ ⟨_,⟨A104,n104,c104,A105,n105,c105,A106,n106,c106,A107,n107,c107,A108,n108,c108,M109,rfl,rfl⟩,rfl⟩;refine cq ?_;refine D ?_;refine gO (aq (us:=[O A104 n104 c104]) (cs':=[iV 0,iV 0,.bool false,iV 0,iV 0,iV 0,iV 0,O none 0 0,O none 0 0,iV 0,iV 0,.string (⟨#[]⟩),O A104 n104 c104]) 8 U U U U du U U U) ?_;rintro _ _ rfl;refine D ?_;exact ⟨_,_,⟨0,0,false,0,0,0,0,[],[],0,0,⟨#[]⟩,y103.1,y103.2.m_.Young,y103.2.m_.Old,y103.2.roots_,y103.2.pending_,y103.2.set_.at_,none,0,0,none,0,0,A104,n104,c104,A105,n105,c105,A106,n106,c106,A107,n107,c107,A108,n108,c108,M109,h,U,U⟩,sA,(bj aS 52 _).trans ((bj aS 52 _).trans (cS [11,1,0,2,10,4,5,6,7,3,9,8] 15))⟩
  replace h:=ah g102 h;refine D ?_;refine av U (fun g112=> ?_) (fun g112=> ?_)
  ·replace h:=ag g112 h;refine D ?_;obtain ⟨y113,hy113,h⟩:=aa h;refine gD (ak (tL hy113) LK U (hE (aX (i:=5) U) (hE (ar (i:=6) U) (hE (ar (i:=7) U) (hE (ar (i:=8) U) (hE (ar (i:=9) U) (hE (aX (i:=10) U) (hE (cy (i:=11) U) ab))))))) rb) ?_;rintro _ _ ⟨_,⟨A114,n114,c114,A115,n115,c115,rfl,rfl⟩,rfl⟩;refine D ?_;refine gO (aq (us:=[iV y113.1.Kind,iV y113.1.Shape,iV y113.1.Flags,iV y113.1.Age,O A114 n114 c114,O A115 n115 c115]) (cs':=[iV 0,iV 0,.bool false,iV y113.1.Kind,iV y113.1.Shape,iV y113.1.Flags,iV y113.1.Age,O A114 n114 c114,O A115 n115 c115,iV 0,iV 0,.string (⟨#[]⟩),O none 0 0]) 2 U U U U bx U U U) ?_;rintro _ _ rfl;refine D ?_;refine gO (aq (us:=[.bool y113.2]) (cs':=[iV 0,iV 0,.bool y113.2,iV y113.1.Kind,iV y113.1.Shape,iV y113.1.Flags,iV y113.1.Age,O A114 n114 c114,O A115 n115 c115,iV 0,iV 0,.string (⟨#[]⟩),O none 0 0]) 2 U U U U wo U U U) ?_;rintro _ _ rfl;refine cq ?_;refine D ?_;exact ⟨_,_,⟨0,0,y113.2,y113.1.Kind,y113.1.Shape,y113.1.Flags,y113.1.Age,y113.1.Slots,y113.1.More,0,0,⟨#[]⟩,[],a0.m_.Young,a0.m_.Old,a0.roots_,a0.pending_,a0.set_.at_,A114,n114,c114,A115,n115,c115,none,0,0,A2,n2,c2,A3,n3,c3,A4,n4,c4,A5,n5,c5,M7,h,U,U⟩,sA,(bj aS 52 _).trans (cS [4,1,2,0,3,9,10,11,12,8,14,13] 15)⟩
  replace h:=ah g112 h;refine D ?_;obtain ⟨y117,hy117,h⟩:=aa h;refine gD (ak (nj hy117) FA U (hE (aX (i:=5) U) (hE (ar (i:=6) U) (hE (ar (i:=7) U) (hE (ar (i:=8) U) (hE (ar (i:=9) U) (hE (aX (i:=10) U) (hE (cy (i:=11) U) ab))))))) lK) ?_;rintro _ _ ⟨_,⟨rfl,rfl⟩,rfl⟩;refine D ?_;refine gO (aq (us:=[iV y117.Kind,iV y117.N,.string y117.S]) (cs':=[iV 0,iV 0,.bool false,iV 0,iV 0,iV 0,iV 0,O none 0 0,O none 0 0,iV y117.Kind,iV y117.N,.string y117.S,O none 0 0]) 0 U U U U aP U U U) ?_;rintro _ _ rfl;refine D ?_;exact ⟨_,_,⟨0,0,false,0,0,0,0,[],[],y117.Kind,y117.N,y117.S,[],a0.m_.Young,a0.m_.Old,a0.roots_,a0.pending_,a0.set_.at_,none,0,0,none,0,0,none,0,0,A2,n2,c2,A3,n3,c3,A4,n4,c4,A5,n5,c5,M7,h,U,U⟩,sA,(bj aS 52 _).trans ((bj aS 52 _).trans ((bj aS 52 _).trans (cS [4,2,1,0,3,9,10,11,12,8,14,13] 15)))⟩
 rintro _ _ ⟨p14,p15,p16,p17,p18,p19,p20,p21,p22,p23,p24,p25,p26,p27,p28,p29,p30,p31,A21,n21,c21,A22,n22,c22,A26,n26,c26,A27,n27,c27,A28,n28,c28,A29,n29,c29,A30,n30,c30,M31,h,rfl,rfl⟩;refine D ?_;refine gR (aA (us:=[iV p14,iV p15,.bool p16,iV p17,iV p18,iV p19,iV p20,O A21 n21 c21,O A22 n22 c22,iV p23,iV p24,.string p25,O A26 n26 c26]) 4 U U OD U) ?_;refine gO (aq (us:=[iV p14,iV p15,.bool p16,iV p17,iV p18,iV p19,iV p20,O A21 n21 c21,O A22 n22 c22,iV p23,iV p24,.string p25,O A26 n26 c26]) (cs':=[iV p14,iV p15,.bool p16,iV p17,iV p18,iV p19,iV p20,O A21 n21 c21,O A22 n22 c22,iV p23,iV p24,.string p25,O A26 n26 c26]) 0 U U U U OJ U U U) ?_;rintro _ _ rfl;refine D ?_;obtain rfl:=ao h;exact dt (rs:=[.cell 4 74]) (vs:=[.agg #[iV p14,iV p15,.bool p16,iV p17,iV p18,iV p19,iV p20,O A21 n21 c21,O A22 n22 c22,iV p23,iV p24,.string p25,O A26 n26 c26]]) U (.cons (bZ 0 U U OD) .nil) U (cS [1,2,3,9,5,6,7,8,11,10] 12) ⟨_,_,_,_,_,_,_,_,_,_,_,_,_,_,_,_,_,_,_,_,_,_,U,U⟩
def sr (N:Nat)(a0:(List Ra))(p3:(List Ra)):Option (List Ra):=
 some p3
def gA (N:Nat)(a0:(List Ra)):Nat→(List Ra)→Int→Option (List Ra)
 |0,_,_=>none
 |m4+1,p5,p6=>bif decide (p6<(a0.length:Int)) then ((aM a0 p6).bind fun x9=>(dZ N x9).bind fun y13=>bD (cc (p5.length+([y13]:List Ra).length)) (bD (in64 (p6+1)) ((gA N a0 m4) (p5++([y13]:List Ra)) (p6+1)))) else (sr N a0 p5)
def jS (N:Nat)(a0:(List Ra)):Option (List Ra):=
 gA N a0 N [] 0
theorem sq {N:Nat}{a0:(List Ra)}{r:(List Ra)}(h:jS N a0=some r):Okc Tryz.prog 84 [O A1 n1 c1] ([cA A1 n1 c1 a0]) (fun u post=> ∃A500 n500 c500,u=O A500 n500 c500∧post=[cA A500 n500 c500 r,cA A1 n1 c1 a0]):=by
 refine bw Tryz.func84 U U ?_;simp only [aQ];refine D ?_;refine aO (fun s L=> ∃p3 A3 n3 c3,sr N a0 p3=some r∧s=[(2,O none 0 0),(3,O A3 n3 c3)]∧L=[cA A3 n3 c3 p3,cA A1 n1 c1 a0]) ?_ ?_
 ·refine D ?_;refine gR (aK 0 U aF U QU) ?_;refine D ?_;refine bn (fun m s L=> ∃p5 p6 A5 n5 c5,gA N a0 m p5 p6=some r∧s=[(2,O none 0 0),(3,O A5 n5 c5),(6,O A1 n1 c1),(7,iV (a0.length:Int)),(8,iV p6)]∧L=[cA A5 n5 c5 p5,cA A1 n1 c1 a0]) N _ _ ⟨[],0,none,0,0,h,U,U⟩ sA ((bj di 47 _).trans (cS [0,1] 2)) ?_;rintro (_|m4) _ _ ⟨p5,p6,A5,n5,c5,h,rfl,rfl⟩
  ·exact aB h
  rw [gA.eq_2] at h;refine D ?_;refine az ?_;refine av U (fun g8=> ?_) (fun g8=> ?_)
  ·replace h:=ag g8 h;refine D ?_;refine az ?_;refine D ?_;obtain ⟨x9,hx9,h⟩:=aa h;obtain ⟨lx9,ux9,hx9⟩:=au hx9;refine gR (aH 1 U aF U U QU bx lx9 ux9) ?_;refine gD (Ga 1 U aF U hx9 be U (dK x9)) ?_;rintro u _ ⟨_,_,⟨A10,n10,c10,A11,n11,c11,rfl,rfl⟩,hu,rfl⟩;obtain rfl:u=.agg #[iV x9.Kind,iV x9.Shape,iV x9.Flags,iV x9.Age,O A10 n10 c10,O A11 n11 c11]:=hu;refine gD (aN dy U) ?_;rintro _ _ ⟨B12,rfl,rfl⟩;refine gO (aq (us:=[iV x9.Kind,iV x9.Shape,iV x9.Flags,iV x9.Age,O A10 n10 c10,O A11 n11 c11]) (cs':=[iV x9.Kind,iV x9.Shape,iV x9.Flags,iV x9.Age,O A10 n10 c10,O A11 n11 c11]) 0 U U U U bx U U U) ?_;rintro _ _ rfl;refine D ?_;refine gR (aA (us:=[iV x9.Kind,iV x9.Shape,iV x9.Flags,iV x9.Age,O A10 n10 c10,O A11 n11 c11]) 0 U U be U) ?_;obtain ⟨y13,hy13,h⟩:=aa h;refine gD (ak (gj hy13) tj U (hE (ad (i:=1) U U) (hE (ad (i:=2) U U) ab)) eU) ?_;rintro _ _ ⟨_,⟨A14,n14,c14,A15,n15,c15,rfl,rfl⟩,rfl⟩;refine qB (co 0 U) ?_;refine qB (co 1 U) ?_;refine cq ?_;refine gD (bN (R:=di) (vss:=[[iV y13.Kind,iV y13.Shape,iV y13.Flags,iV y13.Age,O A14 n14 c14,O A15 n15 c15]]) (xs:=[y13]) U (qy _ _ _ _ _ _ _ _ _ _) U U (fun _ _ hr=> .cons (⟨_,_,_,_,_,_,U,hr 0 _ U U,hr 1 _ U U⟩) All2.nil)) ?_;rintro _ _ ⟨A16,n16,c16,rfl,rfl⟩;obtain ⟨q17,h⟩:=ap h;refine gD (bA 6 0 U U aF U U QU Dd U U q17) ?_;rintro _ _ ⟨A18,n18,c18,rfl,rfl⟩
   refine D ?_;obtain ⟨q19,h⟩:=ap h;refine gE (aW U U q19.1 q19.2) ?_;refine D ?_;exact ⟨m4,_,_,Rm _,⟨p5++([y13]:List Ra),p6+1,A18,n18,c18,h,U,U⟩,sA,cS [6,7] 8⟩
  replace h:=ah g8 h;refine D ?_;exact ⟨_,_,⟨p5,A5,n5,c5,h,U,U⟩,sA,cS [0,1] 2⟩
 rintro _ _ ⟨p3,A3,n3,c3,h,rfl,rfl⟩;refine D ?_;obtain rfl:=ao h;exact aC U U (cS [0,1] 2) ⟨_,_,_,U,U⟩
def gQ (N:Nat)(a0:Re):Option (Rg×Re):=
 (aT N a0).bind fun y9=>bif y9 then (some ((⟨[],[]⟩:Rg),a0)) else ((jS N a0.m_.Young).bind fun y13=>(jS N a0.m_.Old).bind fun y15=>some ((⟨y13,y15⟩:Rg),a0))
theorem pa {N:Nat}{a0:Re}{r:(Rg×Re)}(h:gQ N a0=some r):Okc Tryz.prog 20 [pV B1 0] ([ay B1 86 [O A2 n2 c2,O A3 n3 c3,O A4 n4 c4,O A5 n5 c5,pV B6 0],cA A2 n2 c2 a0.m_.Young,cA A3 n3 c3 a0.m_.Old,bG A4 n4 c4 a0.roots_,bG A5 n5 c5 a0.pending_,ay B6 157 [.map (some M7)],bq cB d8 M7 a0.set_.at_]) (fun u post=> ∃A0 n0 c0 A1 n1 c1 A2 n2 c2 A3 n3 c3 A4 n4 c4 A5 n5 c5 M6,u=.agg #[O A0 n0 c0,O A1 n1 c1]∧post=[cA A0 n0 c0 r.1.Young,cA A1 n1 c1 r.1.Old,ay B1 86 [O A2 n2 c2,O A3 n3 c3,O A4 n4 c4,O A5 n5 c5,pV B6 0],cA A2 n2 c2 r.2.m_.Young,cA A3 n3 c3 r.2.m_.Old,bG A4 n4 c4 r.2.roots_,bG A5 n5 c5 r.2.pending_,ay B6 157 [.map (some M6)],bq cB d8 M6 r.2.set_.at_]):=by
 refine bw Tryz.func20 U U ?_;simp only [aQ];refine D ?_;refine gD (aN lD U) ?_;rintro _ _ ⟨B8,rfl,rfl⟩;refine D ?_;refine az ?_;refine D ?_;obtain ⟨y9,hy9,h⟩:=aa h;refine gD (ak (bQ hy9) nw U (hE (aX (i:=1) U) (hE (ar (i:=2) U) (hE (ar (i:=3) U) (hE (ar (i:=4) U) (hE (ar (i:=5) U) (hE (aX (i:=6) U) (hE (cy (i:=7) U) ab))))))) bF) ?_;rintro _ _ ⟨_,⟨rfl,rfl⟩,rfl⟩;refine D ?_;refine av U (fun g10=> ?_) (fun g10=> ?_)
 ·replace h:=ag g10 h;refine D ?_;refine gE (dr U (FH)) ?_;refine gO (aq (us:=[O none 0 0,O none 0 0]) (cs':=[O none 0 0,O none 0 0]) 0 U U U U ea U U U) ?_;rintro _ _ rfl;refine D ?_;obtain rfl:=ao h;exact dt (rs:=[.cell 2 36]) (vs:=[.agg #[O none 0 0,O none 0 0]]) U (.cons (bZ 0 U U cJ) .nil) U ((bj di 47 _).trans ((bj di 47 _).trans (cS [1,0,3,4,5,6,7,8,9] 10))) ⟨_,_,_,_,_,_,_,_,_,_,_,_,_,_,_,_,_,_,_,U,U⟩
 replace h:=ah g10 h;refine D ?_;refine az ?_;refine cn W _ (ai _) ?_;refine zE 0 U (ax U) ?_;refine zE 1 U (aL U) ?_;refine zE 2 U (dC U iD) ?_;refine zE 3 U (dC U tc) ?_;refine zR 4 U (bc 1 U U kQ U) ?_;refine zE 6 U (ax U) ?_;refine zE 7 U (aL U) ?_;refine zE 8 U (dC U iD) ?_;refine zE 9 U (bX U rj) ?_;refine zR 10 U (bc 1 U U kQ U) ?_;obtain ⟨y13,hy13,h⟩:=aa h;refine zD 5 U (aZ (sq hy13) LE U (aJ [] [2] [0,1,3,4,5,6,7] 8 U)) ?_;rintro _ _ ⟨_,⟨A14,n14,c14,rfl,rfl⟩,rfl⟩;refine bP (cS [2,3,1,4,5,6,7,8] 9) ?_;obtain ⟨y15,hy15,h⟩:=aa h;refine zD 11 U (aZ (sq hy15) LE U (aJ [] [4] [0,1,2,3,5,6,7,8] 9 U)) ?_;rintro _ _ ⟨_,⟨A16,n16,c16,rfl,rfl⟩,rfl⟩;refine bP (cS [4,5,3,1,6,7,8,9] 10) ?_;refine zE 12 U (dr U (C5 _ _ _ _ _ _)) ?_;refine nA 13 U W W (aq (us:=[O A14 n14 c14,O A16 n16 c16]) (cs':=[O A14 n14 c14,O A16 n16 c16]) 4 U U U U ea U U U) ?_;rintro _ _ rfl;refine bB W ?_;refine D ?_;obtain rfl:=ao h;exact dt (rs:=[.cell 2 36]) (vs:=[.agg #[O A14 n14 c14,O A16 n16 c16]]) U (.cons (bZ 4 U U cJ) .nil) U (cS [2,0,5,3,1,6,7,8,9] 10) ⟨_,_,_,_,_,_,_,_,_,_,_,_,_,_,_,_,_,_,_,U,U⟩
def iC (N:Nat)(a0:Re):Option (List Q5):=
 (aT N a0).bind fun y8=>bif y8 then (some []) else ((cU N a0.roots_).bind fun y11=>some y11)
theorem qh {N:Nat}{a0:Re}{r:(List Q5)}(h:iC N a0=some r):Okc Tryz.prog 21 [pV B1 0] ([bE B1 86 [O A2 n2 c2,O A3 n3 c3,O A4 n4 c4,O A5 n5 c5,pV B6 0],bz A2 n2 c2 a0.m_.Young,bz A3 n3 c3 a0.m_.Old,bm A4 n4 c4 a0.roots_,bm A5 n5 c5 a0.pending_,bE B6 157 [.map (some M7)],nD cB d8 M7 a0.set_.at_]) (fun u post=> ∃A0 n0 c0,u=O A0 n0 c0∧post=[bG A0 n0 c0 r]):=by
 refine bw Tryz.func21 U U ?_;simp only [aQ];refine D ?_;refine az ?_;refine D ?_;obtain ⟨y8,hy8,h⟩:=aa h;refine gD (ak (bQ hy8) nw U (hE (ad (i:=0) U U) (hE (ad (i:=1) U U) (hE (ad (i:=2) U U) (hE (ad (i:=3) U U) (hE (ad (i:=4) U U) (hE (ad (i:=5) U U) (hE (ad (i:=6) U U) ab))))))) bF) ?_;rintro _ _ ⟨_,⟨rfl,rfl⟩,rfl⟩;refine D ?_;refine av U (fun g9=> ?_) (fun g9=> ?_)
 ·replace h:=ag g9 h;refine D ?_;obtain rfl:=ao h;exact aC U U ((bj aS 52 _).trans (cS [0] 8)) ⟨_,_,_,U,U⟩
 replace h:=ah g9 h;refine D ?_;refine gR (bC 0 U U dE U) ?_;obtain ⟨y11,hy11,h⟩:=aa h;refine gD (ak (fc hy11) uY U (hE (ad (i:=3) U U) ab) dQ) ?_;rintro _ _ ⟨_,⟨A12,n12,c12,rfl,rfl⟩,rfl⟩;refine D ?_;obtain rfl:=ao h;exact aC U U (cS [0] 8) ⟨_,_,_,U,U⟩
theorem oG {r:(List Q5)}: ∀v post,((fun (u:Value) (post:List Chunk)=> ∃A0 n0 c0,u=O A0 n0 c0∧post=[bG A0 n0 c0 r])) v post→ ∀c∈post,cg c:=by
 rintro _ _ ⟨_,_,_,rfl,rfl⟩;exact hE bH (ab)
def gx (N:Nat)(a0:Q5):Option Bool:=
 (bif decide (a0.Kind<0) then (some true) else (some (decide (9<a0.Kind)))).bind fun b2=>bif b2 then (some false) else (bif decide (a0.Kind=5) then ((bif decide (a0.N=0) then (some (decide ((a0.S.size:Int)≤65536))) else (some false)).bind fun b5=>some b5) else (bif !(a0.S.toList==(⟨#[]⟩:ByteArray).toList) then (some false) else (bif decide (a0.Kind=2) then ((bif decide (a0.N=0) then (some true) else (some (decide (a0.N=1)))).bind fun b8=>some b8) else (bif decide (a0.Kind=3) then ((bif decide ((-9007199254740992)≤a0.N) then (some (decide (a0.N≤9007199254740992))) else (some false)).bind fun b10=>some b10) else ((bif decide (a0.Kind=6) then (some true) else (some (decide (a0.Kind=7)))).bind fun b11=>(bif b11 then (some true) else (some (decide (a0.Kind=9)))).bind fun b12=>bif b12 then (some (decide (1≤a0.N))) else (some (decide (a0.N=0))))))))
theorem Cf {N:Nat}{a0:Q5}{r:Bool}(h:gx N a0=some r):Okc Tryz.prog 201 [.agg #[iV a0.Kind,iV a0.N,.string a0.S]] ([]) (fun u post=>u=.bool r∧post=[]):=by
 refine bw Tryz.func201 U U ?_;simp only [aQ];refine D ?_;refine gD (bd U U) ?_;rintro _ _ ⟨B1,rfl,rfl⟩;refine D ?_;refine az ?_;refine D ?_;obtain ⟨b2,hb2,h⟩:=aa h;refine aE 4 10 b2 ?_ ?_
 ·clear h;refine aD 6 U (fun g2=> ?_) (fun g2=> ?_)
  ·have h:=ag g2 hb2;refine D ?_;obtain rfl:=ao h;exact ac sA (cS [0] 1)
  have h:=ah g2 hb2;refine D ?_;obtain rfl:=ao h;exact ac sA (cS [0] 1)
 refine D ?_;refine av U (fun g3=> ?_) (fun g3=> ?_)
 ·replace h:=ag g3 h;refine D ?_;obtain rfl:=ao h;exact aC U U (cS [] 1) ⟨U,U⟩
 replace h:=ah g3 h;refine D ?_;refine az ?_;refine D ?_;refine av U (fun g4=> ?_) (fun g4=> ?_)
 ·replace h:=ag g4 h;refine D ?_;obtain ⟨b5,hb5,h⟩:=aa h;refine aE 5 22 b5 ?_ ?_
  ·clear h;refine aD 17 U (fun g5=> ?_) (fun g5=> ?_)
   ·have h:=ag g5 hb5;refine D ?_;refine pn (Iq U t9) U (aU g5 U) U ?_;refine D ?_;obtain rfl:=ao h;exact ac sA (cS [0] 1)
   have h:=ah g5 hb5;refine D ?_;obtain rfl:=ao h;exact ac sA (cS [0] 1)
  refine D ?_;obtain rfl:=ao h;exact aC U U (cS [] 1) ⟨U,U⟩
 replace h:=ah g4 h;refine D ?_;refine az ?_;refine D ?_;refine gE (CS U U) ?_;refine D ?_;refine av U (fun g6=> ?_) (fun g6=> ?_)
 ·replace h:=ag g6 h;refine D ?_;obtain rfl:=ao h;exact aC U U (cS [] 1) ⟨U,U⟩
 replace h:=ah g6 h;refine D ?_;refine az ?_;refine D ?_;refine av U (fun g7=> ?_) (fun g7=> ?_)
 ·replace h:=ag g7 h;refine D ?_;obtain ⟨b8,hb8,h⟩:=aa h;refine aE 4 36 b8 ?_ ?_
  ·clear h;refine aD 32 U (fun g8=> ?_) (fun g8=> ?_)
   ·have h:=ag g8 hb8;refine D ?_;obtain rfl:=ao h;exact ac sA (cS [0] 1)
   have h:=ah g8 hb8;refine D ?_;obtain rfl:=ao h;exact ac sA (cS [0] 1)
  refine D ?_;obtain rfl:=ao h;exact aC U U (cS [] 1) ⟨U,U⟩
 replace h:=ah g7 h;refine D ?_;refine az ?_;refine D ?_;refine av U (fun g9=> ?_) (fun g9=> ?_)
 ·replace h:=ag g9 h;refine D ?_;obtain ⟨b10,hb10,h⟩:=aa h;refine aE 4 47 b10 ?_ ?_
  ·clear h;refine aD 43 U (fun g10=> ?_) (fun g10=> ?_)
   ·have h:=ag g10 hb10;refine D ?_;obtain rfl:=ao h;exact ac sA (cS [0] 1)
   have h:=ah g10 hb10;refine D ?_;obtain rfl:=ao h;exact ac sA (cS [0] 1)
  refine D ?_;obtain rfl:=ao h;exact aC U U (cS [] 1) ⟨U,U⟩
 replace h:=ah g9 h;refine D ?_;refine az ?_;refine D ?_;obtain ⟨b11,hb11,h⟩:=aa h;refine aE 4 55 b11 ?_ ?_
 ·clear h;refine aD 51 U (fun g11=> ?_) (fun g11=> ?_)
  ·have h:=ag g11 hb11;refine D ?_;obtain rfl:=ao h;exact ac sA (cS [0] 1)
  have h:=ah g11 hb11;refine D ?_;obtain rfl:=ao h;exact ac sA (cS [0] 1)
 refine D ?_;obtain ⟨b12,hb12,h⟩:=aa h;refine aE 4 60 b12 ?_ ?_
 ·clear h;refine aD 56 U (fun g12=> ?_) (fun g12=> ?_)
  ·have h:=ag g12 hb12;refine D ?_;obtain rfl:=ao h;exact ac sA (cS [0] 1)
  have h:=ah g12 hb12;refine D ?_;obtain rfl:=ao h;exact ac sA (cS [0] 1)
 refine D ?_;refine av U (fun g13=> ?_) (fun g13=> ?_)
 ·replace h:=ag g13 h;refine D ?_;obtain rfl:=ao h;exact aC U U (cS [] 1) ⟨U,U⟩
 replace h:=ah g13 h;refine D ?_;obtain rfl:=ao h;exact aC U U (cS [] 1) ⟨U,U⟩
theorem xV {r:Bool}: ∀v post,((fun (u:Value) (post:List Chunk)=>u=.bool r∧post=[])) v post→ ∀c∈post,cg c:=by
 rintro _ _ ⟨rfl,rfl⟩;exact ab
def iq (N:Nat)(a0:Int):Option Bool:=
 (bif decide (a0=1) then (some true) else (some (decide (a0=2)))).bind fun b1=>(bif b1 then (some true) else (some (decide (a0=3)))).bind fun b2=>(bif b2 then (some true) else (some (decide (a0=6)))).bind fun b3=>(bif b3 then (some true) else (some (decide (a0=8)))).bind fun b4=>(bif b4 then (some true) else (some (decide (a0=9)))).bind fun b5=>(bif b5 then (some true) else (some (decide (a0=10)))).bind fun b6=>some b6
theorem E2 {N:Nat}{a0:Int}{r:Bool}(h:iq N a0=some r):Okc Tryz.prog 242 [iV a0] ([]) (fun u post=>u=.bool r∧post=[]):=by
 refine bw Tryz.func242 U U ?_;simp only [aQ];refine D ?_;obtain ⟨b1,hb1,h⟩:=aa h;refine aE 3 8 b1 ?_ ?_
 ·clear h;refine aD 5 U (fun g1=> ?_) (fun g1=> ?_)
  ·have h:=ag g1 hb1;refine D ?_;obtain rfl:=ao h;exact ac sA (cS [] 0)
  have h:=ah g1 hb1;refine D ?_;obtain rfl:=ao h;exact ac sA (cS [] 0)
 refine D ?_;obtain ⟨b2,hb2,h⟩:=aa h;refine aE 3 12 b2 ?_ ?_
 ·clear h;refine aD 9 U (fun g2=> ?_) (fun g2=> ?_)
  ·have h:=ag g2 hb2;refine D ?_;obtain rfl:=ao h;exact ac sA (cS [] 0)
  have h:=ah g2 hb2;refine D ?_;obtain rfl:=ao h;exact ac sA (cS [] 0)
 refine D ?_;obtain ⟨b3,hb3,h⟩:=aa h;refine aE 3 16 b3 ?_ ?_
 ·clear h;refine aD 13 U (fun g3=> ?_) (fun g3=> ?_)
  ·have h:=ag g3 hb3;refine D ?_;obtain rfl:=ao h;exact ac sA (cS [] 0)
  have h:=ah g3 hb3;refine D ?_;obtain rfl:=ao h;exact ac sA (cS [] 0)
 refine D ?_;obtain ⟨b4,hb4,h⟩:=aa h;refine aE 3 20 b4 ?_ ?_
 ·clear h;refine aD 17 U (fun g4=> ?_) (fun g4=> ?_)
  ·have h:=ag g4 hb4;refine D ?_;obtain rfl:=ao h;exact ac sA (cS [] 0)
  have h:=ah g4 hb4;refine D ?_;obtain rfl:=ao h;exact ac sA (cS [] 0)
 refine D ?_;obtain ⟨b5,hb5,h⟩:=aa h;refine aE 3 24 b5 ?_ ?_
 ·clear h;refine aD 21 U (fun g5=> ?_) (fun g5=> ?_)
  ·have h:=ag g5 hb5;refine D ?_;obtain rfl:=ao h;exact ac sA (cS [] 0)
  have h:=ah g5 hb5;refine D ?_;obtain rfl:=ao h;exact ac sA (cS [] 0)
 refine D ?_;obtain ⟨b6,hb6,h⟩:=aa h;refine aE 3 28 b6 ?_ ?_
 ·clear h;refine aD 25 U (fun g6=> ?_) (fun g6=> ?_)
  ·have h:=ag g6 hb6;refine D ?_;obtain rfl:=ao h;exact ac sA (cS [] 0)
  have h:=ah g6 hb6;refine D ?_;obtain rfl:=ao h;exact ac sA (cS [] 0)
 refine D ?_;obtain rfl:=ao h;exact aC U U (cS [] 0) ⟨U,U⟩
theorem Ce {r:Bool}: ∀v post,((fun (u:Value) (post:List Chunk)=>u=.bool r∧post=[])) v post→ ∀c∈post,cg c:=by
 rintro _ _ ⟨rfl,rfl⟩;exact ab
def dB (N:Nat)(a0:Q5)(a1:Int):Option Bool:=
 (bif decide (a0.Kind=0) then (some true) else (some (decide (a0.Kind=a1)))).bind fun b2=>some b2
theorem mE {N:Nat}{a0:Q5}{a1:Int}{r:Bool}(h:dB N a0 a1=some r):Okc Tryz.prog 243 [.agg #[iV a0.Kind,iV a0.N,.string a0.S],iV a1] ([]) (fun u post=>u=.bool r∧post=[]):=by
 refine bw Tryz.func243 U U ?_;simp only [aQ];refine D ?_;refine gD (bd U U) ?_;rintro _ _ ⟨B1,rfl,rfl⟩;refine D ?_;obtain ⟨b2,hb2,h⟩:=aa h;refine aE 5 13 b2 ?_ ?_
 ·clear h;refine aD 8 U (fun g2=> ?_) (fun g2=> ?_)
  ·have h:=ag g2 hb2;refine D ?_;obtain rfl:=ao h;exact ac sA (cS [0] 1)
  have h:=ah g2 hb2;refine D ?_;obtain rfl:=ao h;exact ac sA (cS [0] 1)
 refine D ?_;obtain rfl:=ao h;exact aC U U (cS [] 1) ⟨U,U⟩
theorem ka {r:Bool}: ∀v post,((fun (u:Value) (post:List Chunk)=>u=.bool r∧post=[])) v post→ ∀c∈post,cg c:=by
 rintro _ _ ⟨rfl,rfl⟩;exact ab
def gn (N:Nat)(a0:Ra):Option Bool:=
 (iq N a0.Kind).bind fun y4=>(bif y4 then (some true) else ((bif decide (a0.Kind=7) then (some (decide (0<(a0.Slots.length:Int)))) else (some false)).bind fun b6=>some b6)).bind fun b5=>bif b5 then ((bif decide (1≤(a0.Slots.length:Int)) then (some (decide ((a0.Slots.length:Int)≤1025))) else (some false)).bind fun b8=>(bif b8 then ((aM a0.Slots 0).bind fun x10=>(bif decide (x10.Kind=1) then (some true) else ((aM a0.Slots 0).bind fun x12=>some (decide (x12.Kind=7)))).bind fun b11=>some b11) else (some false)).bind fun b9=>some b9) else (bif decide (a0.Kind=7) then (some (decide (a0.Shape=0))) else ((bif !decide (a0.Shape=0) then (some true) else (some (!decide (a0.Flags=0)))).bind fun b14=>bif b14 then (some false) else (bif decide (a0.Kind=5) then ((bif decide ((a0.Slots.length:Int)=2) then ((aM a0.Slots 0).bind fun x18=>(dB N x18 7).bind fun y19=>some y19) else (some false)).bind fun b17=>(bif b17 then ((aM a0.Slots 1).bind fun x21=>(dB N x21 7).bind fun y22=>some y22) else (some false)).bind fun b20=>some b20) else (some (decide ((a0.Slots.length:Int)=0))))))
theorem E1 {N:Nat}{a0:Ra}{r:Bool}(h:gn N a0=some r):Okc Tryz.prog 202 [.agg #[iV a0.Kind,iV a0.Shape,iV a0.Flags,iV a0.Age,O A1 n1 c1,O A2 n2 c2]] ([bm A1 n1 c1 a0.Slots,bm A2 n2 c2 a0.More]) (fun u post=>u=.bool r∧post=[]):=by
 refine bw Tryz.func202 U U ?_;simp only [aQ];refine D ?_;refine gD (bd U U) ?_;rintro _ _ ⟨B3,rfl,rfl⟩;refine D ?_;refine az ?_;refine D ?_;obtain ⟨y4,hy4,h⟩:=aa h;refine gD (ak (E2 hy4) Nz U (ab) Ce) ?_;rintro _ _ ⟨_,⟨rfl,rfl⟩,rfl⟩;refine D ?_;obtain ⟨b5,hb5,h⟩:=aa h;refine aE 10 16 b5 ?_ ?_
 ·clear h;refine aD 6 U (fun g5=> ?_) (fun g5=> ?_)
  ·have h:=ag g5 hb5;refine D ?_;obtain rfl:=ao h;exact ac sA (cS [0,1,2] 3)
  have h:=ah g5 hb5;refine D ?_;obtain ⟨b6,hb6,h⟩:=aa h;refine aE 5 15 b6 ?_ ?_
  ·clear h;refine aD 10 U (fun g6=> ?_) (fun g6=> ?_)
   ·have h:=ag g6 hb6;refine D ?_;refine bI (aK 1 U aj U hU) U (aU g6 U) U ?_;refine D ?_;obtain rfl:=ao h;exact ac sA (cS [0,1,2] 3)
   have h:=ah g6 hb6;refine D ?_;obtain rfl:=ao h;exact ac sA (cS [0,1,2] 3)
  refine D ?_;obtain rfl:=ao h;exact ac sA (cS [0,1,2] 3)
 refine D ?_;refine av U (fun g7=> ?_) (fun g7=> ?_)
 ·replace h:=ag g7 h;refine D ?_;refine gR (aK 1 U aj U hU) ?_;refine D ?_;obtain ⟨b8,hb8,h⟩:=aa h;refine aE 5 26 b8 ?_ ?_
  ·clear h;refine aD 21 U (fun g8=> ?_) (fun g8=> ?_)
   ·have h:=ag g8 hb8;refine D ?_;refine bI (aK 1 U aj U hU) U (aU g8 U) U ?_;refine D ?_;obtain rfl:=ao h;exact ac sA (cS [0,1,2] 3)
   have h:=ah g8 hb8;refine D ?_;obtain rfl:=ao h;exact ac sA (cS [0,1,2] 3)
  refine D ?_;obtain ⟨b9,hb9,h⟩:=aa h;refine aE 15 42 b9 ?_ ?_
  ·clear h;refine aD 27 U (fun g9=> ?_) (fun g9=> ?_)
   ·have h:=ag g9 hb9;refine D ?_;obtain ⟨x10,hx10,h⟩:=aa h;obtain ⟨lx10,ux10,hx10⟩:=au hx10;refine bI (aH 1 U aj U U hU aP lx10 ux10) U (aU g9 U) U ?_;refine bI (lE 1 U aj U (bo lx10 ux10) fw) U (aU g9 U) U ?_;refine bI (aY (u:=iV x10.Kind) 1 U aj U hx10 cZ (fun _ _ _ h=>by rw [show _=_ from h];rfl)) U (aU g9 U) U ?_;refine D ?_;obtain ⟨b11,hb11,h⟩:=aa h;refine aE 7 41 b11 ?_ ?_
    ·clear h;refine aD 34 U (fun g11=> ?_) (fun g11=> ?_)
     ·have h:=ag g11 hb11;refine D ?_;obtain rfl:=ao h;exact ac sA (cS [0,1,2] 3)
     have h:=ah g11 hb11;refine D ?_;obtain ⟨x12,hx12,h⟩:=aa h;obtain ⟨lx12,ux12,hx12⟩:=au hx12;refine bI (aH 1 U aj U U hU aP lx12 ux12) U (bV g11 U) U ?_;refine bI (lE 1 U aj U (bo lx12 ux12) fw) U (bV g11 U) U ?_;refine bI (aY (u:=iV x12.Kind) 1 U aj U hx12 cZ (fun _ _ _ h=>by rw [show _=_ from h];rfl)) U (bV g11 U) U ?_;refine D ?_;obtain rfl:=ao h;exact ac sA (cS [0,1,2] 3)
    refine D ?_;obtain rfl:=ao h;exact ac sA (cS [0,1,2] 3)
   have h:=ah g9 hb9;refine D ?_;obtain rfl:=ao h;exact ac sA (cS [0,1,2] 3)
  refine D ?_;obtain rfl:=ao h;exact aC U U (cS [] 3) ⟨U,U⟩
 replace h:=ah g7 h;refine D ?_;refine az ?_;refine D ?_;refine av U (fun g13=> ?_) (fun g13=> ?_)
 ·replace h:=ag g13 h;refine D ?_;obtain rfl:=ao h;exact aC U U (cS [] 3) ⟨U,U⟩
 replace h:=ah g13 h;refine D ?_;refine az ?_;refine D ?_;obtain ⟨b14,hb14,h⟩:=aa h;refine aE 4 56 b14 ?_ ?_
 ·clear h;refine aD 52 U (fun g14=> ?_) (fun g14=> ?_)
  ·have h:=ag g14 hb14;refine D ?_;obtain rfl:=ao h;exact ac sA (cS [0,1,2] 3)
  have h:=ah g14 hb14;refine D ?_;obtain rfl:=ao h;exact ac sA (cS [0,1,2] 3)
 refine D ?_;refine av U (fun g15=> ?_) (fun g15=> ?_)
 ·replace h:=ag g15 h;refine D ?_;obtain rfl:=ao h;exact aC U U (cS [] 3) ⟨U,U⟩
 replace h:=ah g15 h;refine D ?_;refine az ?_;refine D ?_;refine av U (fun g16=> ?_) (fun g16=> ?_)
 ·replace h:=ag g16 h;refine D ?_;refine gR (aK 1 U aj U hU) ?_;refine D ?_;obtain ⟨b17,hb17,h⟩:=aa h;refine aE 6 70 b17 ?_ ?_
  ·clear h;refine aD 64 U (fun g17=> ?_) (fun g17=> ?_)
   ·have h:=ag g17 hb17;refine D ?_;obtain ⟨x18,hx18,h⟩:=aa h;obtain ⟨lx18,ux18,hx18⟩:=au hx18;refine bI (aH 1 U aj U U hU aP lx18 ux18) U (aU g17 U) U ?_;refine bI (bp (us:=[iV x18.Kind,iV x18.N,.string x18.S]) 1 U aj U hx18 bW (fun _ _ _ h=>by rw [show _=_ from h];rfl)) U (aU g17 U) U ?_;obtain ⟨y19,hy19,h⟩:=aa h;refine cv (ak (mE hy19) vN U (ab) ka) U (aU g17 U) U ?_;rintro _ _ ⟨_,⟨rfl,rfl⟩,rfl⟩;refine D ?_;obtain rfl:=ao h;exact ac sA (cS [0,1,2] 3)
   have h:=ah g17 hb17;refine D ?_;obtain rfl:=ao h;exact ac sA (cS [0,1,2] 3)
  refine D ?_;obtain ⟨b20,hb20,h⟩:=aa h;refine aE 6 77 b20 ?_ ?_
  ·clear h;refine aD 71 U (fun g20=> ?_) (fun g20=> ?_)
   ·have h:=ag g20 hb20;refine D ?_;obtain ⟨x21,hx21,h⟩:=aa h;obtain ⟨lx21,ux21,hx21⟩:=au hx21;refine bI (aH 1 U aj U U hU aP lx21 ux21) U (aU g20 U) U ?_;refine bI (bp (us:=[iV x21.Kind,iV x21.N,.string x21.S]) 1 U aj U hx21 bW (fun _ _ _ h=>by rw [show _=_ from h];rfl)) U (aU g20 U) U ?_;obtain ⟨y22,hy22,h⟩:=aa h;refine cv (ak (mE hy22) vN U (ab) ka) U (aU g20 U) U ?_;rintro _ _ ⟨_,⟨rfl,rfl⟩,rfl⟩;refine D ?_;obtain rfl:=ao h;exact ac sA (cS [0,1,2] 3)
   have h:=ah g20 hb20;refine D ?_;obtain rfl:=ao h;exact ac sA (cS [0,1,2] 3)
  refine D ?_;obtain rfl:=ao h;exact aC U U (cS [] 3) ⟨U,U⟩
 replace h:=ah g16 h;refine D ?_;refine gR (aK 1 U aj U hU) ?_;refine D ?_;obtain rfl:=ao h;exact aC U U (cS [] 3) ⟨U,U⟩
theorem Cc {r:Bool}: ∀v post,((fun (u:Value) (post:List Chunk)=>u=.bool r∧post=[])) v post→ ∀c∈post,cg c:=by
 rintro _ _ ⟨rfl,rfl⟩;exact ab
def fh (N:Nat)(a0:Q5)(a1:Int)(a2:Int):Option Bool:=
 (bif decide (a0.Kind=3) then (some (decide (a1≤a0.N))) else (some false)).bind fun b2=>(bif b2 then (some (decide (a0.N≤a2))) else (some false)).bind fun b3=>some b3
theorem nL {N:Nat}{a0:Q5}{a1:Int}{a2:Int}{r:Bool}(h:fh N a0 a1 a2=some r):Okc Tryz.prog 244 [.agg #[iV a0.Kind,iV a0.N,.string a0.S],iV a1,iV a2] ([]) (fun u post=>u=.bool r∧post=[]):=by
 refine bw Tryz.func244 U U ?_;simp only [aQ];refine D ?_;refine gD (bd U U) ?_;rintro _ _ ⟨B1,rfl,rfl⟩;refine D ?_;obtain ⟨b2,hb2,h⟩:=aa h;refine aE 5 15 b2 ?_ ?_
 ·clear h;refine aD 10 U (fun g2=> ?_) (fun g2=> ?_)
  ·have h:=ag g2 hb2;refine D ?_;obtain rfl:=ao h;exact ac sA (cS [0] 1)
  have h:=ah g2 hb2;refine D ?_;obtain rfl:=ao h;exact ac sA (cS [0] 1)
 refine D ?_;obtain ⟨b3,hb3,h⟩:=aa h;refine aE 5 21 b3 ?_ ?_
 ·clear h;refine aD 16 U (fun g3=> ?_) (fun g3=> ?_)
  ·have h:=ag g3 hb3;refine D ?_;obtain rfl:=ao h;exact ac sA (cS [0] 1)
  have h:=ah g3 hb3;refine D ?_;obtain rfl:=ao h;exact ac sA (cS [0] 1)
 refine D ?_;obtain rfl:=ao h;exact aC U U (cS [] 1) ⟨U,U⟩
theorem lp {r:Bool}: ∀v post,((fun (u:Value) (post:List Chunk)=>u=.bool r∧post=[])) v post→ ∀c∈post,cg c:=by
 rintro _ _ ⟨rfl,rfl⟩;exact ab
def uy (N:Nat):Option Bool:=
 some true
def eK (N:Nat)(a1:Int)(a0:(List Q5)):Nat→Int→Option Bool
 |0,_=>none
 |m5+1,p6=>bif decide (p6<(a0.length:Int)) then ((aM a0 p6).bind fun x8=>(bif !decide (x8.Kind=7) then (some true) else (bD (in64 (p6+1)) ((aM a0 (p6+1)).bind fun x11=>some (decide (x11.Kind=8))))).bind fun b9=>bif b9 then (some false) else ((bif decide (a1=4) then (bD (in64 (p6+2)) ((aM a0 (p6+2)).bind fun x15=>(dB N x15 7).bind fun y16=>(bif !y16 then (some true) else (bD (in64 (p6+3)) ((aM a0 (p6+3)).bind fun x19=>(fh N x19 0 9007199254740992).bind fun y20=>some (!y20)))).bind fun b17=>some b17)) else (some false)).bind fun b13=>bif b13 then (some false) else (bD (in64 (p6+a1)) ((eK N a1 a0 m5) (p6+a1))))) else (uy N)
def cX (N:Nat)(a0:(List Q5))(a1:Int):Option Bool:=
 bD (a1≠0) (bif !decide ((a0.length:Int).tmod a1=0) then (some false) else (eK N a1 a0 N 0))
theorem ux {N:Nat}{a0:(List Q5)}{a1:Int}{r:Bool}(h:cX N a0 a1=some r):Okc Tryz.prog 245 [O A1 n1 c1,iV a1] ([bm A1 n1 c1 a0]) (fun u post=>u=.bool r∧post=[]):=by
 refine bw Tryz.func245 U U ?_;simp only [aQ];refine D ?_;refine az ?_;refine D ?_;refine gR (aK 0 U aj U hU) ?_;refine D ?_;obtain ⟨q2,h⟩:=ap h;refine gE (mx U U q2) ?_;refine D ?_;refine av U (fun g3=> ?_) (fun g3=> ?_)
 ·replace h:=ag g3 h;refine D ?_;obtain rfl:=ao h;exact aC U U (cS [] 1) ⟨U,U⟩
 replace h:=ah g3 h;refine D ?_;refine aO (fun s L=>uy N=some r∧s=[(4,.bool false)]∧L=[]) ?_ ?_
 ·refine D ?_;refine bn (fun m s L=> ∃p6,eK N a1 a0 m p6=some r∧s=[(0,O A1 n1 c1),(1,iV a1),(4,.bool false),(5,iV p6)]∧L=[bm A1 n1 c1 a0]) N _ _ ⟨0,h,U,U⟩ sA (cS [0] 1) ?_;rintro (_|m5) _ _ ⟨p6,h,rfl,rfl⟩
  ·exact aB h
  rw [eK.eq_2] at h;refine az ?_;refine D ?_;refine gR (aK 0 U aj U hU) ?_;refine D ?_;refine av U (fun g7=> ?_) (fun g7=> ?_)
  ·replace h:=ag g7 h;refine D ?_;refine az ?_;refine gY ?_;refine az ?_;refine D ?_;obtain ⟨x8,hx8,h⟩:=aa h;obtain ⟨lx8,ux8,hx8⟩:=au hx8;refine gR (aH 0 U aj U U hU aP lx8 ux8) ?_;refine gR (lE 0 U aj U (bo lx8 ux8) fw) ?_;refine gR (aY (u:=iV x8.Kind) 0 U aj U hx8 cZ (fun _ _ _ h=>by rw [show _=_ from h];rfl)) ?_;refine D ?_;obtain ⟨b9,hb9,h⟩:=aa h;refine aE 8 32 b9 ?_ ?_
   ·clear h;refine aD 24 U (fun g9=> ?_) (fun g9=> ?_)
    ·have h:=ag g9 hb9;refine D ?_;obtain rfl:=ao h;exact ac sA (cS [0] 1)
    have h:=ah g9 hb9;refine D ?_;obtain ⟨q10,h⟩:=ap h;refine pn (aW U U q10.1 q10.2) U (bV g9 U) U ?_;obtain ⟨x11,hx11,h⟩:=aa h;obtain ⟨lx11,ux11,hx11⟩:=au hx11;refine bI (aH 0 U aj U U hU aP lx11 ux11) U (bV g9 U) U ?_;refine bI (lE 0 U aj U (bo lx11 ux11) fw) U (bV g9 U) U ?_;refine bI (aY (u:=iV x11.Kind) 0 U aj U hx11 cZ (fun _ _ _ h=>by rw [show _=_ from h];rfl)) U (bV g9 U) U ?_;refine D ?_;obtain rfl:=ao h;exact ac sA (cS [0] 1)
   refine D ?_;refine av U (fun g12=> ?_) (fun g12=> ?_)
   ·replace h:=ag g12 h;refine D ?_;obtain rfl:=ao h;exact aC U U (cS [] 1) ⟨U,U⟩
   replace h:=ah g12 h;refine D ?_;obtain ⟨b13,hb13,h⟩:=aa h;refine aE 17 52 b13 ?_ ?_
   ·clear h;refine aD 35 U (fun g13=> ?_) (fun g13=> ?_)
    ·have h:=ag g13 hb13;refine D ?_;obtain ⟨q14,h⟩:=ap h;refine pn (aW U U q14.1 q14.2) U (aU g13 U) U ?_;obtain ⟨x15,hx15,h⟩:=aa h;obtain ⟨lx15,ux15,hx15⟩:=au hx15;refine bI (aH 0 U aj U U hU aP lx15 ux15) U (aU g13 U) U ?_;refine bI (bp (us:=[iV x15.Kind,iV x15.N,.string x15.S]) 0 U aj U hx15 bW (fun _ _ _ h=>by rw [show _=_ from h];rfl)) U (aU g13 U) U ?_;obtain ⟨y16,hy16,h⟩:=aa h;refine cv (ak (mE hy16) vN U (ab) ka) U (aU g13 U) U ?_;rintro _ _ ⟨_,⟨rfl,rfl⟩,rfl⟩;refine D ?_;obtain ⟨b17,hb17,h⟩:=aa h;refine aE 8 51 b17 ?_ ?_
     ·clear h;refine aD 43 U (fun g17=> ?_) (fun g17=> ?_)
      ·have h:=ag g17 hb17;refine D ?_;obtain rfl:=ao h;exact ac sA (cS [0] 1)
      have h:=ah g17 hb17;refine D ?_;obtain ⟨q18,h⟩:=ap h;refine pn (aW U U q18.1 q18.2) U (bV g17 U) U ?_;obtain ⟨x19,hx19,h⟩:=aa h;obtain ⟨lx19,ux19,hx19⟩:=au hx19;refine bI (aH 0 U aj U U hU aP lx19 ux19) U (bV g17 U) U ?_;refine bI (bp (us:=[iV x19.Kind,iV x19.N,.string x19.S]) 0 U aj U hx19 bW (fun _ _ _ h=>by rw [show _=_ from h];rfl)) U (bV g17 U) U ?_;obtain ⟨y20,hy20,h⟩:=aa h;refine cv (ak (nL hy20) vM U (ab) lp) U (bV g17 U) U ?_;rintro _ _ ⟨_,⟨rfl,rfl⟩,rfl⟩;refine D ?_;obtain rfl:=ao h;exact ac sA (cS [0] 1)
     refine D ?_;obtain rfl:=ao h;exact ac sA (cS [0] 1)
    have h:=ah g13 hb13;refine D ?_;obtain rfl:=ao h;exact ac sA (cS [0] 1)
   refine D ?_;refine av U (fun g21=> ?_) (fun g21=> ?_)
   ·replace h:=ag g21 h;refine D ?_;obtain rfl:=ao h;exact aC U U (cS [] 1) ⟨U,U⟩
   replace h:=ah g21 h;refine D ?_;obtain ⟨q22,h⟩:=ap h;refine gE (aW U U q22.1 q22.2) ?_;refine D ?_;exact ⟨m5,_,_,Rm _,⟨p6+a1,h,U,U⟩,sA,cS [0] 1⟩
  replace h:=ah g7 h;refine D ?_;exact ⟨_,_,⟨h,U,U⟩,sA,cS [] 1⟩
 rintro _ _ ⟨h,rfl,rfl⟩;refine D ?_;obtain rfl:=ao h;exact aC U U (cS [] 0) ⟨U,U⟩
theorem sd {r:Bool}: ∀v post,((fun (u:Value) (post:List Chunk)=>u=.bool r∧post=[])) v post→ ∀c∈post,cg c:=by
 rintro _ _ ⟨rfl,rfl⟩;exact ab
def ip (N:Nat)(a0:Ra)(p7:Bool):Option Bool:=
 bif p7 then (some (decide ((a0.More.length:Int)=0))) else (bif decide (a0.Kind=3) then ((bif decide ((a0.More.length:Int)=3) then ((aM a0.More 0).bind fun x12=>(fh N x12 0 9007199254740992).bind fun y13=>some y13) else (some false)).bind fun b11=>(bif b11 then ((aM a0.More 1).bind fun x15=>(dB N x15 9).bind fun y16=>some y16) else (some false)).bind fun b14=>some b14) else (bif decide (a0.Kind=4) then ((bif decide (1≤(a0.More.length:Int)) then (some (decide ((a0.More.length:Int)≤4097))) else (some false)).bind fun b18=>(bif b18 then ((aM a0.More 0).bind fun x20=>(dB N x20 9).bind fun y21=>some y21) else (some false)).bind fun b19=>some b19) else (bif decide (a0.Kind=6) then ((bif decide ((a0.More.length:Int)=2) then ((aM a0.More 0).bind fun x24=>(fh N x24 0 3).bind fun y25=>some y25) else (some false)).bind fun b23=>(bif b23 then ((aM a0.More 1).bind fun x27=>(dB N x27 9).bind fun y28=>some y28) else (some false)).bind fun b26=>some b26) else (bif decide (a0.Kind=7) then ((bif decide (4≤(a0.More.length:Int)) then ((aM a0.More 2).bind fun x31=>(fh N x31 0 1).bind fun y32=>some y32) else (some false)).bind fun b30=>(bif b30 then ((aM a0.More 3).bind fun x34=>(fh N x34 0 9007199254740992).bind fun y35=>some y35) else (some false)).bind fun b33=>some b33) else (bif decide (a0.Kind=8) then ((cX N a0.More 2).bind fun y37=>some y37) else (bif decide (a0.Kind=10) then ((bif decide (1≤(a0.More.length:Int)) then ((aM a0.More 0).bind fun x40=>some (decide (x40.Kind=7))) else (some false)).bind fun b39=>(bif b39 then (bD ((0:Int)≤1∧(1:Int).toNat≤a0.More.length∧a0.More.length≤a0.More.length) ((cX N ((a0.More.drop ((1:Int).toNat)).take (a0.More.length - (1:Int).toNat)) 4).bind fun y44=>some y44)) else (some false)).bind fun b41=>some b41) else (bif decide (a0.Kind=9) then ((bif decide (2≤(a0.More.length:Int)) then ((aM a0.More 0).bind fun x47=>(fh N x47 0 2).bind fun y48=>some y48) else (some false)).bind fun b46=>some b46) else (some true))))))))
def iK (N:Nat)(a0:Ra):Option Bool:=
 bif decide (1048576<(a0.More.length:Int)) then (some false) else (bif decide (a0.Kind=2) then (some (decide ((a0.More.length:Int)≤4096))) else (bif decide (a0.Kind=1) then (ip N a0 (decide (a0.Kind=1))) else (ip N a0 (decide (a0.Kind=5)))))
set_option maxHeartbeats 4000000 in
theorem F7 {N:Nat}{a0:Ra}{r:Bool}(h:iK N a0=some r):Okc Tryz.prog 203 [.agg #[iV a0.Kind,iV a0.Shape,iV a0.Flags,iV a0.Age,O A1 n1 c1,O A2 n2 c2]] ([bm A1 n1 c1 a0.Slots,bm A2 n2 c2 a0.More]) (fun u post=>u=.bool r∧post=[]):=by
 refine bw Tryz.func203 U U ?_;simp only [aQ];refine D ?_;refine gD (bd U U) ?_;rintro _ _ ⟨B3,rfl,rfl⟩;refine D ?_;refine az ?_;refine D ?_;refine gR (aK 2 U aj U hU) ?_;refine D ?_;refine av U (fun g4=> ?_) (fun g4=> ?_)
 ·replace h:=ag g4 h;refine D ?_;obtain rfl:=ao h;exact aC U U (cS [] 3) ⟨U,U⟩
 replace h:=ah g4 h;refine D ?_;refine az ?_;refine D ?_;refine av U (fun g5=> ?_) (fun g5=> ?_)
 ·replace h:=ag g5 h;refine D ?_;refine gR (aK 2 U aj U hU) ?_;refine D ?_;obtain rfl:=ao h;exact aC U U (cS [] 3) ⟨U,U⟩
 replace h:=ah g5 h;refine aO (fun s L=> ∃p7,ip N a0 p7=some r∧s=[(2,.bool false),(3,O A2 n2 c2),(10,iV a0.Kind),(16,.bool p7)]∧L=[bm A2 n2 c2 a0.More]) ?_ ?_
 ·refine D ?_;refine av U (fun g8=> ?_) (fun g8=> ?_)
  ·replace h:=ag g8 h;refine D ?_;exact ⟨_,_,⟨decide (a0.Kind=1),h,U,U⟩,sA,cS [2] 3⟩
  replace h:=ah g8 h;refine D ?_;exact ⟨_,_,⟨decide (a0.Kind=5),h,U,U⟩,sA,cS [2] 3⟩
 rintro _ _ ⟨p7,h,rfl,rfl⟩;refine av U (fun g9=> ?_) (fun g9=> ?_)
 ·replace h:=ag g9 h;refine D ?_;refine gR (aK 0 U aj U hU) ?_;refine D ?_;obtain rfl:=ao h;exact aC U U (cS [] 1) ⟨U,U⟩
 replace h:=ah g9 h;refine D ?_;refine av U (fun g10=> ?_) (fun g10=> ?_)
 ·replace h:=ag g10 h;refine D ?_;refine gR (aK 0 U aj U hU) ?_;refine D ?_;obtain ⟨b11,hb11,h⟩:=aa h;refine aE 5 32 b11 ?_ ?_
  ·clear h;refine aD 27 U (fun g11=> ?_) (fun g11=> ?_)
   ·have h:=ag g11 hb11;refine D ?_;obtain ⟨x12,hx12,h⟩:=aa h;obtain ⟨lx12,ux12,hx12⟩:=au hx12;refine bI (aH 0 U aj U U hU aP lx12 ux12) U (aU g11 U) U ?_;refine bI (bp (us:=[iV x12.Kind,iV x12.N,.string x12.S]) 0 U aj U hx12 bW (fun _ _ _ h=>by rw [show _=_ from h];rfl)) U (aU g11 U) U ?_;obtain ⟨y13,hy13,h⟩:=aa h;refine cv (ak (nL hy13) vM U (ab) lp) U (aU g11 U) U ?_;rintro _ _ ⟨_,⟨rfl,rfl⟩,rfl⟩;refine D ?_;obtain rfl:=ao h;exact ac sA (cS [0] 1)
   have h:=ah g11 hb11;refine D ?_;obtain rfl:=ao h;exact ac sA (cS [0] 1)
  refine D ?_;obtain ⟨b14,hb14,h⟩:=aa h;refine aE 5 38 b14 ?_ ?_
  ·clear h;refine aD 33 U (fun g14=> ?_) (fun g14=> ?_)
   ·have h:=ag g14 hb14;refine D ?_;obtain ⟨x15,hx15,h⟩:=aa h;obtain ⟨lx15,ux15,hx15⟩:=au hx15;refine bI (aH 0 U aj U U hU aP lx15 ux15) U (aU g14 U) U ?_;refine bI (bp (us:=[iV x15.Kind,iV x15.N,.string x15.S]) 0 U aj U hx15 bW (fun _ _ _ h=>by rw [show _=_ from h];rfl)) U (aU g14 U) U ?_;obtain ⟨y16,hy16,h⟩:=aa h;refine cv (ak (mE hy16) vN U (ab) ka) U (aU g14 U) U ?_;rintro _ _ ⟨_,⟨rfl,rfl⟩,rfl⟩;refine D ?_;obtain rfl:=ao h;exact ac sA (cS [0] 1)
   have h:=ah g14 hb14;refine D ?_;obtain rfl:=ao h;exact ac sA (cS [0] 1)
  refine D ?_;obtain rfl:=ao h;exact aC U U (cS [] 1) ⟨U,U⟩
 replace h:=ah g10 h;refine D ?_;refine av U (fun g17=> ?_) (fun g17=> ?_)
 ·replace h:=ag g17 h;refine D ?_;refine gR (aK 0 U aj U hU) ?_;refine D ?_;obtain ⟨b18,hb18,h⟩:=aa h;refine aE 4 48 b18 ?_ ?_
  ·clear h;refine aD 44 U (fun g18=> ?_) (fun g18=> ?_)
   ·have h:=ag g18 hb18;refine D ?_;refine bI (aK 0 U aj U hU) U (aU g18 U) U ?_;refine D ?_;obtain rfl:=ao h;exact ac sA (cS [0] 1)
   have h:=ah g18 hb18;refine D ?_;obtain rfl:=ao h;exact ac sA (cS [0] 1)
  refine D ?_;obtain ⟨b19,hb19,h⟩:=aa h;refine aE 5 54 b19 ?_ ?_
  ·clear h;refine aD 49 U (fun g19=> ?_) (fun g19=> ?_)
   ·have h:=ag g19 hb19;refine D ?_;obtain ⟨x20,hx20,h⟩:=aa h;obtain ⟨lx20,ux20,hx20⟩:=au hx20;refine bI (aH 0 U aj U U hU aP lx20 ux20) U (aU g19 U) U ?_;refine bI (bp (us:=[iV x20.Kind,iV x20.N,.string x20.S]) 0 U aj U hx20 bW (fun _ _ _ h=>by rw [show _=_ from h];rfl)) U (aU g19 U) U ?_;obtain ⟨y21,hy21,h⟩:=aa h;refine cv (ak (mE hy21) vN U (ab) ka) U (aU g19 U) U ?_;rintro _ _ ⟨_,⟨rfl,rfl⟩,rfl⟩;refine D ?_;obtain rfl:=ao h;exact ac sA (cS [0] 1)
   have h:=ah g19 hb19;refine D ?_;obtain rfl:=ao h;exact ac sA (cS [0] 1)
  refine D ?_;obtain rfl:=ao h;exact aC U U (cS [] 1) ⟨U,U⟩
 replace h:=ah g17 h;refine D ?_;refine av U (fun g22=> ?_) (fun g22=> ?_)
 ·replace h:=ag g22 h;refine D ?_;refine gR (aK 0 U aj U hU) ?_;refine D ?_;obtain ⟨b23,hb23,h⟩:=aa h;refine aE 5 65 b23 ?_ ?_
  ·clear h;refine aD 60 U (fun g23=> ?_) (fun g23=> ?_)
   ·have h:=ag g23 hb23;refine D ?_;obtain ⟨x24,hx24,h⟩:=aa h;obtain ⟨lx24,ux24,hx24⟩:=au hx24;refine bI (aH 0 U aj U U hU aP lx24 ux24) U (aU g23 U) U ?_;refine bI (bp (us:=[iV x24.Kind,iV x24.N,.string x24.S]) 0 U aj U hx24 bW (fun _ _ _ h=>by rw [show _=_ from h];rfl)) U (aU g23 U) U ?_;obtain ⟨y25,hy25,h⟩:=aa h;refine cv (ak (nL hy25) vM U (ab) lp) U (aU g23 U) U ?_;rintro _ _ ⟨_,⟨rfl,rfl⟩,rfl⟩;refine D ?_;obtain rfl:=ao h;exact ac sA (cS [0] 1)
   have h:=ah g23 hb23;refine D ?_;obtain rfl:=ao h;exact ac sA (cS [0] 1)
  refine D ?_;obtain ⟨b26,hb26,h⟩:=aa h;refine aE 5 71 b26 ?_ ?_
  ·clear h;refine aD 66 U (fun g26=> ?_) (fun g26=> ?_)
   ·have h:=ag g26 hb26;refine D ?_;obtain ⟨x27,hx27,h⟩:=aa h;obtain ⟨lx27,ux27,hx27⟩:=au hx27;refine bI (aH 0 U aj U U hU aP lx27 ux27) U (aU g26 U) U ?_;refine bI (bp (us:=[iV x27.Kind,iV x27.N,.string x27.S]) 0 U aj U hx27 bW (fun _ _ _ h=>by rw [show _=_ from h];rfl)) U (aU g26 U) U ?_;obtain ⟨y28,hy28,h⟩:=aa h;refine cv (ak (mE hy28) vN U (ab) ka) U (aU g26 U) U ?_;rintro _ _ ⟨_,⟨rfl,rfl⟩,rfl⟩;refine D ?_;obtain rfl:=ao h;exact ac sA (cS [0] 1)
   have h:=ah g26 hb26;refine D ?_;obtain rfl:=ao h;exact ac sA (cS [0] 1)
  refine D ?_;obtain rfl:=ao h;exact aC U U (cS [] 1) ⟨U,U⟩
 replace h:=ah g22 h;refine D ?_;refine av U (fun g29=> ?_) (fun g29=> ?_)
 ·replace h:=ag g29 h;refine D ?_;refine gR (aK 0 U aj U hU) ?_;refine D ?_;obtain ⟨b30,hb30,h⟩:=aa h;refine aE 5 82 b30 ?_ ?_
  ·clear h;refine aD 77 U (fun g30=> ?_) (fun g30=> ?_)
   ·have h:=ag g30 hb30;refine D ?_;obtain ⟨x31,hx31,h⟩:=aa h;obtain ⟨lx31,ux31,hx31⟩:=au hx31;refine bI (aH 0 U aj U U hU aP lx31 ux31) U (aU g30 U) U ?_;refine bI (bp (us:=[iV x31.Kind,iV x31.N,.string x31.S]) 0 U aj U hx31 bW (fun _ _ _ h=>by rw [show _=_ from h];rfl)) U (aU g30 U) U ?_;obtain ⟨y32,hy32,h⟩:=aa h;refine cv (ak (nL hy32) vM U (ab) lp) U (aU g30 U) U ?_;rintro _ _ ⟨_,⟨rfl,rfl⟩,rfl⟩;refine D ?_;obtain rfl:=ao h;exact ac sA (cS [0] 1)
   have h:=ah g30 hb30;refine D ?_;obtain rfl:=ao h;exact ac sA (cS [0] 1)
  refine D ?_;obtain ⟨b33,hb33,h⟩:=aa h;refine aE 5 88 b33 ?_ ?_
  ·clear h;refine aD 83 U (fun g33=> ?_) (fun g33=> ?_)
   ·have h:=ag g33 hb33;refine D ?_;obtain ⟨x34,hx34,h⟩:=aa h;obtain ⟨lx34,ux34,hx34⟩:=au hx34;refine bI (aH 0 U aj U U hU aP lx34 ux34) U (aU g33 U) U ?_;refine bI (bp (us:=[iV x34.Kind,iV x34.N,.string x34.S]) 0 U aj U hx34 bW (fun _ _ _ h=>by rw [show _=_ from h];rfl)) U (aU g33 U) U ?_;obtain ⟨y35,hy35,h⟩:=aa h;refine cv (ak (nL hy35) vM U (ab) lp) U (aU g33 U) U ?_;rintro _ _ ⟨_,⟨rfl,rfl⟩,rfl⟩;refine D ?_;obtain rfl:=ao h;exact ac sA (cS [0] 1)
   have h:=ah g33 hb33;refine D ?_;obtain rfl:=ao h;exact ac sA (cS [0] 1)
  refine D ?_;obtain rfl:=ao h;exact aC U U (cS [] 1) ⟨U,U⟩
 replace h:=ah g29 h;refine D ?_;refine av U (fun g36=> ?_) (fun g36=> ?_)
 ·replace h:=ag g36 h;refine D ?_;obtain ⟨y37,hy37,h⟩:=aa h;refine gD (ak (ux hy37) Ix U (hE (ad (i:=0) U U) ab) sd) ?_;rintro _ _ ⟨_,⟨rfl,rfl⟩,rfl⟩;refine D ?_;obtain rfl:=ao h;exact aC U U (cS [] 1) ⟨U,U⟩
 replace h:=ah g36 h;refine D ?_;refine av U (fun g38=> ?_) (fun g38=> ?_)
 ·replace h:=ag g38 h;refine D ?_;refine gR (aK 0 U aj U hU) ?_;refine D ?_;obtain ⟨b39,hb39,h⟩:=aa h;refine aE 6 104 b39 ?_ ?_
  ·clear h;refine aD 98 U (fun g39=> ?_) (fun g39=> ?_)
   ·have h:=ag g39 hb39;refine D ?_;obtain ⟨x40,hx40,h⟩:=aa h;obtain ⟨lx40,ux40,hx40⟩:=au hx40;refine bI (aH 0 U aj U U hU aP lx40 ux40) U (aU g39 U) U ?_;refine bI (lE 0 U aj U (bo lx40 ux40) fw) U (aU g39 U) U ?_;refine bI (aY (u:=iV x40.Kind) 0 U aj U hx40 cZ (fun _ _ _ h=>by rw [show _=_ from h];rfl)) U (aU g39 U) U ?_;refine D ?_;obtain rfl:=ao h;exact ac sA (cS [0] 1)
   have h:=ah g39 hb39;refine D ?_;obtain rfl:=ao h;exact ac sA (cS [0] 1)
  refine D ?_;obtain ⟨b41,hb41,h⟩:=aa h;refine aE 4 109 b41 ?_ ?_
  ·clear h;refine aD 105 U (fun g41=> ?_) (fun g41=> ?_)
   ·have h:=ag g41 hb41;refine D ?_;obtain ⟨q42,h⟩:=ap h;refine Mm 0 U (l:=(1:Int).toNat) (h:=a0.More.length) q42.2.1 q42.2.2 ?_;rintro A43 n43 c43 e43;refine bI (xG 1 U e43 U hU aP U (by rw [Int.toNat_of_nonneg q42.1];rfl) q42.2.1) U (aU g41 U) U ?_;obtain ⟨y44,hy44,h⟩:=aa h;refine cv (ak (ux hy44) Ix U (hE (ad (i:=0) U U) ab) sd) U (aU g41 U) U ?_;rintro _ _ ⟨_,⟨rfl,rfl⟩,rfl⟩;refine D ?_;obtain rfl:=ao h;exact ac sA (cS [1] 2)
   have h:=ah g41 hb41;refine D ?_;obtain rfl:=ao h;exact ac sA (cS [0] 1)
  refine D ?_;obtain rfl:=ao h;exact aC U U (cS [] 1) ⟨U,U⟩
 replace h:=ah g38 h;refine D ?_;refine av U (fun g45=> ?_) (fun g45=> ?_)
 ·replace h:=ag g45 h;refine D ?_;refine gR (aK 0 U aj U hU) ?_;refine D ?_;obtain ⟨b46,hb46,h⟩:=aa h;refine aE 5 120 b46 ?_ ?_
  ·clear h;refine aD 115 U (fun g46=> ?_) (fun g46=> ?_)
   ·have h:=ag g46 hb46;refine D ?_;obtain ⟨x47,hx47,h⟩:=aa h;obtain ⟨lx47,ux47,hx47⟩:=au hx47;refine bI (aH 0 U aj U U hU aP lx47 ux47) U (aU g46 U) U ?_;refine bI (bp (us:=[iV x47.Kind,iV x47.N,.string x47.S]) 0 U aj U hx47 bW (fun _ _ _ h=>by rw [show _=_ from h];rfl)) U (aU g46 U) U ?_;obtain ⟨y48,hy48,h⟩:=aa h;refine cv (ak (nL hy48) vM U (ab) lp) U (aU g46 U) U ?_;rintro _ _ ⟨_,⟨rfl,rfl⟩,rfl⟩;refine D ?_;obtain rfl:=ao h;exact ac sA (cS [0] 1)
   have h:=ah g46 hb46;refine D ?_;obtain rfl:=ao h;exact ac sA (cS [0] 1)
  refine D ?_;obtain rfl:=ao h;exact aC U U (cS [] 1) ⟨U,U⟩
 replace h:=ah g45 h;refine D ?_;obtain rfl:=ao h;exact aC U U (cS [] 1) ⟨U,U⟩
theorem Dm {r:Bool}: ∀v post,((fun (u:Value) (post:List Chunk)=>u=.bool r∧post=[])) v post→ ∀c∈post,cg c:=by
 rintro _ _ ⟨rfl,rfl⟩;exact ab
def cY (N:Nat)(a0:Ra):Option Bool:=
 (gn N a0).bind fun y27=>(bif y27 then ((iK N a0).bind fun y29=>some y29) else (some false)).bind fun b28=>some b28
def kc (N:Nat)(a0:Ra):Nat→Int→Option Bool
 |0,_=>none
 |m20+1,p21=>bif decide (p21<(a0.More.length:Int)) then ((aM a0.More p21).bind fun x23=>(gx N x23).bind fun y24=>bif !y24 then (some false) else (bD (in64 (p21+1)) ((kc N a0 m20) (p21+1)))) else (cY N a0)
def rK (N:Nat)(a0:Ra):Option Bool:=
 kc N a0 N 0
def fq (N:Nat)(a0:Ra):Nat→Int→Option Bool
 |0,_=>none
 |m12+1,p13=>bif decide (p13<(a0.Slots.length:Int)) then ((aM a0.Slots p13).bind fun x15=>(gx N x15).bind fun y16=>bif !y16 then (some false) else (bD (in64 (p13+1)) ((fq N a0 m12) (p13+1)))) else (rK N a0)
def cP (N:Nat)(a0:Ra):Option Bool:=
 (bif decide (a0.Kind<1) then (some true) else (some (decide (11<a0.Kind)))).bind fun b4=>(bif b4 then (some true) else (some (decide (a0.Shape<0)))).bind fun b5=>(bif b5 then (some true) else (some (decide (a0.Flags<0)))).bind fun b6=>(bif b6 then (some true) else (some (decide (63<a0.Flags)))).bind fun b7=>(bif b7 then (some true) else (some (decide (a0.Age<0)))).bind fun b8=>(bif b8 then (some true) else (some (decide (1<a0.Age)))).bind fun b9=>bif b9 then (some false) else (fq N a0 N 0)
theorem sO {N:Nat}{a0:Ra}{r:Bool}(h:cP N a0=some r):Okc Tryz.prog 130 [.agg #[iV a0.Kind,iV a0.Shape,iV a0.Flags,iV a0.Age,O A1 n1 c1,O A2 n2 c2]] ([bm A1 n1 c1 a0.Slots,bm A2 n2 c2 a0.More]) (fun u post=>u=.bool r∧post=[]):=by
 refine bw Tryz.func130 U U ?_;simp only [aQ];refine D ?_;refine gD (bd U U) ?_;rintro _ _ ⟨B3,rfl,rfl⟩;refine D ?_;refine az ?_;refine D ?_;obtain ⟨b4,hb4,h⟩:=aa h;refine aE 4 12 b4 ?_ ?_
 ·clear h;refine aD 8 U (fun g4=> ?_) (fun g4=> ?_)
  ·have h:=ag g4 hb4;refine D ?_;obtain rfl:=ao h;exact ac sA (cS [0,1,2] 3)
  have h:=ah g4 hb4;refine D ?_;obtain rfl:=ao h;exact ac sA (cS [0,1,2] 3)
 refine D ?_;obtain ⟨b5,hb5,h⟩:=aa h;refine aE 4 17 b5 ?_ ?_
 ·clear h;refine aD 13 U (fun g5=> ?_) (fun g5=> ?_)
  ·have h:=ag g5 hb5;refine D ?_;obtain rfl:=ao h;exact ac sA (cS [0,1,2] 3)
  have h:=ah g5 hb5;refine D ?_;obtain rfl:=ao h;exact ac sA (cS [0,1,2] 3)
 refine D ?_;obtain ⟨b6,hb6,h⟩:=aa h;refine aE 4 22 b6 ?_ ?_
 ·clear h;refine aD 18 U (fun g6=> ?_) (fun g6=> ?_)
  ·have h:=ag g6 hb6;refine D ?_;obtain rfl:=ao h;exact ac sA (cS [0,1,2] 3)
  have h:=ah g6 hb6;refine D ?_;obtain rfl:=ao h;exact ac sA (cS [0,1,2] 3)
 refine D ?_;obtain ⟨b7,hb7,h⟩:=aa h;refine aE 4 27 b7 ?_ ?_
 ·clear h;refine aD 23 U (fun g7=> ?_) (fun g7=> ?_)
  ·have h:=ag g7 hb7;refine D ?_;obtain rfl:=ao h;exact ac sA (cS [0,1,2] 3)
  have h:=ah g7 hb7;refine D ?_;obtain rfl:=ao h;exact ac sA (cS [0,1,2] 3)
 refine D ?_;obtain ⟨b8,hb8,h⟩:=aa h;refine aE 4 32 b8 ?_ ?_
 ·clear h;refine aD 28 U (fun g8=> ?_) (fun g8=> ?_)
  ·have h:=ag g8 hb8;refine D ?_;obtain rfl:=ao h;exact ac sA (cS [0,1,2] 3)
  have h:=ah g8 hb8;refine D ?_;obtain rfl:=ao h;exact ac sA (cS [0,1,2] 3)
 refine D ?_;obtain ⟨b9,hb9,h⟩:=aa h;refine aE 4 37 b9 ?_ ?_
 ·clear h;refine aD 33 U (fun g9=> ?_) (fun g9=> ?_)
  ·have h:=ag g9 hb9;refine D ?_;obtain rfl:=ao h;exact ac sA (cS [0,1,2] 3)
  have h:=ah g9 hb9;refine D ?_;obtain rfl:=ao h;exact ac sA (cS [0,1,2] 3)
 refine D ?_;refine av U (fun g10=> ?_) (fun g10=> ?_)
 ·replace h:=ag g10 h;refine D ?_;obtain rfl:=ao h;exact aC U U (cS [] 3) ⟨U,U⟩
 replace h:=ah g10 h;refine D ?_;refine aO (fun s L=>rK N a0=some r∧s=[(1,pV B3 0),(2,.bool false)]∧L=[bm A1 n1 c1 a0.Slots,bm A2 n2 c2 a0.More,ay B3 47 [iV a0.Kind,iV a0.Shape,iV a0.Flags,iV a0.Age,O A1 n1 c1,O A2 n2 c2]]) ?_ ?_
 ·refine D ?_;refine bn (fun m s L=> ∃p13,fq N a0 m p13=some r∧s=[(1,pV B3 0),(2,.bool false),(3,iV p13)]∧L=[bm A1 n1 c1 a0.Slots,bm A2 n2 c2 a0.More,ay B3 47 [iV a0.Kind,iV a0.Shape,iV a0.Flags,iV a0.Age,O A1 n1 c1,O A2 n2 c2]]) N _ _ ⟨0,h,U,U⟩ sA (cS [1,2,0] 3) ?_;rintro (_|m12) _ _ ⟨p13,h,rfl,rfl⟩
  ·exact aB h
  rw [fq.eq_2] at h;refine az ?_;refine D ?_;refine gR (aK 0 U aj U hU) ?_;refine D ?_;refine av U (fun g14=> ?_) (fun g14=> ?_)
  ·replace h:=ag g14 h;refine D ?_;refine az ?_;refine D ?_;obtain ⟨x15,hx15,h⟩:=aa h;obtain ⟨lx15,ux15,hx15⟩:=au hx15;refine gR (aH 0 U aj U U hU aP lx15 ux15) ?_;refine gR (bp (us:=[iV x15.Kind,iV x15.N,.string x15.S]) 0 U aj U hx15 bW (fun _ _ _ h=>by rw [show _=_ from h];rfl)) ?_;obtain ⟨y16,hy16,h⟩:=aa h;refine gD (ak (Cf hy16) IH U (ab) xV) ?_;rintro _ _ ⟨_,⟨rfl,rfl⟩,rfl⟩;refine D ?_;refine av U (fun g17=> ?_) (fun g17=> ?_)
   ·replace h:=ag g17 h;refine D ?_;obtain rfl:=ao h;exact aC U U (cS [] 3) ⟨U,U⟩
   replace h:=ah g17 h;refine D ?_;obtain ⟨q18,h⟩:=ap h;refine gE (aW U U q18.1 q18.2) ?_;refine D ?_;exact ⟨m12,_,_,Rm _,⟨p13+1,h,U,U⟩,sA,cS [0,1,2] 3⟩
  replace h:=ah g14 h;refine D ?_;exact ⟨_,_,⟨h,U,U⟩,sA,cS [0,1,2] 3⟩
 rintro _ _ ⟨h,rfl,rfl⟩;refine aO (fun s L=>cY N a0=some r∧s=[(1,pV B3 0),(2,.bool false)]∧L=[bm A1 n1 c1 a0.Slots,bm A2 n2 c2 a0.More,ay B3 47 [iV a0.Kind,iV a0.Shape,iV a0.Flags,iV a0.Age,O A1 n1 c1,O A2 n2 c2]]) ?_ ?_
 ·refine D ?_;refine bn (fun m s L=> ∃p21,kc N a0 m p21=some r∧s=[(1,pV B3 0),(2,.bool false),(4,iV p21)]∧L=[bm A1 n1 c1 a0.Slots,bm A2 n2 c2 a0.More,ay B3 47 [iV a0.Kind,iV a0.Shape,iV a0.Flags,iV a0.Age,O A1 n1 c1,O A2 n2 c2]]) N _ _ ⟨0,h,U,U⟩ sA (cS [0,1,2] 3) ?_;rintro (_|m20) _ _ ⟨p21,h,rfl,rfl⟩
  ·exact aB h
  rw [kc.eq_2] at h;refine az ?_;refine D ?_;refine gR (aK 1 U aj U hU) ?_;refine D ?_;refine av U (fun g22=> ?_) (fun g22=> ?_)
  ·replace h:=ag g22 h;refine D ?_;refine az ?_;refine D ?_;obtain ⟨x23,hx23,h⟩:=aa h;obtain ⟨lx23,ux23,hx23⟩:=au hx23;refine gR (aH 1 U aj U U hU aP lx23 ux23) ?_;refine gR (bp (us:=[iV x23.Kind,iV x23.N,.string x23.S]) 1 U aj U hx23 bW (fun _ _ _ h=>by rw [show _=_ from h];rfl)) ?_;obtain ⟨y24,hy24,h⟩:=aa h;refine gD (ak (Cf hy24) IH U (ab) xV) ?_;rintro _ _ ⟨_,⟨rfl,rfl⟩,rfl⟩;refine D ?_;refine av U (fun g25=> ?_) (fun g25=> ?_)
   ·replace h:=ag g25 h;refine D ?_;obtain rfl:=ao h;exact aC U U (cS [] 3) ⟨U,U⟩
   replace h:=ah g25 h;refine D ?_;obtain ⟨q26,h⟩:=ap h;refine gE (aW U U q26.1 q26.2) ?_;refine D ?_;exact ⟨m20,_,_,Rm _,⟨p21+1,h,U,U⟩,sA,cS [0,1,2] 3⟩
  replace h:=ah g22 h;refine D ?_;exact ⟨_,_,⟨h,U,U⟩,sA,cS [0,1,2] 3⟩
 rintro _ _ ⟨h,rfl,rfl⟩;refine D ?_;refine gR (aA (us:=[iV a0.Kind,iV a0.Shape,iV a0.Flags,iV a0.Age,O A1 n1 c1,O A2 n2 c2]) 2 U U be U) ?_;obtain ⟨y27,hy27,h⟩:=aa h;refine gD (ak (E1 hy27) NL U (hE (ad (i:=0) U U) (hE (ad (i:=1) U U) ab)) Cc) ?_;rintro _ _ ⟨_,⟨rfl,rfl⟩,rfl⟩;refine D ?_;obtain ⟨b28,hb28,h⟩:=aa h;refine aE 3 71 b28 ?_ ?_
 ·clear h;refine aD 68 U (fun g28=> ?_) (fun g28=> ?_)
  ·have h:=ag g28 hb28;refine bI (aA (us:=[iV a0.Kind,iV a0.Shape,iV a0.Flags,iV a0.Age,O A1 n1 c1,O A2 n2 c2]) 2 U U be U) U (aU g28 U) U ?_;obtain ⟨y29,hy29,h⟩:=aa h;refine cv (ak (F7 hy29) NK U (hE (ad (i:=0) U U) (hE (ad (i:=1) U U) ab)) Dm) U (aU g28 U) U ?_;rintro _ _ ⟨_,⟨rfl,rfl⟩,rfl⟩;refine D ?_;obtain rfl:=ao h;exact ac sA (cS [0,1,2] 3)
  have h:=ah g28 hb28;refine D ?_;obtain rfl:=ao h;exact ac sA (cS [0,1,2] 3)
 refine D ?_;obtain rfl:=ao h;exact aC U U (cS [] 3) ⟨U,U⟩
theorem pT {r:Bool}: ∀v post,((fun (u:Value) (post:List Chunk)=>u=.bool r∧post=[])) v post→ ∀c∈post,cg c:=by
 rintro _ _ ⟨rfl,rfl⟩;exact ab
def xO (N:Nat)(p4:(List Ra)):Option (List Ra):=
 some p4
def nV (N:Nat)(kb5:(List Ra)→Int→Option (List Ra))(p7:Int)(a0:(List Ra))(p6:(List Ra))(x9:Ra)(p15:(List Q5)):Option (List Ra):=
 bD (cc (p6.length+([(⟨x9.Kind,x9.Shape,x9.Flags,x9.Age,x9.Slots,p15⟩:Ra)]:List Ra).length)) (bD (in64 (p7+1)) (kb5 (p6++([(⟨x9.Kind,x9.Shape,x9.Flags,x9.Age,x9.Slots,p15⟩:Ra)]:List Ra)) (p7+1)))
def im (N:Nat)(a0:(List Ra)):Nat→(List Ra)→Int→Option (List Ra)
 |0,_,_=>none
 |m5+1,p6,p7=>bif decide (p7<(a0.length:Int)) then ((aM a0 p7).bind fun x9=>(bif decide (x9.Kind=10) then ((cP N x9).bind fun y17=>some y17) else (some false)).bind fun b16=>bif b16 then (bD ((0:Int)≤1∧0≤(1:Int).toNat∧(1:Int).toNat≤x9.More.length) (nV N (im N a0 m5) p7 a0 p6 x9 ((x9.More.drop 0).take ((1:Int).toNat - 0)))) else (nV N (im N a0 m5) p7 a0 p6 x9 x9.More)) else (xO N p6)
def oy (N:Nat)(a0:(List Ra)):Option (List Ra):=
 im N a0 N ([]:List Ra) 0
theorem xM {N:Nat}{a0:(List Ra)}{r:(List Ra)}(h:oy N a0=some r):Okc Tryz.prog 166 [O A1 n1 c1] ([bz A1 n1 c1 a0]) (fun u post=> ∃A0 n0 c0,u=O A0 n0 c0∧post=[cA A0 n0 c0 r]):=by
 refine bw Tryz.func166 U U ?_;simp only [aQ];refine D ?_;refine gD (bN (R:=di) (vss:=[]) (xs:=[]) U (LY) U U (fun _ _ hr=>All2.nil)) ?_;rintro _ _ ⟨A2,n2,c2,rfl,rfl⟩;refine D ?_;refine aO (fun s L=> ∃p4 A4 n4 c4,xO N p4=some r∧s=[(2,O none 0 0),(3,O A4 n4 c4)]∧L=[cA A4 n4 c4 p4]) ?_ ?_
 ·refine D ?_;refine bn (fun m s L=> ∃p6 p7 A6 n6 c6,im N a0 m p6 p7=some r∧s=[(0,O A1 n1 c1),(2,O none 0 0),(3,O A6 n6 c6),(4,iV p7)]∧L=[bz A1 n1 c1 a0,cA A6 n6 c6 p6]) N _ _ ⟨([]:List Ra),0,A2,n2,c2,h,U,U⟩ sA (cS [1,0] 2) ?_;rintro (_|m5) _ _ ⟨p6,p7,A6,n6,c6,h,rfl,rfl⟩
  ·exact aB h
  rw [im.eq_2] at h;refine az ?_;refine D ?_;refine gR (aK 0 U aj U QU) ?_;refine D ?_;refine av U (fun g8=> ?_) (fun g8=> ?_)
  ·replace h:=ag g8 h;refine D ?_;refine az ?_;refine D ?_;obtain ⟨x9,hx9,h⟩:=aa h;obtain ⟨lx9,ux9,hx9⟩:=au hx9;refine gR (aH 0 U aj U U QU bx lx9 ux9) ?_;refine oN 0 U hx9 (dK x9) ?_;rintro _ _ ⟨A10,n10,c10,A11,n11,c11,rfl,rfl⟩;refine gR (jC (us:=[iV x9.Kind,iV x9.Shape,iV x9.Flags,iV x9.Age,O A10 n10 c10,O A11 n11 c11]) 0 U U be U) ?_;refine gD (aN dy U) ?_;rintro _ _ ⟨B13,rfl,rfl⟩;refine gO (aq (us:=[iV x9.Kind,iV x9.Shape,iV x9.Flags,iV x9.Age,O A10 n10 c10,O A11 n11 c11]) (cs':=[iV x9.Kind,iV x9.Shape,iV x9.Flags,iV x9.Age,O A10 n10 c10,O A11 n11 c11]) 0 U U U U bx U U U) ?_;rintro _ _ rfl;refine D ?_;refine aO (fun s L=> ∃p15 A15 n15 c15,nV N (im N a0 m5) p7 a0 p6 x9 p15=some r∧s=[(0,O A1 n1 c1),(2,O none 0 0),(3,O A6 n6 c6),(4,iV p7),(5,pV B13 0)]∧L=[bz A1 n1 c1 a0,cA A6 n6 c6 p6,bm A10 n10 c10 x9.Slots,bm A15 n15 c15 p15,ay B13 47 [iV x9.Kind,iV x9.Shape,iV x9.Flags,iV x9.Age,O A10 n10 c10,O A15 n15 c15]]) ?_ ?_
   ·refine D ?_;obtain ⟨b16,hb16,h⟩:=aa h;refine aE 3 23 b16 ?_ ?_
    ·clear h;refine aD 20 U (fun g16=> ?_) (fun g16=> ?_)
     ·have h:=ag g16 hb16;refine bI (aA (us:=[iV x9.Kind,iV x9.Shape,iV x9.Flags,iV x9.Age,O A10 n10 c10,O A11 n11 c11]) 0 U U be U) U (aU g16 U) U ?_;obtain ⟨y17,hy17,h⟩:=aa h;refine cv (ak (sO hy17) FE U (hE (ad (i:=2) U U) (hE (ad (i:=3) U U) ab)) pT) U (aU g16 U) U ?_;rintro _ _ ⟨_,⟨rfl,rfl⟩,rfl⟩;refine D ?_;obtain rfl:=ao h;exact ac sA (cS [0,1,2,3,4,5] 6)
     have h:=ah g16 hb16;refine D ?_;obtain rfl:=ao h;exact ac sA (cS [0,1,2,3,4,5] 6)
    refine D ?_;refine av U (fun g18=> ?_) (fun g18=> ?_)
    ·replace h:=ag g18 h;refine D ?_;obtain ⟨q19,h⟩:=ap h;refine Mm 3 U (l:=0) (h:=(1:Int).toNat) q19.2.1 q19.2.2 ?_;rintro A20 n20 c20 e20;refine gR (Hf 4 U e20 U hU aP U U (by rw [Int.toNat_of_nonneg q19.1];rfl) q19.2.1 q19.2.2) ?_;refine D ?_;refine gO (aq (us:=[O A20 n20 c20]) (cs':=[iV x9.Kind,iV x9.Shape,iV x9.Flags,iV x9.Age,O A10 n10 c10,O A20 n20 c20]) 1 U U U U du U U U) ?_;rintro _ _ rfl;refine D ?_;exact ⟨_,_,⟨(x9.More.drop 0).take ((1:Int).toNat - 0),A20,n20,c20,h,U,U⟩,sA,cS [5,6,3,0,1] 7⟩
    replace h:=ah g18 h;refine D ?_;exact ⟨_,_,⟨x9.More,A11,n11,c11,h,U,U⟩,sA,cS [4,5,2,3,0] 6⟩
   rintro _ _ ⟨p15,A15,n15,c15,h,rfl,rfl⟩;refine D ?_;refine gR (aA (us:=[iV x9.Kind,iV x9.Shape,iV x9.Flags,iV x9.Age,O A10 n10 c10,O A15 n15 c15]) 4 U U be U) ?_;refine gD (bN (R:=di) (vss:=[[iV x9.Kind,iV x9.Shape,iV x9.Flags,iV x9.Age,O A10 n10 c10,O A15 n15 c15]]) (xs:=[(⟨x9.Kind,x9.Shape,x9.Flags,x9.Age,x9.Slots,p15⟩:Ra)]) U (qy _ _ _ _ _ _ _ _ _ _) U U (fun _ _ hr=> .cons (⟨_,_,_,_,_,_,U,hr 2 _ U U,hr 3 _ U U⟩) All2.nil)) ?_;rintro _ _ ⟨A21,n21,c21,rfl,rfl⟩;obtain ⟨q22,h⟩:=ap h;refine gD (bA 2 0 U U aF U U QU Dd U U q22) ?_;rintro _ _ ⟨A23,n23,c23,rfl,rfl⟩;refine cq ?_;refine D ?_;obtain ⟨q24,h⟩:=ap h;refine gE (aW U U q24.1 q24.2) ?_;refine D ?_;exact ⟨m5,_,_,Rm _,⟨p6++([(⟨x9.Kind,x9.Shape,x9.Flags,x9.Age,x9.Slots,p15⟩:Ra)]:List Ra),p7+1,A23,n23,c23,h,U,U⟩,sA,cS [1,2] 6⟩
  replace h:=ah g8 h;refine D ?_;exact ⟨_,_,⟨p6,A6,n6,c6,h,U,U⟩,sA,cS [1] 2⟩
 rintro _ _ ⟨p4,A4,n4,c4,h,rfl,rfl⟩;refine D ?_;obtain rfl:=ao h;exact aC U U (cS [0] 1) ⟨_,_,_,U,U⟩
def sb (N:Nat)(p4:(List Int)):Option (List Int):=
 some p4
def ll (N:Nat)(kb5:(List Int)→Int→Option (List Int))(p7:Int)(a0:(List Q5))(p10:(List Int)):Option (List Int):=
 bD (in64 (p7+1)) (kb5 p10 (p7+1))
def er (N:Nat)(a0:(List Q5)):Nat→(List Int)→Int→Option (List Int)
 |0,_,_=>none
 |m5+1,p6,p7=>bif decide (p7<(a0.length:Int)) then ((aM a0 p7).bind fun x11=>(bif decide (x11.Kind=7) then (some true) else ((aM a0 p7).bind fun x13=>some (decide (x13.Kind=9)))).bind fun b12=>bif b12 then ((aM a0 p7).bind fun x15=>bD (cc (p6.length+([x15.N]:List Int).length)) (ll N (er N a0 m5) p7 a0 (p6++([x15.N]:List Int)))) else (ll N (er N a0 m5) p7 a0 p6)) else (sb N p6)
def fY (N:Nat)(a0:(List Q5)):Option (List Int):=
 er N a0 N ([]:List Int) 0
theorem zk {N:Nat}{a0:(List Q5)}{r:(List Int)}(h:fY N a0=some r):Okc Tryz.prog 100 [O A1 n1 c1] ([bm A1 n1 c1 a0]) (fun u post=> ∃A0 n0 c0,u=O A0 n0 c0∧post=[db A0 n0 c0 r]):=by
 refine bw Tryz.func100 U U ?_;simp only [aQ];refine D ?_;refine gD (bN (R:=(fP .i64)) (vss:=[]) (xs:=[]) U (Ma) U U (fun _ _ hr=>All2.nil)) ?_;rintro _ _ ⟨A2,n2,c2,rfl,rfl⟩;refine D ?_;refine aO (fun s L=> ∃p4 A4 n4 c4,sb N p4=some r∧s=[(2,O none 0 0),(3,O A4 n4 c4)]∧L=[db A4 n4 c4 p4]) ?_ ?_
 ·refine D ?_;refine bn (fun m s L=> ∃p6 p7 A6 n6 c6,er N a0 m p6 p7=some r∧s=[(0,O A1 n1 c1),(2,O none 0 0),(3,O A6 n6 c6),(4,iV p7)]∧L=[bm A1 n1 c1 a0,db A6 n6 c6 p6]) N _ _ ⟨([]:List Int),0,A2,n2,c2,h,U,U⟩ sA (cS [1,0] 2) ?_;rintro (_|m5) _ _ ⟨p6,p7,A6,n6,c6,h,rfl,rfl⟩
  ·exact aB h
  rw [er.eq_2] at h;refine az ?_;refine D ?_;refine gR (aK 0 U aj U hU) ?_;refine D ?_;refine av U (fun g8=> ?_) (fun g8=> ?_)
  ·replace h:=ag g8 h;refine D ?_;refine aO (fun s L=> ∃p10 A10 n10 c10,ll N (er N a0 m5) p7 a0 p10=some r∧s=[(0,O A1 n1 c1),(2,O none 0 0),(3,O A10 n10 c10),(4,iV p7)]∧L=[bm A1 n1 c1 a0,db A10 n10 c10 p10]) ?_ ?_
   ·refine D ?_;obtain ⟨x11,hx11,h⟩:=aa h;obtain ⟨lx11,ux11,hx11⟩:=au hx11;refine gR (aH 0 U aj U U hU aP lx11 ux11) ?_;refine gR (lE 0 U aj U (bo lx11 ux11) fw) ?_;refine gR (aY (u:=iV x11.Kind) 0 U aj U hx11 cZ (fun _ _ _ h=>by rw [show _=_ from h];rfl)) ?_;refine D ?_;obtain ⟨b12,hb12,h⟩:=aa h;refine aE 7 25 b12 ?_ ?_
    ·clear h;refine aD 18 U (fun g12=> ?_) (fun g12=> ?_)
     ·have h:=ag g12 hb12;refine D ?_;obtain rfl:=ao h;exact ac sA (cS [0,1] 2)
     have h:=ah g12 hb12;refine D ?_;obtain ⟨x13,hx13,h⟩:=aa h;obtain ⟨lx13,ux13,hx13⟩:=au hx13;refine bI (aH 0 U aj U U hU aP lx13 ux13) U (bV g12 U) U ?_;refine bI (lE 0 U aj U (bo lx13 ux13) fw) U (bV g12 U) U ?_;refine bI (aY (u:=iV x13.Kind) 0 U aj U hx13 cZ (fun _ _ _ h=>by rw [show _=_ from h];rfl)) U (bV g12 U) U ?_;refine D ?_;obtain rfl:=ao h;exact ac sA (cS [0,1] 2)
    refine D ?_;refine av U (fun g14=> ?_) (fun g14=> ?_)
    ·replace h:=ag g14 h;refine D ?_;obtain ⟨x15,hx15,h⟩:=aa h;obtain ⟨lx15,ux15,hx15⟩:=au hx15;refine gR (aH 0 U aj U U hU aP lx15 ux15) ?_;refine gR (kM 0 U aj U (bo lx15 ux15) i4) ?_;refine gR (aY (u:=iV x15.N) 0 U aj U hx15 cZ (fun _ _ _ h=>by rw [show _=_ from h];rfl)) ?_;refine gD (bN (R:=(fP .i64)) (vss:=[[iV x15.N]]) (xs:=[x15.N]) U (gS _) U U (fun _ _ hr=> .cons U All2.nil)) ?_;rintro _ _ ⟨A16,n16,c16,rfl,rfl⟩;obtain ⟨q17,h⟩:=ap h;refine gD (bA 2 0 U U aF U U QW De U U q17) ?_;rintro _ _ ⟨A18,n18,c18,rfl,rfl⟩;refine D ?_;exact ⟨_,_,⟨p6++([x15.N]:List Int),A18,n18,c18,h,U,U⟩,sA,cS [1,2] 3⟩
    replace h:=ah g14 h;refine D ?_;exact ⟨_,_,⟨p6,A6,n6,c6,h,U,U⟩,sA,cS [0,1] 2⟩
   rintro _ _ ⟨p10,A10,n10,c10,h,rfl,rfl⟩;refine D ?_;obtain ⟨q19,h⟩:=ap h;refine gE (aW U U q19.1 q19.2) ?_;refine D ?_;exact ⟨m5,_,_,Rm _,⟨p10,p7+1,A10,n10,c10,h,U,U⟩,sA,cS [0,1] 2⟩
  replace h:=ah g8 h;refine D ?_;exact ⟨_,_,⟨p6,A6,n6,c6,h,U,U⟩,sA,cS [1] 2⟩
 rintro _ _ ⟨p4,A4,n4,c4,h,rfl,rfl⟩;refine D ?_;obtain rfl:=ao h;exact aC U U (cS [0] 1) ⟨_,_,_,U,U⟩
theorem wV {r:(List Int)}: ∀v post,((fun (u:Value) (post:List Chunk)=> ∃A0 n0 c0,u=O A0 n0 c0∧post=[db A0 n0 c0 r])) v post→ ∀c∈post,cg c:=by
 rintro _ _ ⟨_,_,_,rfl,rfl⟩;exact hE bH (ab)
def lm (N:Nat)(a0:Rg)(a1:Int):Option Bool:=
 bif decide (a1<1) then (some false) else (bif decide (a1.tmod 2=1) then (bD (in64 (a1 - 1)) (bD (in64 ((a1 - 1).tdiv 2)) (some (decide ((a1 - 1).tdiv 2<(a0.Young.length:Int)))))) else (bD (in64 (a1 - 2)) (bD (in64 ((a1 - 2).tdiv 2)) (some (decide ((a1 - 2).tdiv 2<(a0.Old.length:Int)))))))
theorem pR {N:Nat}{a0:Rg}{a1:Int}{r:Bool}(h:lm N a0 a1=some r):Okc Tryz.prog 28 [.agg #[O A1 n1 c1,O A2 n2 c2],iV a1] ([bz A1 n1 c1 a0.Young,bz A2 n2 c2 a0.Old]) (fun u post=>u=.bool r∧post=[]):=by
 refine bw Tryz.func28 U U ?_;simp only [aQ];refine D ?_;refine gD (bd U U) ?_;rintro _ _ ⟨B3,rfl,rfl⟩;refine D ?_;refine az ?_;refine D ?_;refine av U (fun g4=> ?_) (fun g4=> ?_)
 ·replace h:=ag g4 h;refine D ?_;obtain rfl:=ao h;exact aC U U (cS [] 3) ⟨U,U⟩
 replace h:=ah g4 h;refine D ?_;refine az ?_;refine D ?_;refine gE (mx U U (by decide)) ?_;refine D ?_;refine av U (fun g5=> ?_) (fun g5=> ?_)
 ·replace h:=ag g5 h;refine D ?_;obtain ⟨q6,h⟩:=ap h;refine gE (ko U U q6.1 q6.2) ?_;obtain ⟨q7,h⟩:=ap h;refine gE (qn U U (by decide) q7.1 q7.2) ?_;refine D ?_;refine gR (aK 1 U aj U QU) ?_;refine D ?_;obtain rfl:=ao h;exact aC U U (cS [] 3) ⟨U,U⟩
 replace h:=ah g5 h;refine D ?_;obtain ⟨q8,h⟩:=ap h;refine gE (ko U U q8.1 q8.2) ?_;obtain ⟨q9,h⟩:=ap h;refine gE (qn U U (by decide) q9.1 q9.2) ?_;refine D ?_;refine gR (aK 2 U aj U QU) ?_;refine D ?_;obtain rfl:=ao h;exact aC U U (cS [] 3) ⟨U,U⟩
theorem mT {r:Bool}: ∀v post,((fun (u:Value) (post:List Chunk)=>u=.bool r∧post=[])) v post→ ∀c∈post,cg c:=by
 rintro _ _ ⟨rfl,rfl⟩;exact ab
def DI (N:Nat):Option Bool:=
 some false
def vt (N:Nat)(a1:Int)(a0:(List Int)):Nat→Int→Option Bool
 |0,_=>none
 |m3+1,p4=>bif decide (p4<(a0.length:Int)) then ((aM a0 p4).bind fun x6=>bif decide (x6=a1) then (some true) else (bD (in64 (p4+1)) ((vt N a1 a0 m3) (p4+1)))) else (DI N)
def xT (N:Nat)(a0:(List Int))(a1:Int):Option Bool:=
 vt N a1 a0 N 0
theorem Jx {N:Nat}{a0:(List Int)}{a1:Int}{r:Bool}(h:xT N a0 a1=some r):Okc Tryz.prog 178 [O A1 n1 c1,iV a1] ([dv A1 n1 c1 a0]) (fun u post=>u=.bool r∧post=[]):=by
 refine bw Tryz.func178 U U ?_;simp only [aQ];refine D ?_;refine aO (fun s L=>DI N=some r∧s=[(4,.bool false)]∧L=[]) ?_ ?_
 ·refine D ?_;refine bn (fun m s L=> ∃p4,vt N a1 a0 m p4=some r∧s=[(0,O A1 n1 c1),(1,iV a1),(4,.bool false),(5,iV p4)]∧L=[dv A1 n1 c1 a0]) N _ _ ⟨0,h,U,U⟩ sA (cS [0] 1) ?_;rintro (_|m3) _ _ ⟨p4,h,rfl,rfl⟩
  ·exact aB h
  rw [vt.eq_2] at h;refine az ?_;refine D ?_;refine gR (aK 0 U aj U QW) ?_;refine D ?_;refine av U (fun g5=> ?_) (fun g5=> ?_)
  ·replace h:=ag g5 h;refine D ?_;refine az ?_;refine D ?_;obtain ⟨x6,hx6,h⟩:=aa h;obtain ⟨lx6,ux6,hx6⟩:=au hx6;refine gR (aH 0 U aj U U QW dh lx6 ux6) ?_;refine gR (aY (u:=iV x6) 0 U aj U hx6 cZ (fun _ _ _ h=>by rw [show _=_ from h];rfl)) ?_;refine D ?_;refine av U (fun g7=> ?_) (fun g7=> ?_)
   ·replace h:=ag g7 h;refine D ?_;obtain rfl:=ao h;exact aC U U (cS [] 1) ⟨U,U⟩
   replace h:=ah g7 h;refine D ?_;obtain ⟨q8,h⟩:=ap h;refine gE (aW U U q8.1 q8.2) ?_;refine D ?_;exact ⟨m3,_,_,Rm _,⟨p4+1,h,U,U⟩,sA,cS [0] 1⟩
  replace h:=ah g5 h;refine D ?_;exact ⟨_,_,⟨h,U,U⟩,sA,cS [] 1⟩
 rintro _ _ ⟨h,rfl,rfl⟩;refine D ?_;obtain rfl:=ao h;exact aC U U (cS [] 0) ⟨U,U⟩
theorem F4 {r:Bool}: ∀v post,((fun (u:Value) (post:List Chunk)=>u=.bool r∧post=[])) v post→ ∀c∈post,cg c:=by
 rintro _ _ ⟨rfl,rfl⟩;exact ab
def BT (N:Nat)(p7:(List Int)):Option (List Int):=
 some p7
def qV (N:Nat)(kb8:(List Int)→Int→Option (List Int))(p10:Int)(a2:(List Int))(a0:Rg)(p13:(List Int)):Option (List Int):=
 bD (in64 (p10+1)) (kb8 p13 (p10+1))
def kP (N:Nat)(a2:(List Int))(a0:Rg):Nat→(List Int)→Int→Option (List Int)
 |0,_,_=>none
 |m8+1,p9,p10=>bif decide (p10<(a2.length:Int)) then ((aM a2 p10).bind fun x14=>(lm N a0 x14).bind fun y15=>(bif y15 then ((aM a2 p10).bind fun x17=>(xT N p9 x17).bind fun y18=>some (!y18)) else (some false)).bind fun b16=>bif b16 then ((aM a2 p10).bind fun x20=>bD (cc (p9.length+([x20]:List Int).length)) (qV N (kP N a2 a0 m8) p10 a2 a0 (p9++([x20]:List Int)))) else (qV N (kP N a2 a0 m8) p10 a2 a0 p9)) else (BT N p9)
def mD (N:Nat)(a0:Rg)(a1:(List Int))(a2:(List Int)):Option (List Int):=
 kP N a2 a0 N a1 0
theorem wU {N:Nat}{a0:Rg}{a1:(List Int)}{a2:(List Int)}{r:(List Int)}(h:mD N a0 a1 a2=some r):Okc Tryz.prog 106 [.agg #[O A1 n1 c1,O A2 n2 c2],O A3 n3 c3,O A4 n4 c4] ([bz A1 n1 c1 a0.Young,bz A2 n2 c2 a0.Old,dv A4 n4 c4 a2,db A3 n3 c3 a1]) (fun u post=> ∃A0 n0 c0,u=O A0 n0 c0∧post=[db A0 n0 c0 r]):=by
 refine bw Tryz.func106 U U ?_;simp only [aQ];refine D ?_;refine gD (bd U U) ?_;rintro _ _ ⟨B5,rfl,rfl⟩;refine D ?_;refine aO (fun s L=> ∃p7 A7 n7 c7,BT N p7=some r∧s=[(1,O A7 n7 c7),(6,O none 0 0)]∧L=[db A7 n7 c7 p7]) ?_ ?_
 ·refine D ?_;refine bn (fun m s L=> ∃p9 p10 A9 n9 c9,kP N a2 a0 m p9 p10=some r∧s=[(1,O A9 n9 c9),(2,O A4 n4 c4),(3,pV B5 0),(6,O none 0 0),(7,iV p10)]∧L=[db A9 n9 c9 p9,dv A4 n4 c4 a2,bz A1 n1 c1 a0.Young,bz A2 n2 c2 a0.Old,ay B5 36 [O A1 n1 c1,O A2 n2 c2]]) N _ _ ⟨a1,0,A3,n3,c3,h,U,U⟩ sA (cS [4,3,1,2,0] 5) ?_;rintro (_|m8) _ _ ⟨p9,p10,A9,n9,c9,h,rfl,rfl⟩
  ·exact aB h
  rw [kP.eq_2] at h;refine az ?_;refine D ?_;refine gR (aK 1 U aj U QW) ?_;refine D ?_;refine av U (fun g11=> ?_) (fun g11=> ?_)
  ·replace h:=ag g11 h;refine D ?_;refine aO (fun s L=> ∃p13 A13 n13 c13,qV N (kP N a2 a0 m8) p10 a2 a0 p13=some r∧s=[(1,O A13 n13 c13),(2,O A4 n4 c4),(3,pV B5 0),(6,O none 0 0),(7,iV p10)]∧L=[db A13 n13 c13 p13,dv A4 n4 c4 a2,bz A1 n1 c1 a0.Young,bz A2 n2 c2 a0.Old,ay B5 36 [O A1 n1 c1,O A2 n2 c2]]) ?_ ?_
   ·refine gY ?_;refine az ?_;refine cn W _ (ai _) ?_;refine zR 0 U (aA (us:=[O A1 n1 c1,O A2 n2 c2]) 4 U U cJ U) ?_;refine zE 1 U (ax U) ?_;refine zE 2 U (ax U) ?_;obtain ⟨x14,hx14,h⟩:=aa h;obtain ⟨lx14,ux14,hx14⟩:=au hx14;refine zR 3 U (aH 1 U aj U U QW dh lx14 ux14) ?_;refine zR 4 U (aY (u:=iV x14) 1 U aj U hx14 cZ (fun _ _ _ h=>by rw [show _=_ from h];rfl)) ?_;obtain ⟨y15,hy15,h⟩:=aa h;refine zD 5 U (ak (pR hy15) C3 U (hE (ad (i:=2) U U) (hE (ad (i:=3) U U) ab)) mT) ?_;rintro _ _ ⟨_,⟨rfl,rfl⟩,rfl⟩;refine ⟨_,ai _,ai _,?_⟩;refine zE 6 U (ax U) ?_;obtain ⟨b16,hb16,h⟩:=aa h;refine iH (fun l=>((((((((l.setIfInBounds 7 true).setIfInBounds 8 true).setIfInBounds 9 true).setIfInBounds 10 true).setIfInBounds 11 true).setIfInBounds 12 true).setIfInBounds 13 true).setIfInBounds 14 true)) 0 28 b16 (fun rest=> ?_) ?_
    ·clear h;refine jK 20 U (fun g16=> ?_) (fun g16=> ?_)
     ·have h:=ag g16 hb16;refine cK 7 U W (ax U) (aU g16 U) U ?_;refine cK 8 U W (ax U) (aU g16 U) U ?_;refine cK 9 U W (ax U) (aU g16 U) U ?_;obtain ⟨x17,hx17,h⟩:=aa h;obtain ⟨lx17,ux17,hx17⟩:=au hx17;refine dw 10 U W (aH 1 U aj U U QW dh lx17 ux17) (aU g16 U) U ?_;refine dw 11 U W (aY (u:=iV x17) 1 U aj U hx17 cZ (fun _ _ _ h=>by rw [show _=_ from h];rfl)) (aU g16 U) U ?_;obtain ⟨y18,hy18,h⟩:=aa h;refine nz 12 U W (ak (Jx hy18) NT U (hE (ar (i:=0) U) ab) F4) U (aU g16 U) U ?_;rintro _ _ ⟨_,⟨rfl,rfl⟩,rfl⟩;refine ⟨_,ai _,ai _,?_⟩;refine cK 13 U W (xa U) (aU g16 U) U ?_;refine zE 14 U (dL g16 U U) ?_;obtain rfl:=ao h;exact eV rest (cp U (ae (ae (ae (ae (ae (ae (ae (ae bv U) U) U) U) U) U) U) U)) (ai _) (ai _)
     have h:=ah g16 hb16;refine bi 7 U W (ee g16 U) U ?_;refine bi 8 U W (ee g16 U) U ?_;refine bi 9 U W (ee g16 U) U ?_;refine bi 10 U W (ee g16 U) U ?_;refine bi 11 U W (ee g16 U) U ?_;refine bi 12 U W (ee g16 U) U ?_;refine bi 13 U W (ee g16 U) U ?_;refine zE 14 U (dM g16 U U) ?_;obtain rfl:=ao h;exact eV rest (cp U (ae (ae (ae (ae (ae (ae (ae (ae bv U) U) U) U) U) U) U) U)) (ai _) (ai _)
    refine bB W ?_;refine gM ?_;refine av U (fun g19=> ?_) (fun g19=> ?_)
    ·replace h:=ag g19 h;refine D ?_;obtain ⟨x20,hx20,h⟩:=aa h;obtain ⟨lx20,ux20,hx20⟩:=au hx20;refine gR (aH 1 U aj U U QW dh lx20 ux20) ?_;refine gR (aY (u:=iV x20) 1 U aj U hx20 cZ (fun _ _ _ h=>by rw [show _=_ from h];rfl)) ?_;refine gD (bN (R:=(fP .i64)) (vss:=[[iV x20]]) (xs:=[x20]) U (gS _) U U (fun _ _ hr=> .cons U All2.nil)) ?_;rintro _ _ ⟨A21,n21,c21,rfl,rfl⟩;obtain ⟨q22,h⟩:=ap h;refine gD (bA 1 0 U U aF U U QW De U U q22) ?_;rintro _ _ ⟨A23,n23,c23,rfl,rfl⟩;refine D ?_;exact ⟨_,_,⟨p9++([x20]:List Int),A23,n23,c23,h,U,U⟩,sA,cS [1,2,3,4,5] 6⟩
    replace h:=ah g19 h;refine D ?_;exact ⟨_,_,⟨p9,A9,n9,c9,h,U,U⟩,sA,cS [0,1,2,3,4] 5⟩
   rintro _ _ ⟨p13,A13,n13,c13,h,rfl,rfl⟩;refine D ?_;obtain ⟨q24,h⟩:=ap h;refine gE (aW U U q24.1 q24.2) ?_;refine D ?_;exact ⟨m8,_,_,Rm _,⟨p13,p10+1,A13,n13,c13,h,U,U⟩,sA,cS [0,1,2,3,4] 5⟩
  replace h:=ah g11 h;refine D ?_;exact ⟨_,_,⟨p9,A9,n9,c9,h,U,U⟩,sA,cS [0] 5⟩
 rintro _ _ ⟨p7,A7,n7,c7,h,rfl,rfl⟩;refine D ?_;obtain rfl:=ao h;exact aC U U (cS [0] 1) ⟨_,_,_,U,U⟩
def mU (N:Nat)(a0:Rg)(a1:Int):Option Ra:=
 (lm N a0 a1).bind fun y5=>bif !y5 then (some (⟨0,0,0,0,[],[]⟩:Ra)) else (bif decide (a1.tmod 2=1) then (bD (in64 (a1 - 1)) (bD (in64 ((a1 - 1).tdiv 2)) ((aM a0.Young ((a1 - 1).tdiv 2)).bind fun x12=>some x12))) else (bD (in64 (a1 - 2)) (bD (in64 ((a1 - 2).tdiv 2)) ((aM a0.Old ((a1 - 2).tdiv 2)).bind fun x18=>some x18))))
theorem vu {N:Nat}{a0:Rg}{a1:Int}{r:Ra}(h:mU N a0 a1=some r):Okc Tryz.prog 31 [.agg #[O A1 n1 c1,O A2 n2 c2],iV a1] ([bz A1 n1 c1 a0.Young,bz A2 n2 c2 a0.Old]) (fun u post=> ∃A0 n0 c0 A1 n1 c1,u=.agg #[iV r.Kind,iV r.Shape,iV r.Flags,iV r.Age,O A0 n0 c0,O A1 n1 c1]∧post=[bm A0 n0 c0 r.Slots,bm A1 n1 c1 r.More]):=by
 refine bw Tryz.func31 U U ?_;simp only [aQ];refine D ?_;refine gD (bd U U) ?_;rintro _ _ ⟨B3,rfl,rfl⟩;refine gD (aN dy U) ?_;rintro _ _ ⟨B4,rfl,rfl⟩;refine D ?_;refine az ?_;refine D ?_;refine gR (aA (us:=[O A1 n1 c1,O A2 n2 c2]) 1 U U cJ U) ?_;refine D ?_;obtain ⟨y5,hy5,h⟩:=aa h;refine gD (ak (pR hy5) C3 U (hE (ad (i:=2) U U) (hE (ad (i:=3) U U) ab)) mT) ?_;rintro _ _ ⟨_,⟨rfl,rfl⟩,rfl⟩;refine D ?_;refine av U (fun g6=> ?_) (fun g6=> ?_)
 ·replace h:=ag g6 h;refine D ?_;refine gE (dr U (vQ)) ?_;refine gO (aq (us:=[iV 0,iV 0,iV 0,iV 0,O none 0 0,O none 0 0]) (cs':=[iV 0,iV 0,iV 0,iV 0,O none 0 0,O none 0 0]) 0 U U U U bx U U U) ?_;rintro _ _ rfl;refine D ?_;obtain rfl:=ao h;exact dt (rs:=[.cell 4 47]) (vs:=[.agg #[iV 0,iV 0,iV 0,iV 0,O none 0 0,O none 0 0]]) U (.cons (bZ 0 U U be) .nil) U ((Bc aS _).trans ((Bc aS _).trans (cS [1,0] 6))) ⟨_,_,_,_,_,_,U,U⟩
 replace h:=ah g6 h;refine D ?_;refine az ?_;refine D ?_;refine gE (mx U U (by decide)) ?_;refine D ?_;refine av U (fun g9=> ?_) (fun g9=> ?_)
 ·replace h:=ag g9 h;refine D ?_;obtain ⟨q10,h⟩:=ap h;refine gE (ko U U q10.1 q10.2) ?_;obtain ⟨q11,h⟩:=ap h;refine gE (qn U U (by decide) q11.1 q11.2) ?_;obtain ⟨x12,hx12,h⟩:=aa h;obtain ⟨lx12,ux12,hx12⟩:=au hx12;refine gR (aH 2 U aj U U QU bx lx12 ux12) ?_;refine oN 2 U hx12 (dK x12) ?_;rintro _ _ ⟨A13,n13,c13,A14,n14,c14,rfl,rfl⟩;refine gR (jC (us:=[iV x12.Kind,iV x12.Shape,iV x12.Flags,iV x12.Age,O A13 n13 c13,O A14 n14 c14]) 0 U U be U) ?_;refine gO (aq (us:=[iV x12.Kind,iV x12.Shape,iV x12.Flags,iV x12.Age,O A13 n13 c13,O A14 n14 c14]) (cs':=[iV x12.Kind,iV x12.Shape,iV x12.Flags,iV x12.Age,O A13 n13 c13,O A14 n14 c14]) 3 U U U U bx U U U) ?_;rintro _ _ rfl;refine D ?_;obtain rfl:=ao h;exact dt (rs:=[.cell 4 47]) (vs:=[.agg #[iV x12.Kind,iV x12.Shape,iV x12.Flags,iV x12.Age,O A13 n13 c13,O A14 n14 c14]]) U (.cons (bZ 3 U U be) .nil) U (cS [1,2] 7) ⟨_,_,_,_,_,_,U,U⟩
 replace h:=ah g9 h;refine D ?_;obtain ⟨q16,h⟩:=ap h;refine gE (ko U U q16.1 q16.2) ?_;obtain ⟨q17,h⟩:=ap h;refine gE (qn U U (by decide) q17.1 q17.2) ?_;obtain ⟨x18,hx18,h⟩:=aa h;obtain ⟨lx18,ux18,hx18⟩:=au hx18;refine gR (aH 3 U aj U U QU bx lx18 ux18) ?_;refine oN 3 U hx18 (dK x18) ?_;rintro _ _ ⟨A19,n19,c19,A20,n20,c20,rfl,rfl⟩;refine gR (jC (us:=[iV x18.Kind,iV x18.Shape,iV x18.Flags,iV x18.Age,O A19 n19 c19,O A20 n20 c20]) 0 U U be U) ?_;refine gO (aq (us:=[iV x18.Kind,iV x18.Shape,iV x18.Flags,iV x18.Age,O A19 n19 c19,O A20 n20 c20]) (cs':=[iV x18.Kind,iV x18.Shape,iV x18.Flags,iV x18.Age,O A19 n19 c19,O A20 n20 c20]) 3 U U U U bx U U U) ?_;rintro _ _ rfl;refine cq ?_;refine D ?_;obtain rfl:=ao h;exact dt (rs:=[.cell 4 47]) (vs:=[.agg #[iV x18.Kind,iV x18.Shape,iV x18.Flags,iV x18.Age,O A19 n19 c19,O A20 n20 c20]]) U (.cons (bZ 3 U U be) .nil) U (cS [1,2] 7) ⟨_,_,_,_,_,_,U,U⟩
def pt (N:Nat)(a0:Q5):Option Bool:=
 (bif decide (a0.Kind=7) then (some true) else (some (decide (a0.Kind=9)))).bind fun b2=>some b2
theorem Cd {N:Nat}{a0:Q5}{r:Bool}(h:pt N a0=some r):Okc Tryz.prog 204 [.agg #[iV a0.Kind,iV a0.N,.string a0.S]] ([]) (fun u post=>u=.bool r∧post=[]):=by
 refine bw Tryz.func204 U U ?_;simp only [aQ];refine D ?_;refine gD (bd U U) ?_;rintro _ _ ⟨B1,rfl,rfl⟩;refine D ?_;obtain ⟨b2,hb2,h⟩:=aa h;refine aE 4 10 b2 ?_ ?_
 ·clear h;refine aD 6 U (fun g2=> ?_) (fun g2=> ?_)
  ·have h:=ag g2 hb2;refine D ?_;obtain rfl:=ao h;exact ac sA (cS [0] 1)
  have h:=ah g2 hb2;refine D ?_;obtain rfl:=ao h;exact ac sA (cS [0] 1)
 refine D ?_;obtain rfl:=ao h;exact aC U U (cS [] 1) ⟨U,U⟩
theorem xU {r:Bool}: ∀v post,((fun (u:Value) (post:List Chunk)=>u=.bool r∧post=[])) v post→ ∀c∈post,cg c:=by
 rintro _ _ ⟨rfl,rfl⟩;exact ab
def pS (N:Nat)(a0:Int)(a1:Int):Option Bool:=
 (bif decide (a0=8) then (some true) else ((bif decide (a0=10) then (some (decide (0<a1))) else (some false)).bind fun b2=>(bif b2 then (bD (in64 (a1 - 1)) (some (decide (((a1 - 1).tmod 4).tmod 2=0)))) else (some false)).bind fun b3=>some b3)).bind fun b1=>some b1
theorem F6 {N:Nat}{a0:Int}{a1:Int}{r:Bool}(h:pS N a0 a1=some r):Okc Tryz.prog 205 [iV a0,iV a1] ([]) (fun u post=>u=.bool r∧post=[]):=by
 refine bw Tryz.func205 U U ?_;simp only [aQ];refine D ?_;obtain ⟨b1,hb1,h⟩:=aa h;refine aE 14 21 b1 ?_ ?_
 ·clear h;refine aD 7 U (fun g1=> ?_) (fun g1=> ?_)
  ·have h:=ag g1 hb1;refine D ?_;obtain rfl:=ao h;exact ac sA (cS [] 0)
  have h:=ah g1 hb1;refine D ?_;obtain ⟨b2,hb2,h⟩:=aa h;refine aE 3 13 b2 ?_ ?_
  ·clear h;refine aD 10 U (fun g2=> ?_) (fun g2=> ?_)
   ·have h:=ag g2 hb2;refine D ?_;obtain rfl:=ao h;exact ac sA (cS [] 0)
   have h:=ah g2 hb2;refine D ?_;obtain rfl:=ao h;exact ac sA (cS [] 0)
  refine D ?_;obtain ⟨b3,hb3,h⟩:=aa h;refine aE 6 20 b3 ?_ ?_
  ·clear h;refine aD 14 U (fun g3=> ?_) (fun g3=> ?_)
   ·have h:=ag g3 hb3;refine D ?_;obtain ⟨q4,h⟩:=ap h;refine pn (ko U U q4.1 q4.2) U (aU g3 U) U ?_;refine pn (mx U U (by decide)) U (aU g3 U) U ?_;refine pn (mx U U (by decide)) U (aU g3 U) U ?_;refine D ?_;obtain rfl:=ao h;exact ac sA (cS [] 0)
   have h:=ah g3 hb3;refine D ?_;obtain rfl:=ao h;exact ac sA (cS [] 0)
  refine D ?_;obtain rfl:=ao h;exact ac sA (cS [] 0)
 refine D ?_;obtain rfl:=ao h;exact aC U U (cS [] 0) ⟨U,U⟩
theorem Dl {r:Bool}: ∀v post,((fun (u:Value) (post:List Chunk)=>u=.bool r∧post=[])) v post→ ∀c∈post,cg c:=by
 rintro _ _ ⟨rfl,rfl⟩;exact ab
end Go.Proofs.YtmimkglhbmcokaaGreat