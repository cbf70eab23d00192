/- Merged texts: part 5. No conditions of their own. -/
import Derived.Test.YtmimkglhbmcokaaGreatG4
namespace Go.Proofs.YtmimkglhbmcokaaGreat
variable {A1 A2:Option Addr} {c1 c2 n1 n2:Nat}
open Go.RowKit Asn
set_option maxRecDepth 20000
def ef (N:Nat):Option Bool:=
 (bG N 2).bind fun y1=>(dr N ([y1]:List Gu)).bind fun y3=>(dr N []).bind fun y6=>(dr N []).bind fun y11=>(dr N []).bind fun y15=>(bG N 1).bind fun y21=>(dx N (⟨([y3,y6]:List Gw),([y11,y15]:List Gw)⟩:Gx) ([y21]:List Gu)).bind fun y23=>(bG N 1).bind fun y26=>(bw N (⟨([y3,y6]:List Gw),([y11,y15]:List Gw)⟩:Gx) ([y26]:List Gu)).bind fun y29=>(bG N 4).bind fun y57=>(bG N 6).bind fun y58=>(bG N 8).bind fun y59=>(dr N []).bind fun y61=>(dr N []).bind fun y65=>(dr N []).bind fun y69=>(bG N 2).bind fun y75=>(bw N (⟨[],([(⟨10,0,0,0,([(⟨1,0,⟨#[]⟩⟩:Gu)]:List Gu),([y57,y58,y59,(⟨0,0,⟨#[]⟩⟩:Gu),(⟨3,7,⟨#[]⟩⟩:Gu)]:List Gu)⟩:Gw),y61,y65,y69]:List Gw)⟩:Gx) ([y75]:List Gu)).bind fun y78=>(ck N y23.1 ([2,1]:List Int)).bind fun y108=>(bif y108 then ((ck N y23.2 ([2,4]:List Int)).bind fun y112=>some y112) else (some false)).bind fun b109=>((bif b109 then (some (decide (y29.2.2.2=0))) else (some false)).bind fun b113=>((bif b113 then (some (decide ((y29.1.Old.length:Int)=2))) else (some false)).bind fun b114=>((bif b114 then (some (decide ((y29.1.Young.length:Int)=0))) else (some false)).bind fun b115=>((bif b115 then ((aH y29.1.Old 1).bind fun x117=>some (decide ((x117.More.length:Int)=1))) else (some false)).bind fun b116=>((bif b116 then ((aH y29.1.Old 1).bind fun x123=>(aH x123.More 0).bind fun x128=>(bG N 2).bind fun y131=>some (decide (x128=y131))) else (some false)).bind fun b122=>((bif b122 then (some (decide ((y29.2.1.length:Int)=1))) else (some false)).bind fun b132=>((bif b132 then ((aH y29.2.1 0).bind fun x134=>(bG N 4).bind fun y135=>some (decide (x134=y135))) else (some false)).bind fun b133=>((bif b133 then (some (decide ((y29.2.2.1.length:Int)=0))) else (some false)).bind fun b136=>((bif b136 then (some (decide (y78.2.2.2=0))) else (some false)).bind fun b137=>((bif b137 then (some (decide ((y78.1.Old.length:Int)=3))) else (some false)).bind fun b138=>((bif b138 then ((bG N 4).bind fun y140=>(bG N 6).bind fun y141=>(bM N y78.2.2.1 ([y140,y141,(⟨3,7,⟨#[]⟩⟩:Gu)]:List Gu)).bind fun y144=>some y144) else (some false)).bind fun b139=>(some b139))))))))))))
set_option maxHeartbeats 4000000 in
theorem ry {N:Nat}{r:Bool}(h:ef N=some r):Okc Tryz.prog 43 [] ([]) (fun u post=>u=.bool r∧post=[]):=by
 refine bx Tryz.func43 J J ?_;simp only [aU];refine V ?_;obtain ⟨y1,hy1,h⟩:=aa h;refine gD (ak (cK hy1) iP J (ai) bU) ?_;rintro _ _ ⟨_,⟨rfl,rfl⟩,rfl⟩;refine gD (aN (R:=aF) (vss:=[(ar y1)]) (xs:=[y1]) J (gN _ _ _) J J (fun _ _ hr=> .cons J All2.nil)) ?_;rintro _ _ ⟨A2,n2,c2,rfl,rfl⟩;obtain ⟨y3,hy3,h⟩:=aa h;refine kT (cg 0 J) ?_;refine bX ?_;refine gD (jA (ee hy3) mO J J J (bq [0] [] [0] 1 J)) ?_;rintro _ _ ⟨_,⟨A4,n4,c4,A5,n5,c5,rfl,rfl⟩,rfl⟩;refine bX ?_;refine V ?_;obtain ⟨y6,hy6,h⟩:=aa h;refine kT (gU aF _) ?_;refine gD (jA (ee hy6) mO J J J (bq [0] [] [0,1,2,3] 4 J)) ?_;rintro _ _ ⟨_,⟨A7,n7,c7,A8,n8,c8,rfl,rfl⟩,rfl⟩;refine bX ?_;refine gD (aN (R:=bV) (vss:=[[iV y3.Kind,iV y3.Shape,iV y3.Flags,iV y3.Age,I A4 n4 c4,I A5 n5 c5],[iV y6.Kind,iV y6.Shape,iV y6.Flags,iV y6.Age,I A7 n7 c7,I A8 n8 c8]]) (xs:=[y3,y6]) J (xT _ _ _ _ _ _ _ _ _ _ _ _ _ _ _ _ _ _ _ _) J J (fun _ _ hr=> .cons (⟨_,_,_,_,_,_,J,hr 3 _ J J,hr 4 _ J J⟩) (.cons (⟨_,_,_,_,_,_,J,hr 0 _ J J,hr 1 _ J J⟩) All2.nil))) ?_;rintro _ _ ⟨A10,n10,c10,rfl,rfl⟩;refine V ?_;obtain ⟨y11,hy11,h⟩:=aa h;refine kT (gU aF _) ?_;refine gD (jA (ee hy11) mO J J J (bq [0] [] [0,1,2,3,4,5,6,7] 8 J)) ?_;rintro _ _ ⟨_,⟨A12,n12,c12,A13,n13,c13,rfl,rfl⟩,rfl⟩;refine bX ?_;refine V ?_;obtain ⟨y15,hy15,h⟩:=aa h;refine kT (gU aF _) ?_;refine gD (jA (ee hy15) mO J J J (bq [0] [] [0,1,2,3,4,5,6,7,8,9,10] 11 J)) ?_
 rintro _ _ ⟨_,⟨A16,n16,c16,A17,n17,c17,rfl,rfl⟩,rfl⟩;refine bX ?_;refine gD (aN (R:=bV) (vss:=[[iV y11.Kind,iV y11.Shape,iV y11.Flags,iV y11.Age,I A12 n12 c12,I A13 n13 c13],[iV y15.Kind,iV y15.Shape,iV y15.Flags,iV y15.Age,I A16 n16 c16,I A17 n17 c17]]) (xs:=[y11,y15]) J (xT _ _ _ _ _ _ _ _ _ _ _ _ _ _ _ _ _ _ _ _) J J (fun _ _ hr=> .cons (⟨_,_,_,_,_,_,J,hr 3 _ J J,hr 4 _ J J⟩) (.cons (⟨_,_,_,_,_,_,J,hr 0 _ J J,hr 1 _ J J⟩) All2.nil))) ?_;rintro _ _ ⟨A19,n19,c19,rfl,rfl⟩;refine gE (bJ J (ub _ _ _ _ _ _)) ?_;refine gD (aM kj J) ?_;rintro _ _ ⟨B20,rfl,rfl⟩;refine gO (au (us:=[I A10 n10 c10,I A19 n19 c19]) (cs':=[I A10 n10 c10,I A19 n19 c19]) 0 J J J J iX J J J) ?_;rintro _ _ rfl;refine bX ?_;refine V ?_;refine ay ?_;refine cy O _ (ab _) ?_;refine zR 0 J (aC (us:=[I A10 n10 c10,I A19 n19 c19]) 0 J J cu J) ?_;obtain ⟨y21,hy21,h⟩:=aa h;refine zD 1 J (ak (cK hy21) iP J (ai) bU) ?_;rintro _ _ ⟨_,⟨rfl,rfl⟩,rfl⟩;refine ⟨_,ab _,ab _,?_⟩;refine zD 2 J (aN (R:=aF) (vss:=[(ar y21)]) (xs:=[y21]) J (gN _ _ _) J J (fun _ _ hr=> .cons J All2.nil)) ?_;rintro _ _ ⟨A22,n22,c22,rfl,rfl⟩;refine gX (cS [1,2,3,4,5,6,7,8,9,10,11,12,13,14,15] 16) ?_;obtain ⟨y23,hy23,h⟩:=aa h;refine zD 3 J (ak (nb hy23) Ci J (hJ (be (i:=9) J) (hJ (be (i:=2) J) (hJ (be (i:=0) J) ai))) lp) ?_;rintro _ _ ⟨_,⟨A24,n24,c24,A25,n25,c25,rfl,rfl⟩,rfl⟩
 refine gX (cS [3,4,5,6,7,8,9,10,11,12,13,14,15,16,17] 18) ?_;refine zE 4 J (ax J) ?_;refine zE 5 J (cn J J) ?_;refine zE 6 J (cn J J) ?_;refine zE 7 J (bz J) ?_;refine zE 8 J (bz J) ?_;refine cx O ?_;refine jB ?_;refine ay ?_;refine dP ?_ bH (cg 4 J);refine sN ?_;refine dP ?_ bH (cg 11 J);refine sN ?_;obtain ⟨y26,hy26,h⟩:=aa h;obtain ⟨y29,hy29,h⟩:=aa h;refine dP (t:=[(0,.bool false),(1,.func (.func 114) #[] #[]),(2,pV B20 0),(3,I A24 n24 c24),(4,I A25 n25 c25)]) ?_ gA (ab _)
 refine eR O 10 [6,7,8] [5,6,7,8,9] [35,36,37,38,34,39,40,41,42,5] [[],[],[1],[0,2],[3],[4],[4],[4],[4],[]] [aV (.agg #[I A10 n10 c10,I A19 n19 c19]),
 aV ((bd y26)),
 aX3 (fun (A28:Option Addr) (n28 c28:Nat)=> I A28 n28 c28) (fun A28 n28 c28=> [aS A28 n28 c28 ([y26]:List Gu)]),
 aX12 (fun (A34:Option Addr) (n34 c34:Nat) (A35:Option Addr) (n35 c35:Nat) (A36:Option Addr) (n36 c36:Nat) (A37:Option Addr) (n37 c37:Nat)=> .tuple #[.agg #[I A34 n34 c34,I A35 n35 c35],I A36 n36 c36,I A37 n37 c37,iV y29.2.2.2]) (fun A34 n34 c34 A35 n35 c35 A36 n36 c36 A37 n37 c37=> [br A34 n34 c34 y29.1.Young,br A35 n35 c35 y29.1.Old,aS A36 n36 c36 y29.2.1,aS A37 n37 c37 y29.2.2.1]),
 aX12 (fun (A38:Option Addr) (n38 c38:Nat) (A39:Option Addr) (n39 c39:Nat) (A40:Option Addr) (n40 c40:Nat) (A41:Option Addr) (n41 c41:Nat)=> .tuple #[.agg #[I A38 n38 c38,I A39 n39 c39],I A40 n40 c40,I A41 n41 c41,iV y29.2.2.2]) (fun A38 n38 c38 A39 n39 c39 A40 n40 c40 A41 n41 c41=> [br A38 n38 c38 y29.1.Young,br A39 n39 c39 y29.1.Old,aS A40 n40 c40 y29.2.1,aS A41 n41 c41 y29.2.2.1]),
 aX6 (fun (A46:Option Addr) (n46 c46:Nat) (A47:Option Addr) (n47 c47:Nat)=> .agg #[I A46 n46 c46,I A47 n47 c47]) (fun A46 n46 c46 A47 n47 c47=> [br A46 n46 c46 y29.1.Young,br A47 n47 c47 y29.1.Old]),
 aX3 (fun (A50:Option Addr) (n50 c50:Nat)=> I A50 n50 c50) (fun A50 n50 c50=> [aS A50 n50 c50 y29.2.1]),
 aX3 (fun (A52:Option Addr) (n52 c52:Nat)=> I A52 n52 c52) (fun A52 n52 c52=> [aS A52 n52 c52 y29.2.2.1]),
 aV (iV y29.2.2.2),
 aX1 (fun (B55:Nat)=>pV B55 0) (fun B55=> [aw B55 36 [I none 0 0,I none 0 0]])] [] (ab _) (lm rfl (lm rfl (lm rfl gu))) O rfl rfl ?_ ?_ ?_
 ·refine ll J ?_ ?_
  ·intro A38 n38 c38 A39 n39 c39 A40 n40 c40 A41 n41 c41;exact r7 (cn J J) J (iT A40 n40 c40 ((ej 2 J J).trans (ab _)))
  refine ll J ?_ ?_
  ·intro A38 n38 c38 A39 n39 c39 A40 n40 c40 A41 n41 c41;exact r7 (cn J J) J (iT A41 n41 c41 ((ej 3 J J).trans (ab _)))
  refine ll J ?_ ?_
  ·intro A38 n38 c38 A39 n39 c39 A40 n40 c40 A41 n41 c41;exact r7 (cn J J) J (aA J (ab _))
  exact gt
 ·refine ac J ?_ ?_
  ·refine fx (aM kj J) J ?_;rintro _ _ ⟨B54,rfl,rfl⟩;exact EE B54 (ab _)
  refine ac J ?_ ?_
  ·intro A38 n38 c38 A39 n39 c39 A40 n40 c40 A41 n41 c41;exact bh (cn J J) J (aA J (ab _))
  refine ac J ?_ ?_
  ·intro A38 n38 c38 A39 n39 c39 A40 n40 c40 A41 n41 c41;exact bh (cn J J) J (iT A41 n41 c41 ((ej 3 J J).trans (ab _)))
  refine ac J ?_ ?_
  ·intro A38 n38 c38 A39 n39 c39 A40 n40 c40 A41 n41 c41;exact bh (cn J J) J (iT A40 n40 c40 ((ej 2 J J).trans (ab _)))
  refine ac J ?_ ?_
  ·intro A38 n38 c38 A39 n39 c39 A40 n40 c40 A41 n41 c41;exact bh (cn J J) J (AN A38 n38 c38 A39 n39 c39 ((ej 0 J J).trans ((ej 2 J J).trans (cS [1,0,2,3,4,5,6,7,8,9,10,11,12,13,14,15,16,17,18,19,20,21,22,23] 24))))
  refine ac J ?_ ?_
  ·intro A34 n34 c34 A35 n35 c35 A36 n36 c36 A37 n37 c37;exact bh (ax J) J (zz A34 n34 c34 A35 n35 c35 A36 n36 c36 A37 n37 c37 ((ej 0 J J).trans ((ej 2 J J).trans ((ej 4 J J).trans ((ej 6 J J).trans (cS [3,2,1,0,4,5,6,7,8,9,10,11,12,13,14,15,16,17,18,19,20,21,22,23,24,25] 26))))))
  refine ac J ?_ ?_
  ·intro A28 n28 c28;refine fx (cw (i6 hy29) yR J (bq [12,5,0] [] [0,1,2,3,4,5,6,7,8,9,10,11,12,13,14,15,16,17,18] 19 J)) J ?_;rintro _ _ ⟨_,⟨A30,n30,c30,A31,n31,c31,A32,n32,c32,A33,n33,c33,rfl,rfl⟩,rfl⟩;exact zz A30 n30 c30 A31 n31 c31 A32 n32 c32 A33 n33 c33 ((cg 0 J).trans ((vu 1 J).trans ((cg 1 J).trans ((cg 2 J).trans ((cg 3 J).trans (ab _))))))
  refine ac J ?_ ?_
  ·refine fx (aN (R:=aF) (vss:=[(ar y26)]) (xs:=[y26]) J (gN _ _ _) J J (fun _ _ hr=> .cons J All2.nil)) J ?_;rintro _ _ ⟨A27,n27,c27,rfl,rfl⟩;exact iT A27 n27 c27 ((cg 0 J).trans (ab _))
  refine ac J ?_ ?_
  ·refine fx (ak (cK hy26) iP J (ai) bU) J ?_;rintro _ _ ⟨_,⟨rfl,rfl⟩,rfl⟩;exact aA J (ab _)
  refine ac J ?_ ?_
  ·exact bT (aC (us:=[I A10 n10 c10,I A19 n19 c19]) 3 J J cu J) J (aA J (ab _))
  exact dh
 intro A46 n46 c46 A47 n47 c47 A50 n50 c50 A52 n52 c52 B55;refine gP (t:=[(39,.agg #[I A46 n46 c46,I A47 n47 c47]),(40,I A50 n50 c50),(41,I A52 n52 c52),(42,iV y29.2.2.2),(5,pV B55 0),(0,.bool false),(1,.func (.func 114) #[] #[]),(2,pV B20 0),(3,I A24 n24 c24),(4,I A25 n25 c25)]) (L':=[br A46 n46 c46 y29.1.Young,br A47 n47 c47 y29.1.Old,aS A50 n50 c50 y29.2.1,aS A52 n52 c52 y29.2.2.1,aw B55 36 [I none 0 0,I none 0 0],cc A24 n24 c24 y23.1,cc A25 n25 c25 y23.2,cB A22 n22 c22 ([y21]:List Gu),aw B20 36 [I A10 n10 c10,I A19 n19 c19],br A19 n19 c19 ([y11,y15]:List Gw),aS A16 n16 c16 y15.Slots,aS A17 n17 c17 y15.More,iS aF (I none 0 0) ([]:List Gu),aS A12 n12 c12 y11.Slots,aS A13 n13 c13 y11.More,iS aF (I none 0 0) ([]:List Gu),br A10 n10 c10 ([y3,y6]:List Gw),aS A7 n7 c7 y6.Slots,aS A8 n8 c8 y6.More,iS aF (I none 0 0) ([]:List Gu),aS A4 n4 c4 y3.Slots,aS A5 n5 c5 y3.More,aS A2 n2 c2 ([y1]:List Gu)]) ?_ gA (ab _);refine nh 10 J O (au (us:=[I A46 n46 c46,I A47 n47 c47]) (cs':=[I A46 n46 c46,I A47 n47 c47]) 4 J J J J iX J J J) J J ?_;rintro _ _ rfl;refine qu ?_;refine pS 11 J O (bz J) J J J ?_;refine pS 12 J O (bz J) J J J ?_;refine pS 13 J O (bz J) J J J ?_;refine gx O ?_;refine V ?_;refine gE (bJ J (Cp _)) ?_
 refine gD (aN (R:=aF) (vss:=[[iV 1,iV 0,.string (⟨#[]⟩)]]) (xs:=[(⟨1,0,⟨#[]⟩⟩:Gu)]) J (gN _ _ _) J J (fun _ _ hr=> .cons J All2.nil)) ?_;rintro _ _ ⟨A56,n56,c56,rfl,rfl⟩;obtain ⟨y57,hy57,h⟩:=aa h;refine gD (ak (cK hy57) iP J (ai) bU) ?_;rintro _ _ ⟨_,⟨rfl,rfl⟩,rfl⟩;obtain ⟨y58,hy58,h⟩:=aa h;refine gD (ak (cK hy58) iP J (ai) bU) ?_;rintro _ _ ⟨_,⟨rfl,rfl⟩,rfl⟩;obtain ⟨y59,hy59,h⟩:=aa h;refine gD (ak (cK hy59) iP J (ai) bU) ?_;rintro _ _ ⟨_,⟨rfl,rfl⟩,rfl⟩;refine gE (bJ J (wG)) ?_;refine gE (bJ J (pN _ _)) ?_;refine gD (aN (R:=aF) (vss:=[(ar y57),(ar y58),(ar y59),[iV 0,iV 0,.string (⟨#[]⟩)],[iV 3,iV 7,.string (⟨#[]⟩)]]) (xs:=[y57,y58,y59,(⟨0,0,⟨#[]⟩⟩:Gu),(⟨3,7,⟨#[]⟩⟩:Gu)]) J (Cn _ _ _ _ _ _ _ _ _ _ _ _ _ _ _) J J (fun _ _ hr=> .cons J (.cons J (.cons J (.cons J (.cons J All2.nil)))))) ?_;rintro _ _ ⟨A60,n60,c60,rfl,rfl⟩;refine gE (bJ J (wH _ _ _ _ _ _ _)) ?_;refine V ?_;obtain ⟨y61,hy61,h⟩:=aa h;refine kT (gU aF _) ?_;refine gD (jA (ee hy61) mO J J J (bq [0] [] [0,1,2,3,4,5,6,7,8,9,10,11,12,13,14,15,16,17,18,19,20,21,22,23,24,25] 26 J)) ?_;rintro _ _ ⟨_,⟨A62,n62,c62,A63,n63,c63,rfl,rfl⟩,rfl⟩;refine bX ?_;refine V ?_;obtain ⟨y65,hy65,h⟩:=aa h;refine kT (gU aF _) ?_;refine gD (jA (ee hy65) mO J J J (bq [0] [] [0,1,2,3,4,5,6,7,8,9,10,11,12,13,14,15,16,17,18,19,20,21,22,23,24,25,26,27,28] 29 J)) ?_;rintro _ _ ⟨_,⟨A66,n66,c66,A67,n67,c67,rfl,rfl⟩,rfl⟩;refine bX ?_;refine V ?_;obtain ⟨y69,hy69,h⟩:=aa h
 refine kT (gU aF _) ?_;refine gD (jA (ee hy69) mO J J J (bq [0] [] [0,1,2,3,4,5,6,7,8,9,10,11,12,13,14,15,16,17,18,19,20,21,22,23,24,25,26,27,28,29,30,31] 32 J)) ?_;rintro _ _ ⟨_,⟨A70,n70,c70,A71,n71,c71,rfl,rfl⟩,rfl⟩;refine bX ?_;refine kT (cg 10 J) ?_;refine bX ?_;refine kT (cg 9 J) ?_;refine bX ?_;refine gD (aN (R:=bV) (vss:=[[iV 10,iV 0,iV 0,iV 0,I A56 n56 c56,I A60 n60 c60],[iV y61.Kind,iV y61.Shape,iV y61.Flags,iV y61.Age,I A62 n62 c62,I A63 n63 c63],[iV y65.Kind,iV y65.Shape,iV y65.Flags,iV y65.Age,I A66 n66 c66,I A67 n67 c67],[iV y69.Kind,iV y69.Shape,iV y69.Flags,iV y69.Age,I A70 n70 c70,I A71 n71 c71]]) (xs:=[(⟨10,0,0,0,([(⟨1,0,⟨#[]⟩⟩:Gu)]:List Gu),([y57,y58,y59,(⟨0,0,⟨#[]⟩⟩:Gu),(⟨3,7,⟨#[]⟩⟩:Gu)]:List Gu)⟩:Gw),y61,y65,y69]) J (Co _ _ _ _ _ _ _ _ _ _ _ _ _ _ _ _ _ _ _ _ _ _ _ _ _ _ _ _ _ _ _ _ _ _ _ _ _ _ _ _) J J (fun _ _ hr=> .cons (⟨_,_,_,_,_,_,J,hr 10 _ J J,hr 9 _ J J⟩) (.cons (⟨_,_,_,_,_,_,J,hr 6 _ J J,hr 7 _ J J⟩) (.cons (⟨_,_,_,_,_,_,J,hr 3 _ J J,hr 4 _ J J⟩) (.cons (⟨_,_,_,_,_,_,J,hr 0 _ J J,hr 1 _ J J⟩) All2.nil))))) ?_;rintro _ _ ⟨A73,n73,c73,rfl,rfl⟩;refine gE (bJ J (Cq _ _ _)) ?_;refine gD (aM kj J) ?_;rintro _ _ ⟨B74,rfl,rfl⟩;refine gO (au (us:=[I none 0 0,I A73 n73 c73]) (cs':=[I none 0 0,I A73 n73 c73]) 0 J J J J iX J J J) ?_;rintro _ _ rfl;refine bX ?_;refine V ?_;refine ay ?_
 refine dP ?_ bH (cg 1 J);refine sN ?_;obtain ⟨y75,hy75,h⟩:=aa h;obtain ⟨y78,hy78,h⟩:=aa h;refine dP (t:=[(0,.bool false),(3,I A24 n24 c24),(4,I A25 n25 c25),(5,pV B55 0),(6,I A50 n50 c50),(7,I A52 n52 c52),(8,iV y29.2.2.2),(9,pV B74 0)]) ?_ gA (ab _)
 refine eR O 10 [6,7,8] [5,6,7,8,9] [61,62,63,64,60,65,66,67,68,10] [[],[],[1],[0,2],[3],[4],[4],[4],[4],[]] [aV (.agg #[I none 0 0,I A73 n73 c73]),
aV ((bd y75)),
aX3 (fun (A77:Option Addr) (n77 c77:Nat)=> I A77 n77 c77) (fun A77 n77 c77=> [aS A77 n77 c77 ([y75]:List Gu)]),
aX12 (fun (A84:Option Addr) (n84 c84:Nat) (A85:Option Addr) (n85 c85:Nat) (A86:Option Addr) (n86 c86:Nat) (A87:Option Addr) (n87 c87:Nat)=> .tuple #[.agg #[I A84 n84 c84,I A85 n85 c85],I A86 n86 c86,I A87 n87 c87,iV y78.2.2.2]) (fun A84 n84 c84 A85 n85 c85 A86 n86 c86 A87 n87 c87=> [br A84 n84 c84 y78.1.Young,br A85 n85 c85 y78.1.Old,aS A86 n86 c86 y78.2.1,aS A87 n87 c87 y78.2.2.1]),
aX12 (fun (A88:Option Addr) (n88 c88:Nat) (A89:Option Addr) (n89 c89:Nat) (A90:Option Addr) (n90 c90:Nat) (A91:Option Addr) (n91 c91:Nat)=> .tuple #[.agg #[I A88 n88 c88,I A89 n89 c89],I A90 n90 c90,I A91 n91 c91,iV y78.2.2.2]) (fun A88 n88 c88 A89 n89 c89 A90 n90 c90 A91 n91 c91=> [br A88 n88 c88 y78.1.Young,br A89 n89 c89 y78.1.Old,aS A90 n90 c90 y78.2.1,aS A91 n91 c91 y78.2.2.1]),
aX6 (fun (A96:Option Addr) (n96 c96:Nat) (A97:Option Addr) (n97 c97:Nat)=> .agg #[I A96 n96 c96,I A97 n97 c97]) (fun A96 n96 c96 A97 n97 c97=> [br A96 n96 c96 y78.1.Young,br A97 n97 c97 y78.1.Old]),
aX3 (fun (A100:Option Addr) (n100 c100:Nat)=> I A100 n100 c100) (fun A100 n100 c100=> [aS A100 n100 c100 y78.2.1]),
aX3 (fun (A102:Option Addr) (n102 c102:Nat)=> I A102 n102 c102) (fun A102 n102 c102=> [aS A102 n102 c102 y78.2.2.1]),
aV (iV y78.2.2.2),
aX1 (fun (B105:Nat)=>pV B105 0) (fun B105=> [aw B105 36 [I none 0 0,I none 0 0]])] [] (ab _) (lm rfl (lm rfl (lm rfl gu))) O rfl rfl ?_ ?_ ?_
 ·refine ll J ?_ ?_
  ·intro A88 n88 c88 A89 n89 c89 A90 n90 c90 A91 n91 c91;exact r7 (cn J J) J (iT A90 n90 c90 ((ej 2 J J).trans (ab _)))
  refine ll J ?_ ?_
  ·intro A88 n88 c88 A89 n89 c89 A90 n90 c90 A91 n91 c91;exact r7 (cn J J) J (iT A91 n91 c91 ((ej 3 J J).trans (ab _)))
  refine ll J ?_ ?_
  ·intro A88 n88 c88 A89 n89 c89 A90 n90 c90 A91 n91 c91;exact r7 (cn J J) J (aA J (ab _))
  exact gt
 ·refine ac J ?_ ?_
  ·refine fx (aM kj J) J ?_;rintro _ _ ⟨B104,rfl,rfl⟩;exact EE B104 (ab _)
  refine ac J ?_ ?_
  ·intro A88 n88 c88 A89 n89 c89 A90 n90 c90 A91 n91 c91;exact bh (cn J J) J (aA J (ab _))
  refine ac J ?_ ?_
  ·intro A88 n88 c88 A89 n89 c89 A90 n90 c90 A91 n91 c91;exact bh (cn J J) J (iT A91 n91 c91 ((ej 3 J J).trans (ab _)))
  refine ac J ?_ ?_
  ·intro A88 n88 c88 A89 n89 c89 A90 n90 c90 A91 n91 c91;exact bh (cn J J) J (iT A90 n90 c90 ((ej 2 J J).trans (ab _)))
  refine ac J ?_ ?_
  ·intro A88 n88 c88 A89 n89 c89 A90 n90 c90 A91 n91 c91;exact bh (cn J J) J (AN A88 n88 c88 A89 n89 c89 ((ej 0 J J).trans ((ej 2 J J).trans (cS [1,0,2,3,4,5,6,7,8,9,10,11,12,13,14,15,16,17,18,19,20,21,22,23,24,25,26,27,28,29,30,31,32,33,34,35,36,37,38,39,40,41] 42))))
  refine ac J ?_ ?_
  ·intro A84 n84 c84 A85 n85 c85 A86 n86 c86 A87 n87 c87;exact bh (ax J) J (zz A84 n84 c84 A85 n85 c85 A86 n86 c86 A87 n87 c87 ((ej 0 J J).trans ((ej 2 J J).trans ((ej 4 J J).trans ((ej 6 J J).trans (cS [3,2,1,0,4,5,6,7,8,9,10,11,12,13,14,15,16,17,18,19,20,21,22,23,24,25,26,27,28,29,30,31,32,33,34,35,36,37,38,39,40,41,42,43] 44))))))
  refine ac J ?_ ?_
  ·intro A77 n77 c77;refine FC (gU bV _) ?_;refine fx (cw (i6 hy78) yR J (bq [0,3,1] [] [0,1,2,3,4,5,6,7,8,9,10,11,12,13,14,15,16,17,18,19,20,21,22,23,24,25,26,27,28,29,30,31,32,33,34,35,36,37] 38 J)) J ?_;rintro _ _ ⟨_,⟨A79,n79,c79,A80,n80,c80,A81,n81,c81,A82,n82,c82,rfl,rfl⟩,rfl⟩;exact zz A79 n79 c79 A80 n80 c80 A81 n81 c81 A82 n82 c82 ((cg 0 J).trans ((vu 1 J).trans ((cg 1 J).trans ((cg 2 J).trans ((cg 3 J).trans (cS [0,1,2,3,5,6,7,8,9,10,11,12,13,14,15,16,17,18,19,20,21,22,23,24,25,26,27,28,29,30,31,32,33,34,35,36,37,38,39,40,41] 42))))))
  refine ac J ?_ ?_
  ·refine fx (aN (R:=aF) (vss:=[(ar y75)]) (xs:=[y75]) J (gN _ _ _) J J (fun _ _ hr=> .cons J All2.nil)) J ?_;rintro _ _ ⟨A76,n76,c76,rfl,rfl⟩;exact iT A76 n76 c76 ((cg 0 J).trans (ab _))
  refine ac J ?_ ?_
  ·refine fx (ak (cK hy75) iP J (ai) bU) J ?_;rintro _ _ ⟨_,⟨rfl,rfl⟩,rfl⟩;exact aA J (ab _)
  refine ac J ?_ ?_
  ·exact bT (aC (us:=[I none 0 0,I A73 n73 c73]) 0 J J cu J) J (aA J (ab _))
  exact dh
 intro A96 n96 c96 A97 n97 c97 A100 n100 c100 A102 n102 c102 B105
 refine gP (t:=[(65,.agg #[I A96 n96 c96,I A97 n97 c97]),(66,I A100 n100 c100),(67,I A102 n102 c102),(68,iV y78.2.2.2),(10,pV B105 0),(0,.bool false),(3,I A24 n24 c24),(4,I A25 n25 c25),(5,pV B55 0),(6,I A50 n50 c50),(7,I A52 n52 c52),(8,iV y29.2.2.2),(9,pV B74 0)]) (L':=[br A96 n96 c96 y78.1.Young,br A97 n97 c97 y78.1.Old,aS A100 n100 c100 y78.2.1,aS A102 n102 c102 y78.2.2.1,aw B105 36 [I none 0 0,I none 0 0],aw B74 36 [I none 0 0,I A73 n73 c73],br A73 n73 c73 ([(⟨10,0,0,0,([(⟨1,0,⟨#[]⟩⟩:Gu)]:List Gu),([y57,y58,y59,(⟨0,0,⟨#[]⟩⟩:Gu),(⟨3,7,⟨#[]⟩⟩:Gu)]:List Gu)⟩:Gw),y61,y65,y69]:List Gw),aS A70 n70 c70 y69.Slots,aS A71 n71 c71 y69.More,iS aF (I none 0 0) ([]:List Gu),aS A66 n66 c66 y65.Slots,aS A67 n67 c67 y65.More,iS aF (I none 0 0) ([]:List Gu),aS A62 n62 c62 y61.Slots,aS A63 n63 c63 y61.More,iS aF (I none 0 0) ([]:List Gu),aS A60 n60 c60 ([y57,y58,y59,(⟨0,0,⟨#[]⟩⟩:Gu),(⟨3,7,⟨#[]⟩⟩:Gu)]:List Gu),aS A56 n56 c56 ([(⟨1,0,⟨#[]⟩⟩:Gu)]:List Gu),br A46 n46 c46 y29.1.Young,br A47 n47 c47 y29.1.Old,aS A50 n50 c50 y29.2.1,aS A52 n52 c52 y29.2.2.1,aw B55 36 [I A46 n46 c46,I A47 n47 c47],cc A24 n24 c24 y23.1,cc A25 n25 c25 y23.2,cB A22 n22 c22 ([y21]:List Gu),aw B20 36 [I A10 n10 c10,I A19 n19 c19],br A19 n19 c19 ([y11,y15]:List Gw),aS A16 n16 c16 y15.Slots,aS A17 n17 c17 y15.More,iS aF (I none 0 0) ([]:List Gu),aS A12 n12 c12 y11.Slots,aS A13 n13 c13 y11.More,iS aF (I none 0 0) ([]:List Gu),br A10 n10 c10 ([y3,y6]:List Gw),aS A7 n7 c7 y6.Slots,aS A8 n8 c8 y6.More,iS aF (I none 0 0) ([]:List Gu),aS A4 n4 c4 y3.Slots,aS A5 n5 c5 y3.More,aS A2 n2 c2 ([y1]:List Gu)]) ?_ gA (ab _)
 refine nh 10 J O (au (us:=[I A96 n96 c96,I A97 n97 c97]) (cs':=[I A96 n96 c96,I A97 n97 c97]) 4 J J J J iX J J J) J J ?_;rintro _ _ rfl;refine qu ?_;refine pS 11 J O (bz J) J J J ?_;refine pS 12 J O (bz J) J J J ?_;refine pS 13 J O (bz J) J J J ?_;refine gx O ?_;refine jB ?_;refine ay ?_;obtain ⟨y108,hy108,h⟩:=aa h;obtain ⟨b109,hb109,h⟩:=aa h;obtain ⟨c109,hc109⟩: ∃c,y108=c:=⟨_,rfl⟩
 obtain ⟨y112,hs109⟩: ∃(y112:(Bool)),c109=true→((ck N y23.2 ([2,4]:List Int))=some y112∧y112=b109):=by
  cases c109
  ·exact ⟨default,fun e=>by cases e⟩
  replace hb109:=ag hc109 hb109;obtain ⟨y112,hy112,hb109⟩:=aa hb109;exact ⟨y112,fun _=>⟨hy112,Option.some.inj hb109⟩⟩
 have ho109:c109=false→b109=false:=fun e=>(Option.some.inj (ah (hc109.trans e) hb109)).symm
 obtain ⟨b113,hb113,h⟩:=aa h;obtain ⟨c113,hc113⟩: ∃c,b109=c:=⟨_,rfl⟩
 obtain hs113:c113=true→((decide (y29.2.2.2=0))=b113):=by
  cases c113
  ·exact fun e=>by cases e
  replace hb113:=ag hc113 hb113
  exact fun _=>Option.some.inj hb113
 have ho113:c113=false→b113=false:=fun e=>(Option.some.inj (ah (hc113.trans e) hb113)).symm
 obtain ⟨b114,hb114,h⟩:=aa h;obtain ⟨c114,hc114⟩: ∃c,b113=c:=⟨_,rfl⟩
 obtain hs114:c114=true→((decide ((y29.1.Old.length:Int)=2))=b114):=by
  cases c114
  ·exact fun e=>by cases e
  replace hb114:=ag hc114 hb114
  exact fun _=>Option.some.inj hb114
 have ho114:c114=false→b114=false:=fun e=>(Option.some.inj (ah (hc114.trans e) hb114)).symm
 obtain ⟨b115,hb115,h⟩:=aa h;obtain ⟨c115,hc115⟩: ∃c,b114=c:=⟨_,rfl⟩
 obtain hs115:c115=true→((decide ((y29.1.Young.length:Int)=0))=b115):=by
  cases c115
  ·exact fun e=>by cases e
  replace hb115:=ag hc115 hb115
  exact fun _=>Option.some.inj hb115
 have ho115:c115=false→b115=false:=fun e=>(Option.some.inj (ah (hc115.trans e) hb115)).symm
 obtain ⟨b116,hb116,h⟩:=aa h;obtain ⟨c116,hc116⟩: ∃c,b115=c:=⟨_,rfl⟩
 obtain ⟨x117,hs116⟩: ∃(x117:Gw),c116=true→((aH y29.1.Old 1)=some x117∧(decide ((x117.More.length:Int)=1))=b116):=by
  cases c116
  ·exact ⟨default,fun e=>by cases e⟩
  replace hb116:=ag hc116 hb116;obtain ⟨x117,hx117,hb116⟩:=aa hb116;exact ⟨x117,fun _=>⟨hx117,Option.some.inj hb116⟩⟩
 have ho116:c116=false→b116=false:=fun e=>(Option.some.inj (ah (hc116.trans e) hb116)).symm
 obtain ⟨b122,hb122,h⟩:=aa h;obtain ⟨c122,hc122⟩: ∃c,b116=c:=⟨_,rfl⟩
 obtain ⟨x123,x128,y131,hs122⟩: ∃(x123:Gw) (x128:Gu) (y131:(Gu)),c122=true→((aH y29.1.Old 1)=some x123∧(aH x123.More 0)=some x128∧(bG N 2)=some y131∧(decide (x128=y131))=b122):=by
  cases c122
  ·exact ⟨default,default,default,fun e=>by cases e⟩
  replace hb122:=ag hc122 hb122;obtain ⟨x123,hx123,hb122⟩:=aa hb122;obtain ⟨x128,hx128,hb122⟩:=aa hb122;obtain ⟨y131,hy131,hb122⟩:=aa hb122;exact ⟨x123,x128,y131,fun _=>⟨hx123,hx128,hy131,Option.some.inj hb122⟩⟩
 have ho122:c122=false→b122=false:=fun e=>(Option.some.inj (ah (hc122.trans e) hb122)).symm
 obtain ⟨b132,hb132,h⟩:=aa h;obtain ⟨c132,hc132⟩: ∃c,b122=c:=⟨_,rfl⟩
 obtain hs132:c132=true→((decide ((y29.2.1.length:Int)=1))=b132):=by
  cases c132
  ·exact fun e=>by cases e
  replace hb132:=ag hc132 hb132
  exact fun _=>Option.some.inj hb132
 have ho132:c132=false→b132=false:=fun e=>(Option.some.inj (ah (hc132.trans e) hb132)).symm
 obtain ⟨b133,hb133,h⟩:=aa h;obtain ⟨c133,hc133⟩: ∃c,b132=c:=⟨_,rfl⟩
 obtain ⟨x134,y135,hs133⟩: ∃(x134:Gu) (y135:(Gu)),c133=true→((aH y29.2.1 0)=some x134∧(bG N 4)=some y135∧(decide (x134=y135))=b133):=by
  cases c133
  ·exact ⟨default,default,fun e=>by cases e⟩
  replace hb133:=ag hc133 hb133;obtain ⟨x134,hx134,hb133⟩:=aa hb133;obtain ⟨y135,hy135,hb133⟩:=aa hb133;exact ⟨x134,y135,fun _=>⟨hx134,hy135,Option.some.inj hb133⟩⟩
 have ho133:c133=false→b133=false:=fun e=>(Option.some.inj (ah (hc133.trans e) hb133)).symm
 obtain ⟨b136,hb136,h⟩:=aa h;obtain ⟨c136,hc136⟩: ∃c,b133=c:=⟨_,rfl⟩
 obtain hs136:c136=true→((decide ((y29.2.2.1.length:Int)=0))=b136):=by
  cases c136
  ·exact fun e=>by cases e
  replace hb136:=ag hc136 hb136
  exact fun _=>Option.some.inj hb136
 have ho136:c136=false→b136=false:=fun e=>(Option.some.inj (ah (hc136.trans e) hb136)).symm
 obtain ⟨b137,hb137,h⟩:=aa h;obtain ⟨c137,hc137⟩: ∃c,b136=c:=⟨_,rfl⟩
 obtain hs137:c137=true→((decide (y78.2.2.2=0))=b137):=by
  cases c137
  ·exact fun e=>by cases e
  replace hb137:=ag hc137 hb137
  exact fun _=>Option.some.inj hb137
 have ho137:c137=false→b137=false:=fun e=>(Option.some.inj (ah (hc137.trans e) hb137)).symm
 obtain ⟨b138,hb138,h⟩:=aa h;obtain ⟨c138,hc138⟩: ∃c,b137=c:=⟨_,rfl⟩
 obtain hs138:c138=true→((decide ((y78.1.Old.length:Int)=3))=b138):=by
  cases c138
  ·exact fun e=>by cases e
  replace hb138:=ag hc138 hb138
  exact fun _=>Option.some.inj hb138
 have ho138:c138=false→b138=false:=fun e=>(Option.some.inj (ah (hc138.trans e) hb138)).symm
 obtain ⟨b139,hb139,h⟩:=aa h;obtain ⟨c139,hc139⟩: ∃c,b138=c:=⟨_,rfl⟩
 obtain ⟨y140,y141,y144,hs139⟩: ∃(y140:(Gu)) (y141:(Gu)) (y144:(Bool)),c139=true→((bG N 4)=some y140∧(bG N 6)=some y141∧(bM N y78.2.2.1 ([y140,y141,(⟨3,7,⟨#[]⟩⟩:Gu)]:List Gu))=some y144∧y144=b139):=by
  cases c139
  ·exact ⟨default,default,default,fun e=>by cases e⟩
  replace hb139:=ag hc139 hb139;obtain ⟨y140,hy140,hb139⟩:=aa hb139;obtain ⟨y141,hy141,hb139⟩:=aa hb139;obtain ⟨y144,hy144,hb139⟩:=aa hb139;exact ⟨y140,y141,y144,fun _=>⟨hy140,hy141,hy144,Option.some.inj hb139⟩⟩
 have ho139:c139=false→b139=false:=fun e=>(Option.some.inj (ah (hc139.trans e) hb139)).symm
 refine dP (t:=[(0,.bool false),(3,I A24 n24 c24),(4,I A25 n25 c25),(5,pV B55 0),(6,I A50 n50 c50),(7,I A52 n52 c52),(8,iV y29.2.2.2),(10,pV B105 0),(12,I A102 n102 c102),(13,iV y78.2.2.2)]) ?_ gA (ab _)
 refine eR O 79 [] [78] (69::70::71::72::73::74::75::76::77::78::79::80::81::82::83::84::85::86::87::88::89::90::91::92::93::94::95::96::97::98::99::100::101::102::103::104::105::106::107::108::109::110::111::112::113::114::115::116::117::118::119::120::121::122::123::124::125::126::127::128::129::130::131::132::133::134::135::136::137::138::139::140::141::142::143::144::145::146::147::([]:List Nat)) ([]::[]::[0,1]::[2]::[3]::[3]::[3,4,5]::[3,6]::[7]::[8]::[8,9]::[8,10]::[11]::[12]::[12,13]::[12,14]::[12,15]::[12,16]::[17]::[18]::[18,19]::[18,20]::[18,21]::[18,22]::[23]::[24]::[24,25]::[24,26]::[24,27]::[24,28]::[24,29]::[24,30]::[24,31]::[32]::[33]::[33,34]::[33,35]::[33,36]::[33,37]::[33,38]::[33,39]::[33]::[33,40,41]::[33,42]::[43]::[44]::[44,45]::[44,46]::[44,47]::[48]::[49]::[49,50]::[49,51]::[49]::[49,52,53]::[49,54]::[55]::[56]::[56,57]::[56,58]::[56,59]::[60]::[61]::[61,62]::[61,63]::[64]::[65]::[65,66]::[65,67]::[65,68]::[65,69]::[70]::[71]::[71]::[71]::[71]::[71,73,74,75]::[71,72,76]::[71,77]::([]:List (List Nat))) ((aV (I A24 n24 c24))::(aX3 (fun (A107:Option Addr) (n107 c107:Nat)=> I A107 n107 c107) (fun A107 n107 c107=> [cc A107 n107 c107 ([2,1]:List Int)]))::(aV (.bool y108))::(aV (.bool y108))::(bif c109 then aV (I A25 n25 c25) else aV undef)::(bif c109 then aX3 (fun (A111:Option Addr) (n111 c111:Nat)=> I A111 n111 c111) (fun A111 n111 c111=> [cc A111 n111 c111 ([2,4]:List Int)]) else aV undef)::(bif c109 then aV (.bool y112) else aV undef)::(aV (.bool b109))::(aV (.bool b109))::(bif c113 then aV (iV y29.2.2.2) else aV undef)::(bif c113 then aV (.bool (decide (y29.2.2.2=0))) else aV undef)::(aV (.bool b113))::(aV (.bool b113))::(bif c114 then aV (pV B55 1) else aV undef)::(bif c114 then aV (I A47 n47 c47) else aV undef)::(bif c114 then aV (iV (y29.1.Old.length:Int)) else aV undef)::(bif c114 then aV (.bool (decide ((y29.1.Old.length:Int)=2))) else aV undef)::(aV (.bool b114))::(aV (.bool b114))::(bif c115 then aV (pV B55 0) else aV undef)::(bif c115 then aV (I A46 n46 c46) else aV undef)::(bif c115 then aV (iV (y29.1.Young.length:Int)) else aV undef)::(bif c115 then aV (.bool (decide ((y29.1.Young.length:Int)=0))) else aV undef)::(aV (.bool b115))::(aV (.bool b115))::(bif c116 then aV (pV B55 1) else aV undef)::(bif c116 then aV (I A47 n47 c47) else aV undef)::(bif c116 then aV (bO (I A47 n47 c47) ((1:Int).toNat) 6 0) else aV undef)::(bif c116 then aV (bO (I A47 n47 c47) ((1:Int).toNat) 6 5) else aV undef)::(bif c116 then aX3 (fun (A121:Option Addr) (n121 c121:Nat)=> I A121 n121 c121) (fun A121 n121 c121=> [aS A121 n121 c121 x117.More]) else aV undef)::(bif c116 then aV (iV (x117.More.length:Int)) else aV undef)::(bif c116 then aV (.bool (decide ((x117.More.length:Int)=1))) else aV undef)::(aV (.bool b116))::(aV (.bool b116))::(bif c122 then aV (pV B55 1) else aV undef)::(bif c122 then aV (I A47 n47 c47) else aV undef)::(bif c122 then aV (bO (I A47 n47 c47) ((1:Int).toNat) 6 0) else aV undef)::(bif c122 then aV (bO (I A47 n47 c47) ((1:Int).toNat) 6 5) else aV undef)::(bif c122 then aX3 (fun (A127:Option Addr) (n127 c127:Nat)=> I A127 n127 c127) (fun A127 n127 c127=> [aS A127 n127 c127 x123.More]) else aV undef)::(bif c122 then aX3 (fun (A129:Option Addr) (n129 c129:Nat)=>bO (I A129 n129 c129) ((0:Int).toNat) 3 0) (fun A129 n129 c129=> [aS A129 n129 c129 x123.More]) else aV undef)::(bif c122 then aV ((bd x128)) else aV undef)::(bif c122 then aV ((bd y131)) else aV undef)::(bif c122 then aV (.bool (decide (x128=y131))) else aV undef)::(aV (.bool b122))::(aV (.bool b122))::(bif c132 then aV (I A50 n50 c50) else aV undef)::(bif c132 then aV (iV (y29.2.1.length:Int)) else aV undef)::(bif c132 then aV (.bool (decide ((y29.2.1.length:Int)=1))) else aV undef)::(aV (.bool b132))::(aV (.bool b132))::(bif c133 then aV (I A50 n50 c50) else aV undef)::(bif c133 then aV (bO (I A50 n50 c50) ((0:Int).toNat) 3 0) else aV undef)::(bif c133 then aV ((bd x134)) else aV undef)::(bif c133 then aV ((bd y135)) else aV undef)::(bif c133 then aV (.bool (decide (x134=y135))) else aV undef)::(aV (.bool b133))::(aV (.bool b133))::(bif c136 then aV (I A52 n52 c52) else aV undef)::(bif c136 then aV (iV (y29.2.2.1.length:Int)) else aV undef)::(bif c136 then aV (.bool (decide ((y29.2.2.1.length:Int)=0))) else aV undef)::(aV (.bool b136))::(aV (.bool b136))::(bif c137 then aV (iV y78.2.2.2) else aV undef)::(bif c137 then aV (.bool (decide (y78.2.2.2=0))) else aV undef)::(aV (.bool b137))::(aV (.bool b137))::(bif c138 then aV (pV B105 1) else aV undef)::(bif c138 then aV (I A97 n97 c97) else aV undef)::(bif c138 then aV (iV (y78.1.Old.length:Int)) else aV undef)::(bif c138 then aV (.bool (decide ((y78.1.Old.length:Int)=3))) else aV undef)::(aV (.bool b138))::(aV (.bool b138))::(bif c139 then aV (I A102 n102 c102) else aV undef)::(bif c139 then aV ((bd y140)) else aV undef)::(bif c139 then aV ((bd y141)) else aV undef)::(bif c139 then aV (.agg #[iV 3,iV 7,.string (⟨#[]⟩)]) else aV undef)::(bif c139 then aX3 (fun (A143:Option Addr) (n143 c143:Nat)=> I A143 n143 c143) (fun A143 n143 c143=> [cB A143 n143 c143 ([y140,y141,(⟨3,7,⟨#[]⟩⟩:Gu)]:List Gu)]) else aV undef)::(bif c139 then aV (.bool y144) else aV undef)::(aV (.bool b139))::([]:List Asn)) [] (ab _) (gu) O J J ?_ ?_ ?_
 ·exact gt
 ·refine ac J ?_ ?_
  ·cases c139
   ·exact bh (cD hc139 J J) J (aA (by rw [ho139 rfl]) (ab _))
   obtain ⟨hy140,hy141,hy144,hv139⟩:=hs139 rfl;exact bh (cC hc139 J J) J (aA (by rw [hv139]) (ab _))
  refine ac J ?_ ?_
  ·cases c139
   ·exact dB (cr hc139 J) (aA J (ab _))
   obtain ⟨hy140,hy141,hy144,hv139⟩:=hs139 rfl;intro A143 n143 c143;refine fx (ak (eA hy144) t6 J (hJ (ap (i:=4) J J) (hJ (be (i:=0) J) ai)) dM) (aO hc139 J) ?_;rintro _ _ ⟨_,⟨rfl,rfl⟩,rfl⟩;exact aA J (ab _)
  refine ac J ?_ ?_
  ·cases c139
   ·exact dB (cr hc139 J) (aA J (ab _))
   obtain ⟨hy140,hy141,hy144,hv139⟩:=hs139 rfl;refine fx (aN (R:=aF) (vss:=[(ar y140),(ar y141),[iV 3,iV 7,.string (⟨#[]⟩)]]) (xs:=[y140,y141,(⟨3,7,⟨#[]⟩⟩:Gu)]) J (t7 _ _ _ _ _ _ _ _ _) J J (fun _ _ hr=> .cons J (.cons J (.cons J All2.nil)))) (aO hc139 J) ?_;rintro _ _ ⟨A142,n142,c142,rfl,rfl⟩;exact iT A142 n142 c142 (ab _)
  refine ac J ?_ ?_
  ·cases c139
   ·exact dB (cr hc139 J) (aA J (ab _))
   obtain ⟨hy140,hy141,hy144,hv139⟩:=hs139 rfl;exact bh (bJ J (pN _ _)) (aO hc139 J) (aA J (ab _))
  refine ac J ?_ ?_
  ·cases c139
   ·exact dB (cr hc139 J) (aA J (ab _))
   obtain ⟨hy140,hy141,hy144,hv139⟩:=hs139 rfl;refine fx (ak (cK hy141) iP J (ai) bU) (aO hc139 J) ?_;rintro _ _ ⟨_,⟨rfl,rfl⟩,rfl⟩;exact aA J (ab _)
  refine ac J ?_ ?_
  ·cases c139
   ·exact dB (cr hc139 J) (aA J (ab _))
   obtain ⟨hy140,hy141,hy144,hv139⟩:=hs139 rfl;refine fx (ak (cK hy140) iP J (ai) bU) (aO hc139 J) ?_;rintro _ _ ⟨_,⟨rfl,rfl⟩,rfl⟩;exact aA J (ab _)
  refine ac J ?_ ?_
  ·cases c139
   ·exact dB (cr hc139 J) (aA J (ab _))
   obtain ⟨hy140,hy141,hy144,hv139⟩:=hs139 rfl;exact bh (ax J) (aO hc139 J) (aA J (ab _))
  refine ac J ?_ ?_
  ·exact bh (ax J) J (aA J (ab _))
  refine ac J ?_ ?_
  ·cases c138
   ·exact bh (cD hc138 J J) J (aA (by rw [ho138 rfl]) (ab _))
   have hv138:=hs138 rfl;exact bh (cC hc138 J J) J (aA (by rw [hv138]) (ab _))
  refine ac J ?_ ?_
  ·cases c138
   ·exact dB (cr hc138 J) (aA J (ab _))
   have hv138:=hs138 rfl;exact bh (nc J J) (aO hc138 J) (aA J (ab _))
  refine ac J ?_ ?_
  ·cases c138
   ·exact dB (cr hc138 J) (aA J (ab _))
   have hv138:=hs138 rfl;exact bT (aG 1 J ae J hP) (aO hc138 J) (aA J (ab _))
  refine ac J ?_ ?_
  ·cases c138
   ·exact dB (cr hc138 J) (aA J (ab _))
   have hv138:=hs138 rfl;exact bT (aR 4 J J gK J) (aO hc138 J) (aA J (ab _))
  refine ac J ?_ ?_
  ·cases c138
   ·exact dB (cr hc138 J) (aA J (ab _))
   have hv138:=hs138 rfl;exact bh (bQ J iN) (aO hc138 J) (aA J (ab _))
  refine ac J ?_ ?_
  ·exact bh (ax J) J (aA J (ab _))
  refine ac J ?_ ?_
  ·cases c137
   ·exact bh (cD hc137 J J) J (aA (by rw [ho137 rfl]) (ab _))
   have hv137:=hs137 rfl;exact bh (cC hc137 J J) J (aA (by rw [hv137]) (ab _))
  refine ac J ?_ ?_
  ·cases c137
   ·exact dB (cr hc137 J) (aA J (ab _))
   have hv137:=hs137 rfl;exact bh (nc J J) (aO hc137 J) (aA J (ab _))
  refine ac J ?_ ?_
  ·cases c137
   ·exact dB (cr hc137 J) (aA J (ab _))
   have hv137:=hs137 rfl;exact bh (ax J) (aO hc137 J) (aA J (ab _))
  refine ac J ?_ ?_
  ·exact bh (ax J) J (aA J (ab _))
  refine ac J ?_ ?_
  ·cases c136
   ·exact bh (cD hc136 J J) J (aA (by rw [ho136 rfl]) (ab _))
   have hv136:=hs136 rfl;exact bh (cC hc136 J J) J (aA (by rw [hv136]) (ab _))
  refine ac J ?_ ?_
  ·cases c136
   ·exact dB (cr hc136 J) (aA J (ab _))
   have hv136:=hs136 rfl;exact bh (nc J J) (aO hc136 J) (aA J (ab _))
  refine ac J ?_ ?_
  ·cases c136
   ·exact dB (cr hc136 J) (aA J (ab _))
   have hv136:=hs136 rfl;exact bT (aG 21 J ae J hO) (aO hc136 J) (aA J (ab _))
  refine ac J ?_ ?_
  ·cases c136
   ·exact dB (cr hc136 J) (aA J (ab _))
   have hv136:=hs136 rfl;exact bh (ax J) (aO hc136 J) (aA J (ab _))
  refine ac J ?_ ?_
  ·exact bh (ax J) J (aA J (ab _))
  refine ac J ?_ ?_
  ·cases c133
   ·exact bh (cD hc133 J J) J (aA (by rw [ho133 rfl]) (ab _))
   obtain ⟨hx134,hy135,hv133⟩:=hs133 rfl;exact bh (cC hc133 J J) J (aA (by rw [hv133]) (ab _))
  refine ac J ?_ ?_
  ·cases c133
   ·exact dB (cr hc133 J) (aA J (ab _))
   obtain ⟨hx134,hy135,hv133⟩:=hs133 rfl;exact bh (xG (x:=x134) (y:=y135) J J) (aO hc133 J) (aA J (ab _))
  refine ac J ?_ ?_
  ·cases c133
   ·exact dB (cr hc133 J) (aA J (ab _))
   obtain ⟨hx134,hy135,hv133⟩:=hs133 rfl;refine fx (ak (cK hy135) iP J (ai) bU) (aO hc133 J) ?_;rintro _ _ ⟨_,⟨rfl,rfl⟩,rfl⟩;exact aA J (ab _)
  refine ac J ?_ ?_
  ·cases c133
   ·exact dB (cr hc133 J) (aA J (ab _))
   obtain ⟨hx134,hy135,hv133⟩:=hs133 rfl;obtain ⟨lx134,ux134,hx134⟩:=aj hx134;exact bT (aQ (us:=ar x134) 20 J ae J hx134 bn (fun _ _ _ h=>by rw [show _=_ from h];rfl)) (aO hc133 J) (aA J (ab _))
  refine ac J ?_ ?_
  ·cases c133
   ·exact dB (cr hc133 J) (aA J (ab _))
   obtain ⟨hx134,hy135,hv133⟩:=hs133 rfl;obtain ⟨lx134,ux134,hx134⟩:=aj hx134;exact bT (aB 20 J ae J J hO aI lx134 ux134) (aO hc133 J) (aA J (ab _))
  refine ac J ?_ ?_
  ·cases c133
   ·exact dB (cr hc133 J) (aA J (ab _))
   obtain ⟨hx134,hy135,hv133⟩:=hs133 rfl;exact bh (ax J) (aO hc133 J) (aA J (ab _))
  refine ac J ?_ ?_
  ·exact bh (ax J) J (aA J (ab _))
  refine ac J ?_ ?_
  ·cases c132
   ·exact bh (cD hc132 J J) J (aA (by rw [ho132 rfl]) (ab _))
   have hv132:=hs132 rfl;exact bh (cC hc132 J J) J (aA (by rw [hv132]) (ab _))
  refine ac J ?_ ?_
  ·cases c132
   ·exact dB (cr hc132 J) (aA J (ab _))
   have hv132:=hs132 rfl;exact bh (nc J J) (aO hc132 J) (aA J (ab _))
  refine ac J ?_ ?_
  ·cases c132
   ·exact dB (cr hc132 J) (aA J (ab _))
   have hv132:=hs132 rfl;exact bT (aG 20 J ae J hO) (aO hc132 J) (aA J (ab _))
  refine ac J ?_ ?_
  ·cases c132
   ·exact dB (cr hc132 J) (aA J (ab _))
   have hv132:=hs132 rfl;exact bh (ax J) (aO hc132 J) (aA J (ab _))
  refine ac J ?_ ?_
  ·exact bh (ax J) J (aA J (ab _))
  refine ac J ?_ ?_
  ·cases c122
   ·exact bh (cD hc122 J J) J (aA (by rw [ho122 rfl]) (ab _))
   obtain ⟨hx123,hx128,hy131,hv122⟩:=hs122 rfl;exact bh (cC hc122 J J) J (aA (by rw [hv122]) (ab _))
  refine ac J ?_ ?_
  ·cases c122
   ·exact dB (cr hc122 J) (aA J (ab _))
   obtain ⟨hx123,hx128,hy131,hv122⟩:=hs122 rfl;exact bh (xG (x:=x128) (y:=y131) J J) (aO hc122 J) (aA J (ab _))
  refine ac J ?_ ?_
  ·cases c122
   ·exact dB (cr hc122 J) (aA J (ab _))
   obtain ⟨hx123,hx128,hy131,hv122⟩:=hs122 rfl;refine fx (ak (cK hy131) iP J (ai) bU) (aO hc122 J) ?_;rintro _ _ ⟨_,⟨rfl,rfl⟩,rfl⟩;exact aA J (ab _)
  refine ac J ?_ ?_
  ·cases c122
   ·exact dB (cr hc122 J) (aA J (ab _))
   obtain ⟨hx123,hx128,hy131,hv122⟩:=hs122 rfl;obtain ⟨lx128,ux128,hx128⟩:=aj hx128;intro A129 n129 c129;exact bT (aQ (us:=ar x128) 0 J ae J hx128 bn (fun _ _ _ h=>by rw [show _=_ from h];rfl)) (aO hc122 J) (aA J (ab _))
  refine ac J ?_ ?_
  ·cases c122
   ·exact dB (cr hc122 J) (aA J (ab _))
   obtain ⟨hx123,hx128,hy131,hv122⟩:=hs122 rfl;obtain ⟨lx128,ux128,hx128⟩:=aj hx128;intro A127 n127 c127;exact bT (aB 0 J ae J J hO aI lx128 ux128) (aO hc122 J) (iT A127 n127 c127 ((ej 0 J J).trans (ab _)))
  refine ac J ?_ ?_
  ·cases c122
   ·exact dB (cr hc122 J) (aA J (ab _))
   obtain ⟨hx123,hx128,hy131,hv122⟩:=hs122 rfl;obtain ⟨lx123,ux123,hx123⟩:=aj hx123;refine Ee 19 J hx123 (cA x123) ?_;rintro _ _ ⟨A124,n124,c124,A125,n125,c125,rfl,rfl⟩;exact bT (ox 0 J J cz J) (aO hc122 J) (iT A125 n125 c125 (cS [2,3,4,5,6,7,8,9,10,11,12,13,14,15,16,17,18,19,20,21,22,23,24,25,26,27,28,29,30,31,32,33,34,35,36,37,38,39,40,41,42,43] 44))
  refine ac J ?_ ?_
  ·cases c122
   ·exact dB (cr hc122 J) (aA J (ab _))
   obtain ⟨hx123,hx128,hy131,hv122⟩:=hs122 rfl;obtain ⟨lx123,ux123,hx123⟩:=aj hx123;exact bT (lc 19 J ae J (bB lx123 ux123) ce) (aO hc122 J) (aA J (ab _))
  refine ac J ?_ ?_
  ·cases c122
   ·exact dB (cr hc122 J) (aA J (ab _))
   obtain ⟨hx123,hx128,hy131,hv122⟩:=hs122 rfl;obtain ⟨lx123,ux123,hx123⟩:=aj hx123;exact bT (aB 19 J ae J J hP bu lx123 ux123) (aO hc122 J) (aA J (ab _))
  refine ac J ?_ ?_
  ·cases c122
   ·exact dB (cr hc122 J) (aA J (ab _))
   obtain ⟨hx123,hx128,hy131,hv122⟩:=hs122 rfl;exact bT (aR 22 J J gK J) (aO hc122 J) (aA J (ab _))
  refine ac J ?_ ?_
  ·cases c122
   ·exact dB (cr hc122 J) (aA J (ab _))
   obtain ⟨hx123,hx128,hy131,hv122⟩:=hs122 rfl;exact bh (bQ J iN) (aO hc122 J) (aA J (ab _))
  refine ac J ?_ ?_
  ·exact bh (ax J) J (aA J (ab _))
  refine ac J ?_ ?_
  ·cases c116
   ·exact bh (cD hc116 J J) J (aA (by rw [ho116 rfl]) (ab _))
   obtain ⟨hx117,hv116⟩:=hs116 rfl;exact bh (cC hc116 J J) J (aA (by rw [hv116]) (ab _))
  refine ac J ?_ ?_
  ·cases c116
   ·exact dB (cr hc116 J) (aA J (ab _))
   obtain ⟨hx117,hv116⟩:=hs116 rfl;exact bh (nc J J) (aO hc116 J) (aA J (ab _))
  refine ac J ?_ ?_
  ·cases c116
   ·exact dB (cr hc116 J) (aA J (ab _))
   obtain ⟨hx117,hv116⟩:=hs116 rfl;intro A121 n121 c121;exact bT (aG 0 J ae J hO) (aO hc116 J) (aA J (ab _))
  refine ac J ?_ ?_
  ·cases c116
   ·exact dB (cr hc116 J) (aA J (ab _))
   obtain ⟨hx117,hv116⟩:=hs116 rfl;obtain ⟨lx117,ux117,hx117⟩:=aj hx117;refine Ee 19 J hx117 (cA x117) ?_;rintro _ _ ⟨A118,n118,c118,A119,n119,c119,rfl,rfl⟩;exact bT (ox 0 J J cz J) (aO hc116 J) (iT A119 n119 c119 (cS [2,3,4,5,6,7,8,9,10,11,12,13,14,15,16,17,18,19,20,21,22,23,24,25,26,27,28,29,30,31,32,33,34,35,36,37,38,39,40,41,42,43] 44))
  refine ac J ?_ ?_
  ·cases c116
   ·exact dB (cr hc116 J) (aA J (ab _))
   obtain ⟨hx117,hv116⟩:=hs116 rfl;obtain ⟨lx117,ux117,hx117⟩:=aj hx117;exact bT (lc 19 J ae J (bB lx117 ux117) ce) (aO hc116 J) (aA J (ab _))
  refine ac J ?_ ?_
  ·cases c116
   ·exact dB (cr hc116 J) (aA J (ab _))
   obtain ⟨hx117,hv116⟩:=hs116 rfl;obtain ⟨lx117,ux117,hx117⟩:=aj hx117;exact bT (aB 19 J ae J J hP bu lx117 ux117) (aO hc116 J) (aA J (ab _))
  refine ac J ?_ ?_
  ·cases c116
   ·exact dB (cr hc116 J) (aA J (ab _))
   obtain ⟨hx117,hv116⟩:=hs116 rfl;exact bT (aR 22 J J gK J) (aO hc116 J) (aA J (ab _))
  refine ac J ?_ ?_
  ·cases c116
   ·exact dB (cr hc116 J) (aA J (ab _))
   obtain ⟨hx117,hv116⟩:=hs116 rfl;exact bh (bQ J iN) (aO hc116 J) (aA J (ab _))
  refine ac J ?_ ?_
  ·exact bh (ax J) J (aA J (ab _))
  refine ac J ?_ ?_
  ·cases c115
   ·exact bh (cD hc115 J J) J (aA (by rw [ho115 rfl]) (ab _))
   have hv115:=hs115 rfl;exact bh (cC hc115 J J) J (aA (by rw [hv115]) (ab _))
  refine ac J ?_ ?_
  ·cases c115
   ·exact dB (cr hc115 J) (aA J (ab _))
   have hv115:=hs115 rfl;exact bh (nc J J) (aO hc115 J) (aA J (ab _))
  refine ac J ?_ ?_
  ·cases c115
   ·exact dB (cr hc115 J) (aA J (ab _))
   have hv115:=hs115 rfl;exact bT (aG 18 J ae J hP) (aO hc115 J) (aA J (ab _))
  refine ac J ?_ ?_
  ·cases c115
   ·exact dB (cr hc115 J) (aA J (ab _))
   have hv115:=hs115 rfl;exact bT (aR 22 J J gK J) (aO hc115 J) (aA J (ab _))
  refine ac J ?_ ?_
  ·cases c115
   ·exact dB (cr hc115 J) (aA J (ab _))
   have hv115:=hs115 rfl;exact bh (jN J oG) (aO hc115 J) (aA J (ab _))
  refine ac J ?_ ?_
  ·exact bh (ax J) J (aA J (ab _))
  refine ac J ?_ ?_
  ·cases c114
   ·exact bh (cD hc114 J J) J (aA (by rw [ho114 rfl]) (ab _))
   have hv114:=hs114 rfl;exact bh (cC hc114 J J) J (aA (by rw [hv114]) (ab _))
  refine ac J ?_ ?_
  ·cases c114
   ·exact dB (cr hc114 J) (aA J (ab _))
   have hv114:=hs114 rfl;exact bh (nc J J) (aO hc114 J) (aA J (ab _))
  refine ac J ?_ ?_
  ·cases c114
   ·exact dB (cr hc114 J) (aA J (ab _))
   have hv114:=hs114 rfl;exact bT (aG 19 J ae J hP) (aO hc114 J) (aA J (ab _))
  refine ac J ?_ ?_
  ·cases c114
   ·exact dB (cr hc114 J) (aA J (ab _))
   have hv114:=hs114 rfl;exact bT (aR 22 J J gK J) (aO hc114 J) (aA J (ab _))
  refine ac J ?_ ?_
  ·cases c114
   ·exact dB (cr hc114 J) (aA J (ab _))
   have hv114:=hs114 rfl;exact bh (bQ J iN) (aO hc114 J) (aA J (ab _))
  refine ac J ?_ ?_
  ·exact bh (ax J) J (aA J (ab _))
  refine ac J ?_ ?_
  ·cases c113
   ·exact bh (cD hc113 J J) J (aA (by rw [ho113 rfl]) (ab _))
   have hv113:=hs113 rfl;exact bh (cC hc113 J J) J (aA (by rw [hv113]) (ab _))
  refine ac J ?_ ?_
  ·cases c113
   ·exact dB (cr hc113 J) (aA J (ab _))
   have hv113:=hs113 rfl;exact bh (nc J J) (aO hc113 J) (aA J (ab _))
  refine ac J ?_ ?_
  ·cases c113
   ·exact dB (cr hc113 J) (aA J (ab _))
   have hv113:=hs113 rfl;exact bh (ax J) (aO hc113 J) (aA J (ab _))
  refine ac J ?_ ?_
  ·exact bh (ax J) J (aA J (ab _))
  refine ac J ?_ ?_
  ·cases c109
   ·exact bh (cD hc109 J J) J (aA (by rw [ho109 rfl]) (ab _))
   obtain ⟨hy112,hv109⟩:=hs109 rfl;exact bh (cC hc109 J J) J (aA (by rw [hv109]) (ab _))
  refine ac J ?_ ?_
  ·cases c109
   ·exact dB (cr hc109 J) (aA J (ab _))
   obtain ⟨hy112,hv109⟩:=hs109 rfl;intro A111 n111 c111;refine fx (ak (lg hy112) wy J (hJ (be (i:=25) J) (hJ (be (i:=0) J) ai)) jl) (aO hc109 J) ?_;rintro _ _ ⟨_,⟨rfl,rfl⟩,rfl⟩;exact aA J (ab _)
  refine ac J ?_ ?_
  ·cases c109
   ·exact dB (cr hc109 J) (aA J (ab _))
   obtain ⟨hy112,hv109⟩:=hs109 rfl;refine fx (aN (R:=(dn .i64)) (vss:=[[iV 2],[iV 4]]) (xs:=[2,4]) J (ua _ _) J J (fun _ _ hr=> .cons J (.cons J All2.nil))) (aO hc109 J) ?_;rintro _ _ ⟨A110,n110,c110,rfl,rfl⟩;exact iT A110 n110 c110 (ab _)
  refine ac J ?_ ?_
  ·cases c109
   ·exact dB (cr hc109 J) (aA J (ab _))
   obtain ⟨hy112,hv109⟩:=hs109 rfl;exact bh (ax J) (aO hc109 J) (aA J (ab _))
  refine ac J ?_ ?_
  ·exact bh (ax J) J (aA J (ab _))
  refine ac J ?_ ?_
  ·intro A107 n107 c107;refine fx (ak (lg hy108) wy J (hJ (be (i:=24) J) (hJ (be (i:=0) J) ai)) jl) J ?_;rintro _ _ ⟨_,⟨rfl,rfl⟩,rfl⟩;exact aA J (ab _)
  refine ac J ?_ ?_
  ·refine fx (aN (R:=(dn .i64)) (vss:=[[iV 2],[iV 1]]) (xs:=[2,1]) J (ua _ _) J J (fun _ _ hr=> .cons J (.cons J All2.nil))) J ?_;rintro _ _ ⟨A106,n106,c106,rfl,rfl⟩;exact iT A106 n106 c106 (ab _)
  refine ac J ?_ ?_
  ·exact bh (ax J) J (aA J (ab _))
  exact dh
 refine gP (t:=[(147,.bool b139),(0,.bool false),(3,I A24 n24 c24),(4,I A25 n25 c25),(5,pV B55 0),(6,I A50 n50 c50),(7,I A52 n52 c52),(8,iV y29.2.2.2),(10,pV B105 0),(12,I A102 n102 c102),(13,iV y78.2.2.2)]) (L':=[br A96 n96 c96 y78.1.Young,br A97 n97 c97 y78.1.Old,aS A100 n100 c100 y78.2.1,aS A102 n102 c102 y78.2.2.1,aw B105 36 [I A96 n96 c96,I A97 n97 c97],aw B74 36 [I none 0 0,I A73 n73 c73],br A73 n73 c73 ([(⟨10,0,0,0,([(⟨1,0,⟨#[]⟩⟩:Gu)]:List Gu),([y57,y58,y59,(⟨0,0,⟨#[]⟩⟩:Gu),(⟨3,7,⟨#[]⟩⟩:Gu)]:List Gu)⟩:Gw),y61,y65,y69]:List Gw),aS A70 n70 c70 y69.Slots,aS A71 n71 c71 y69.More,iS aF (I none 0 0) ([]:List Gu),aS A66 n66 c66 y65.Slots,aS A67 n67 c67 y65.More,iS aF (I none 0 0) ([]:List Gu),aS A62 n62 c62 y61.Slots,aS A63 n63 c63 y61.More,iS aF (I none 0 0) ([]:List Gu),aS A60 n60 c60 ([y57,y58,y59,(⟨0,0,⟨#[]⟩⟩:Gu),(⟨3,7,⟨#[]⟩⟩:Gu)]:List Gu),aS A56 n56 c56 ([(⟨1,0,⟨#[]⟩⟩:Gu)]:List Gu),br A46 n46 c46 y29.1.Young,br A47 n47 c47 y29.1.Old,aS A50 n50 c50 y29.2.1,aS A52 n52 c52 y29.2.2.1,aw B55 36 [I A46 n46 c46,I A47 n47 c47],cc A24 n24 c24 y23.1,cc A25 n25 c25 y23.2,cB A22 n22 c22 ([y21]:List Gu),aw B20 36 [I A10 n10 c10,I A19 n19 c19],br A19 n19 c19 ([y11,y15]:List Gw),aS A16 n16 c16 y15.Slots,aS A17 n17 c17 y15.More,iS aF (I none 0 0) ([]:List Gu),aS A12 n12 c12 y11.Slots,aS A13 n13 c13 y11.More,iS aF (I none 0 0) ([]:List Gu),br A10 n10 c10 ([y3,y6]:List Gw),aS A7 n7 c7 y6.Slots,aS A8 n8 c8 y6.More,iS aF (I none 0 0) ([]:List Gu),aS A4 n4 c4 y3.Slots,aS A5 n5 c5 y3.More,aS A2 n2 c2 ([y1]:List Gu)]) ?_ gA (ab _)
 refine pS 79 J O (bz J) J J J ?_;refine gx O ?_;refine V ?_;obtain rfl:=ao h;exact aL J J (cS [] 41) ⟨J,J⟩
theorem oW {r:Bool}: ∀v post,((fun (u:Value) (post:List Chunk)=>u=.bool r∧post=[])) v post→ ∀c∈post,bR c:=by
 rintro _ _ ⟨rfl,rfl⟩;exact ai
def o8 (N:Nat)(p4:(List Gw)):Option (List Gw):=
 some p4
def fJ (N:Nat)(a0:(List Gw)):Nat→(List Gw)→Int→Option (List Gw)
 |0,_,_=>none
 |m5+1,p6,p7=>bif decide (p7<(a0.length:Int)) then ((aH a0 p7).bind fun x9=>bD (bN (([]:List Gu).length+x9.Slots.length)) (bD (bN (([]:List Gu).length+x9.More.length)) (bD (bN (p6.length+([(⟨x9.Kind,x9.Shape,x9.Flags,x9.Age,([]:List Gu)++x9.Slots,([]:List Gu)++x9.More⟩:Gw)]:List Gw).length)) (bD (in64 (p7+1)) ((fJ N a0 m5) (p6++([(⟨x9.Kind,x9.Shape,x9.Flags,x9.Age,([]:List Gu)++x9.Slots,([]:List Gu)++x9.More⟩:Gw)]:List Gw)) (p7+1)))))) else (o8 N p6)
def iw (N:Nat)(a0:(List Gw)):Option (List Gw):=
 fJ N a0 N ([]:List Gw) 0
set_option maxHeartbeats 4000000 in
theorem o7 {N:Nat}{a0:(List Gw)}{r:(List Gw)}(h:iw N a0=some r):Okc Tryz.prog 89 [I A1 n1 c1] ([br A1 n1 c1 a0]) (fun u post=> ∃A0 n0 c0,u=I A0 n0 c0∧post=[tM A0 n0 c0 r]):=by
 refine bx Tryz.func89 J J ?_;simp only [aU];refine V ?_;refine gD (aN (R:=bV) (vss:=[]) (xs:=[]) J (xU) J J (fun _ _ hr=>All2.nil)) ?_;rintro _ _ ⟨A2,n2,c2,rfl,rfl⟩;refine V ?_;refine aP (fun s L=> ∃p4 A4 n4 c4,o8 N p4=some r∧s=[(2,I none 0 0),(3,I A4 n4 c4)]∧L=[tM A4 n4 c4 p4]) ?_ ?_
 ·refine V ?_;refine aZ (fun m s L=> ∃p6 p7 A6 n6 c6,fJ N a0 m p6 p7=some r∧s=[(0,I A1 n1 c1),(2,I none 0 0),(3,I A6 n6 c6),(4,iV p7)]∧L=[br A1 n1 c1 a0,tM A6 n6 c6 p6]) N _ _ ⟨([]:List Gw),0,A2,n2,c2,h,J,J⟩ sA (cS [1,0] 2) ?_;rintro (_|m5) _ _ ⟨p6,p7,A6,n6,c6,h,rfl,rfl⟩
  ·exact az h
  rw [fJ.eq_2] at h;refine ay ?_;refine V ?_;refine gR (aG 0 J ae J hP) ?_;refine V ?_;refine aq J (fun g8=> ?_) (fun g8=> ?_)
  ·replace h:=ag g8 h;refine V ?_;refine ay ?_;refine V ?_;obtain ⟨x9,hx9,h⟩:=aa h;obtain ⟨lx9,ux9,hx9⟩:=aj hx9;refine gR (aB 0 J ae J J hP bu lx9 ux9) ?_;refine xZ 0 J hx9 (cA x9) ?_;rintro _ _ ⟨A10,n10,c10,A11,n11,c11,rfl,rfl⟩;refine gR (mr (us:=[iV x9.Kind,iV x9.Shape,iV x9.Flags,iV x9.Age,I A10 n10 c10,I A11 n11 c11]) 0 J J bo J) ?_;refine gD (aM dD J) ?_;rintro _ _ ⟨B13,rfl,rfl⟩;refine gO (au (us:=[iV x9.Kind,iV x9.Shape,iV x9.Flags,iV x9.Age,I A10 n10 c10,I A11 n11 c11]) (cs':=[iV x9.Kind,iV x9.Shape,iV x9.Flags,iV x9.Age,I A10 n10 c10,I A11 n11 c11]) 0 J J J J bu J J J) ?_;rintro _ _ rfl;refine V ?_;refine gD (aN (R:=aF) (vss:=[]) (xs:=[]) J (oa) J J (fun _ _ hr=>All2.nil)) ?_;rintro _ _ ⟨A14,n14,c14,rfl,rfl⟩;refine V ?_;obtain ⟨q15,h⟩:=am h;refine gD (ba 0 3 J J ae J J hO nn J J q15) ?_;rintro _ _ ⟨A16,n16,c16,rfl,rfl⟩;refine V ?_;refine gO (au (us:=[I A16 n16 c16]) (cs':=[iV x9.Kind,iV x9.Shape,iV x9.Flags,iV x9.Age,I A16 n16 c16,I A11 n11 c11]) 1 J J J J eJ J J J) ?_;rintro _ _ rfl;refine bX ?_;refine V ?_;refine gD (aN (R:=aF) (vss:=[]) (xs:=[]) J (oa) J J (fun _ _ hr=>All2.nil)) ?_;rintro _ _ ⟨A17,n17,c17,rfl,rfl⟩;refine V ?_;obtain ⟨q18,h⟩:=am h;refine gD (ba 0 5 J J ae J J hO nn J J q18) ?_;rintro _ _ ⟨A19,n19,c19,rfl,rfl⟩;refine V ?_
   refine gO (au (us:=[I A19 n19 c19]) (cs':=[iV x9.Kind,iV x9.Shape,iV x9.Flags,iV x9.Age,I A16 n16 c16,I A19 n19 c19]) 2 J J J J eJ J J J) ?_;rintro _ _ rfl;refine V ?_;refine gR (aC (us:=[iV x9.Kind,iV x9.Shape,iV x9.Flags,iV x9.Age,I A16 n16 c16,I A19 n19 c19]) 2 J J bo J) ?_;refine kT (cg 1 J) ?_;refine bX ?_;refine kT (cg 0 J) ?_;refine gD (aN (R:=bV) (vss:=[[iV x9.Kind,iV x9.Shape,iV x9.Flags,iV x9.Age,I A16 n16 c16,I A19 n19 c19]]) (xs:=[(⟨x9.Kind,x9.Shape,x9.Flags,x9.Age,([]:List Gu)++x9.Slots,([]:List Gu)++x9.More⟩:Gw)]) J (t8 _ _ _ _ _ _ _ _ _ _) J J (fun _ _ hr=> .cons (⟨_,_,_,_,_,_,J,hr 1 _ J J,hr 0 _ J J⟩) All2.nil)) ?_;rintro _ _ ⟨A20,n20,c20,rfl,rfl⟩;obtain ⟨q21,h⟩:=am h;refine gD (ba 8 0 J J aJ J J hP Bb J J q21) ?_;rintro _ _ ⟨A22,n22,c22,rfl,rfl⟩;refine V ?_;obtain ⟨q23,h⟩:=am h;refine gE (aT J J q23.1 q23.2) ?_;refine V ?_;exact ⟨m5,_,_,GD _,⟨p6++([(⟨x9.Kind,x9.Shape,x9.Flags,x9.Age,([]:List Gu)++x9.Slots,([]:List Gu)++x9.More⟩:Gw)]:List Gw),p7+1,A22,n22,c22,h,J,J⟩,sA,cS [7,8] 9⟩
  replace h:=ah g8 h;refine V ?_;exact ⟨_,_,⟨p6,A6,n6,c6,h,J,J⟩,sA,cS [1] 2⟩
 rintro _ _ ⟨p4,A4,n4,c4,h,rfl,rfl⟩;refine V ?_;obtain rfl:=ao h;exact aL J J (cS [0] 1) ⟨_,_,_,J,J⟩
def iy (N:Nat)(a0:Gx):Option Gx:=
 (iw N a0.Young).bind fun y5=>(iw N a0.Old).bind fun y7=>some (⟨y5,y7⟩:Gx)
theorem uo {N:Nat}{a0:Gx}{r:Gx}(h:iy N a0=some r):Okc Tryz.prog 26 [.agg #[I A1 n1 c1,I A2 n2 c2]] ([br A1 n1 c1 a0.Young,br A2 n2 c2 a0.Old]) (fun u post=> ∃A0 n0 c0 A1 n1 c1,u=.agg #[I A0 n0 c0,I A1 n1 c1]∧post=[tM A0 n0 c0 r.Young,tM A1 n1 c1 r.Old]):=by
 refine bx Tryz.func26 J J ?_;simp only [aU];refine V ?_;refine gD (aX J J) ?_;rintro _ _ ⟨B3,rfl,rfl⟩;refine gD (aM kj J) ?_;rintro _ _ ⟨B4,rfl,rfl⟩;refine V ?_;refine ay ?_;refine cy O _ (ab _) ?_;refine zE 0 J (jN J oG) ?_;refine zR 1 J (aR 1 J J gK J) ?_;refine zE 3 J (bQ J iN) ?_;refine zR 4 J (aR 1 J J gK J) ?_;obtain ⟨y5,hy5,h⟩:=aa h;refine zD 2 J (cw (o7 hy5) Cf J (bq [2] [] [0,1,2,3] 4 J)) ?_;rintro _ _ ⟨_,⟨A6,n6,c6,rfl,rfl⟩,rfl⟩;refine gX (cS [1,2,3,4] 5) ?_;obtain ⟨y7,hy7,h⟩:=aa h;refine zD 5 J (cw (o7 hy7) Cf J (bq [4] [] [0,1,2,3,4] 5 J)) ?_;rintro _ _ ⟨_,⟨A8,n8,c8,rfl,rfl⟩,rfl⟩;refine gX (cS [2,3,4,5] 6) ?_;refine zE 6 J (bJ J (ub _ _ _ _ _ _)) ?_;refine oM 7 J O O (au (us:=[I A6 n6 c6,I A8 n8 c8]) (cs':=[I A6 n6 c6,I A8 n8 c8]) 2 J J J J iX J J J) ?_;rintro _ _ rfl;refine cx O ?_;refine V ?_;obtain rfl:=ao h;exact dl (rs:=[.cell 2 36]) (vs:=[.agg #[I A6 n6 c6,I A8 n8 c8]]) J (.cons (bY 2 J J cu) .nil) J (cS [1,0] 6) ⟨_,_,_,_,_,_,J,J⟩
def ic (N:Nat)(a0:Gu):Option Bool:=
 (bif decide (a0.Kind<0) then (some true) else (some (decide (9<a0.Kind)))).bind fun b2=>bif b2 then (some false) else (bif decide (a0.Kind=5) then ((bif decide (a0.N=0) then (some (decide ((a0.S.size:Int)≤65536))) else (some false)).bind fun b5=>some b5) else (bif !(a0.S.toList==(⟨#[]⟩:ByteArray).toList) then (some false) else (bif decide (a0.Kind=2) then ((bif decide (a0.N=0) then (some true) else (some (decide (a0.N=1)))).bind fun b8=>some b8) else (bif decide (a0.Kind=3) then ((bif decide ((-9007199254740992)≤a0.N) then (some (decide (a0.N≤9007199254740992))) else (some false)).bind fun b10=>some b10) else ((bif decide (a0.Kind=6) then (some true) else (some (decide (a0.Kind=7)))).bind fun b11=>(bif b11 then (some true) else (some (decide (a0.Kind=9)))).bind fun b12=>bif b12 then (some (decide (1≤a0.N))) else (some (decide (a0.N=0))))))))
set_option maxHeartbeats 4000000 in
theorem tv {N:Nat}{a0:Gu}{r:Bool}(h:ic N a0=some r):Okc Tryz.prog 201 [(bd a0)] ([]) (fun u post=>u=.bool r∧post=[]):=by
 refine bx Tryz.func201 J J ?_;simp only [aU];refine V ?_;refine gD (aX J J) ?_;rintro _ _ ⟨B1,rfl,rfl⟩;refine V ?_;refine ay ?_;refine V ?_;obtain ⟨b2,hb2,h⟩:=aa h;refine aD 4 10 b2 ?_ ?_
 ·clear h;refine aE 6 J (fun g2=> ?_) (fun g2=> ?_)
  ·have h:=ag g2 hb2;refine V ?_;obtain rfl:=ao h;exact ad sA (cS [0] 1)
  have h:=ah g2 hb2;refine V ?_;obtain rfl:=ao h;exact ad sA (cS [0] 1)
 refine V ?_;refine aq J (fun g3=> ?_) (fun g3=> ?_)
 ·replace h:=ag g3 h;refine V ?_;obtain rfl:=ao h;exact aL J J (cS [] 1) ⟨J,J⟩
 replace h:=ah g3 h;refine V ?_;refine ay ?_;refine V ?_;refine aq J (fun g4=> ?_) (fun g4=> ?_)
 ·replace h:=ag g4 h;refine V ?_;obtain ⟨b5,hb5,h⟩:=aa h;refine aD 5 22 b5 ?_ ?_
  ·clear h;refine aE 17 J (fun g5=> ?_) (fun g5=> ?_)
   ·have h:=ag g5 hb5;refine V ?_;refine pU (zw J t9) J (aO g5 J) J ?_;refine V ?_;obtain rfl:=ao h;exact ad sA (cS [0] 1)
   have h:=ah g5 hb5;refine V ?_;obtain rfl:=ao h;exact ad sA (cS [0] 1)
  refine V ?_;obtain rfl:=ao h;exact aL J J (cS [] 1) ⟨J,J⟩
 replace h:=ah g4 h;refine V ?_;refine ay ?_;refine V ?_;refine gE (xE J J) ?_;refine V ?_;refine aq J (fun g6=> ?_) (fun g6=> ?_)
 ·replace h:=ag g6 h;refine V ?_;obtain rfl:=ao h;exact aL J J (cS [] 1) ⟨J,J⟩
 replace h:=ah g6 h;refine V ?_;refine ay ?_;refine V ?_;refine aq J (fun g7=> ?_) (fun g7=> ?_)
 ·replace h:=ag g7 h;refine V ?_;obtain ⟨b8,hb8,h⟩:=aa h;refine aD 4 36 b8 ?_ ?_
  ·clear h;refine aE 32 J (fun g8=> ?_) (fun g8=> ?_)
   ·have h:=ag g8 hb8;refine V ?_;obtain rfl:=ao h;exact ad sA (cS [0] 1)
   have h:=ah g8 hb8;refine V ?_;obtain rfl:=ao h;exact ad sA (cS [0] 1)
  refine V ?_;obtain rfl:=ao h;exact aL J J (cS [] 1) ⟨J,J⟩
 replace h:=ah g7 h;refine V ?_;refine ay ?_;refine V ?_;refine aq J (fun g9=> ?_) (fun g9=> ?_)
 ·replace h:=ag g9 h;refine V ?_;obtain ⟨b10,hb10,h⟩:=aa h;refine aD 4 47 b10 ?_ ?_
  ·clear h;refine aE 43 J (fun g10=> ?_) (fun g10=> ?_)
   ·have h:=ag g10 hb10;refine V ?_;obtain rfl:=ao h;exact ad sA (cS [0] 1)
   have h:=ah g10 hb10;refine V ?_;obtain rfl:=ao h;exact ad sA (cS [0] 1)
  refine V ?_;obtain rfl:=ao h;exact aL J J (cS [] 1) ⟨J,J⟩
 replace h:=ah g9 h;refine V ?_;refine ay ?_;refine V ?_;obtain ⟨b11,hb11,h⟩:=aa h;refine aD 4 55 b11 ?_ ?_
 ·clear h;refine aE 51 J (fun g11=> ?_) (fun g11=> ?_)
  ·have h:=ag g11 hb11;refine V ?_;obtain rfl:=ao h;exact ad sA (cS [0] 1)
  have h:=ah g11 hb11;refine V ?_;obtain rfl:=ao h;exact ad sA (cS [0] 1)
 refine V ?_;obtain ⟨b12,hb12,h⟩:=aa h;refine aD 4 60 b12 ?_ ?_
 ·clear h;refine aE 56 J (fun g12=> ?_) (fun g12=> ?_)
  ·have h:=ag g12 hb12;refine V ?_;obtain rfl:=ao h;exact ad sA (cS [0] 1)
  have h:=ah g12 hb12;refine V ?_;obtain rfl:=ao h;exact ad sA (cS [0] 1)
 refine V ?_;refine aq J (fun g13=> ?_) (fun g13=> ?_)
 ·replace h:=ag g13 h;refine V ?_;obtain rfl:=ao h;exact aL J J (cS [] 1) ⟨J,J⟩
 replace h:=ah g13 h;refine V ?_;obtain rfl:=ao h;exact aL J J (cS [] 1) ⟨J,J⟩
theorem qo {r:Bool}: ∀v post,((fun (u:Value) (post:List Chunk)=>u=.bool r∧post=[])) v post→ ∀c∈post,bR c:=by
 rintro _ _ ⟨rfl,rfl⟩;exact ai
def f9 (N:Nat)(a0:Int):Option Bool:=
 (bif decide (a0=1) then (some true) else (some (decide (a0=2)))).bind fun b1=>(bif b1 then (some true) else (some (decide (a0=3)))).bind fun b2=>(bif b2 then (some true) else (some (decide (a0=6)))).bind fun b3=>(bif b3 then (some true) else (some (decide (a0=8)))).bind fun b4=>(bif b4 then (some true) else (some (decide (a0=9)))).bind fun b5=>(bif b5 then (some true) else (some (decide (a0=10)))).bind fun b6=>some b6
theorem wa {N:Nat}{a0:Int}{r:Bool}(h:f9 N a0=some r):Okc Tryz.prog 242 [iV a0] ([]) (fun u post=>u=.bool r∧post=[]):=by
 refine bx Tryz.func242 J J ?_;simp only [aU];refine V ?_;obtain ⟨b1,hb1,h⟩:=aa h;refine aD 3 8 b1 ?_ ?_
 ·clear h;refine aE 5 J (fun g1=> ?_) (fun g1=> ?_)
  ·have h:=ag g1 hb1;refine V ?_;obtain rfl:=ao h;exact ad sA (cS [] 0)
  have h:=ah g1 hb1;refine V ?_;obtain rfl:=ao h;exact ad sA (cS [] 0)
 refine V ?_;obtain ⟨b2,hb2,h⟩:=aa h;refine aD 3 12 b2 ?_ ?_
 ·clear h;refine aE 9 J (fun g2=> ?_) (fun g2=> ?_)
  ·have h:=ag g2 hb2;refine V ?_;obtain rfl:=ao h;exact ad sA (cS [] 0)
  have h:=ah g2 hb2;refine V ?_;obtain rfl:=ao h;exact ad sA (cS [] 0)
 refine V ?_;obtain ⟨b3,hb3,h⟩:=aa h;refine aD 3 16 b3 ?_ ?_
 ·clear h;refine aE 13 J (fun g3=> ?_) (fun g3=> ?_)
  ·have h:=ag g3 hb3;refine V ?_;obtain rfl:=ao h;exact ad sA (cS [] 0)
  have h:=ah g3 hb3;refine V ?_;obtain rfl:=ao h;exact ad sA (cS [] 0)
 refine V ?_;obtain ⟨b4,hb4,h⟩:=aa h;refine aD 3 20 b4 ?_ ?_
 ·clear h;refine aE 17 J (fun g4=> ?_) (fun g4=> ?_)
  ·have h:=ag g4 hb4;refine V ?_;obtain rfl:=ao h;exact ad sA (cS [] 0)
  have h:=ah g4 hb4;refine V ?_;obtain rfl:=ao h;exact ad sA (cS [] 0)
 refine V ?_;obtain ⟨b5,hb5,h⟩:=aa h;refine aD 3 24 b5 ?_ ?_
 ·clear h;refine aE 21 J (fun g5=> ?_) (fun g5=> ?_)
  ·have h:=ag g5 hb5;refine V ?_;obtain rfl:=ao h;exact ad sA (cS [] 0)
  have h:=ah g5 hb5;refine V ?_;obtain rfl:=ao h;exact ad sA (cS [] 0)
 refine V ?_;obtain ⟨b6,hb6,h⟩:=aa h;refine aD 3 28 b6 ?_ ?_
 ·clear h;refine aE 25 J (fun g6=> ?_) (fun g6=> ?_)
  ·have h:=ag g6 hb6;refine V ?_;obtain rfl:=ao h;exact ad sA (cS [] 0)
  have h:=ah g6 hb6;refine V ?_;obtain rfl:=ao h;exact ad sA (cS [] 0)
 refine V ?_;obtain rfl:=ao h;exact aL J J (cS [] 0) ⟨J,J⟩
theorem tu {r:Bool}: ∀v post,((fun (u:Value) (post:List Chunk)=>u=.bool r∧post=[])) v post→ ∀c∈post,bR c:=by
 rintro _ _ ⟨rfl,rfl⟩;exact ai
def dp (N:Nat)(a0:Gu)(a1:Int):Option Bool:=
 (bif decide (a0.Kind=0) then (some true) else (some (decide (a0.Kind=a1)))).bind fun b2=>some b2
theorem ib {N:Nat}{a0:Gu}{a1:Int}{r:Bool}(h:dp N a0 a1=some r):Okc Tryz.prog 243 [(bd a0),iV a1] ([]) (fun u post=>u=.bool r∧post=[]):=by
 refine bx Tryz.func243 J J ?_;simp only [aU];refine V ?_;refine gD (aX J J) ?_;rintro _ _ ⟨B1,rfl,rfl⟩;refine V ?_;obtain ⟨b2,hb2,h⟩:=aa h;refine aD 5 13 b2 ?_ ?_
 ·clear h;refine aE 8 J (fun g2=> ?_) (fun g2=> ?_)
  ·have h:=ag g2 hb2;refine V ?_;obtain rfl:=ao h;exact ad sA (cS [0] 1)
  have h:=ah g2 hb2;refine V ?_;obtain rfl:=ao h;exact ad sA (cS [0] 1)
 refine V ?_;obtain rfl:=ao h;exact aL J J (cS [] 1) ⟨J,J⟩
theorem fL {r:Bool}: ∀v post,((fun (u:Value) (post:List Chunk)=>u=.bool r∧post=[])) v post→ ∀c∈post,bR c:=by
 rintro _ _ ⟨rfl,rfl⟩;exact ai
def fj (N:Nat)(a0:Gw):Option Bool:=
 (f9 N a0.Kind).bind fun y4=>(bif y4 then (some true) else ((bif decide (a0.Kind=7) then (some (decide (0<(a0.Slots.length:Int)))) else (some false)).bind fun b6=>some b6)).bind fun b5=>bif b5 then ((bif decide (1≤(a0.Slots.length:Int)) then (some (decide ((a0.Slots.length:Int)≤1025))) else (some false)).bind fun b8=>(bif b8 then ((aH a0.Slots 0).bind fun x10=>(bif decide (x10.Kind=1) then (some true) else ((aH a0.Slots 0).bind fun x12=>some (decide (x12.Kind=7)))).bind fun b11=>some b11) else (some false)).bind fun b9=>some b9) else (bif decide (a0.Kind=7) then (some (decide (a0.Shape=0))) else ((bif !decide (a0.Shape=0) then (some true) else (some (!decide (a0.Flags=0)))).bind fun b14=>bif b14 then (some false) else (bif decide (a0.Kind=5) then ((bif decide ((a0.Slots.length:Int)=2) then ((aH a0.Slots 0).bind fun x18=>(dp N x18 7).bind fun y19=>some y19) else (some false)).bind fun b17=>(bif b17 then ((aH a0.Slots 1).bind fun x21=>(dp N x21 7).bind fun y22=>some y22) else (some false)).bind fun b20=>some b20) else (some (decide ((a0.Slots.length:Int)=0))))))
set_option maxHeartbeats 4000000 in
theorem vZ {N:Nat}{a0:Gw}{r:Bool}(h:fj N a0=some r):Okc Tryz.prog 202 [.agg #[iV a0.Kind,iV a0.Shape,iV a0.Flags,iV a0.Age,I A1 n1 c1,I A2 n2 c2]] ([aS A1 n1 c1 a0.Slots,aS A2 n2 c2 a0.More]) (fun u post=>u=.bool r∧post=[]):=by
 refine bx Tryz.func202 J J ?_;simp only [aU];refine V ?_;refine gD (aX J J) ?_;rintro _ _ ⟨B3,rfl,rfl⟩;refine V ?_;refine ay ?_;refine V ?_;obtain ⟨y4,hy4,h⟩:=aa h;refine gD (ak (wa hy4) Dl J (ai) tu) ?_;rintro _ _ ⟨_,⟨rfl,rfl⟩,rfl⟩;refine V ?_;obtain ⟨b5,hb5,h⟩:=aa h;refine aD 10 16 b5 ?_ ?_
 ·clear h;refine aE 6 J (fun g5=> ?_) (fun g5=> ?_)
  ·have h:=ag g5 hb5;refine V ?_;obtain rfl:=ao h;exact ad sA (cS [0,1,2] 3)
  have h:=ah g5 hb5;refine V ?_;obtain ⟨b6,hb6,h⟩:=aa h;refine aD 5 15 b6 ?_ ?_
  ·clear h;refine aE 10 J (fun g6=> ?_) (fun g6=> ?_)
   ·have h:=ag g6 hb6;refine V ?_;refine bA (aG 1 J ae J hO) J (aO g6 J) J ?_;refine V ?_;obtain rfl:=ao h;exact ad sA (cS [0,1,2] 3)
   have h:=ah g6 hb6;refine V ?_;obtain rfl:=ao h;exact ad sA (cS [0,1,2] 3)
  refine V ?_;obtain rfl:=ao h;exact ad sA (cS [0,1,2] 3)
 refine V ?_;refine aq J (fun g7=> ?_) (fun g7=> ?_)
 ·replace h:=ag g7 h;refine V ?_;refine gR (aG 1 J ae J hO) ?_;refine V ?_;obtain ⟨b8,hb8,h⟩:=aa h;refine aD 5 26 b8 ?_ ?_
  ·clear h;refine aE 21 J (fun g8=> ?_) (fun g8=> ?_)
   ·have h:=ag g8 hb8;refine V ?_;refine bA (aG 1 J ae J hO) J (aO g8 J) J ?_;refine V ?_;obtain rfl:=ao h;exact ad sA (cS [0,1,2] 3)
   have h:=ah g8 hb8;refine V ?_;obtain rfl:=ao h;exact ad sA (cS [0,1,2] 3)
  refine V ?_;obtain ⟨b9,hb9,h⟩:=aa h;refine aD 15 42 b9 ?_ ?_
  ·clear h;refine aE 27 J (fun g9=> ?_) (fun g9=> ?_)
   ·have h:=ag g9 hb9;refine V ?_;obtain ⟨x10,hx10,h⟩:=aa h;obtain ⟨lx10,ux10,hx10⟩:=aj hx10;refine bA (aB 1 J ae J J hO aI lx10 ux10) J (aO g9 J) J ?_;refine bA (jI 1 J ae J (bB lx10 ux10) eQ) J (aO g9 J) J ?_;refine bA (aW (u:=iV x10.Kind) 1 J ae J hx10 cM (fun _ _ _ h=>by rw [show _=_ from h];rfl)) J (aO g9 J) J ?_;refine V ?_;obtain ⟨b11,hb11,h⟩:=aa h;refine aD 7 41 b11 ?_ ?_
    ·clear h;refine aE 34 J (fun g11=> ?_) (fun g11=> ?_)
     ·have h:=ag g11 hb11;refine V ?_;obtain rfl:=ao h;exact ad sA (cS [0,1,2] 3)
     have h:=ah g11 hb11;refine V ?_;obtain ⟨x12,hx12,h⟩:=aa h;obtain ⟨lx12,ux12,hx12⟩:=aj hx12;refine bA (aB 1 J ae J J hO aI lx12 ux12) J (fW g11 J) J ?_;refine bA (jI 1 J ae J (bB lx12 ux12) eQ) J (fW g11 J) J ?_;refine bA (aW (u:=iV x12.Kind) 1 J ae J hx12 cM (fun _ _ _ h=>by rw [show _=_ from h];rfl)) J (fW g11 J) J ?_;refine V ?_;obtain rfl:=ao h;exact ad sA (cS [0,1,2] 3)
    refine V ?_;obtain rfl:=ao h;exact ad sA (cS [0,1,2] 3)
   have h:=ah g9 hb9;refine V ?_;obtain rfl:=ao h;exact ad sA (cS [0,1,2] 3)
  refine V ?_;obtain rfl:=ao h;exact aL J J (cS [] 3) ⟨J,J⟩
 replace h:=ah g7 h;refine V ?_;refine ay ?_;refine V ?_;refine aq J (fun g13=> ?_) (fun g13=> ?_)
 ·replace h:=ag g13 h;refine V ?_;obtain rfl:=ao h;exact aL J J (cS [] 3) ⟨J,J⟩
 replace h:=ah g13 h;refine V ?_;refine ay ?_;refine V ?_;obtain ⟨b14,hb14,h⟩:=aa h;refine aD 4 56 b14 ?_ ?_
 ·clear h;refine aE 52 J (fun g14=> ?_) (fun g14=> ?_)
  ·have h:=ag g14 hb14;refine V ?_;obtain rfl:=ao h;exact ad sA (cS [0,1,2] 3)
  have h:=ah g14 hb14;refine V ?_;obtain rfl:=ao h;exact ad sA (cS [0,1,2] 3)
 refine V ?_;refine aq J (fun g15=> ?_) (fun g15=> ?_)
 ·replace h:=ag g15 h;refine V ?_;obtain rfl:=ao h;exact aL J J (cS [] 3) ⟨J,J⟩
 replace h:=ah g15 h;refine V ?_;refine ay ?_;refine V ?_;refine aq J (fun g16=> ?_) (fun g16=> ?_)
 ·replace h:=ag g16 h;refine V ?_;refine gR (aG 1 J ae J hO) ?_;refine V ?_;obtain ⟨b17,hb17,h⟩:=aa h;refine aD 6 70 b17 ?_ ?_
  ·clear h;refine aE 64 J (fun g17=> ?_) (fun g17=> ?_)
   ·have h:=ag g17 hb17;refine V ?_;obtain ⟨x18,hx18,h⟩:=aa h;obtain ⟨lx18,ux18,hx18⟩:=aj hx18;refine bA (aB 1 J ae J J hO aI lx18 ux18) J (aO g17 J) J ?_;refine bA (aQ (us:=ar x18) 1 J ae J hx18 bn (fun _ _ _ h=>by rw [show _=_ from h];rfl)) J (aO g17 J) J ?_;obtain ⟨y19,hy19,h⟩:=aa h;refine ca (ak (ib hy19) oI J (ai) fL) J (aO g17 J) J ?_;rintro _ _ ⟨_,⟨rfl,rfl⟩,rfl⟩;refine V ?_;obtain rfl:=ao h;exact ad sA (cS [0,1,2] 3)
   have h:=ah g17 hb17;refine V ?_;obtain rfl:=ao h;exact ad sA (cS [0,1,2] 3)
  refine V ?_;obtain ⟨b20,hb20,h⟩:=aa h;refine aD 6 77 b20 ?_ ?_
  ·clear h;refine aE 71 J (fun g20=> ?_) (fun g20=> ?_)
   ·have h:=ag g20 hb20;refine V ?_;obtain ⟨x21,hx21,h⟩:=aa h;obtain ⟨lx21,ux21,hx21⟩:=aj hx21;refine bA (aB 1 J ae J J hO aI lx21 ux21) J (aO g20 J) J ?_;refine bA (aQ (us:=ar x21) 1 J ae J hx21 bn (fun _ _ _ h=>by rw [show _=_ from h];rfl)) J (aO g20 J) J ?_;obtain ⟨y22,hy22,h⟩:=aa h;refine ca (ak (ib hy22) oI J (ai) fL) J (aO g20 J) J ?_;rintro _ _ ⟨_,⟨rfl,rfl⟩,rfl⟩;refine V ?_;obtain rfl:=ao h;exact ad sA (cS [0,1,2] 3)
   have h:=ah g20 hb20;refine V ?_;obtain rfl:=ao h;exact ad sA (cS [0,1,2] 3)
  refine V ?_;obtain rfl:=ao h;exact aL J J (cS [] 3) ⟨J,J⟩
 replace h:=ah g16 h;refine V ?_;refine gR (aG 1 J ae J hO) ?_;refine V ?_;obtain rfl:=ao h;exact aL J J (cS [] 3) ⟨J,J⟩
theorem tt {r:Bool}: ∀v post,((fun (u:Value) (post:List Chunk)=>u=.bool r∧post=[])) v post→ ∀c∈post,bR c:=by
 rintro _ _ ⟨rfl,rfl⟩;exact ai
def dZ (N:Nat)(a0:Gu)(a1:Int)(a2:Int):Option Bool:=
 (bif decide (a0.Kind=3) then (some (decide (a1≤a0.N))) else (some false)).bind fun b2=>(bif b2 then (some (decide (a0.N≤a2))) else (some false)).bind fun b3=>some b3
theorem i2 {N:Nat}{a0:Gu}{a1:Int}{a2:Int}{r:Bool}(h:dZ N a0 a1 a2=some r):Okc Tryz.prog 244 [(bd a0),iV a1,iV a2] ([]) (fun u post=>u=.bool r∧post=[]):=by
 refine bx Tryz.func244 J J ?_;simp only [aU];refine V ?_;refine gD (aX J J) ?_;rintro _ _ ⟨B1,rfl,rfl⟩;refine V ?_;obtain ⟨b2,hb2,h⟩:=aa h;refine aD 5 15 b2 ?_ ?_
 ·clear h;refine aE 10 J (fun g2=> ?_) (fun g2=> ?_)
  ·have h:=ag g2 hb2;refine V ?_;obtain rfl:=ao h;exact ad sA (cS [0] 1)
  have h:=ah g2 hb2;refine V ?_;obtain rfl:=ao h;exact ad sA (cS [0] 1)
 refine V ?_;obtain ⟨b3,hb3,h⟩:=aa h;refine aD 5 21 b3 ?_ ?_
 ·clear h;refine aE 16 J (fun g3=> ?_) (fun g3=> ?_)
  ·have h:=ag g3 hb3;refine V ?_;obtain rfl:=ao h;exact ad sA (cS [0] 1)
  have h:=ah g3 hb3;refine V ?_;obtain rfl:=ao h;exact ad sA (cS [0] 1)
 refine V ?_;obtain rfl:=ao h;exact aL J J (cS [] 1) ⟨J,J⟩
theorem gj {r:Bool}: ∀v post,((fun (u:Value) (post:List Chunk)=>u=.bool r∧post=[])) v post→ ∀c∈post,bR c:=by
 rintro _ _ ⟨rfl,rfl⟩;exact ai
def nP (N:Nat):Option Bool:=
 some true
def eh (N:Nat)(a1:Int)(a0:(List Gu)):Nat→Int→Option Bool
 |0,_=>none
 |m5+1,p6=>bif decide (p6<(a0.length:Int)) then ((aH a0 p6).bind fun x8=>(bif !decide (x8.Kind=7) then (some true) else (bD (in64 (p6+1)) ((aH a0 (p6+1)).bind fun x11=>some (decide (x11.Kind=8))))).bind fun b9=>bif b9 then (some false) else ((bif decide (a1=4) then (bD (in64 (p6+2)) ((aH a0 (p6+2)).bind fun x15=>(dp N x15 7).bind fun y16=>(bif !y16 then (some true) else (bD (in64 (p6+3)) ((aH a0 (p6+3)).bind fun x19=>(dZ N x19 0 9007199254740992).bind fun y20=>some (!y20)))).bind fun b17=>some b17)) else (some false)).bind fun b13=>bif b13 then (some false) else (bD (in64 (p6+a1)) ((eh N a1 a0 m5) (p6+a1))))) else (nP N)
def cY (N:Nat)(a0:(List Gu))(a1:Int):Option Bool:=
 bD (a1≠0) (bif !decide ((a0.length:Int).tmod a1=0) then (some false) else (eh N a1 a0 N 0))
set_option maxHeartbeats 4000000 in
theorem nO {N:Nat}{a0:(List Gu)}{a1:Int}{r:Bool}(h:cY N a0 a1=some r):Okc Tryz.prog 245 [I A1 n1 c1,iV a1] ([aS A1 n1 c1 a0]) (fun u post=>u=.bool r∧post=[]):=by
 refine bx Tryz.func245 J J ?_;simp only [aU];refine V ?_;refine ay ?_;refine V ?_;refine gR (aG 0 J ae J hO) ?_;refine V ?_;obtain ⟨q2,h⟩:=am h;refine gE (lM J J q2) ?_;refine V ?_;refine aq J (fun g3=> ?_) (fun g3=> ?_)
 ·replace h:=ag g3 h;refine V ?_;obtain rfl:=ao h;exact aL J J (cS [] 1) ⟨J,J⟩
 replace h:=ah g3 h;refine V ?_;refine aP (fun s L=>nP N=some r∧s=[(4,.bool false)]∧L=[]) ?_ ?_
 ·refine V ?_;refine aZ (fun m s L=> ∃p6,eh N a1 a0 m p6=some r∧s=[(0,I A1 n1 c1),(1,iV a1),(4,.bool false),(5,iV p6)]∧L=[aS A1 n1 c1 a0]) N _ _ ⟨0,h,J,J⟩ sA (cS [0] 1) ?_;rintro (_|m5) _ _ ⟨p6,h,rfl,rfl⟩
  ·exact az h
  rw [eh.eq_2] at h;refine ay ?_;refine V ?_;refine gR (aG 0 J ae J hO) ?_;refine V ?_;refine aq J (fun g7=> ?_) (fun g7=> ?_)
  ·replace h:=ag g7 h;refine V ?_;refine ay ?_;refine cQ ?_;refine ay ?_;refine V ?_;obtain ⟨x8,hx8,h⟩:=aa h;obtain ⟨lx8,ux8,hx8⟩:=aj hx8;refine gR (aB 0 J ae J J hO aI lx8 ux8) ?_;refine gR (jI 0 J ae J (bB lx8 ux8) eQ) ?_;refine gR (aW (u:=iV x8.Kind) 0 J ae J hx8 cM (fun _ _ _ h=>by rw [show _=_ from h];rfl)) ?_;refine V ?_;obtain ⟨b9,hb9,h⟩:=aa h;refine aD 8 32 b9 ?_ ?_
   ·clear h;refine aE 24 J (fun g9=> ?_) (fun g9=> ?_)
    ·have h:=ag g9 hb9;refine V ?_;obtain rfl:=ao h;exact ad sA (cS [0] 1)
    have h:=ah g9 hb9;refine V ?_;obtain ⟨q10,h⟩:=am h;refine pU (aT J J q10.1 q10.2) J (fW g9 J) J ?_;obtain ⟨x11,hx11,h⟩:=aa h;obtain ⟨lx11,ux11,hx11⟩:=aj hx11;refine bA (aB 0 J ae J J hO aI lx11 ux11) J (fW g9 J) J ?_;refine bA (jI 0 J ae J (bB lx11 ux11) eQ) J (fW g9 J) J ?_;refine bA (aW (u:=iV x11.Kind) 0 J ae J hx11 cM (fun _ _ _ h=>by rw [show _=_ from h];rfl)) J (fW g9 J) J ?_;refine V ?_;obtain rfl:=ao h;exact ad sA (cS [0] 1)
   refine V ?_;refine aq J (fun g12=> ?_) (fun g12=> ?_)
   ·replace h:=ag g12 h;refine V ?_;obtain rfl:=ao h;exact aL J J (cS [] 1) ⟨J,J⟩
   replace h:=ah g12 h;refine V ?_;obtain ⟨b13,hb13,h⟩:=aa h;refine aD 17 52 b13 ?_ ?_
   ·clear h;refine aE 35 J (fun g13=> ?_) (fun g13=> ?_)
    ·have h:=ag g13 hb13;refine V ?_;obtain ⟨q14,h⟩:=am h;refine pU (aT J J q14.1 q14.2) J (aO g13 J) J ?_;obtain ⟨x15,hx15,h⟩:=aa h;obtain ⟨lx15,ux15,hx15⟩:=aj hx15;refine bA (aB 0 J ae J J hO aI lx15 ux15) J (aO g13 J) J ?_;refine bA (aQ (us:=ar x15) 0 J ae J hx15 bn (fun _ _ _ h=>by rw [show _=_ from h];rfl)) J (aO g13 J) J ?_;obtain ⟨y16,hy16,h⟩:=aa h;refine ca (ak (ib hy16) oI J (ai) fL) J (aO g13 J) J ?_;rintro _ _ ⟨_,⟨rfl,rfl⟩,rfl⟩;refine V ?_;obtain ⟨b17,hb17,h⟩:=aa h;refine aD 8 51 b17 ?_ ?_
     ·clear h;refine aE 43 J (fun g17=> ?_) (fun g17=> ?_)
      ·have h:=ag g17 hb17;refine V ?_;obtain rfl:=ao h;exact ad sA (cS [0] 1)
      have h:=ah g17 hb17;refine V ?_;obtain ⟨q18,h⟩:=am h;refine pU (aT J J q18.1 q18.2) J (fW g17 J) J ?_;obtain ⟨x19,hx19,h⟩:=aa h;obtain ⟨lx19,ux19,hx19⟩:=aj hx19;refine bA (aB 0 J ae J J hO aI lx19 ux19) J (fW g17 J) J ?_;refine bA (aQ (us:=ar x19) 0 J ae J hx19 bn (fun _ _ _ h=>by rw [show _=_ from h];rfl)) J (fW g17 J) J ?_;obtain ⟨y20,hy20,h⟩:=aa h;refine ca (ak (i2 hy20) oH J (ai) gj) J (fW g17 J) J ?_;rintro _ _ ⟨_,⟨rfl,rfl⟩,rfl⟩;refine V ?_;obtain rfl:=ao h;exact ad sA (cS [0] 1)
     refine V ?_;obtain rfl:=ao h;exact ad sA (cS [0] 1)
    have h:=ah g13 hb13;refine V ?_;obtain rfl:=ao h;exact ad sA (cS [0] 1)
   refine V ?_;refine aq J (fun g21=> ?_) (fun g21=> ?_)
   ·replace h:=ag g21 h;refine V ?_;obtain rfl:=ao h;exact aL J J (cS [] 1) ⟨J,J⟩
   replace h:=ah g21 h;refine V ?_;obtain ⟨q22,h⟩:=am h;refine gE (aT J J q22.1 q22.2) ?_;refine V ?_;exact ⟨m5,_,_,GD _,⟨p6+a1,h,J,J⟩,sA,cS [0] 1⟩
  replace h:=ah g7 h;refine V ?_;exact ⟨_,_,⟨h,J,J⟩,sA,cS [] 1⟩
 rintro _ _ ⟨h,rfl,rfl⟩;refine V ?_;obtain rfl:=ao h;exact aL J J (cS [] 0) ⟨J,J⟩
theorem lZ {r:Bool}: ∀v post,((fun (u:Value) (post:List Chunk)=>u=.bool r∧post=[])) v post→ ∀c∈post,bR c:=by
 rintro _ _ ⟨rfl,rfl⟩;exact ai
def f7 (N:Nat)(a0:Gw)(p7:Bool):Option Bool:=
 bif p7 then (some (decide ((a0.More.length:Int)=0))) else (bif decide (a0.Kind=3) then ((bif decide ((a0.More.length:Int)=3) then ((aH a0.More 0).bind fun x12=>(dZ N x12 0 9007199254740992).bind fun y13=>some y13) else (some false)).bind fun b11=>(bif b11 then ((aH a0.More 1).bind fun x15=>(dp N x15 9).bind fun y16=>some y16) else (some false)).bind fun b14=>some b14) else (bif decide (a0.Kind=4) then ((bif decide (1≤(a0.More.length:Int)) then (some (decide ((a0.More.length:Int)≤4097))) else (some false)).bind fun b18=>(bif b18 then ((aH a0.More 0).bind fun x20=>(dp N x20 9).bind fun y21=>some y21) else (some false)).bind fun b19=>some b19) else (bif decide (a0.Kind=6) then ((bif decide ((a0.More.length:Int)=2) then ((aH a0.More 0).bind fun x24=>(dZ N x24 0 3).bind fun y25=>some y25) else (some false)).bind fun b23=>(bif b23 then ((aH a0.More 1).bind fun x27=>(dp N x27 9).bind fun y28=>some y28) else (some false)).bind fun b26=>some b26) else (bif decide (a0.Kind=7) then ((bif decide (4≤(a0.More.length:Int)) then ((aH a0.More 2).bind fun x31=>(dZ N x31 0 1).bind fun y32=>some y32) else (some false)).bind fun b30=>(bif b30 then ((aH a0.More 3).bind fun x34=>(dZ N x34 0 9007199254740992).bind fun y35=>some y35) else (some false)).bind fun b33=>some b33) else (bif decide (a0.Kind=8) then ((cY N a0.More 2).bind fun y37=>some y37) else (bif decide (a0.Kind=10) then ((bif decide (1≤(a0.More.length:Int)) then ((aH a0.More 0).bind fun x40=>some (decide (x40.Kind=7))) else (some false)).bind fun b39=>(bif b39 then (bD ((0:Int)≤1∧(1:Int).toNat≤a0.More.length∧a0.More.length≤a0.More.length) ((cY N ((a0.More.drop ((1:Int).toNat)).take (a0.More.length - (1:Int).toNat)) 4).bind fun y44=>some y44)) else (some false)).bind fun b41=>some b41) else (bif decide (a0.Kind=9) then ((bif decide (2≤(a0.More.length:Int)) then ((aH a0.More 0).bind fun x47=>(dZ N x47 0 2).bind fun y48=>some y48) else (some false)).bind fun b46=>some b46) else (some true))))))))
def f8 (N:Nat)(a0:Gw):Option Bool:=
 bif decide (1048576<(a0.More.length:Int)) then (some false) else (bif decide (a0.Kind=2) then (some (decide ((a0.More.length:Int)≤4096))) else (bif decide (a0.Kind=1) then (f7 N a0 (decide (a0.Kind=1))) else (f7 N a0 (decide (a0.Kind=5)))))
set_option maxHeartbeats 4000000 in
theorem xf {N:Nat}{a0:Gw}{r:Bool}(h:f8 N a0=some r):Okc Tryz.prog 203 [.agg #[iV a0.Kind,iV a0.Shape,iV a0.Flags,iV a0.Age,I A1 n1 c1,I A2 n2 c2]] ([aS A1 n1 c1 a0.Slots,aS A2 n2 c2 a0.More]) (fun u post=>u=.bool r∧post=[]):=by
 refine bx Tryz.func203 J J ?_;simp only [aU];refine V ?_;refine gD (aX J J) ?_;rintro _ _ ⟨B3,rfl,rfl⟩;refine V ?_;refine ay ?_;refine V ?_;refine gR (aG 2 J ae J hO) ?_;refine V ?_;refine aq J (fun g4=> ?_) (fun g4=> ?_)
 ·replace h:=ag g4 h;refine V ?_;obtain rfl:=ao h;exact aL J J (cS [] 3) ⟨J,J⟩
 replace h:=ah g4 h;refine V ?_;refine ay ?_;refine V ?_;refine aq J (fun g5=> ?_) (fun g5=> ?_)
 ·replace h:=ag g5 h;refine V ?_;refine gR (aG 2 J ae J hO) ?_;refine V ?_;obtain rfl:=ao h;exact aL J J (cS [] 3) ⟨J,J⟩
 replace h:=ah g5 h;refine aP (fun s L=> ∃p7,f7 N a0 p7=some r∧s=[(2,.bool false),(3,I A2 n2 c2),(10,iV a0.Kind),(16,.bool p7)]∧L=[aS A2 n2 c2 a0.More]) ?_ ?_
 ·refine V ?_;refine aq J (fun g8=> ?_) (fun g8=> ?_)
  ·replace h:=ag g8 h;refine V ?_;exact ⟨_,_,⟨decide (a0.Kind=1),h,J,J⟩,sA,cS [2] 3⟩
  replace h:=ah g8 h;refine V ?_;exact ⟨_,_,⟨decide (a0.Kind=5),h,J,J⟩,sA,cS [2] 3⟩
 rintro _ _ ⟨p7,h,rfl,rfl⟩;refine aq J (fun g9=> ?_) (fun g9=> ?_)
 ·replace h:=ag g9 h;refine V ?_;refine gR (aG 0 J ae J hO) ?_;refine V ?_;obtain rfl:=ao h;exact aL J J (cS [] 1) ⟨J,J⟩
 replace h:=ah g9 h;refine V ?_;refine aq J (fun g10=> ?_) (fun g10=> ?_)
 ·replace h:=ag g10 h;refine V ?_;refine gR (aG 0 J ae J hO) ?_;refine V ?_;obtain ⟨b11,hb11,h⟩:=aa h;refine aD 5 32 b11 ?_ ?_
  ·clear h;refine aE 27 J (fun g11=> ?_) (fun g11=> ?_)
   ·have h:=ag g11 hb11;refine V ?_;obtain ⟨x12,hx12,h⟩:=aa h;obtain ⟨lx12,ux12,hx12⟩:=aj hx12;refine bA (aB 0 J ae J J hO aI lx12 ux12) J (aO g11 J) J ?_;refine bA (aQ (us:=ar x12) 0 J ae J hx12 bn (fun _ _ _ h=>by rw [show _=_ from h];rfl)) J (aO g11 J) J ?_;obtain ⟨y13,hy13,h⟩:=aa h;refine ca (ak (i2 hy13) oH J (ai) gj) J (aO g11 J) J ?_;rintro _ _ ⟨_,⟨rfl,rfl⟩,rfl⟩;refine V ?_;obtain rfl:=ao h;exact ad sA (cS [0] 1)
   have h:=ah g11 hb11;refine V ?_;obtain rfl:=ao h;exact ad sA (cS [0] 1)
  refine V ?_;obtain ⟨b14,hb14,h⟩:=aa h;refine aD 5 38 b14 ?_ ?_
  ·clear h;refine aE 33 J (fun g14=> ?_) (fun g14=> ?_)
   ·have h:=ag g14 hb14;refine V ?_;obtain ⟨x15,hx15,h⟩:=aa h;obtain ⟨lx15,ux15,hx15⟩:=aj hx15;refine bA (aB 0 J ae J J hO aI lx15 ux15) J (aO g14 J) J ?_;refine bA (aQ (us:=ar x15) 0 J ae J hx15 bn (fun _ _ _ h=>by rw [show _=_ from h];rfl)) J (aO g14 J) J ?_;obtain ⟨y16,hy16,h⟩:=aa h;refine ca (ak (ib hy16) oI J (ai) fL) J (aO g14 J) J ?_;rintro _ _ ⟨_,⟨rfl,rfl⟩,rfl⟩;refine V ?_;obtain rfl:=ao h;exact ad sA (cS [0] 1)
   have h:=ah g14 hb14;refine V ?_;obtain rfl:=ao h;exact ad sA (cS [0] 1)
  refine V ?_;obtain rfl:=ao h;exact aL J J (cS [] 1) ⟨J,J⟩
 replace h:=ah g10 h;refine V ?_;refine aq J (fun g17=> ?_) (fun g17=> ?_)
 ·replace h:=ag g17 h;refine V ?_;refine gR (aG 0 J ae J hO) ?_;refine V ?_;obtain ⟨b18,hb18,h⟩:=aa h;refine aD 4 48 b18 ?_ ?_
  ·clear h;refine aE 44 J (fun g18=> ?_) (fun g18=> ?_)
   ·have h:=ag g18 hb18;refine V ?_;refine bA (aG 0 J ae J hO) J (aO g18 J) J ?_;refine V ?_;obtain rfl:=ao h;exact ad sA (cS [0] 1)
   have h:=ah g18 hb18;refine V ?_;obtain rfl:=ao h;exact ad sA (cS [0] 1)
  refine V ?_;obtain ⟨b19,hb19,h⟩:=aa h;refine aD 5 54 b19 ?_ ?_
  ·clear h;refine aE 49 J (fun g19=> ?_) (fun g19=> ?_)
   ·have h:=ag g19 hb19;refine V ?_;obtain ⟨x20,hx20,h⟩:=aa h;obtain ⟨lx20,ux20,hx20⟩:=aj hx20;refine bA (aB 0 J ae J J hO aI lx20 ux20) J (aO g19 J) J ?_;refine bA (aQ (us:=ar x20) 0 J ae J hx20 bn (fun _ _ _ h=>by rw [show _=_ from h];rfl)) J (aO g19 J) J ?_;obtain ⟨y21,hy21,h⟩:=aa h;refine ca (ak (ib hy21) oI J (ai) fL) J (aO g19 J) J ?_;rintro _ _ ⟨_,⟨rfl,rfl⟩,rfl⟩;refine V ?_;obtain rfl:=ao h;exact ad sA (cS [0] 1)
   have h:=ah g19 hb19;refine V ?_;obtain rfl:=ao h;exact ad sA (cS [0] 1)
  refine V ?_;obtain rfl:=ao h;exact aL J J (cS [] 1) ⟨J,J⟩
 replace h:=ah g17 h;refine V ?_;refine aq J (fun g22=> ?_) (fun g22=> ?_)
 ·replace h:=ag g22 h;refine V ?_;refine gR (aG 0 J ae J hO) ?_;refine V ?_;obtain ⟨b23,hb23,h⟩:=aa h;refine aD 5 65 b23 ?_ ?_
  ·clear h;refine aE 60 J (fun g23=> ?_) (fun g23=> ?_)
   ·have h:=ag g23 hb23;refine V ?_;obtain ⟨x24,hx24,h⟩:=aa h;obtain ⟨lx24,ux24,hx24⟩:=aj hx24;refine bA (aB 0 J ae J J hO aI lx24 ux24) J (aO g23 J) J ?_;refine bA (aQ (us:=ar x24) 0 J ae J hx24 bn (fun _ _ _ h=>by rw [show _=_ from h];rfl)) J (aO g23 J) J ?_;obtain ⟨y25,hy25,h⟩:=aa h;refine ca (ak (i2 hy25) oH J (ai) gj) J (aO g23 J) J ?_;rintro _ _ ⟨_,⟨rfl,rfl⟩,rfl⟩;refine V ?_;obtain rfl:=ao h;exact ad sA (cS [0] 1)
   have h:=ah g23 hb23;refine V ?_;obtain rfl:=ao h;exact ad sA (cS [0] 1)
  refine V ?_;obtain ⟨b26,hb26,h⟩:=aa h;refine aD 5 71 b26 ?_ ?_
  ·clear h;refine aE 66 J (fun g26=> ?_) (fun g26=> ?_)
   ·have h:=ag g26 hb26;refine V ?_;obtain ⟨x27,hx27,h⟩:=aa h;obtain ⟨lx27,ux27,hx27⟩:=aj hx27;refine bA (aB 0 J ae J J hO aI lx27 ux27) J (aO g26 J) J ?_;refine bA (aQ (us:=ar x27) 0 J ae J hx27 bn (fun _ _ _ h=>by rw [show _=_ from h];rfl)) J (aO g26 J) J ?_;obtain ⟨y28,hy28,h⟩:=aa h;refine ca (ak (ib hy28) oI J (ai) fL) J (aO g26 J) J ?_;rintro _ _ ⟨_,⟨rfl,rfl⟩,rfl⟩;refine V ?_;obtain rfl:=ao h;exact ad sA (cS [0] 1)
   have h:=ah g26 hb26;refine V ?_;obtain rfl:=ao h;exact ad sA (cS [0] 1)
  refine V ?_;obtain rfl:=ao h;exact aL J J (cS [] 1) ⟨J,J⟩
 replace h:=ah g22 h;refine V ?_;refine aq J (fun g29=> ?_) (fun g29=> ?_)
 ·replace h:=ag g29 h;refine V ?_;refine gR (aG 0 J ae J hO) ?_;refine V ?_;obtain ⟨b30,hb30,h⟩:=aa h;refine aD 5 82 b30 ?_ ?_
  ·clear h;refine aE 77 J (fun g30=> ?_) (fun g30=> ?_)
   ·have h:=ag g30 hb30;refine V ?_;obtain ⟨x31,hx31,h⟩:=aa h;obtain ⟨lx31,ux31,hx31⟩:=aj hx31;refine bA (aB 0 J ae J J hO aI lx31 ux31) J (aO g30 J) J ?_;refine bA (aQ (us:=ar x31) 0 J ae J hx31 bn (fun _ _ _ h=>by rw [show _=_ from h];rfl)) J (aO g30 J) J ?_;obtain ⟨y32,hy32,h⟩:=aa h;refine ca (ak (i2 hy32) oH J (ai) gj) J (aO g30 J) J ?_;rintro _ _ ⟨_,⟨rfl,rfl⟩,rfl⟩;refine V ?_;obtain rfl:=ao h;exact ad sA (cS [0] 1)
   have h:=ah g30 hb30;refine V ?_;obtain rfl:=ao h;exact ad sA (cS [0] 1)
  refine V ?_;obtain ⟨b33,hb33,h⟩:=aa h;refine aD 5 88 b33 ?_ ?_
  ·clear h;refine aE 83 J (fun g33=> ?_) (fun g33=> ?_)
   ·have h:=ag g33 hb33;refine V ?_;obtain ⟨x34,hx34,h⟩:=aa h;obtain ⟨lx34,ux34,hx34⟩:=aj hx34;refine bA (aB 0 J ae J J hO aI lx34 ux34) J (aO g33 J) J ?_;refine bA (aQ (us:=ar x34) 0 J ae J hx34 bn (fun _ _ _ h=>by rw [show _=_ from h];rfl)) J (aO g33 J) J ?_;obtain ⟨y35,hy35,h⟩:=aa h;refine ca (ak (i2 hy35) oH J (ai) gj) J (aO g33 J) J ?_;rintro _ _ ⟨_,⟨rfl,rfl⟩,rfl⟩;refine V ?_;obtain rfl:=ao h;exact ad sA (cS [0] 1)
   have h:=ah g33 hb33;refine V ?_;obtain rfl:=ao h;exact ad sA (cS [0] 1)
  refine V ?_;obtain rfl:=ao h;exact aL J J (cS [] 1) ⟨J,J⟩
 replace h:=ah g29 h;refine V ?_;refine aq J (fun g36=> ?_) (fun g36=> ?_)
 ·replace h:=ag g36 h;refine V ?_;obtain ⟨y37,hy37,h⟩:=aa h;refine gD (ak (nO hy37) zF J (hJ (ap (i:=0) J J) ai) lZ) ?_;rintro _ _ ⟨_,⟨rfl,rfl⟩,rfl⟩;refine V ?_;obtain rfl:=ao h;exact aL J J (cS [] 1) ⟨J,J⟩
 replace h:=ah g36 h;refine V ?_;refine aq J (fun g38=> ?_) (fun g38=> ?_)
 ·replace h:=ag g38 h;refine V ?_;refine gR (aG 0 J ae J hO) ?_;refine V ?_;obtain ⟨b39,hb39,h⟩:=aa h;refine aD 6 104 b39 ?_ ?_
  ·clear h;refine aE 98 J (fun g39=> ?_) (fun g39=> ?_)
   ·have h:=ag g39 hb39;refine V ?_;obtain ⟨x40,hx40,h⟩:=aa h;obtain ⟨lx40,ux40,hx40⟩:=aj hx40;refine bA (aB 0 J ae J J hO aI lx40 ux40) J (aO g39 J) J ?_;refine bA (jI 0 J ae J (bB lx40 ux40) eQ) J (aO g39 J) J ?_;refine bA (aW (u:=iV x40.Kind) 0 J ae J hx40 cM (fun _ _ _ h=>by rw [show _=_ from h];rfl)) J (aO g39 J) J ?_;refine V ?_;obtain rfl:=ao h;exact ad sA (cS [0] 1)
   have h:=ah g39 hb39;refine V ?_;obtain rfl:=ao h;exact ad sA (cS [0] 1)
  refine V ?_;obtain ⟨b41,hb41,h⟩:=aa h;refine aD 4 109 b41 ?_ ?_
  ·clear h;refine aE 105 J (fun g41=> ?_) (fun g41=> ?_)
   ·have h:=ag g41 hb41;refine V ?_;obtain ⟨q42,h⟩:=am h;refine Ej 0 J (l:=(1:Int).toNat) (h:=a0.More.length) q42.2.1 q42.2.2 ?_;rintro A43 n43 c43 e43;refine bA (vO 1 J e43 J hO aI J (by rw [Int.toNat_of_nonneg q42.1];rfl) q42.2.1) J (aO g41 J) J ?_;obtain ⟨y44,hy44,h⟩:=aa h;refine ca (ak (nO hy44) zF J (hJ (ap (i:=0) J J) ai) lZ) J (aO g41 J) J ?_;rintro _ _ ⟨_,⟨rfl,rfl⟩,rfl⟩;refine V ?_;obtain rfl:=ao h;exact ad sA (cS [1] 2)
   have h:=ah g41 hb41;refine V ?_;obtain rfl:=ao h;exact ad sA (cS [0] 1)
  refine V ?_;obtain rfl:=ao h;exact aL J J (cS [] 1) ⟨J,J⟩
 replace h:=ah g38 h;refine V ?_;refine aq J (fun g45=> ?_) (fun g45=> ?_)
 ·replace h:=ag g45 h;refine V ?_;refine gR (aG 0 J ae J hO) ?_;refine V ?_;obtain ⟨b46,hb46,h⟩:=aa h;refine aD 5 120 b46 ?_ ?_
  ·clear h;refine aE 115 J (fun g46=> ?_) (fun g46=> ?_)
   ·have h:=ag g46 hb46;refine V ?_;obtain ⟨x47,hx47,h⟩:=aa h;obtain ⟨lx47,ux47,hx47⟩:=aj hx47;refine bA (aB 0 J ae J J hO aI lx47 ux47) J (aO g46 J) J ?_;refine bA (aQ (us:=ar x47) 0 J ae J hx47 bn (fun _ _ _ h=>by rw [show _=_ from h];rfl)) J (aO g46 J) J ?_;obtain ⟨y48,hy48,h⟩:=aa h;refine ca (ak (i2 hy48) oH J (ai) gj) J (aO g46 J) J ?_;rintro _ _ ⟨_,⟨rfl,rfl⟩,rfl⟩;refine V ?_;obtain rfl:=ao h;exact ad sA (cS [0] 1)
   have h:=ah g46 hb46;refine V ?_;obtain rfl:=ao h;exact ad sA (cS [0] 1)
  refine V ?_;obtain rfl:=ao h;exact aL J J (cS [] 1) ⟨J,J⟩
 replace h:=ah g45 h;refine V ?_;obtain rfl:=ao h;exact aL J J (cS [] 1) ⟨J,J⟩
theorem ur {r:Bool}: ∀v post,((fun (u:Value) (post:List Chunk)=>u=.bool r∧post=[])) v post→ ∀c∈post,bR c:=by
 rintro _ _ ⟨rfl,rfl⟩;exact ai
def cq (N:Nat)(a0:Gw):Option Bool:=
 (fj N a0).bind fun y27=>(bif y27 then ((f8 N a0).bind fun y29=>some y29) else (some false)).bind fun b28=>some b28
def jr (N:Nat)(a0:Gw):Nat→Int→Option Bool
 |0,_=>none
 |m20+1,p21=>bif decide (p21<(a0.More.length:Int)) then ((aH a0.More p21).bind fun x23=>(ic N x23).bind fun y24=>bif !y24 then (some false) else (bD (in64 (p21+1)) ((jr N a0 m20) (p21+1)))) else (cq N a0)
def pg (N:Nat)(a0:Gw):Option Bool:=
 jr N a0 N 0
def eK (N:Nat)(a0:Gw):Nat→Int→Option Bool
 |0,_=>none
 |m12+1,p13=>bif decide (p13<(a0.Slots.length:Int)) then ((aH a0.Slots p13).bind fun x15=>(ic N x15).bind fun y16=>bif !y16 then (some false) else (bD (in64 (p13+1)) ((eK N a0 m12) (p13+1)))) else (pg N a0)
def bP (N:Nat)(a0:Gw):Option Bool:=
 (bif decide (a0.Kind<1) then (some true) else (some (decide (11<a0.Kind)))).bind fun b4=>(bif b4 then (some true) else (some (decide (a0.Shape<0)))).bind fun b5=>(bif b5 then (some true) else (some (decide (a0.Flags<0)))).bind fun b6=>(bif b6 then (some true) else (some (decide (63<a0.Flags)))).bind fun b7=>(bif b7 then (some true) else (some (decide (a0.Age<0)))).bind fun b8=>(bif b8 then (some true) else (some (decide (1<a0.Age)))).bind fun b9=>bif b9 then (some false) else (eK N a0 N 0)
set_option maxHeartbeats 4000000 in
theorem mD {N:Nat}{a0:Gw}{r:Bool}(h:bP N a0=some r):Okc Tryz.prog 130 [.agg #[iV a0.Kind,iV a0.Shape,iV a0.Flags,iV a0.Age,I A1 n1 c1,I A2 n2 c2]] ([aS A1 n1 c1 a0.Slots,aS A2 n2 c2 a0.More]) (fun u post=>u=.bool r∧post=[]):=by
 refine bx Tryz.func130 J J ?_;simp only [aU];refine V ?_;refine gD (aX J J) ?_;rintro _ _ ⟨B3,rfl,rfl⟩;refine V ?_;refine ay ?_;refine V ?_;obtain ⟨b4,hb4,h⟩:=aa h;refine aD 4 12 b4 ?_ ?_
 ·clear h;refine aE 8 J (fun g4=> ?_) (fun g4=> ?_)
  ·have h:=ag g4 hb4;refine V ?_;obtain rfl:=ao h;exact ad sA (cS [0,1,2] 3)
  have h:=ah g4 hb4;refine V ?_;obtain rfl:=ao h;exact ad sA (cS [0,1,2] 3)
 refine V ?_;obtain ⟨b5,hb5,h⟩:=aa h;refine aD 4 17 b5 ?_ ?_
 ·clear h;refine aE 13 J (fun g5=> ?_) (fun g5=> ?_)
  ·have h:=ag g5 hb5;refine V ?_;obtain rfl:=ao h;exact ad sA (cS [0,1,2] 3)
  have h:=ah g5 hb5;refine V ?_;obtain rfl:=ao h;exact ad sA (cS [0,1,2] 3)
 refine V ?_;obtain ⟨b6,hb6,h⟩:=aa h;refine aD 4 22 b6 ?_ ?_
 ·clear h;refine aE 18 J (fun g6=> ?_) (fun g6=> ?_)
  ·have h:=ag g6 hb6;refine V ?_;obtain rfl:=ao h;exact ad sA (cS [0,1,2] 3)
  have h:=ah g6 hb6;refine V ?_;obtain rfl:=ao h;exact ad sA (cS [0,1,2] 3)
 refine V ?_;obtain ⟨b7,hb7,h⟩:=aa h;refine aD 4 27 b7 ?_ ?_
 ·clear h;refine aE 23 J (fun g7=> ?_) (fun g7=> ?_)
  ·have h:=ag g7 hb7;refine V ?_;obtain rfl:=ao h;exact ad sA (cS [0,1,2] 3)
  have h:=ah g7 hb7;refine V ?_;obtain rfl:=ao h;exact ad sA (cS [0,1,2] 3)
 refine V ?_;obtain ⟨b8,hb8,h⟩:=aa h;refine aD 4 32 b8 ?_ ?_
 ·clear h;refine aE 28 J (fun g8=> ?_) (fun g8=> ?_)
  ·have h:=ag g8 hb8;refine V ?_;obtain rfl:=ao h;exact ad sA (cS [0,1,2] 3)
  have h:=ah g8 hb8;refine V ?_;obtain rfl:=ao h;exact ad sA (cS [0,1,2] 3)
 refine V ?_;obtain ⟨b9,hb9,h⟩:=aa h;refine aD 4 37 b9 ?_ ?_
 ·clear h;refine aE 33 J (fun g9=> ?_) (fun g9=> ?_)
  ·have h:=ag g9 hb9;refine V ?_;obtain rfl:=ao h;exact ad sA (cS [0,1,2] 3)
  have h:=ah g9 hb9;refine V ?_;obtain rfl:=ao h;exact ad sA (cS [0,1,2] 3)
 refine V ?_;refine aq J (fun g10=> ?_) (fun g10=> ?_)
 ·replace h:=ag g10 h;refine V ?_;obtain rfl:=ao h;exact aL J J (cS [] 3) ⟨J,J⟩
 replace h:=ah g10 h;refine V ?_;refine aP (fun s L=>pg N a0=some r∧s=[(1,pV B3 0),(2,.bool false)]∧L=[aS A1 n1 c1 a0.Slots,aS A2 n2 c2 a0.More,aw B3 47 [iV a0.Kind,iV a0.Shape,iV a0.Flags,iV a0.Age,I A1 n1 c1,I A2 n2 c2]]) ?_ ?_
 ·refine V ?_;refine aZ (fun m s L=> ∃p13,eK N a0 m p13=some r∧s=[(1,pV B3 0),(2,.bool false),(3,iV p13)]∧L=[aS A1 n1 c1 a0.Slots,aS A2 n2 c2 a0.More,aw B3 47 [iV a0.Kind,iV a0.Shape,iV a0.Flags,iV a0.Age,I A1 n1 c1,I A2 n2 c2]]) N _ _ ⟨0,h,J,J⟩ sA (cS [1,2,0] 3) ?_;rintro (_|m12) _ _ ⟨p13,h,rfl,rfl⟩
  ·exact az h
  rw [eK.eq_2] at h;refine ay ?_;refine V ?_;refine gR (aG 0 J ae J hO) ?_;refine V ?_;refine aq J (fun g14=> ?_) (fun g14=> ?_)
  ·replace h:=ag g14 h;refine V ?_;refine ay ?_;refine V ?_;obtain ⟨x15,hx15,h⟩:=aa h;obtain ⟨lx15,ux15,hx15⟩:=aj hx15;refine gR (aB 0 J ae J J hO aI lx15 ux15) ?_;refine gR (aQ (us:=ar x15) 0 J ae J hx15 bn (fun _ _ _ h=>by rw [show _=_ from h];rfl)) ?_;obtain ⟨y16,hy16,h⟩:=aa h;refine gD (ak (tv hy16) zK J (ai) qo) ?_;rintro _ _ ⟨_,⟨rfl,rfl⟩,rfl⟩;refine V ?_;refine aq J (fun g17=> ?_) (fun g17=> ?_)
   ·replace h:=ag g17 h;refine V ?_;obtain rfl:=ao h;exact aL J J (cS [] 3) ⟨J,J⟩
   replace h:=ah g17 h;refine V ?_;obtain ⟨q18,h⟩:=am h;refine gE (aT J J q18.1 q18.2) ?_;refine V ?_;exact ⟨m12,_,_,GD _,⟨p13+1,h,J,J⟩,sA,cS [0,1,2] 3⟩
  replace h:=ah g14 h;refine V ?_;exact ⟨_,_,⟨h,J,J⟩,sA,cS [0,1,2] 3⟩
 rintro _ _ ⟨h,rfl,rfl⟩;refine aP (fun s L=>cq N a0=some r∧s=[(1,pV B3 0),(2,.bool false)]∧L=[aS A1 n1 c1 a0.Slots,aS A2 n2 c2 a0.More,aw B3 47 [iV a0.Kind,iV a0.Shape,iV a0.Flags,iV a0.Age,I A1 n1 c1,I A2 n2 c2]]) ?_ ?_
 ·refine V ?_;refine aZ (fun m s L=> ∃p21,jr N a0 m p21=some r∧s=[(1,pV B3 0),(2,.bool false),(4,iV p21)]∧L=[aS A1 n1 c1 a0.Slots,aS A2 n2 c2 a0.More,aw B3 47 [iV a0.Kind,iV a0.Shape,iV a0.Flags,iV a0.Age,I A1 n1 c1,I A2 n2 c2]]) N _ _ ⟨0,h,J,J⟩ sA (cS [0,1,2] 3) ?_;rintro (_|m20) _ _ ⟨p21,h,rfl,rfl⟩
  ·exact az h
  rw [jr.eq_2] at h;refine ay ?_;refine V ?_;refine gR (aG 1 J ae J hO) ?_;refine V ?_;refine aq J (fun g22=> ?_) (fun g22=> ?_)
  ·replace h:=ag g22 h;refine V ?_;refine ay ?_;refine V ?_;obtain ⟨x23,hx23,h⟩:=aa h;obtain ⟨lx23,ux23,hx23⟩:=aj hx23;refine gR (aB 1 J ae J J hO aI lx23 ux23) ?_;refine gR (aQ (us:=ar x23) 1 J ae J hx23 bn (fun _ _ _ h=>by rw [show _=_ from h];rfl)) ?_;obtain ⟨y24,hy24,h⟩:=aa h;refine gD (ak (tv hy24) zK J (ai) qo) ?_;rintro _ _ ⟨_,⟨rfl,rfl⟩,rfl⟩;refine V ?_;refine aq J (fun g25=> ?_) (fun g25=> ?_)
   ·replace h:=ag g25 h;refine V ?_;obtain rfl:=ao h;exact aL J J (cS [] 3) ⟨J,J⟩
   replace h:=ah g25 h;refine V ?_;obtain ⟨q26,h⟩:=am h;refine gE (aT J J q26.1 q26.2) ?_;refine V ?_;exact ⟨m20,_,_,GD _,⟨p21+1,h,J,J⟩,sA,cS [0,1,2] 3⟩
  replace h:=ah g22 h;refine V ?_;exact ⟨_,_,⟨h,J,J⟩,sA,cS [0,1,2] 3⟩
 rintro _ _ ⟨h,rfl,rfl⟩;refine V ?_;refine gR (aC (us:=[iV a0.Kind,iV a0.Shape,iV a0.Flags,iV a0.Age,I A1 n1 c1,I A2 n2 c2]) 2 J J bo J) ?_;obtain ⟨y27,hy27,h⟩:=aa h;refine gD (ak (vZ hy27) Dt J (hJ (ap (i:=0) J J) (hJ (ap (i:=1) J J) ai)) tt) ?_;rintro _ _ ⟨_,⟨rfl,rfl⟩,rfl⟩;refine V ?_;obtain ⟨b28,hb28,h⟩:=aa h;refine aD 3 71 b28 ?_ ?_
 ·clear h;refine aE 68 J (fun g28=> ?_) (fun g28=> ?_)
  ·have h:=ag g28 hb28;refine bA (aC (us:=[iV a0.Kind,iV a0.Shape,iV a0.Flags,iV a0.Age,I A1 n1 c1,I A2 n2 c2]) 2 J J bo J) J (aO g28 J) J ?_;obtain ⟨y29,hy29,h⟩:=aa h;refine ca (ak (xf hy29) Dr J (hJ (ap (i:=0) J J) (hJ (ap (i:=1) J J) ai)) ur) J (aO g28 J) J ?_;rintro _ _ ⟨_,⟨rfl,rfl⟩,rfl⟩;refine V ?_;obtain rfl:=ao h;exact ad sA (cS [0,1,2] 3)
  have h:=ah g28 hb28;refine V ?_;obtain rfl:=ao h;exact ad sA (cS [0,1,2] 3)
 refine V ?_;obtain rfl:=ao h;exact aL J J (cS [] 3) ⟨J,J⟩
theorem kF {r:Bool}: ∀v post,((fun (u:Value) (post:List Chunk)=>u=.bool r∧post=[])) v post→ ∀c∈post,bR c:=by
 rintro _ _ ⟨rfl,rfl⟩;exact ai
def i3 (N:Nat)(a0:Gu):Option Bool:=
 (bif decide (a0.Kind=7) then (some true) else (some (decide (a0.Kind=9)))).bind fun b2=>some b2
theorem mC {N:Nat}{a0:Gu}{r:Bool}(h:i3 N a0=some r):Okc Tryz.prog 204 [(bd a0)] ([]) (fun u post=>u=.bool r∧post=[]):=by
 refine bx Tryz.func204 J J ?_;simp only [aU];refine V ?_;refine gD (aX J J) ?_;rintro _ _ ⟨B1,rfl,rfl⟩;refine V ?_;obtain ⟨b2,hb2,h⟩:=aa h;refine aD 4 10 b2 ?_ ?_
 ·clear h;refine aE 6 J (fun g2=> ?_) (fun g2=> ?_)
  ·have h:=ag g2 hb2;refine V ?_;obtain rfl:=ao h;exact ad sA (cS [0] 1)
  have h:=ah g2 hb2;refine V ?_;obtain rfl:=ao h;exact ad sA (cS [0] 1)
 refine V ?_;obtain rfl:=ao h;exact aL J J (cS [] 1) ⟨J,J⟩
theorem kc {r:Bool}: ∀v post,((fun (u:Value) (post:List Chunk)=>u=.bool r∧post=[])) v post→ ∀c∈post,bR c:=by
 rintro _ _ ⟨rfl,rfl⟩;exact ai
def kD (N:Nat)(a0:Int)(a1:Int):Option Bool:=
 (bif decide (a0=8) then (some true) else ((bif decide (a0=10) then (some (decide (0<a1))) else (some false)).bind fun b2=>(bif b2 then (bD (in64 (a1 - 1)) (some (decide (((a1 - 1).tmod 4).tmod 2=0)))) else (some false)).bind fun b3=>some b3)).bind fun b1=>some b1
theorem rR {N:Nat}{a0:Int}{a1:Int}{r:Bool}(h:kD N a0 a1=some r):Okc Tryz.prog 205 [iV a0,iV a1] ([]) (fun u post=>u=.bool r∧post=[]):=by
 refine bx Tryz.func205 J J ?_;simp only [aU];refine V ?_;obtain ⟨b1,hb1,h⟩:=aa h;refine aD 14 21 b1 ?_ ?_
 ·clear h;refine aE 7 J (fun g1=> ?_) (fun g1=> ?_)
  ·have h:=ag g1 hb1;refine V ?_;obtain rfl:=ao h;exact ad sA (cS [] 0)
  have h:=ah g1 hb1;refine V ?_;obtain ⟨b2,hb2,h⟩:=aa h;refine aD 3 13 b2 ?_ ?_
  ·clear h;refine aE 10 J (fun g2=> ?_) (fun g2=> ?_)
   ·have h:=ag g2 hb2;refine V ?_;obtain rfl:=ao h;exact ad sA (cS [] 0)
   have h:=ah g2 hb2;refine V ?_;obtain rfl:=ao h;exact ad sA (cS [] 0)
  refine V ?_;obtain ⟨b3,hb3,h⟩:=aa h;refine aD 6 20 b3 ?_ ?_
  ·clear h;refine aE 14 J (fun g3=> ?_) (fun g3=> ?_)
   ·have h:=ag g3 hb3;refine V ?_;obtain ⟨q4,h⟩:=am h;refine pU (lL J J q4.1 q4.2) J (aO g3 J) J ?_;refine pU (lM J J (by decide)) J (aO g3 J) J ?_;refine pU (lM J J (by decide)) J (aO g3 J) J ?_;refine V ?_;obtain rfl:=ao h;exact ad sA (cS [] 0)
   have h:=ah g3 hb3;refine V ?_;obtain rfl:=ao h;exact ad sA (cS [] 0)
  refine V ?_;obtain rfl:=ao h;exact ad sA (cS [] 0)
 refine V ?_;obtain rfl:=ao h;exact aL J J (cS [] 0) ⟨J,J⟩
theorem pe {r:Bool}: ∀v post,((fun (u:Value) (post:List Chunk)=>u=.bool r∧post=[])) v post→ ∀c∈post,bR c:=by
 rintro _ _ ⟨rfl,rfl⟩;exact ai
end Go.Proofs.YtmimkglhbmcokaaGreat