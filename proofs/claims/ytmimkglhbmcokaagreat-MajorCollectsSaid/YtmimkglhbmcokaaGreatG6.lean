/- Merged texts: part 6. No conditions of their own. -/
import Derived.Test.YtmimkglhbmcokaaGreatG5
namespace Go.Proofs.YtmimkglhbmcokaaGreat
theorem Gq:type_of% Tryz.underlying195:=Tryz.underlying195
variable {A1 A2 A3 A4:Option Addr} {c1 c2 c3 c4 n1 n2 n3 n4:Nat}
open Go.RowKit Asn
set_option maxRecDepth 20000
def ph (N:Nat)(p22:(List Int)):Option (List Int):=
 some p22
def gI (N:Nat)(kb23:(List Int)→Int→Option (List Int))(p25:Int)(a0:Gw)(p28:(List Int)):Option (List Int):=
 bD (in64 (p25+1)) (kb23 p28 (p25+1))
def dW (N:Nat)(a0:Gw):Nat→(List Int)→Int→Option (List Int)
 |0,_,_=>none
 |m23+1,p24,p25=>bif decide (p25<(a0.More.length:Int)) then ((aH a0.More p25).bind fun x29=>(i3 N x29).bind fun y30=>(bif y30 then ((kD N a0.Kind p25).bind fun y32=>some (!y32)) else (some false)).bind fun b31=>bif b31 then ((aH a0.More p25).bind fun x34=>bD (bN (p24.length+([x34.N]:List Int).length)) (gI N (dW N a0 m23) p25 a0 (p24++([x34.N]:List Int)))) else (gI N (dW N a0 m23) p25 a0 p24)) else (ph N p24)
def mF (N:Nat)(a0:Gw)(p5:(List Int)):Option (List Int):=
 dW N a0 N p5 0
def gJ (N:Nat)(kb6:(List Int)→Int→Option (List Int))(p8:Int)(a0:Gw)(p12:(List Int)):Option (List Int):=
 bD (in64 (p8+1)) (kb6 p12 (p8+1))
def eB (N:Nat)(a0:Gw):Nat→(List Int)→Int→Option (List Int)
 |0,_,_=>none
 |m6+1,p7,p8=>bif decide (p8<(a0.Slots.length:Int)) then ((aH a0.Slots p8).bind fun x13=>(i3 N x13).bind fun y14=>bif y14 then ((aH a0.Slots p8).bind fun x16=>bD (bN (p7.length+([x16.N]:List Int).length)) (gJ N (eB N a0 m6) p8 a0 (p7++([x16.N]:List Int)))) else (gJ N (eB N a0 m6) p8 a0 p7)) else (mF N a0 p7)
def fk (N:Nat)(a0:Gw):Option (List Int):=
 eB N a0 N [] 0
set_option maxHeartbeats 4000000 in
theorem mE {N:Nat}{a0:Gw}{r:(List Int)}(h:fk N a0=some r):Okc Tryz.prog 131 [.agg #[iV a0.Kind,iV a0.Shape,iV a0.Flags,iV a0.Age,I A1 n1 c1,I A2 n2 c2]] ([aS A1 n1 c1 a0.Slots,aS A2 n2 c2 a0.More]) (fun u post=> ∃A0 n0 c0,u=I A0 n0 c0∧post=[cc A0 n0 c0 r]):=by
 refine bx Tryz.func131 J J ?_;simp only [aU];refine V ?_;refine gD (aX J J) ?_;rintro _ _ ⟨B3,rfl,rfl⟩;refine V ?_;refine aP (fun s L=> ∃p5 A5 n5 c5,mF N a0 p5=some r∧s=[(1,pV B3 0),(2,I none 0 0),(3,I A5 n5 c5)]∧L=[cc A5 n5 c5 p5,aS A1 n1 c1 a0.Slots,aS A2 n2 c2 a0.More,aw B3 47 [iV a0.Kind,iV a0.Shape,iV a0.Flags,iV a0.Age,I A1 n1 c1,I A2 n2 c2]]) ?_ ?_
 ·refine V ?_;refine aZ (fun m s L=> ∃p7 p8 A7 n7 c7,eB N a0 m p7 p8=some r∧s=[(1,pV B3 0),(2,I none 0 0),(3,I A7 n7 c7),(4,iV p8)]∧L=[cc A7 n7 c7 p7,aS A1 n1 c1 a0.Slots,aS A2 n2 c2 a0.More,aw B3 47 [iV a0.Kind,iV a0.Shape,iV a0.Flags,iV a0.Age,I A1 n1 c1,I A2 n2 c2]]) N _ _ ⟨[],0,none,0,0,h,J,J⟩ sA ((bL (dn .i64) 3 _).trans (cS [0,2,3,1] 4)) ?_;rintro (_|m6) _ _ ⟨p7,p8,A7,n7,c7,h,rfl,rfl⟩
  ·exact az h
  rw [eB.eq_2] at h;refine ay ?_;refine V ?_;refine gR (aG 1 J ae J hO) ?_;refine V ?_;refine aq J (fun g10=> ?_) (fun g10=> ?_)
  ·replace h:=ag g10 h;refine V ?_;refine aP (fun s L=> ∃p12 A12 n12 c12,gJ N (eB N a0 m6) p8 a0 p12=some r∧s=[(1,pV B3 0),(2,I none 0 0),(3,I A12 n12 c12),(4,iV p8)]∧L=[cc A12 n12 c12 p12,aS A1 n1 c1 a0.Slots,aS A2 n2 c2 a0.More,aw B3 47 [iV a0.Kind,iV a0.Shape,iV a0.Flags,iV a0.Age,I A1 n1 c1,I A2 n2 c2]]) ?_ ?_
   ·refine V ?_;obtain ⟨x13,hx13,h⟩:=aa h;obtain ⟨lx13,ux13,hx13⟩:=aj hx13;refine gR (aB 1 J ae J J hO aI lx13 ux13) ?_;refine gR (aQ (us:=ar x13) 1 J ae J hx13 bn (fun _ _ _ h=>by rw [show _=_ from h];rfl)) ?_;obtain ⟨y14,hy14,h⟩:=aa h;refine gD (ak (mC hy14) sG J (ai) kc) ?_;rintro _ _ ⟨_,⟨rfl,rfl⟩,rfl⟩;refine V ?_;refine aq J (fun g15=> ?_) (fun g15=> ?_)
    ·replace h:=ag g15 h;refine V ?_;obtain ⟨x16,hx16,h⟩:=aa h;obtain ⟨lx16,ux16,hx16⟩:=aj hx16;refine gR (aB 1 J ae J J hO aI lx16 ux16) ?_;refine gR (lc 1 J ae J (bB lx16 ux16) iL) ?_;refine gR (aW (u:=iV x16.N) 1 J ae J hx16 cM (fun _ _ _ h=>by rw [show _=_ from h];rfl)) ?_;refine gD (aN (R:=(dn .i64)) (vss:=[[iV x16.N]]) (xs:=[x16.N]) J (dO _) J J (fun _ _ hr=> .cons J All2.nil)) ?_;rintro _ _ ⟨A17,n17,c17,rfl,rfl⟩;obtain ⟨q18,h⟩:=am h;refine gD (ba 1 0 J J aJ J J hU uE J J q18) ?_;rintro _ _ ⟨A19,n19,c19,rfl,rfl⟩;refine V ?_;exact ⟨_,_,⟨p7++([x16.N]:List Int),A19,n19,c19,h,J,J⟩,sA,cS [1,2,3,4] 5⟩
    replace h:=ah g15 h;refine V ?_;exact ⟨_,_,⟨p7,A7,n7,c7,h,J,J⟩,sA,cS [0,1,2,3] 4⟩
   rintro _ _ ⟨p12,A12,n12,c12,h,rfl,rfl⟩;refine V ?_;obtain ⟨q20,h⟩:=am h;refine gE (aT J J q20.1 q20.2) ?_;refine V ?_;exact ⟨m6,_,_,GD _,⟨p12,p8+1,A12,n12,c12,h,J,J⟩,sA,cS [0,1,2,3] 4⟩
  replace h:=ah g10 h;refine V ?_;exact ⟨_,_,⟨p7,A7,n7,c7,h,J,J⟩,sA,cS [0,1,2,3] 4⟩
 rintro _ _ ⟨p5,A5,n5,c5,h,rfl,rfl⟩;refine aP (fun s L=> ∃p22 A22 n22 c22,ph N p22=some r∧s=[(2,I none 0 0),(3,I A22 n22 c22)]∧L=[cc A22 n22 c22 p22]) ?_ ?_
 ·refine V ?_;refine aZ (fun m s L=> ∃p24 p25 A24 n24 c24,dW N a0 m p24 p25=some r∧s=[(1,pV B3 0),(2,I none 0 0),(3,I A24 n24 c24),(5,iV p25)]∧L=[cc A24 n24 c24 p24,aS A1 n1 c1 a0.Slots,aS A2 n2 c2 a0.More,aw B3 47 [iV a0.Kind,iV a0.Shape,iV a0.Flags,iV a0.Age,I A1 n1 c1,I A2 n2 c2]]) N _ _ ⟨p5,0,A5,n5,c5,h,J,J⟩ sA (cS [0,1,2,3] 4) ?_;rintro (_|m23) _ _ ⟨p24,p25,A24,n24,c24,h,rfl,rfl⟩
  ·exact az h
  rw [dW.eq_2] at h;refine ay ?_;refine V ?_;refine gR (aG 2 J ae J hO) ?_;refine V ?_;refine aq J (fun g26=> ?_) (fun g26=> ?_)
  ·replace h:=ag g26 h;refine V ?_;refine aP (fun s L=> ∃p28 A28 n28 c28,gI N (dW N a0 m23) p25 a0 p28=some r∧s=[(1,pV B3 0),(2,I none 0 0),(3,I A28 n28 c28),(5,iV p25)]∧L=[cc A28 n28 c28 p28,aS A1 n1 c1 a0.Slots,aS A2 n2 c2 a0.More,aw B3 47 [iV a0.Kind,iV a0.Shape,iV a0.Flags,iV a0.Age,I A1 n1 c1,I A2 n2 c2]]) ?_ ?_
   ·refine V ?_;obtain ⟨x29,hx29,h⟩:=aa h;obtain ⟨lx29,ux29,hx29⟩:=aj hx29;refine gR (aB 2 J ae J J hO aI lx29 ux29) ?_;refine gR (aQ (us:=ar x29) 2 J ae J hx29 bn (fun _ _ _ h=>by rw [show _=_ from h];rfl)) ?_;obtain ⟨y30,hy30,h⟩:=aa h;refine gD (ak (mC hy30) sG J (ai) kc) ?_;rintro _ _ ⟨_,⟨rfl,rfl⟩,rfl⟩;refine V ?_;obtain ⟨b31,hb31,h⟩:=aa h;refine aD 6 47 b31 ?_ ?_
    ·clear h;refine aE 41 J (fun g31=> ?_) (fun g31=> ?_)
     ·have h:=ag g31 hb31;refine V ?_;obtain ⟨y32,hy32,h⟩:=aa h;refine ca (ak (rR hy32) zJ J (ai) pe) J (aO g31 J) J ?_;rintro _ _ ⟨_,⟨rfl,rfl⟩,rfl⟩;refine V ?_;obtain rfl:=ao h;exact ad sA (cS [0,1,2,3] 4)
     have h:=ah g31 hb31;refine V ?_;obtain rfl:=ao h;exact ad sA (cS [0,1,2,3] 4)
    refine V ?_;refine aq J (fun g33=> ?_) (fun g33=> ?_)
    ·replace h:=ag g33 h;refine V ?_;obtain ⟨x34,hx34,h⟩:=aa h;obtain ⟨lx34,ux34,hx34⟩:=aj hx34;refine gR (aB 2 J ae J J hO aI lx34 ux34) ?_;refine gR (lc 2 J ae J (bB lx34 ux34) iL) ?_;refine gR (aW (u:=iV x34.N) 2 J ae J hx34 cM (fun _ _ _ h=>by rw [show _=_ from h];rfl)) ?_;refine gD (aN (R:=(dn .i64)) (vss:=[[iV x34.N]]) (xs:=[x34.N]) J (dO _) J J (fun _ _ hr=> .cons J All2.nil)) ?_;rintro _ _ ⟨A35,n35,c35,rfl,rfl⟩;obtain ⟨q36,h⟩:=am h;refine gD (ba 1 0 J J aJ J J hU uE J J q36) ?_;rintro _ _ ⟨A37,n37,c37,rfl,rfl⟩;refine V ?_;exact ⟨_,_,⟨p24++([x34.N]:List Int),A37,n37,c37,h,J,J⟩,sA,cS [1,2,3,4] 5⟩
    replace h:=ah g33 h;refine V ?_;exact ⟨_,_,⟨p24,A24,n24,c24,h,J,J⟩,sA,cS [0,1,2,3] 4⟩
   rintro _ _ ⟨p28,A28,n28,c28,h,rfl,rfl⟩;refine V ?_;obtain ⟨q38,h⟩:=am h;refine gE (aT J J q38.1 q38.2) ?_;refine V ?_;exact ⟨m23,_,_,GD _,⟨p28,p25+1,A28,n28,c28,h,J,J⟩,sA,cS [0,1,2,3] 4⟩
  replace h:=ah g26 h;refine V ?_;exact ⟨_,_,⟨p24,A24,n24,c24,h,J,J⟩,sA,cS [0] 4⟩
 rintro _ _ ⟨p22,A22,n22,c22,h,rfl,rfl⟩;refine V ?_;obtain rfl:=ao h;exact aL J J (cS [0] 1) ⟨_,_,_,J,J⟩
theorem kG {r:(List Int)}: ∀v post,((fun (u:Value) (post:List Chunk)=> ∃A0 n0 c0,u=I A0 n0 c0∧post=[cc A0 n0 c0 r])) v post→ ∀c∈post,bR c:=by
 rintro _ _ ⟨_,_,_,rfl,rfl⟩;exact hJ bm (ai)
def pf (N:Nat)(p5:(List Int)):Option (List Int):=
 some p5
def iB (N:Nat)(kb6:(List Int)→Int→Option (List Int))(p8:Int)(a0:Gw)(p12:(List Int)):Option (List Int):=
 bD (in64 (p8+1)) (kb6 p12 (p8+1))
def dV (N:Nat)(a0:Gw):Nat→(List Int)→Int→Option (List Int)
 |0,_,_=>none
 |m6+1,p7,p8=>bif decide (p8<(a0.More.length:Int)) then ((aH a0.More p8).bind fun x13=>(i3 N x13).bind fun y14=>(bif y14 then ((kD N a0.Kind p8).bind fun y16=>some y16) else (some false)).bind fun b15=>bif b15 then ((aH a0.More p8).bind fun x18=>bD (bN (p7.length+([x18.N]:List Int).length)) (iB N (dV N a0 m6) p8 a0 (p7++([x18.N]:List Int)))) else (iB N (dV N a0 m6) p8 a0 p7)) else (pf N p7)
def iC (N:Nat)(a0:Gw):Option (List Int):=
 dV N a0 N [] 0
set_option maxHeartbeats 4000000 in
theorem ut {N:Nat}{a0:Gw}{r:(List Int)}(h:iC N a0=some r):Okc Tryz.prog 132 [.agg #[iV a0.Kind,iV a0.Shape,iV a0.Flags,iV a0.Age,I A1 n1 c1,I A2 n2 c2]] ([aS A1 n1 c1 a0.Slots,aS A2 n2 c2 a0.More]) (fun u post=> ∃A0 n0 c0,u=I A0 n0 c0∧post=[cc A0 n0 c0 r]):=by
 refine bx Tryz.func132 J J ?_;simp only [aU];refine V ?_;refine gD (aX J J) ?_;rintro _ _ ⟨B3,rfl,rfl⟩;refine V ?_;refine aP (fun s L=> ∃p5 A5 n5 c5,pf N p5=some r∧s=[(2,I none 0 0),(3,I A5 n5 c5)]∧L=[cc A5 n5 c5 p5]) ?_ ?_
 ·refine V ?_;refine aZ (fun m s L=> ∃p7 p8 A7 n7 c7,dV N a0 m p7 p8=some r∧s=[(1,pV B3 0),(2,I none 0 0),(3,I A7 n7 c7),(4,iV p8)]∧L=[cc A7 n7 c7 p7,aS A1 n1 c1 a0.Slots,aS A2 n2 c2 a0.More,aw B3 47 [iV a0.Kind,iV a0.Shape,iV a0.Flags,iV a0.Age,I A1 n1 c1,I A2 n2 c2]]) N _ _ ⟨[],0,none,0,0,h,J,J⟩ sA ((bL (dn .i64) 3 _).trans (cS [0,2,3,1] 4)) ?_;rintro (_|m6) _ _ ⟨p7,p8,A7,n7,c7,h,rfl,rfl⟩
  ·exact az h
  rw [dV.eq_2] at h;refine ay ?_;refine V ?_;refine gR (aG 2 J ae J hO) ?_;refine V ?_;refine aq J (fun g10=> ?_) (fun g10=> ?_)
  ·replace h:=ag g10 h;refine V ?_;refine aP (fun s L=> ∃p12 A12 n12 c12,iB N (dV N a0 m6) p8 a0 p12=some r∧s=[(1,pV B3 0),(2,I none 0 0),(3,I A12 n12 c12),(4,iV p8)]∧L=[cc A12 n12 c12 p12,aS A1 n1 c1 a0.Slots,aS A2 n2 c2 a0.More,aw B3 47 [iV a0.Kind,iV a0.Shape,iV a0.Flags,iV a0.Age,I A1 n1 c1,I A2 n2 c2]]) ?_ ?_
   ·refine V ?_;obtain ⟨x13,hx13,h⟩:=aa h;obtain ⟨lx13,ux13,hx13⟩:=aj hx13;refine gR (aB 2 J ae J J hO aI lx13 ux13) ?_;refine gR (aQ (us:=ar x13) 2 J ae J hx13 bn (fun _ _ _ h=>by rw [show _=_ from h];rfl)) ?_;obtain ⟨y14,hy14,h⟩:=aa h;refine gD (ak (mC hy14) sG J (ai) kc) ?_;rintro _ _ ⟨_,⟨rfl,rfl⟩,rfl⟩;refine V ?_;obtain ⟨b15,hb15,h⟩:=aa h;refine aD 5 23 b15 ?_ ?_
    ·clear h;refine aE 18 J (fun g15=> ?_) (fun g15=> ?_)
     ·have h:=ag g15 hb15;refine V ?_;obtain ⟨y16,hy16,h⟩:=aa h;refine ca (ak (rR hy16) zJ J (ai) pe) J (aO g15 J) J ?_;rintro _ _ ⟨_,⟨rfl,rfl⟩,rfl⟩;refine V ?_;obtain rfl:=ao h;exact ad sA (cS [0,1,2,3] 4)
     have h:=ah g15 hb15;refine V ?_;obtain rfl:=ao h;exact ad sA (cS [0,1,2,3] 4)
    refine V ?_;refine aq J (fun g17=> ?_) (fun g17=> ?_)
    ·replace h:=ag g17 h;refine V ?_;obtain ⟨x18,hx18,h⟩:=aa h;obtain ⟨lx18,ux18,hx18⟩:=aj hx18;refine gR (aB 2 J ae J J hO aI lx18 ux18) ?_;refine gR (lc 2 J ae J (bB lx18 ux18) iL) ?_;refine gR (aW (u:=iV x18.N) 2 J ae J hx18 cM (fun _ _ _ h=>by rw [show _=_ from h];rfl)) ?_;refine gD (aN (R:=(dn .i64)) (vss:=[[iV x18.N]]) (xs:=[x18.N]) J (dO _) J J (fun _ _ hr=> .cons J All2.nil)) ?_;rintro _ _ ⟨A19,n19,c19,rfl,rfl⟩;obtain ⟨q20,h⟩:=am h;refine gD (ba 1 0 J J aJ J J hU uE J J q20) ?_;rintro _ _ ⟨A21,n21,c21,rfl,rfl⟩;refine V ?_;exact ⟨_,_,⟨p7++([x18.N]:List Int),A21,n21,c21,h,J,J⟩,sA,cS [1,2,3,4] 5⟩
    replace h:=ah g17 h;refine V ?_;exact ⟨_,_,⟨p7,A7,n7,c7,h,J,J⟩,sA,cS [0,1,2,3] 4⟩
   rintro _ _ ⟨p12,A12,n12,c12,h,rfl,rfl⟩;refine V ?_;obtain ⟨q22,h⟩:=am h;refine gE (aT J J q22.1 q22.2) ?_;refine V ?_;exact ⟨m6,_,_,GD _,⟨p12,p8+1,A12,n12,c12,h,J,J⟩,sA,cS [0,1,2,3] 4⟩
  replace h:=ah g10 h;refine V ?_;exact ⟨_,_,⟨p7,A7,n7,c7,h,J,J⟩,sA,cS [0] 4⟩
 rintro _ _ ⟨p5,A5,n5,c5,h,rfl,rfl⟩;refine V ?_;obtain rfl:=ao h;exact aL J J (cS [0] 1) ⟨_,_,_,J,J⟩
theorem so {r:(List Int)}: ∀v post,((fun (u:Value) (post:List Chunk)=> ∃A0 n0 c0,u=I A0 n0 c0∧post=[cc A0 n0 c0 r])) v post→ ∀c∈post,bR c:=by
 rintro _ _ ⟨_,_,_,rfl,rfl⟩;exact hJ bm (ai)
def eY (N:Nat)(a0:Gx)(a1:Int):Option Bool:=
 bif decide (a1<1) then (some false) else (bif decide (a1.tmod 2=1) then (bD (in64 (a1 - 1)) (bD (in64 ((a1 - 1).tdiv 2)) (some (decide ((a1 - 1).tdiv 2<(a0.Young.length:Int)))))) else (bD (in64 (a1 - 2)) (bD (in64 ((a1 - 2).tdiv 2)) (some (decide ((a1 - 2).tdiv 2<(a0.Old.length:Int)))))))
theorem pD {N:Nat}{a0:Gx}{a1:Int}{r:Bool}(h:eY N a0 a1=some r):Okc Tryz.prog 28 [.agg #[I A1 n1 c1,I A2 n2 c2],iV a1] ([br A1 n1 c1 a0.Young,br A2 n2 c2 a0.Old]) (fun u post=>u=.bool r∧post=[]):=by
 refine bx Tryz.func28 J J ?_;simp only [aU];refine V ?_;refine gD (aX J J) ?_;rintro _ _ ⟨B3,rfl,rfl⟩;refine V ?_;refine ay ?_;refine V ?_;refine aq J (fun g4=> ?_) (fun g4=> ?_)
 ·replace h:=ag g4 h;refine V ?_;obtain rfl:=ao h;exact aL J J (cS [] 3) ⟨J,J⟩
 replace h:=ah g4 h;refine V ?_;refine ay ?_;refine V ?_;refine gE (lM J J (by decide)) ?_;refine V ?_;refine aq J (fun g5=> ?_) (fun g5=> ?_)
 ·replace h:=ag g5 h;refine V ?_;obtain ⟨q6,h⟩:=am h;refine gE (lL J J q6.1 q6.2) ?_;obtain ⟨q7,h⟩:=am h;refine gE (rk J J (by decide) q7.1 q7.2) ?_;refine V ?_;refine gR (aG 1 J ae J hP) ?_;refine V ?_;obtain rfl:=ao h;exact aL J J (cS [] 3) ⟨J,J⟩
 replace h:=ah g5 h;refine V ?_;obtain ⟨q8,h⟩:=am h;refine gE (lL J J q8.1 q8.2) ?_;obtain ⟨q9,h⟩:=am h;refine gE (rk J J (by decide) q9.1 q9.2) ?_;refine V ?_;refine gR (aG 2 J ae J hP) ?_;refine V ?_;obtain rfl:=ao h;exact aL J J (cS [] 3) ⟨J,J⟩
theorem mv {r:Bool}: ∀v post,((fun (u:Value) (post:List Chunk)=>u=.bool r∧post=[])) v post→ ∀c∈post,bR c:=by
 rintro _ _ ⟨rfl,rfl⟩;exact ai
def o4 (N:Nat):Option Int:=
 some 0
def gF (N:Nat)(p23:(List Int))(a0:Gx):Nat→Int→Option Int
 |0,_=>none
 |m44+1,p45=>bif decide (p45<(p23.length:Int)) then ((aH p23 p45).bind fun x47=>(eY N a0 x47).bind fun y48=>bif !y48 then (some 50) else (bD (in64 (p45+1)) ((gF N p23 a0 m44) (p45+1)))) else (o4 N)
def jg (N:Nat)(a0:Gx)(p23:(List Int)):Option Int:=
 gF N p23 a0 N 0
def fI (N:Nat)(a0:Gx):Nat→(List Int)→Int→Option Int
 |0,_,_=>none
 |m24+1,p25,p26=>bif decide (p26<(((([]:List Gw)++a0.Young)++a0.Old).length:Int)) then ((aH ((([]:List Gw)++a0.Young)++a0.Old) p26).bind fun x28=>(fk N x28).bind fun y31=>bD (bN (p25.length+y31.length)) ((aH ((([]:List Gw)++a0.Young)++a0.Old) p26).bind fun x35=>(iC N x35).bind fun y38=>bD (bN ((p25++y31).length+y38.length)) (bD (in64 (p26+1)) ((fI N a0 m24) ((p25++y31)++y38) (p26+1))))) else (jg N a0 p25)
def jh (N:Nat)(a1:(List Gu))(a0:Gx):Option Int:=
 (fk N (⟨11,0,0,0,[],a1⟩:Gw)).bind fun y20=>fI N a0 N y20 0
def gG (N:Nat)(a1:(List Gu))(a0:Gx):Nat→Int→Option Int
 |0,_=>none
 |m11+1,p12=>bif decide (p12<(((([]:List Gw)++a0.Young)++a0.Old).length:Int)) then ((aH ((([]:List Gw)++a0.Young)++a0.Old) p12).bind fun x14=>(bP N x14).bind fun y17=>bif !y17 then (some 51) else (bD (in64 (p12+1)) ((gG N a1 a0 m11) (p12+1)))) else (jh N a1 a0)
def ld (N:Nat)(a0:Gx)(a1:(List Gu)):Option Int:=
 bD (bN (([]:List Gw).length+a0.Young.length)) (bD (bN ((([]:List Gw)++a0.Young).length+a0.Old.length)) (gG N a1 a0 N 0))
set_option maxHeartbeats 4000000 in
theorem vP {N:Nat}{a0:Gx}{a1:(List Gu)}{r:Int}(h:ld N a0 a1=some r):Okc Tryz.prog 121 [.agg #[I A1 n1 c1,I A2 n2 c2],I A3 n3 c3] ([br A1 n1 c1 a0.Young,br A2 n2 c2 a0.Old,aS A3 n3 c3 a1]) (fun u post=>u=iV r∧post=[]):=by
 refine bx Tryz.func121 J J ?_;simp only [aU];refine V ?_;refine gD (aX J J) ?_;rintro _ _ ⟨B4,rfl,rfl⟩;refine V ?_;refine ay ?_;refine cy O _ (ab _) ?_;refine zE 1 J (jN J oG) ?_;refine zR 2 J (aR 0 J J gK J) ?_;refine zE 4 J (bQ J iN) ?_;refine zR 5 J (aR 0 J J gK J) ?_;refine zD 0 J (aN (R:=bV) (vss:=[]) (xs:=[]) J (xU) J J (fun _ _ hr=>All2.nil)) ?_;rintro _ _ ⟨A5,n5,c5,rfl,rfl⟩;refine gX (cS [1,2,3,4] 5) ?_;obtain ⟨q6,h⟩:=am h;refine zD 3 J (ba 0 2 J J ae J J hP Bb J J q6) ?_;rintro _ _ ⟨A7,n7,c7,rfl,rfl⟩;refine gX (cS [1,2,3,4] 5) ?_;obtain ⟨q8,h⟩:=am h;refine zD 6 J (ba 0 3 J J ae J J hP Bb J J q8) ?_;rintro _ _ ⟨A9,n9,c9,rfl,rfl⟩;refine gX (cS [1,2,3,4] 5) ?_;refine zE 7 J (bz J) ?_;refine cx O ?_;refine jB ?_;refine aP (fun s L=>jh N a1 a0=some r∧s=[(1,I A3 n3 c3),(2,pV B4 0),(4,iV 0),(5,I A9 n9 c9)]∧L=[aS A3 n3 c3 a1,tM A9 n9 c9 ((([]:List Gw)++a0.Young)++a0.Old),br A1 n1 c1 a0.Young,br A2 n2 c2 a0.Old,aw B4 36 [I A1 n1 c1,I A2 n2 c2]]) ?_ ?_
 ·refine V ?_;refine aZ (fun m s L=> ∃p12,gG N a1 a0 m p12=some r∧s=[(1,I A3 n3 c3),(2,pV B4 0),(4,iV 0),(5,I A9 n9 c9),(6,iV p12)]∧L=[aS A3 n3 c3 a1,tM A9 n9 c9 ((([]:List Gw)++a0.Young)++a0.Old),br A1 n1 c1 a0.Young,br A2 n2 c2 a0.Old,aw B4 36 [I A1 n1 c1,I A2 n2 c2]]) N _ _ ⟨0,h,J,J⟩ sA (cS [4,0,2,3,1] 5) ?_;rintro (_|m11) _ _ ⟨p12,h,rfl,rfl⟩
  ·exact az h
  rw [gG.eq_2] at h;refine ay ?_;refine V ?_;refine gR (aG 1 J aJ J hP) ?_;refine V ?_;refine aq J (fun g13=> ?_) (fun g13=> ?_)
  ·replace h:=ag g13 h;refine V ?_;refine ay ?_;refine V ?_;obtain ⟨x14,hx14,h⟩:=aa h;obtain ⟨lx14,ux14,hx14⟩:=aj hx14;refine gR (aB 1 J aJ J J hP bu lx14 ux14) ?_;refine gD (tA 1 J aJ J hx14 bo J (cA x14)) ?_;rintro u _ ⟨_,_,⟨A15,n15,c15,A16,n16,c16,rfl,rfl⟩,hu,rfl⟩;obtain rfl:u=.agg #[iV x14.Kind,iV x14.Shape,iV x14.Flags,iV x14.Age,I A15 n15 c15,I A16 n16 c16]:=hu;obtain ⟨y17,hy17,h⟩:=aa h;refine gD (ak (mD hy17) wD J (hJ (ap (i:=0) J J) (hJ (ap (i:=1) J J) ai)) kF) ?_;rintro _ _ ⟨_,⟨rfl,rfl⟩,rfl⟩;refine V ?_;refine aq J (fun g18=> ?_) (fun g18=> ?_)
   ·replace h:=ag g18 h;refine V ?_;obtain rfl:=ao h;exact aL J J (cS [] 7) ⟨J,J⟩
   replace h:=ah g18 h;refine V ?_;obtain ⟨q19,h⟩:=am h;refine gE (aT J J q19.1 q19.2) ?_;refine V ?_;exact ⟨m11,_,_,GD _,⟨p12+1,h,J,J⟩,sA,cS [2,3,4,5,6] 7⟩
  replace h:=ah g13 h;refine V ?_;exact ⟨_,_,⟨h,J,J⟩,sA,cS [0,1,2,3,4] 5⟩
 rintro _ _ ⟨h,rfl,rfl⟩;refine V ?_;refine gE (bJ J (pO _ _ _ _)) ?_;obtain ⟨y20,hy20,h⟩:=aa h;refine gD (ak (mE hy20) wB J (hJ (xv) (hJ (ap (i:=0) J J) ai)) kG) ?_;rintro _ _ ⟨_,⟨A21,n21,c21,rfl,rfl⟩,rfl⟩;refine V ?_;refine aP (fun s L=> ∃p23 A23 n23 c23,jg N a0 p23=some r∧s=[(2,pV B4 0),(4,iV 0),(7,I A23 n23 c23)]∧L=[cc A23 n23 c23 p23,br A1 n1 c1 a0.Young,br A2 n2 c2 a0.Old,aw B4 36 [I A1 n1 c1,I A2 n2 c2]]) ?_ ?_
 ·refine V ?_;refine aZ (fun m s L=> ∃p25 p26 A25 n25 c25,fI N a0 m p25 p26=some r∧s=[(2,pV B4 0),(4,iV 0),(5,I A9 n9 c9),(7,I A25 n25 c25),(8,iV p26)]∧L=[tM A9 n9 c9 ((([]:List Gw)++a0.Young)++a0.Old),cc A25 n25 c25 p25,br A1 n1 c1 a0.Young,br A2 n2 c2 a0.Old,aw B4 36 [I A1 n1 c1,I A2 n2 c2]]) N _ _ ⟨y20,0,A21,n21,c21,h,J,J⟩ sA (cS [2,0,3,4,5] 6) ?_;rintro (_|m24) _ _ ⟨p25,p26,A25,n25,c25,h,rfl,rfl⟩
  ·exact az h
  rw [fI.eq_2] at h;refine ay ?_;refine V ?_;refine gR (aG 0 J aJ J hP) ?_;refine V ?_;refine aq J (fun g27=> ?_) (fun g27=> ?_)
  ·replace h:=ag g27 h;refine V ?_;refine ay ?_;refine V ?_;obtain ⟨x28,hx28,h⟩:=aa h;obtain ⟨lx28,ux28,hx28⟩:=aj hx28;refine gR (aB 0 J aJ J J hP bu lx28 ux28) ?_;refine gD (tA 0 J aJ J hx28 bo J (cA x28)) ?_;rintro u _ ⟨_,_,⟨A29,n29,c29,A30,n30,c30,rfl,rfl⟩,hu,rfl⟩;obtain rfl:u=.agg #[iV x28.Kind,iV x28.Shape,iV x28.Flags,iV x28.Age,I A29 n29 c29,I A30 n30 c30]:=hu;obtain ⟨y31,hy31,h⟩:=aa h;refine gD (ak (mE hy31) wB J (hJ (ap (i:=0) J J) (hJ (ap (i:=1) J J) ai)) kG) ?_;rintro _ _ ⟨_,⟨A32,n32,c32,rfl,rfl⟩,rfl⟩;obtain ⟨q33,h⟩:=am h;refine gD (ba 4 0 J J aJ J J hU uE J J q33) ?_;rintro _ _ ⟨A34,n34,c34,rfl,rfl⟩;refine V ?_;obtain ⟨x35,hx35,h⟩:=aa h;obtain ⟨lx35,ux35,hx35⟩:=aj hx35;refine gR (aB 3 J aJ J J hP bu lx35 ux35) ?_;refine gD (tA 3 J aJ J hx35 bo J (cA x35)) ?_;rintro u _ ⟨_,_,⟨A36,n36,c36,A37,n37,c37,rfl,rfl⟩,hu,rfl⟩;obtain rfl:u=.agg #[iV x35.Kind,iV x35.Shape,iV x35.Flags,iV x35.Age,I A36 n36 c36,I A37 n37 c37]:=hu;obtain ⟨y38,hy38,h⟩:=aa h;refine gD (ak (ut hy38) DK J (hJ (ap (i:=0) J J) (hJ (ap (i:=1) J J) ai)) so) ?_;rintro _ _ ⟨_,⟨A39,n39,c39,rfl,rfl⟩,rfl⟩;obtain ⟨q40,h⟩:=am h;refine gD (ba 7 0 J J aJ J J hU uE J J q40) ?_;rintro _ _ ⟨A41,n41,c41,rfl,rfl⟩;refine V ?_;obtain ⟨q42,h⟩:=am h;refine gE (aT J J q42.1 q42.2) ?_;refine V ?_
   exact ⟨m24,_,_,GD _,⟨(p25++y31)++y38,p26+1,A41,n41,c41,h,J,J⟩,sA,cS [6,7,8,9,10] 11⟩
  replace h:=ah g27 h;refine V ?_;exact ⟨_,_,⟨p25,A25,n25,c25,h,J,J⟩,sA,cS [1,2,3,4] 5⟩
 rintro _ _ ⟨p23,A23,n23,c23,h,rfl,rfl⟩;refine aP (fun s L=>o4 N=some r∧s=[(4,iV 0)]∧L=[]) ?_ ?_
 ·refine V ?_;refine aZ (fun m s L=> ∃p45,gF N p23 a0 m p45=some r∧s=[(2,pV B4 0),(4,iV 0),(7,I A23 n23 c23),(9,iV p45)]∧L=[cc A23 n23 c23 p23,br A1 n1 c1 a0.Young,br A2 n2 c2 a0.Old,aw B4 36 [I A1 n1 c1,I A2 n2 c2]]) N _ _ ⟨0,h,J,J⟩ sA (cS [0,1,2,3] 4) ?_;rintro (_|m44) _ _ ⟨p45,h,rfl,rfl⟩
  ·exact az h
  rw [gF.eq_2] at h;refine ay ?_;refine V ?_;refine gR (aG 0 J aJ J hU) ?_;refine V ?_;refine aq J (fun g46=> ?_) (fun g46=> ?_)
  ·replace h:=ag g46 h;refine V ?_;refine ay ?_;refine cQ ?_;refine ay ?_;refine cy O _ (ab _) ?_;refine zR 0 J (aC (us:=[I A1 n1 c1,I A2 n2 c2]) 3 J J cu J) ?_;refine zE 1 J (ax J) ?_;refine zE 2 J (ax J) ?_;obtain ⟨x47,hx47,h⟩:=aa h;obtain ⟨lx47,ux47,hx47⟩:=aj hx47;refine zR 3 J (aB 0 J aJ J J hU dj lx47 ux47) ?_;refine zR 4 J (aW (u:=iV x47) 0 J aJ J hx47 cM (fun _ _ _ h=>by rw [show _=_ from h];rfl)) ?_;obtain ⟨y48,hy48,h⟩:=aa h;refine zD 5 J (ak (pD hy48) yV J (hJ (ap (i:=1) J J) (hJ (ap (i:=2) J J) ai)) mv) ?_;rintro _ _ ⟨_,⟨rfl,rfl⟩,rfl⟩;refine ⟨_,ab _,ab _,?_⟩;refine zE 6 J (rl J) ?_;refine cx O ?_;refine jB ?_;refine aq J (fun g49=> ?_) (fun g49=> ?_)
   ·replace h:=ag g49 h;refine V ?_;obtain rfl:=ao h;exact aL J J (cS [] 4) ⟨J,J⟩
   replace h:=ah g49 h;refine V ?_;obtain ⟨q50,h⟩:=am h;refine gE (aT J J q50.1 q50.2) ?_;refine V ?_;exact ⟨m44,_,_,GD _,⟨p45+1,h,J,J⟩,sA,cS [0,1,2,3] 4⟩
  replace h:=ah g46 h;refine V ?_;exact ⟨_,_,⟨h,J,J⟩,sA,cS [] 4⟩
 rintro _ _ ⟨h,rfl,rfl⟩;refine V ?_;obtain rfl:=ao h;exact aL J J (cS [] 0) ⟨J,J⟩
theorem tg {r:Int}: ∀v post,((fun (u:Value) (post:List Chunk)=>u=iV r∧post=[])) v post→ ∀c∈post,bR c:=by
 rintro _ _ ⟨rfl,rfl⟩;exact ai
def lY (N:Nat)(p4:(List Int)):Option (List Int):=
 some p4
def gg (N:Nat)(kb5:(List Int)→Int→Option (List Int))(p7:Int)(a0:(List Gu))(p10:(List Int)):Option (List Int):=
 bD (in64 (p7+1)) (kb5 p10 (p7+1))
def cV (N:Nat)(a0:(List Gu)):Nat→(List Int)→Int→Option (List Int)
 |0,_,_=>none
 |m5+1,p6,p7=>bif decide (p7<(a0.length:Int)) then ((aH a0 p7).bind fun x11=>(bif decide (x11.Kind=7) then (some true) else ((aH a0 p7).bind fun x13=>some (decide (x13.Kind=9)))).bind fun b12=>bif b12 then ((aH a0 p7).bind fun x15=>bD (bN (p6.length+([x15.N]:List Int).length)) (gg N (cV N a0 m5) p7 a0 (p6++([x15.N]:List Int)))) else (gg N (cV N a0 m5) p7 a0 p6)) else (lY N p6)
def dG (N:Nat)(a0:(List Gu)):Option (List Int):=
 cV N a0 N ([]:List Int) 0
set_option maxHeartbeats 4000000 in
theorem qY {N:Nat}{a0:(List Gu)}{r:(List Int)}(h:dG N a0=some r):Okc Tryz.prog 100 [I A1 n1 c1] ([aS A1 n1 c1 a0]) (fun u post=> ∃A0 n0 c0,u=I A0 n0 c0∧post=[cc A0 n0 c0 r]):=by
 refine bx Tryz.func100 J J ?_;simp only [aU];refine V ?_;refine gD (aN (R:=(dn .i64)) (vss:=[]) (xs:=[]) J (qO) J J (fun _ _ hr=>All2.nil)) ?_;rintro _ _ ⟨A2,n2,c2,rfl,rfl⟩;refine V ?_;refine aP (fun s L=> ∃p4 A4 n4 c4,lY N p4=some r∧s=[(2,I none 0 0),(3,I A4 n4 c4)]∧L=[cc A4 n4 c4 p4]) ?_ ?_
 ·refine V ?_;refine aZ (fun m s L=> ∃p6 p7 A6 n6 c6,cV N a0 m p6 p7=some r∧s=[(0,I A1 n1 c1),(2,I none 0 0),(3,I A6 n6 c6),(4,iV p7)]∧L=[aS A1 n1 c1 a0,cc A6 n6 c6 p6]) N _ _ ⟨([]:List Int),0,A2,n2,c2,h,J,J⟩ sA (cS [1,0] 2) ?_;rintro (_|m5) _ _ ⟨p6,p7,A6,n6,c6,h,rfl,rfl⟩
  ·exact az h
  rw [cV.eq_2] at h;refine ay ?_;refine V ?_;refine gR (aG 0 J ae J hO) ?_;refine V ?_;refine aq J (fun g8=> ?_) (fun g8=> ?_)
  ·replace h:=ag g8 h;refine V ?_;refine aP (fun s L=> ∃p10 A10 n10 c10,gg N (cV N a0 m5) p7 a0 p10=some r∧s=[(0,I A1 n1 c1),(2,I none 0 0),(3,I A10 n10 c10),(4,iV p7)]∧L=[aS A1 n1 c1 a0,cc A10 n10 c10 p10]) ?_ ?_
   ·refine V ?_;obtain ⟨x11,hx11,h⟩:=aa h;obtain ⟨lx11,ux11,hx11⟩:=aj hx11;refine gR (aB 0 J ae J J hO aI lx11 ux11) ?_;refine gR (jI 0 J ae J (bB lx11 ux11) eQ) ?_;refine gR (aW (u:=iV x11.Kind) 0 J ae J hx11 cM (fun _ _ _ h=>by rw [show _=_ from h];rfl)) ?_;refine V ?_;obtain ⟨b12,hb12,h⟩:=aa h;refine aD 7 25 b12 ?_ ?_
    ·clear h;refine aE 18 J (fun g12=> ?_) (fun g12=> ?_)
     ·have h:=ag g12 hb12;refine V ?_;obtain rfl:=ao h;exact ad sA (cS [0,1] 2)
     have h:=ah g12 hb12;refine V ?_;obtain ⟨x13,hx13,h⟩:=aa h;obtain ⟨lx13,ux13,hx13⟩:=aj hx13;refine bA (aB 0 J ae J J hO aI lx13 ux13) J (fW g12 J) J ?_;refine bA (jI 0 J ae J (bB lx13 ux13) eQ) J (fW g12 J) J ?_;refine bA (aW (u:=iV x13.Kind) 0 J ae J hx13 cM (fun _ _ _ h=>by rw [show _=_ from h];rfl)) J (fW g12 J) J ?_;refine V ?_;obtain rfl:=ao h;exact ad sA (cS [0,1] 2)
    refine V ?_;refine aq J (fun g14=> ?_) (fun g14=> ?_)
    ·replace h:=ag g14 h;refine V ?_;obtain ⟨x15,hx15,h⟩:=aa h;obtain ⟨lx15,ux15,hx15⟩:=aj hx15;refine gR (aB 0 J ae J J hO aI lx15 ux15) ?_;refine gR (lc 0 J ae J (bB lx15 ux15) iL) ?_;refine gR (aW (u:=iV x15.N) 0 J ae J hx15 cM (fun _ _ _ h=>by rw [show _=_ from h];rfl)) ?_;refine gD (aN (R:=(dn .i64)) (vss:=[[iV x15.N]]) (xs:=[x15.N]) J (dO _) J J (fun _ _ hr=> .cons J All2.nil)) ?_;rintro _ _ ⟨A16,n16,c16,rfl,rfl⟩;obtain ⟨q17,h⟩:=am h;refine gD (ba 2 0 J J aJ J J hU uE J J q17) ?_;rintro _ _ ⟨A18,n18,c18,rfl,rfl⟩;refine V ?_;exact ⟨_,_,⟨p6++([x15.N]:List Int),A18,n18,c18,h,J,J⟩,sA,cS [1,2] 3⟩
    replace h:=ah g14 h;refine V ?_;exact ⟨_,_,⟨p6,A6,n6,c6,h,J,J⟩,sA,cS [0,1] 2⟩
   rintro _ _ ⟨p10,A10,n10,c10,h,rfl,rfl⟩;refine V ?_;obtain ⟨q19,h⟩:=am h;refine gE (aT J J q19.1 q19.2) ?_;refine V ?_;exact ⟨m5,_,_,GD _,⟨p10,p7+1,A10,n10,c10,h,J,J⟩,sA,cS [0,1] 2⟩
  replace h:=ah g8 h;refine V ?_;exact ⟨_,_,⟨p6,A6,n6,c6,h,J,J⟩,sA,cS [1] 2⟩
 rintro _ _ ⟨p4,A4,n4,c4,h,rfl,rfl⟩;refine V ?_;obtain rfl:=ao h;exact aL J J (cS [0] 1) ⟨_,_,_,J,J⟩
theorem pC {r:(List Int)}: ∀v post,((fun (u:Value) (post:List Chunk)=> ∃A0 n0 c0,u=I A0 n0 c0∧post=[cc A0 n0 c0 r])) v post→ ∀c∈post,bR c:=by
 rintro _ _ ⟨_,_,_,rfl,rfl⟩;exact hJ bm (ai)
def uQ (N:Nat):Option Bool:=
 some false
def oy (N:Nat)(a1:Int)(a0:(List Int)):Nat→Int→Option Bool
 |0,_=>none
 |m3+1,p4=>bif decide (p4<(a0.length:Int)) then ((aH a0 p4).bind fun x6=>bif decide (x6=a1) then (some true) else (bD (in64 (p4+1)) ((oy N a1 a0 m3) (p4+1)))) else (uQ N)
def qi (N:Nat)(a0:(List Int))(a1:Int):Option Bool:=
 oy N a1 a0 N 0
theorem Aq {N:Nat}{a0:(List Int)}{a1:Int}{r:Bool}(h:qi N a0 a1=some r):Okc Tryz.prog 178 [I A1 n1 c1,iV a1] ([eM A1 n1 c1 a0]) (fun u post=>u=.bool r∧post=[]):=by
 refine bx Tryz.func178 J J ?_;simp only [aU];refine V ?_;refine aP (fun s L=>uQ N=some r∧s=[(4,.bool false)]∧L=[]) ?_ ?_
 ·refine V ?_;refine aZ (fun m s L=> ∃p4,oy N a1 a0 m p4=some r∧s=[(0,I A1 n1 c1),(1,iV a1),(4,.bool false),(5,iV p4)]∧L=[eM A1 n1 c1 a0]) N _ _ ⟨0,h,J,J⟩ sA (cS [0] 1) ?_;rintro (_|m3) _ _ ⟨p4,h,rfl,rfl⟩
  ·exact az h
  rw [oy.eq_2] at h;refine ay ?_;refine V ?_;refine gR (aG 0 J ae J hU) ?_;refine V ?_;refine aq J (fun g5=> ?_) (fun g5=> ?_)
  ·replace h:=ag g5 h;refine V ?_;refine ay ?_;refine V ?_;obtain ⟨x6,hx6,h⟩:=aa h;obtain ⟨lx6,ux6,hx6⟩:=aj hx6;refine gR (aB 0 J ae J J hU dj lx6 ux6) ?_;refine gR (aW (u:=iV x6) 0 J ae J hx6 cM (fun _ _ _ h=>by rw [show _=_ from h];rfl)) ?_;refine V ?_;refine aq J (fun g7=> ?_) (fun g7=> ?_)
   ·replace h:=ag g7 h;refine V ?_;obtain rfl:=ao h;exact aL J J (cS [] 1) ⟨J,J⟩
   replace h:=ah g7 h;refine V ?_;obtain ⟨q8,h⟩:=am h;refine gE (aT J J q8.1 q8.2) ?_;refine V ?_;exact ⟨m3,_,_,GD _,⟨p4+1,h,J,J⟩,sA,cS [0] 1⟩
  replace h:=ah g5 h;refine V ?_;exact ⟨_,_,⟨h,J,J⟩,sA,cS [] 1⟩
 rintro _ _ ⟨h,rfl,rfl⟩;refine V ?_;obtain rfl:=ao h;exact aL J J (cS [] 0) ⟨J,J⟩
theorem xc {r:Bool}: ∀v post,((fun (u:Value) (post:List Chunk)=>u=.bool r∧post=[])) v post→ ∀c∈post,bR c:=by
 rintro _ _ ⟨rfl,rfl⟩;exact ai
def tk (N:Nat)(p7:(List Int)):Option (List Int):=
 some p7
def lf (N:Nat)(kb8:(List Int)→Int→Option (List Int))(p10:Int)(a2:(List Int))(a0:Gx)(p13:(List Int)):Option (List Int):=
 bD (in64 (p10+1)) (kb8 p13 (p10+1))
def f4 (N:Nat)(a2:(List Int))(a0:Gx):Nat→(List Int)→Int→Option (List Int)
 |0,_,_=>none
 |m8+1,p9,p10=>bif decide (p10<(a2.length:Int)) then ((aH a2 p10).bind fun x14=>(eY N a0 x14).bind fun y15=>(bif y15 then ((aH a2 p10).bind fun x17=>(qi N p9 x17).bind fun y18=>some (!y18)) else (some false)).bind fun b16=>bif b16 then ((aH a2 p10).bind fun x20=>bD (bN (p9.length+([x20]:List Int).length)) (lf N (f4 N a2 a0 m8) p10 a2 a0 (p9++([x20]:List Int)))) else (lf N (f4 N a2 a0 m8) p10 a2 a0 p9)) else (tk N p9)
def ia (N:Nat)(a0:Gx)(a1:(List Int))(a2:(List Int)):Option (List Int):=
 f4 N a2 a0 N a1 0
set_option maxHeartbeats 4000000 in
theorem pB {N:Nat}{a0:Gx}{a1:(List Int)}{a2:(List Int)}{r:(List Int)}(h:ia N a0 a1 a2=some r):Okc Tryz.prog 106 [.agg #[I A1 n1 c1,I A2 n2 c2],I A3 n3 c3,I A4 n4 c4] ([br A1 n1 c1 a0.Young,br A2 n2 c2 a0.Old,eM A4 n4 c4 a2,cc A3 n3 c3 a1]) (fun u post=> ∃A0 n0 c0,u=I A0 n0 c0∧post=[cc A0 n0 c0 r]):=by
 refine bx Tryz.func106 J J ?_;simp only [aU];refine V ?_;refine gD (aX J J) ?_;rintro _ _ ⟨B5,rfl,rfl⟩;refine V ?_;refine aP (fun s L=> ∃p7 A7 n7 c7,tk N p7=some r∧s=[(1,I A7 n7 c7),(6,I none 0 0)]∧L=[cc A7 n7 c7 p7]) ?_ ?_
 ·refine V ?_;refine aZ (fun m s L=> ∃p9 p10 A9 n9 c9,f4 N a2 a0 m p9 p10=some r∧s=[(1,I A9 n9 c9),(2,I A4 n4 c4),(3,pV B5 0),(6,I none 0 0),(7,iV p10)]∧L=[cc A9 n9 c9 p9,eM A4 n4 c4 a2,br A1 n1 c1 a0.Young,br A2 n2 c2 a0.Old,aw B5 36 [I A1 n1 c1,I A2 n2 c2]]) N _ _ ⟨a1,0,A3,n3,c3,h,J,J⟩ sA (cS [4,3,1,2,0] 5) ?_;rintro (_|m8) _ _ ⟨p9,p10,A9,n9,c9,h,rfl,rfl⟩
  ·exact az h
  rw [f4.eq_2] at h;refine ay ?_;refine V ?_;refine gR (aG 1 J ae J hU) ?_;refine V ?_;refine aq J (fun g11=> ?_) (fun g11=> ?_)
  ·replace h:=ag g11 h;refine V ?_;refine aP (fun s L=> ∃p13 A13 n13 c13,lf N (f4 N a2 a0 m8) p10 a2 a0 p13=some r∧s=[(1,I A13 n13 c13),(2,I A4 n4 c4),(3,pV B5 0),(6,I none 0 0),(7,iV p10)]∧L=[cc A13 n13 c13 p13,eM A4 n4 c4 a2,br A1 n1 c1 a0.Young,br A2 n2 c2 a0.Old,aw B5 36 [I A1 n1 c1,I A2 n2 c2]]) ?_ ?_
   ·refine cQ ?_;refine ay ?_;refine cy O _ (ab _) ?_;refine zR 0 J (aC (us:=[I A1 n1 c1,I A2 n2 c2]) 4 J J cu J) ?_;refine zE 1 J (ax J) ?_;refine zE 2 J (ax J) ?_;obtain ⟨x14,hx14,h⟩:=aa h;obtain ⟨lx14,ux14,hx14⟩:=aj hx14;refine zR 3 J (aB 1 J ae J J hU dj lx14 ux14) ?_;refine zR 4 J (aW (u:=iV x14) 1 J ae J hx14 cM (fun _ _ _ h=>by rw [show _=_ from h];rfl)) ?_;obtain ⟨y15,hy15,h⟩:=aa h;refine zD 5 J (ak (pD hy15) yV J (hJ (ap (i:=2) J J) (hJ (ap (i:=3) J J) ai)) mv) ?_;rintro _ _ ⟨_,⟨rfl,rfl⟩,rfl⟩;refine ⟨_,ab _,ab _,?_⟩;refine zE 6 J (ax J) ?_;obtain ⟨b16,hb16,h⟩:=aa h;refine uc (fun l=>((((((((l.setIfInBounds 7 true).setIfInBounds 8 true).setIfInBounds 9 true).setIfInBounds 10 true).setIfInBounds 11 true).setIfInBounds 12 true).setIfInBounds 13 true).setIfInBounds 14 true)) 0 28 b16 (fun rest=> ?_) ?_
    ·clear h;refine wM 20 J (fun g16=> ?_) (fun g16=> ?_)
     ·have h:=ag g16 hb16;refine mi 7 J O (ax J) (aO g16 J) J ?_;refine mi 8 J O (ax J) (aO g16 J) J ?_;refine mi 9 J O (ax J) (aO g16 J) J ?_;obtain ⟨x17,hx17,h⟩:=aa h;obtain ⟨lx17,ux17,hx17⟩:=aj hx17;refine qQ 10 J O (aB 1 J ae J J hU dj lx17 ux17) (aO g16 J) J ?_;refine qQ 11 J O (aW (u:=iV x17) 1 J ae J hx17 cM (fun _ _ _ h=>by rw [show _=_ from h];rfl)) (aO g16 J) J ?_;obtain ⟨y18,hy18,h⟩:=aa h;refine Cy 12 J O (ak (Aq hy18) DE J (hJ (be (i:=0) J) ai) xc) J (aO g16 J) J ?_;rintro _ _ ⟨_,⟨rfl,rfl⟩,rfl⟩;refine ⟨_,ab _,ab _,?_⟩;refine mi 13 J O (rl J) (aO g16 J) J ?_;refine zE 14 J (cC g16 J J) ?_;obtain rfl:=ao h;exact pR rest (kn J (bc (bc (bc (bc (bc (bc (bc (bc bH J) J) J) J) J) J) J) J)) (ab _) (ab _)
     have h:=ah g16 hb16;refine ig 7 J O (cr g16 J) J ?_;refine ig 8 J O (cr g16 J) J ?_;refine ig 9 J O (cr g16 J) J ?_;refine ig 10 J O (cr g16 J) J ?_;refine ig 11 J O (cr g16 J) J ?_;refine ig 12 J O (cr g16 J) J ?_;refine ig 13 J O (cr g16 J) J ?_;refine zE 14 J (cD g16 J J) ?_;obtain rfl:=ao h;exact pR rest (kn J (bc (bc (bc (bc (bc (bc (bc (bc bH J) J) J) J) J) J) J) J)) (ab _) (ab _)
    refine cx O ?_;refine jB ?_;refine aq J (fun g19=> ?_) (fun g19=> ?_)
    ·replace h:=ag g19 h;refine V ?_;obtain ⟨x20,hx20,h⟩:=aa h;obtain ⟨lx20,ux20,hx20⟩:=aj hx20;refine gR (aB 1 J ae J J hU dj lx20 ux20) ?_;refine gR (aW (u:=iV x20) 1 J ae J hx20 cM (fun _ _ _ h=>by rw [show _=_ from h];rfl)) ?_;refine gD (aN (R:=(dn .i64)) (vss:=[[iV x20]]) (xs:=[x20]) J (dO _) J J (fun _ _ hr=> .cons J All2.nil)) ?_;rintro _ _ ⟨A21,n21,c21,rfl,rfl⟩;obtain ⟨q22,h⟩:=am h;refine gD (ba 1 0 J J aJ J J hU uE J J q22) ?_;rintro _ _ ⟨A23,n23,c23,rfl,rfl⟩;refine V ?_;exact ⟨_,_,⟨p9++([x20]:List Int),A23,n23,c23,h,J,J⟩,sA,cS [1,2,3,4,5] 6⟩
    replace h:=ah g19 h;refine V ?_;exact ⟨_,_,⟨p9,A9,n9,c9,h,J,J⟩,sA,cS [0,1,2,3,4] 5⟩
   rintro _ _ ⟨p13,A13,n13,c13,h,rfl,rfl⟩;refine V ?_;obtain ⟨q24,h⟩:=am h;refine gE (aT J J q24.1 q24.2) ?_;refine V ?_;exact ⟨m8,_,_,GD _,⟨p13,p10+1,A13,n13,c13,h,J,J⟩,sA,cS [0,1,2,3,4] 5⟩
  replace h:=ah g11 h;refine V ?_;exact ⟨_,_,⟨p9,A9,n9,c9,h,J,J⟩,sA,cS [0] 5⟩
 rintro _ _ ⟨p7,A7,n7,c7,h,rfl,rfl⟩;refine V ?_;obtain rfl:=ao h;exact aL J J (cS [0] 1) ⟨_,_,_,J,J⟩
def iA (N:Nat)(a0:Gx)(a1:Int):Option Gw:=
 (eY N a0 a1).bind fun y5=>bif !y5 then (some (⟨0,0,0,0,[],[]⟩:Gw)) else (bif decide (a1.tmod 2=1) then (bD (in64 (a1 - 1)) (bD (in64 ((a1 - 1).tdiv 2)) ((aH a0.Young ((a1 - 1).tdiv 2)).bind fun x12=>some x12))) else (bD (in64 (a1 - 2)) (bD (in64 ((a1 - 2).tdiv 2)) ((aH a0.Old ((a1 - 2).tdiv 2)).bind fun x18=>some x18))))
theorem qZ {N:Nat}{a0:Gx}{a1:Int}{r:Gw}(h:iA N a0 a1=some r):Okc Tryz.prog 31 [.agg #[I A1 n1 c1,I A2 n2 c2],iV a1] ([br A1 n1 c1 a0.Young,br A2 n2 c2 a0.Old]) (fun u post=> ∃A0 n0 c0 A1 n1 c1,u=.agg #[iV r.Kind,iV r.Shape,iV r.Flags,iV r.Age,I A0 n0 c0,I A1 n1 c1]∧post=[aS A0 n0 c0 r.Slots,aS A1 n1 c1 r.More]):=by
 refine bx Tryz.func31 J J ?_;simp only [aU];refine V ?_;refine gD (aX J J) ?_;rintro _ _ ⟨B3,rfl,rfl⟩;refine gD (aM dD J) ?_;rintro _ _ ⟨B4,rfl,rfl⟩;refine V ?_;refine ay ?_;refine V ?_;refine gR (aC (us:=[I A1 n1 c1,I A2 n2 c2]) 1 J J cu J) ?_;refine V ?_;obtain ⟨y5,hy5,h⟩:=aa h;refine gD (ak (pD hy5) yV J (hJ (ap (i:=2) J J) (hJ (ap (i:=3) J J) ai)) mv) ?_;rintro _ _ ⟨_,⟨rfl,rfl⟩,rfl⟩;refine V ?_;refine aq J (fun g6=> ?_) (fun g6=> ?_)
 ·replace h:=ag g6 h;refine V ?_;refine gE (bJ J (oL)) ?_;refine gO (au (us:=[iV 0,iV 0,iV 0,iV 0,I none 0 0,I none 0 0]) (cs':=[iV 0,iV 0,iV 0,iV 0,I none 0 0,I none 0 0]) 0 J J J J bu J J J) ?_;rintro _ _ rfl;refine V ?_;obtain rfl:=ao h;exact dl (rs:=[.cell 4 47]) (vs:=[.agg #[iV 0,iV 0,iV 0,iV 0,I none 0 0,I none 0 0]]) J (.cons (bY 0 J J bo) .nil) J ((gU aF _).trans ((gU aF _).trans (cS [1,0] 6))) ⟨_,_,_,_,_,_,J,J⟩
 replace h:=ah g6 h;refine V ?_;refine ay ?_;refine V ?_;refine gE (lM J J (by decide)) ?_;refine V ?_;refine aq J (fun g9=> ?_) (fun g9=> ?_)
 ·replace h:=ag g9 h;refine V ?_;obtain ⟨q10,h⟩:=am h;refine gE (lL J J q10.1 q10.2) ?_;obtain ⟨q11,h⟩:=am h;refine gE (rk J J (by decide) q11.1 q11.2) ?_;obtain ⟨x12,hx12,h⟩:=aa h;obtain ⟨lx12,ux12,hx12⟩:=aj hx12;refine gR (aB 2 J ae J J hP bu lx12 ux12) ?_;refine xZ 2 J hx12 (cA x12) ?_;rintro _ _ ⟨A13,n13,c13,A14,n14,c14,rfl,rfl⟩;refine gR (mr (us:=[iV x12.Kind,iV x12.Shape,iV x12.Flags,iV x12.Age,I A13 n13 c13,I A14 n14 c14]) 0 J J bo J) ?_;refine gO (au (us:=[iV x12.Kind,iV x12.Shape,iV x12.Flags,iV x12.Age,I A13 n13 c13,I A14 n14 c14]) (cs':=[iV x12.Kind,iV x12.Shape,iV x12.Flags,iV x12.Age,I A13 n13 c13,I A14 n14 c14]) 3 J J J J bu J J J) ?_;rintro _ _ rfl;refine V ?_;obtain rfl:=ao h;exact dl (rs:=[.cell 4 47]) (vs:=[.agg #[iV x12.Kind,iV x12.Shape,iV x12.Flags,iV x12.Age,I A13 n13 c13,I A14 n14 c14]]) J (.cons (bY 3 J J bo) .nil) J (cS [1,2] 7) ⟨_,_,_,_,_,_,J,J⟩
 replace h:=ah g9 h;refine V ?_;obtain ⟨q16,h⟩:=am h;refine gE (lL J J q16.1 q16.2) ?_;obtain ⟨q17,h⟩:=am h;refine gE (rk J J (by decide) q17.1 q17.2) ?_;obtain ⟨x18,hx18,h⟩:=aa h;obtain ⟨lx18,ux18,hx18⟩:=aj hx18;refine gR (aB 3 J ae J J hP bu lx18 ux18) ?_;refine xZ 3 J hx18 (cA x18) ?_;rintro _ _ ⟨A19,n19,c19,A20,n20,c20,rfl,rfl⟩;refine gR (mr (us:=[iV x18.Kind,iV x18.Shape,iV x18.Flags,iV x18.Age,I A19 n19 c19,I A20 n20 c20]) 0 J J bo J) ?_;refine gO (au (us:=[iV x18.Kind,iV x18.Shape,iV x18.Flags,iV x18.Age,I A19 n19 c19,I A20 n20 c20]) (cs':=[iV x18.Kind,iV x18.Shape,iV x18.Flags,iV x18.Age,I A19 n19 c19,I A20 n20 c20]) 3 J J J J bu J J J) ?_;rintro _ _ rfl;refine bX ?_;refine V ?_;obtain rfl:=ao h;exact dl (rs:=[.cell 4 47]) (vs:=[.agg #[iV x18.Kind,iV x18.Shape,iV x18.Flags,iV x18.Age,I A19 n19 c19,I A20 n20 c20]]) J (.cons (bY 3 J J bo) .nil) J (cS [1,2] 7) ⟨_,_,_,_,_,_,J,J⟩
def nH (N:Nat)(p6:(List Int)):Option (List Int):=
 some p6
def f0 (N:Nat)(a0:Gx):Nat→(List Int)→Int→Option (List Int)
 |0,_,_=>none
 |m7+1,p8,p9=>bif decide (p9<(p8.length:Int)) then ((aH p8 p9).bind fun x11=>(iA N a0 x11).bind fun y12=>(fk N y12).bind fun y17=>(ia N a0 p8 y17).bind fun y20=>bD (in64 (p9+1)) ((f0 N a0 m7) y20 (p9+1))) else (nH N p8)
def dU (N:Nat)(a0:Gx)(a1:(List Int))(a2:Int):Option (List Int):=
 f0 N a0 N a1 a2
theorem nG {N:Nat}{a0:Gx}{a1:(List Int)}{a2:Int}{r:(List Int)}(h:dU N a0 a1 a2=some r):Okc Tryz.prog 105 [.agg #[I A1 n1 c1,I A2 n2 c2],I A3 n3 c3,iV a2] ([br A1 n1 c1 a0.Young,br A2 n2 c2 a0.Old,cc A3 n3 c3 a1]) (fun u post=> ∃A0 n0 c0,u=I A0 n0 c0∧post=[cc A0 n0 c0 r]):=by
 refine bx Tryz.func105 J J ?_;simp only [aU];refine V ?_;refine gD (aX J J) ?_;rintro _ _ ⟨B4,rfl,rfl⟩;refine V ?_;refine aP (fun s L=> ∃p6 A6 n6 c6,nH N p6=some r∧s=[(1,I A6 n6 c6),(6,I none 0 0)]∧L=[cc A6 n6 c6 p6]) ?_ ?_
 ·refine V ?_;refine aZ (fun m s L=> ∃p8 p9 A8 n8 c8,f0 N a0 m p8 p9=some r∧s=[(1,I A8 n8 c8),(3,pV B4 0),(6,I none 0 0),(7,iV p9)]∧L=[cc A8 n8 c8 p8,br A1 n1 c1 a0.Young,br A2 n2 c2 a0.Old,aw B4 36 [I A1 n1 c1,I A2 n2 c2]]) N _ _ ⟨a1,a2,A3,n3,c3,h,J,J⟩ sA (cS [3,1,2,0] 4) ?_;rintro (_|m7) _ _ ⟨p8,p9,A8,n8,c8,h,rfl,rfl⟩
  ·exact az h
  rw [f0.eq_2] at h;refine ay ?_;refine V ?_;refine gR (aG 0 J aJ J hU) ?_;refine V ?_;refine aq J (fun g10=> ?_) (fun g10=> ?_)
  ·replace h:=ag g10 h;refine V ?_;refine ay ?_;refine cQ ?_;obtain ⟨x11,hx11,h⟩:=aa h;obtain ⟨lx11,ux11,hx11⟩:=aj hx11;obtain ⟨y12,hy12,h⟩:=aa h;obtain ⟨y17,hy17,h⟩:=aa h;refine dP (t:=[(1,I A8 n8 c8),(3,pV B4 0),(6,I none 0 0),(7,iV p9)]) ?_ gA (ab _)
   refine eR O 9 [] [0,1,8] [15,16,17,18,19,20,21,22,23] [[],[],[],[],[],[3,4],[5],[2,6],[7]] [aV (.agg #[I A1 n1 c1,I A2 n2 c2]),
 aV (I A8 n8 c8),
 aV (.agg #[I A1 n1 c1,I A2 n2 c2]),
 aV (I A8 n8 c8),
 aV (iV p9),
 aV (bO (I A8 n8 c8) p9.toNat 1 0),
 aV (iV x11),
 aX6 (fun (A15:Option Addr) (n15 c15:Nat) (A16:Option Addr) (n16 c16:Nat)=> .agg #[iV y12.Kind,iV y12.Shape,iV y12.Flags,iV y12.Age,I A15 n15 c15,I A16 n16 c16]) (fun A15 n15 c15 A16 n16 c16=> [aS A15 n15 c15 y12.Slots,aS A16 n16 c16 y12.More]),
 aX3 (fun (A19:Option Addr) (n19 c19:Nat)=> I A19 n19 c19) (fun A19 n19 c19=> [cc A19 n19 c19 y17])] [] (ab _) (gu) O rfl rfl ?_ ?_ ?_
   ·exact gt
   ·refine ac J ?_ ?_
    ·intro A15 n15 c15 A16 n16 c16;refine fx (ak (mE hy17) wB J (hJ (ap (i:=0) J J) (hJ (ap (i:=1) J J) ai)) kG) J ?_;rintro _ _ ⟨_,⟨A18,n18,c18,rfl,rfl⟩,rfl⟩;exact iT A18 n18 c18 (ab _)
    refine ac J ?_ ?_
    ·refine fx (cw (qZ hy12) yT J (bq [1,2] [] [0,1,2,3] 4 J)) J ?_;rintro _ _ ⟨_,⟨A13,n13,c13,A14,n14,c14,rfl,rfl⟩,rfl⟩;exact AN A13 n13 c13 A14 n14 c14 (ab _)
    refine ac J ?_ ?_
    ·exact bT (aW (u:=iV x11) 0 J aJ J hx11 cM (fun _ _ _ h=>by rw [show _=_ from h];rfl)) J (aA J (ab _))
    refine ac J ?_ ?_
    ·exact bT (aB 0 J aJ J J hU dj lx11 ux11) J (aA J (ab _))
    refine ac J ?_ ?_
    ·exact bh (ax J) J (aA J (ab _))
    refine ac J ?_ ?_
    ·exact bh (ax J) J (aA J (ab _))
    refine ac J ?_ ?_
    ·exact bT (aC (us:=[I A1 n1 c1,I A2 n2 c2]) 3 J J cu J) J (aA J (ab _))
    refine ac J ?_ ?_
    ·exact bh (ax J) J (aA J (ab _))
    refine ac J ?_ ?_
    ·exact bT (aC (us:=[I A1 n1 c1,I A2 n2 c2]) 3 J J cu J) J (aA J (ab _))
    exact dh
   intro A19 n19 c19;refine gP (t:=[(15,.agg #[I A1 n1 c1,I A2 n2 c2]),(16,I A8 n8 c8),(23,I A19 n19 c19),(1,I A8 n8 c8),(3,pV B4 0),(6,I none 0 0),(7,iV p9)]) (L':=[cc A19 n19 c19 y17,cc A8 n8 c8 p8,br A1 n1 c1 a0.Young,br A2 n2 c2 a0.Old,aw B4 36 [I A1 n1 c1,I A2 n2 c2]]) ?_ gA (ab _);refine gP ?_ bH (cg 0 J);obtain ⟨y20,hy20,h⟩:=aa h;refine kR 9 J O (cw (pB hy20) wF J (bq [2,3,0] [1] [0,2,3,4] 5 J)) J J J ?_;rintro _ _ ⟨_,⟨A21,n21,c21,rfl,rfl⟩,rfl⟩;refine pS 10 J O (bz J) J J J ?_;refine gx O ?_;refine V ?_;obtain ⟨q22,h⟩:=am h;refine gE (aT J J q22.1 q22.2) ?_;refine V ?_;exact ⟨m7,_,_,GD _,⟨y20,p9+1,A21,n21,c21,h,J,J⟩,sA,cS [0,2,3,4] 5⟩
  replace h:=ah g10 h;refine V ?_;exact ⟨_,_,⟨p8,A8,n8,c8,h,J,J⟩,sA,cS [0] 4⟩
 rintro _ _ ⟨p6,A6,n6,c6,h,rfl,rfl⟩;refine V ?_;obtain rfl:=ao h;exact aL J J (cS [0] 1) ⟨_,_,_,J,J⟩
def nL (N:Nat)(a0:Gw):Option Bool:=
 (bif decide (a0.Kind=8) then ((bP N a0).bind fun y5=>some y5) else (some false)).bind fun b4=>some b4
theorem uR {N:Nat}{a0:Gw}{r:Bool}(h:nL N a0=some r):Okc Tryz.prog 182 [.agg #[iV a0.Kind,iV a0.Shape,iV a0.Flags,iV a0.Age,I A1 n1 c1,I A2 n2 c2]] ([aS A1 n1 c1 a0.Slots,aS A2 n2 c2 a0.More]) (fun u post=>u=.bool r∧post=[]):=by
 refine bx Tryz.func182 J J ?_;simp only [aU];refine V ?_;refine gD (aX J J) ?_;rintro _ _ ⟨B3,rfl,rfl⟩;refine V ?_;obtain ⟨b4,hb4,h⟩:=aa h;refine aD 3 9 b4 ?_ ?_
 ·clear h;refine aE 6 J (fun g4=> ?_) (fun g4=> ?_)
  ·have h:=ag g4 hb4;refine bA (aC (us:=[iV a0.Kind,iV a0.Shape,iV a0.Flags,iV a0.Age,I A1 n1 c1,I A2 n2 c2]) 0 J J bo J) J (aO g4 J) J ?_;obtain ⟨y5,hy5,h⟩:=aa h;refine ca (ak (mD hy5) wD J (hJ (ap (i:=1) J J) (hJ (ap (i:=2) J J) ai)) kF) J (aO g4 J) J ?_;rintro _ _ ⟨_,⟨rfl,rfl⟩,rfl⟩;refine V ?_;obtain rfl:=ao h;exact ad sA (cS [0,1,2] 3)
  have h:=ah g4 hb4;refine V ?_;obtain rfl:=ao h;exact ad sA (cS [0,1,2] 3)
 refine V ?_;obtain rfl:=ao h;exact aL J J (cS [] 3) ⟨J,J⟩
theorem rP {r:Bool}: ∀v post,((fun (u:Value) (post:List Chunk)=>u=.bool r∧post=[])) v post→ ∀c∈post,bR c:=by
 rintro _ _ ⟨rfl,rfl⟩;exact ai
def uT (N:Nat):Option Bool:=
 some false
def oz (N:Nat)(a0:Int)(a1:(List Int)):Nat→Int→Option Bool
 |0,_=>none
 |m3+1,p4=>bif decide (p4<(a1.length:Int)) then ((aH a1 p4).bind fun x6=>bif decide (x6=a0) then (some true) else (bD (in64 (p4+1)) ((oz N a0 a1 m3) (p4+1)))) else (uT N)
def nM (N:Nat)(a0:Int)(a1:(List Int)):Option Bool:=
 oz N a0 a1 N 0
theorem uS {N:Nat}{a0:Int}{a1:(List Int)}{r:Bool}(h:nM N a0 a1=some r):Okc Tryz.prog 55 [iV a0,I A1 n1 c1] ([eM A1 n1 c1 a1]) (fun u post=>u=.bool r∧post=[]):=by
 refine bx Tryz.func55 J J ?_;simp only [aU];refine V ?_;refine aP (fun s L=>uT N=some r∧s=[(4,.bool false)]∧L=[]) ?_ ?_
 ·refine V ?_;refine aZ (fun m s L=> ∃p4,oz N a0 a1 m p4=some r∧s=[(0,iV a0),(1,I A1 n1 c1),(4,.bool false),(5,iV p4)]∧L=[eM A1 n1 c1 a1]) N _ _ ⟨0,h,J,J⟩ sA (cS [0] 1) ?_;rintro (_|m3) _ _ ⟨p4,h,rfl,rfl⟩
  ·exact az h
  rw [oz.eq_2] at h;refine ay ?_;refine V ?_;refine gR (aG 0 J ae J hU) ?_;refine V ?_;refine aq J (fun g5=> ?_) (fun g5=> ?_)
  ·replace h:=ag g5 h;refine V ?_;refine ay ?_;refine V ?_;obtain ⟨x6,hx6,h⟩:=aa h;obtain ⟨lx6,ux6,hx6⟩:=aj hx6;refine gR (aB 0 J ae J J hU dj lx6 ux6) ?_;refine gR (aW (u:=iV x6) 0 J ae J hx6 cM (fun _ _ _ h=>by rw [show _=_ from h];rfl)) ?_;refine V ?_;refine aq J (fun g7=> ?_) (fun g7=> ?_)
   ·replace h:=ag g7 h;refine V ?_;obtain rfl:=ao h;exact aL J J (cS [] 1) ⟨J,J⟩
   replace h:=ah g7 h;refine V ?_;obtain ⟨q8,h⟩:=am h;refine gE (aT J J q8.1 q8.2) ?_;refine V ?_;exact ⟨m3,_,_,GD _,⟨p4+1,h,J,J⟩,sA,cS [0] 1⟩
  replace h:=ah g5 h;refine V ?_;exact ⟨_,_,⟨h,J,J⟩,sA,cS [] 1⟩
 rintro _ _ ⟨h,rfl,rfl⟩;refine V ?_;obtain rfl:=ao h;exact aL J J (cS [] 0) ⟨J,J⟩
theorem rQ {r:Bool}: ∀v post,((fun (u:Value) (post:List Chunk)=>u=.bool r∧post=[])) v post→ ∀c∈post,bR c:=by
 rintro _ _ ⟨rfl,rfl⟩;exact ai
def mA (N:Nat)(p6:(List Int)):Option (List Int):=
 some p6
def jp (N:Nat)(kb7:(List Int)→Int→Option (List Int))(p9:Int)(a1:(List Int))(a0:Gw)(p15:(List Int)):Option (List Int):=
 bD (in64 (p9+2)) (kb7 p15 (p9+2))
def gi (N:Nat)(a1:(List Int))(a0:Gw):Nat→(List Int)→Int→Option (List Int)
 |0,_,_=>none
 |m7+1,p8,p9=>(nL N a0).bind fun y11=>(bif y11 then (some (decide (p9<(a0.More.length:Int)))) else (some false)).bind fun b12=>bif b12 then (bD (in64 (p9+1)) ((aH a0.More (p9+1)).bind fun x17=>(aH a0.More p9).bind fun x19=>(nM N x19.N a1).bind fun y20=>(bif y20 then ((bif decide (x17.Kind=7) then (some true) else (some (decide (x17.Kind=9)))).bind fun b22=>some b22) else (some false)).bind fun b21=>bif b21 then (bD (bN (p8.length+([x17.N]:List Int).length)) (jp N (gi N a1 a0 m7) p9 a1 a0 (p8++([x17.N]:List Int)))) else (jp N (gi N a1 a0 m7) p9 a1 a0 p8))) else (mA N p8)
def li (N:Nat)(a0:Gw)(a1:(List Int)):Option (List Int):=
 gi N a1 a0 N [] 0
set_option maxHeartbeats 4000000 in
theorem vX {N:Nat}{a0:Gw}{a1:(List Int)}{r:(List Int)}(h:li N a0 a1=some r):Okc Tryz.prog 110 [.agg #[iV a0.Kind,iV a0.Shape,iV a0.Flags,iV a0.Age,I A1 n1 c1,I A2 n2 c2],I A3 n3 c3] ([aS A1 n1 c1 a0.Slots,aS A2 n2 c2 a0.More,eM A3 n3 c3 a1]) (fun u post=> ∃A0 n0 c0,u=I A0 n0 c0∧post=[cc A0 n0 c0 r]):=by
 refine bx Tryz.func110 J J ?_;simp only [aU];refine V ?_;refine gD (aX J J) ?_;rintro _ _ ⟨B4,rfl,rfl⟩;refine V ?_;refine aP (fun s L=> ∃p6 A6 n6 c6,mA N p6=some r∧s=[(4,I none 0 0),(5,I A6 n6 c6)]∧L=[cc A6 n6 c6 p6]) ?_ ?_
 ·refine V ?_;refine aZ (fun m s L=> ∃p8 p9 A8 n8 c8,gi N a1 a0 m p8 p9=some r∧s=[(1,I A3 n3 c3),(2,pV B4 0),(4,I none 0 0),(5,I A8 n8 c8),(6,iV p9)]∧L=[eM A3 n3 c3 a1,cc A8 n8 c8 p8,aS A1 n1 c1 a0.Slots,aS A2 n2 c2 a0.More,aw B4 47 [iV a0.Kind,iV a0.Shape,iV a0.Flags,iV a0.Age,I A1 n1 c1,I A2 n2 c2]]) N _ _ ⟨[],0,none,0,0,h,J,J⟩ sA ((bL (dn .i64) 3 _).trans (cS [4,0,2,3,1] 5)) ?_;rintro (_|m7) _ _ ⟨p8,p9,A8,n8,c8,h,rfl,rfl⟩
  ·exact az h
  rw [gi.eq_2] at h;refine ay ?_;refine V ?_;refine gR (aC (us:=[iV a0.Kind,iV a0.Shape,iV a0.Flags,iV a0.Age,I A1 n1 c1,I A2 n2 c2]) 4 J J bo J) ?_;obtain ⟨y11,hy11,h⟩:=aa h;refine gD (ak (uR hy11) zP J (hJ (ap (i:=2) J J) (hJ (ap (i:=3) J J) ai)) rP) ?_;rintro _ _ ⟨_,⟨rfl,rfl⟩,rfl⟩;refine V ?_;obtain ⟨b12,hb12,h⟩:=aa h;refine aD 6 16 b12 ?_ ?_
  ·clear h;refine aE 10 J (fun g12=> ?_) (fun g12=> ?_)
   ·have h:=ag g12 hb12;refine V ?_;refine bA (aG 3 J ae J hO) J (aO g12 J) J ?_;refine V ?_;obtain rfl:=ao h;exact ad sA (cS [0,1,2,3,4] 5)
   have h:=ah g12 hb12;refine V ?_;obtain rfl:=ao h;exact ad sA (cS [0,1,2,3,4] 5)
  refine V ?_;refine aq J (fun g13=> ?_) (fun g13=> ?_)
  ·replace h:=ag g13 h;refine V ?_;refine aP (fun s L=> ∃p15 A15 n15 c15,jp N (gi N a1 a0 m7) p9 a1 a0 p15=some r∧s=[(1,I A3 n3 c3),(2,pV B4 0),(4,I none 0 0),(5,I A15 n15 c15),(6,iV p9)]∧L=[eM A3 n3 c3 a1,cc A15 n15 c15 p15,aS A1 n1 c1 a0.Slots,aS A2 n2 c2 a0.More,aw B4 47 [iV a0.Kind,iV a0.Shape,iV a0.Flags,iV a0.Age,I A1 n1 c1,I A2 n2 c2]]) ?_ ?_
   ·refine V ?_;obtain ⟨q16,h⟩:=am h;refine gE (aT J J q16.1 q16.2) ?_;obtain ⟨x17,hx17,h⟩:=aa h;obtain ⟨lx17,ux17,hx17⟩:=aj hx17;refine gR (aB 3 J ae J J hO aI lx17 ux17) ?_;refine gR (aQ (us:=ar x17) 3 J ae J hx17 bn (fun _ _ _ h=>by rw [show _=_ from h];rfl)) ?_;refine gD (aM gr J) ?_;rintro _ _ ⟨B18,rfl,rfl⟩;refine gO (au (us:=ar x17) (cs':=ar x17) 0 J J J J aI J J J) ?_;rintro _ _ rfl;refine V ?_;obtain ⟨x19,hx19,h⟩:=aa h;obtain ⟨lx19,ux19,hx19⟩:=aj hx19;refine gR (aB 4 J ae J J hO aI lx19 ux19) ?_;refine gR (lc 4 J ae J (bB lx19 ux19) iL) ?_;refine gR (aW (u:=iV x19.N) 4 J ae J hx19 cM (fun _ _ _ h=>by rw [show _=_ from h];rfl)) ?_;refine V ?_;obtain ⟨y20,hy20,h⟩:=aa h;refine gD (ak (uS hy20) Cg J (hJ (ap (i:=1) J J) ai) rQ) ?_;rintro _ _ ⟨_,⟨rfl,rfl⟩,rfl⟩;refine V ?_;obtain ⟨b21,hb21,h⟩:=aa h;refine aD 9 42 b21 ?_ ?_
    ·clear h;refine aE 33 J (fun g21=> ?_) (fun g21=> ?_)
     ·have h:=ag g21 hb21;refine V ?_;obtain ⟨b22,hb22,h⟩:=aa h;refine aD 4 41 b22 ?_ ?_
      ·clear h;refine aE 37 J (fun g22=> ?_) (fun g22=> ?_)
       ·have h:=ag g22 hb22;refine V ?_;obtain rfl:=ao h;exact ad sA (cS [0,1,2,3,4,5] 6)
       have h:=ah g22 hb22;refine V ?_;obtain rfl:=ao h;exact ad sA (cS [0,1,2,3,4,5] 6)
      refine V ?_;obtain rfl:=ao h;exact ad sA (cS [0,1,2,3,4,5] 6)
     have h:=ah g21 hb21;refine V ?_;obtain rfl:=ao h;exact ad sA (cS [0,1,2,3,4,5] 6)
    refine V ?_;refine aq J (fun g23=> ?_) (fun g23=> ?_)
    ·replace h:=ag g23 h;refine V ?_;refine gD (aN (R:=(dn .i64)) (vss:=[[iV x17.N]]) (xs:=[x17.N]) J (dO _) J J (fun _ _ hr=> .cons J All2.nil)) ?_;rintro _ _ ⟨A24,n24,c24,rfl,rfl⟩;obtain ⟨q25,h⟩:=am h;refine gD (ba 3 0 J J aJ J J hU uE J J q25) ?_;rintro _ _ ⟨A26,n26,c26,rfl,rfl⟩;refine V ?_;exact ⟨_,_,⟨p8++([x17.N]:List Int),A26,n26,c26,h,J,J⟩,sA,cS [2,3,4,5,6] 7⟩
    replace h:=ah g23 h;refine V ?_;exact ⟨_,_,⟨p8,A8,n8,c8,h,J,J⟩,sA,cS [1,2,3,4,5] 6⟩
   rintro _ _ ⟨p15,A15,n15,c15,h,rfl,rfl⟩;refine V ?_;obtain ⟨q27,h⟩:=am h;refine gE (aT J J q27.1 q27.2) ?_;refine V ?_;exact ⟨m7,_,_,GD _,⟨p15,p9+2,A15,n15,c15,h,J,J⟩,sA,cS [0,1,2,3,4] 5⟩
  replace h:=ah g13 h;refine V ?_;exact ⟨_,_,⟨p8,A8,n8,c8,h,J,J⟩,sA,cS [1] 5⟩
 rintro _ _ ⟨p6,A6,n6,c6,h,rfl,rfl⟩;refine V ?_;obtain rfl:=ao h;exact aL J J (cS [0] 1) ⟨_,_,_,J,J⟩
theorem tr {r:(List Int)}: ∀v post,((fun (u:Value) (post:List Chunk)=> ∃A0 n0 c0,u=I A0 n0 c0∧post=[cc A0 n0 c0 r])) v post→ ∀c∈post,bR c:=by
 rintro _ _ ⟨_,_,_,rfl,rfl⟩;exact hJ bm (ai)
def lD (N:Nat)(kb12:(List Int)→Option (List Int))(p13:(List Int))(a0:Gx)(p15:(List Int)):Option (List Int):=
 bif decide ((p15.length:Int)=(p13.length:Int)) then (some p15) else ((dU N a0 p15 (p13.length:Int)).bind fun y33=>kb12 y33)
def fK (N:Nat)(kb12:(List Int)→Option (List Int))(p13:(List Int))(a0:Gx):Nat→(List Int)→Int→Option (List Int)
 |0,_,_=>none
 |m16+1,p17,p18=>bif decide (p18<(p13.length:Int)) then ((aH p17 p18).bind fun x20=>(iA N a0 x20).bind fun y21=>(li N y21 p17).bind fun y26=>(ia N a0 p17 y26).bind fun y29=>bD (in64 (p18+1)) ((fK N kb12 p13 a0 m16) y29 (p18+1))) else (lD N kb12 p13 a0 p17)
def cX (N:Nat)(a0:Gx):Nat→(List Int)→Option (List Int)
 |0,_=>none
 |m12+1,p13=>fK N (cX N a0 m12) p13 a0 N p13 0
def f5 (N:Nat)(a0:Gx)(a1:(List Gu)):Option (List Int):=
 (dG N a1).bind fun y5=>(ia N a0 ([]:List Int) y5).bind fun y8=>(dU N a0 y8 0).bind fun y10=>cX N a0 N y10
set_option maxHeartbeats 4000000 in
theorem vU {N:Nat}{a0:Gx}{a1:(List Gu)}{r:(List Int)}(h:f5 N a0 a1=some r):Okc Tryz.prog 40 [.agg #[I A1 n1 c1,I A2 n2 c2],I A3 n3 c3] ([br A1 n1 c1 a0.Young,br A2 n2 c2 a0.Old,aS A3 n3 c3 a1]) (fun u post=> ∃A0 n0 c0,u=I A0 n0 c0∧post=[cc A0 n0 c0 r]):=by
 refine bx Tryz.func40 J J ?_;simp only [aU];refine V ?_;refine gD (aX J J) ?_;rintro _ _ ⟨B4,rfl,rfl⟩;refine V ?_;refine ay ?_;refine cy O _ (ab _) ?_;refine zR 0 J (aC (us:=[I A1 n1 c1,I A2 n2 c2]) 0 J J cu J) ?_;refine zR 1 J (aC (us:=[I A1 n1 c1,I A2 n2 c2]) 0 J J cu J) ?_;refine zE 2 J (ax J) ?_;obtain ⟨y5,hy5,h⟩:=aa h;refine zD 3 J (ak (qY hy5) DW J (hJ (ap (i:=3) J J) ai) pC) ?_;rintro _ _ ⟨_,⟨A6,n6,c6,rfl,rfl⟩,rfl⟩;refine gX (cS [1,2,3,4] 5) ?_;refine Eh (bL (dn .i64) 3 _) (cS [2,3,4,5] 6) ?_;refine Eh (cg 1 J) (cS [2,3,4,5] 6) ?_;obtain ⟨y8,hy8,h⟩:=aa h;refine zD 4 J (cw (pB hy8) wF J (bq [3,4,1] [0] [1,2,3,4,5] 6 J)) ?_;rintro _ _ ⟨_,⟨A9,n9,c9,rfl,rfl⟩,rfl⟩;refine gX (cS [2,3,4,5] 6) ?_;obtain ⟨y10,hy10,h⟩:=aa h;refine zD 5 J (cw (nG hy10) zX J (bq [3,4] [0] [1,2,3,4,5] 6 J)) ?_;rintro _ _ ⟨_,⟨A11,n11,c11,rfl,rfl⟩,rfl⟩;refine gX (cS [2,3,4,5] 6) ?_;refine zE 6 J (bz J) ?_;refine cx O ?_;refine V ?_;refine aZ (fun m s L=> ∃p13 A13 n13 c13,cX N a0 m p13=some r∧s=[(2,pV B4 0),(4,I none 0 0),(5,I A13 n13 c13)]∧L=[cc A13 n13 c13 p13,br A1 n1 c1 a0.Young,br A2 n2 c2 a0.Old,aw B4 36 [I A1 n1 c1,I A2 n2 c2]]) N _ _ ⟨y10,A11,n11,c11,h,J,J⟩ sA (cS [0,3,4,2] 6) ?_;rintro (_|m12) _ _ ⟨p13,A13,n13,c13,h,rfl,rfl⟩
 ·exact az h
 rw [cX.eq_2] at h;refine V ?_;refine gR (aG 0 J aJ J hU) ?_;refine V ?_;refine aP (fun s L=> ∃p15 A15 n15 c15,lD N (cX N a0 m12) p13 a0 p15=some r∧s=[(2,pV B4 0),(4,I none 0 0),(5,I A15 n15 c15),(6,iV (p13.length:Int))]∧L=[cc A15 n15 c15 p15,br A1 n1 c1 a0.Young,br A2 n2 c2 a0.Old,aw B4 36 [I A1 n1 c1,I A2 n2 c2]]) ?_ ?_
 ·refine V ?_;refine aZ (fun m s L=> ∃p17 p18 A17 n17 c17,fK N (cX N a0 m12) p13 a0 m p17 p18=some r∧s=[(2,pV B4 0),(4,I none 0 0),(5,I A17 n17 c17),(6,iV (p13.length:Int)),(7,iV p18)]∧L=[cc A17 n17 c17 p17,br A1 n1 c1 a0.Young,br A2 n2 c2 a0.Old,aw B4 36 [I A1 n1 c1,I A2 n2 c2]]) N _ _ ⟨p13,0,A13,n13,c13,h,J,J⟩ sA (cS [0,1,2,3] 4) ?_;rintro (_|m16) _ _ ⟨p17,p18,A17,n17,c17,h,rfl,rfl⟩
  ·exact az h
  rw [fK.eq_2] at h;refine ay ?_;refine V ?_;refine aq J (fun g19=> ?_) (fun g19=> ?_)
  ·replace h:=ag g19 h;refine V ?_;refine ay ?_;refine cQ ?_;obtain ⟨x20,hx20,h⟩:=aa h;obtain ⟨lx20,ux20,hx20⟩:=aj hx20;obtain ⟨y21,hy21,h⟩:=aa h;obtain ⟨y26,hy26,h⟩:=aa h;refine dP (t:=[(2,pV B4 0),(4,I none 0 0),(5,I A17 n17 c17),(6,iV (p13.length:Int)),(7,iV p18)]) ?_ gA (ab _)
   refine eR O 10 [] [0,1,9] [21,22,23,24,25,26,27,28,29,30] [[],[],[],[],[],[3,4],[5],[2,6],[],[7,8]] [aV (.agg #[I A1 n1 c1,I A2 n2 c2]),
 aV (I A17 n17 c17),
 aV (.agg #[I A1 n1 c1,I A2 n2 c2]),
 aV (I A17 n17 c17),
 aV (iV p18),
 aV (bO (I A17 n17 c17) p18.toNat 1 0),
 aV (iV x20),
 aX6 (fun (A24:Option Addr) (n24 c24:Nat) (A25:Option Addr) (n25 c25:Nat)=> .agg #[iV y21.Kind,iV y21.Shape,iV y21.Flags,iV y21.Age,I A24 n24 c24,I A25 n25 c25]) (fun A24 n24 c24 A25 n25 c25=> [aS A24 n24 c24 y21.Slots,aS A25 n25 c25 y21.More]),
 aV (I A17 n17 c17),
 aX3 (fun (A28:Option Addr) (n28 c28:Nat)=> I A28 n28 c28) (fun A28 n28 c28=> [cc A28 n28 c28 y26])] [] (ab _) (gu) O rfl rfl ?_ ?_ ?_
   ·exact gt
   ·refine ac J ?_ ?_
    ·intro A24 n24 c24 A25 n25 c25;refine fx (ak (vX hy26) DR J (hJ (ap (i:=0) J J) (hJ (ap (i:=1) J J) (hJ (be (i:=2) J) ai))) tr) J ?_;rintro _ _ ⟨_,⟨A27,n27,c27,rfl,rfl⟩,rfl⟩;exact iT A27 n27 c27 (ab _)
    refine ac J ?_ ?_
    ·exact bh (ax J) J (aA J (ab _))
    refine ac J ?_ ?_
    ·refine fx (cw (qZ hy21) yT J (bq [1,2] [] [0,1,2,3] 4 J)) J ?_;rintro _ _ ⟨_,⟨A22,n22,c22,A23,n23,c23,rfl,rfl⟩,rfl⟩;exact AN A22 n22 c22 A23 n23 c23 (ab _)
    refine ac J ?_ ?_
    ·exact bT (aW (u:=iV x20) 0 J aJ J hx20 cM (fun _ _ _ h=>by rw [show _=_ from h];rfl)) J (aA J (ab _))
    refine ac J ?_ ?_
    ·exact bT (aB 0 J aJ J J hU dj lx20 ux20) J (aA J (ab _))
    refine ac J ?_ ?_
    ·exact bh (ax J) J (aA J (ab _))
    refine ac J ?_ ?_
    ·exact bh (ax J) J (aA J (ab _))
    refine ac J ?_ ?_
    ·exact bT (aC (us:=[I A1 n1 c1,I A2 n2 c2]) 3 J J cu J) J (aA J (ab _))
    refine ac J ?_ ?_
    ·exact bh (ax J) J (aA J (ab _))
    refine ac J ?_ ?_
    ·exact bT (aC (us:=[I A1 n1 c1,I A2 n2 c2]) 3 J J cu J) J (aA J (ab _))
    exact dh
   intro A28 n28 c28;refine gP (t:=[(21,.agg #[I A1 n1 c1,I A2 n2 c2]),(22,I A17 n17 c17),(30,I A28 n28 c28),(2,pV B4 0),(4,I none 0 0),(5,I A17 n17 c17),(6,iV (p13.length:Int)),(7,iV p18)]) (L':=[cc A28 n28 c28 y26,cc A17 n17 c17 p17,br A1 n1 c1 a0.Young,br A2 n2 c2 a0.Old,aw B4 36 [I A1 n1 c1,I A2 n2 c2]]) ?_ gA (ab _);refine gP ?_ bH (cg 0 J);obtain ⟨y29,hy29,h⟩:=aa h;refine kR 10 J O (cw (pB hy29) wF J (bq [2,3,0] [1] [0,2,3,4] 5 J)) J J J ?_;rintro _ _ ⟨_,⟨A30,n30,c30,rfl,rfl⟩,rfl⟩;refine pS 11 J O (bz J) J J J ?_;refine gx O ?_;refine V ?_;obtain ⟨q31,h⟩:=am h;refine gE (aT J J q31.1 q31.2) ?_;refine V ?_;exact ⟨m16,_,_,GD _,⟨y29,p18+1,A30,n30,c30,h,J,J⟩,sA,cS [0,2,3,4] 5⟩
  replace h:=ah g19 h;refine V ?_;exact ⟨_,_,⟨p17,A17,n17,c17,h,J,J⟩,sA,cS [0,1,2,3] 4⟩
 rintro _ _ ⟨p15,A15,n15,c15,h,rfl,rfl⟩;refine ay ?_;refine V ?_;refine gR (aG 0 J aJ J hU) ?_;refine V ?_;refine aq J (fun g32=> ?_) (fun g32=> ?_)
 ·replace h:=ag g32 h;refine V ?_;obtain rfl:=ao h;exact aL J J (cS [0] 4) ⟨_,_,_,J,J⟩
 replace h:=ah g32 h;refine V ?_;refine gR (aC (us:=[I A1 n1 c1,I A2 n2 c2]) 3 J J cu J) ?_;refine V ?_;obtain ⟨y33,hy33,h⟩:=aa h;refine gD (cw (nG hy33) zX J (bq [1,2] [0] [1,2,3] 4 J)) ?_;rintro _ _ ⟨_,⟨A34,n34,c34,rfl,rfl⟩,rfl⟩;refine bX ?_;refine V ?_;exact ⟨m12,_,_,GD _,⟨y33,A34,n34,c34,h,J,J⟩,sA,cS [0,1,2,3] 4⟩
theorem tp {r:(List Int)}: ∀v post,((fun (u:Value) (post:List Chunk)=> ∃A0 n0 c0,u=I A0 n0 c0∧post=[cc A0 n0 c0 r])) v post→ ∀c∈post,bR c:=by
 rintro _ _ ⟨_,_,_,rfl,rfl⟩;exact hJ bm (ai)
def lC (N:Nat)(p6:(List Int)):Option (List Int):=
 some p6
def iu (N:Nat)(kb7:(List Int)→Int→Option (List Int))(p9:Int)(p12:(List Int)):Option (List Int):=
 bD (in64 (p9+1)) (kb7 p12 (p9+1))
def f3 (N:Nat)(kb7:(List Int)→Int→Option (List Int))(p9:Int):Nat→(List Int)→Int→Option (List Int)
 |0,_,_=>none
 |m13+1,p14,p15=>(bif decide (0<p15) then (bD (in64 (p15 - 1)) ((aH p14 (p15 - 1)).bind fun x18=>(aH p14 p15).bind fun x19=>some (decide (x19<x18)))) else (some false)).bind fun b16=>bif b16 then ((aH p14 p15).bind fun x21=>bD (in64 (p15 - 1)) ((aH p14 (p15 - 1)).bind fun x23=>(aH p14 p15).bind fun x24=>bD (in64 (p15 - 1)) ((aH (List.set p14 p15.toNat x23) (p15 - 1)).bind fun x26=>bD (in64 (p15 - 1)) ((f3 N kb7 p9 m13) (List.set (List.set p14 p15.toNat x23) ((p15 - 1).toNat) x21) (p15 - 1))))) else (iu N kb7 p9 p14)
def cL (N:Nat):Nat→(List Int)→Int→Option (List Int)
 |0,_,_=>none
 |m7+1,p8,p9=>bif decide (p9<(p8.length:Int)) then (f3 N (cL N m7) p9 N p8 p9) else (lC N p8)
def iv (N:Nat)(a0:(List Int)):Option (List Int):=
 bD (bN (([]:List Int).length+a0.length)) (cL N N (([]:List Int)++a0) 1)
set_option maxHeartbeats 4000000 in
theorem um {N:Nat}{a0:(List Int)}{r:(List Int)}(h:iv N a0=some r):Okc Tryz.prog 104 [I A1 n1 c1] ([eM A1 n1 c1 a0]) (fun u post=> ∃A0 n0 c0,u=I A0 n0 c0∧post=[cc A0 n0 c0 r]):=by
 refine bx Tryz.func104 J J ?_;simp only [aU];refine V ?_;refine gD (aN (R:=(dn .i64)) (vss:=[]) (xs:=[]) J (qO) J J (fun _ _ hr=>All2.nil)) ?_;rintro _ _ ⟨A2,n2,c2,rfl,rfl⟩;refine V ?_;obtain ⟨q3,h⟩:=am h;refine gD (ba 0 1 J J ae J J hU uE J J q3) ?_;rintro _ _ ⟨A4,n4,c4,rfl,rfl⟩;refine V ?_;refine aP (fun s L=> ∃p6 A6 n6 c6,lC N p6=some r∧s=[(2,I none 0 0),(3,I A6 n6 c6)]∧L=[cc A6 n6 c6 p6]) ?_ ?_
 ·refine V ?_;refine aZ (fun m s L=> ∃p8 p9 A8 n8 c8,cL N m p8 p9=some r∧s=[(2,I none 0 0),(3,I A8 n8 c8),(4,iV p9)]∧L=[cc A8 n8 c8 p8]) N _ _ ⟨([]:List Int)++a0,1,A4,n4,c4,h,J,J⟩ sA (cS [0] 2) ?_;rintro (_|m7) _ _ ⟨p8,p9,A8,n8,c8,h,rfl,rfl⟩
  ·exact az h
  rw [cL.eq_2] at h;refine ay ?_;refine V ?_;refine gR (aG 0 J aJ J hU) ?_;refine V ?_;refine aq J (fun g10=> ?_) (fun g10=> ?_)
  ·replace h:=ag g10 h;refine V ?_;refine aP (fun s L=> ∃p12 A12 n12 c12,iu N (cL N m7) p9 p12=some r∧s=[(2,I none 0 0),(3,I A12 n12 c12),(4,iV p9)]∧L=[cc A12 n12 c12 p12]) ?_ ?_
   ·refine V ?_;refine aZ (fun m s L=> ∃p14 p15 A14 n14 c14,f3 N (cL N m7) p9 m p14 p15=some r∧s=[(2,I none 0 0),(3,I A14 n14 c14),(4,iV p9),(5,iV p15)]∧L=[cc A14 n14 c14 p14]) N _ _ ⟨p8,p9,A8,n8,c8,h,J,J⟩ sA (cS [0] 1) ?_;rintro (_|m13) _ _ ⟨p14,p15,A14,n14,c14,h,rfl,rfl⟩
    ·exact az h
    rw [f3.eq_2] at h;refine ay ?_;refine ay ?_;refine cy O _ (ab _) ?_;refine zE 0 J (ax J) ?_;refine zE 1 J (BV J J) ?_;refine zE 2 J (ax J) ?_;obtain ⟨b16,hb16,h⟩:=aa h;refine uc (fun l=>(((((((((((l.setIfInBounds 3 true).setIfInBounds 4 true).setIfInBounds 5 true).setIfInBounds 6 true).setIfInBounds 7 true).setIfInBounds 8 true).setIfInBounds 9 true).setIfInBounds 10 true).setIfInBounds 11 true).setIfInBounds 12 true).setIfInBounds 13 true)) 0 30 b16 (fun rest=> ?_) ?_
    ·clear h;refine wM 19 J (fun g16=> ?_) (fun g16=> ?_)
     ·have h:=ag g16 hb16;refine mi 3 J O (ax J) (aO g16 J) J ?_;refine mi 4 J O (ax J) (aO g16 J) J ?_;obtain ⟨q17,h⟩:=am h;refine mi 5 J O (lL J J q17.1 q17.2) (aO g16 J) J ?_;obtain ⟨x18,hx18,h⟩:=aa h;obtain ⟨lx18,ux18,hx18⟩:=aj hx18;refine qQ 6 J O (aB 0 J aJ J J hU dj lx18 ux18) (aO g16 J) J ?_;refine qQ 7 J O (aW (u:=iV x18) 0 J aJ J hx18 cM (fun _ _ _ h=>by rw [show _=_ from h];rfl)) (aO g16 J) J ?_;refine mi 8 J O (ax J) (aO g16 J) J ?_;refine mi 9 J O (ax J) (aO g16 J) J ?_;obtain ⟨x19,hx19,h⟩:=aa h;obtain ⟨lx19,ux19,hx19⟩:=aj hx19;refine qQ 10 J O (aB 0 J aJ J J hU dj lx19 ux19) (aO g16 J) J ?_;refine qQ 11 J O (aW (u:=iV x19) 0 J aJ J hx19 cM (fun _ _ _ h=>by rw [show _=_ from h];rfl)) (aO g16 J) J ?_;refine mi 12 J O (BV J J) (aO g16 J) J ?_;refine zE 13 J (cC g16 J J) ?_;obtain rfl:=ao h;exact pR rest (kn J (bc (bc (bc (bc (bc (bc (bc (bc (bc (bc (bc bH J) J) J) J) J) J) J) J) J) J) J)) (ab _) (ab _)
     have h:=ah g16 hb16;refine ig 3 J O (cr g16 J) J ?_;refine ig 4 J O (cr g16 J) J ?_;refine ig 5 J O (cr g16 J) J ?_;refine ig 6 J O (cr g16 J) J ?_;refine ig 7 J O (cr g16 J) J ?_;refine ig 8 J O (cr g16 J) J ?_;refine ig 9 J O (cr g16 J) J ?_;refine ig 10 J O (cr g16 J) J ?_;refine ig 11 J O (cr g16 J) J ?_;refine ig 12 J O (cr g16 J) J ?_;refine zE 13 J (cD g16 J J) ?_;obtain rfl:=ao h;exact pR rest (kn J (bc (bc (bc (bc (bc (bc (bc (bc (bc (bc (bc bH J) J) J) J) J) J) J) J) J) J) J)) (ab _) (ab _)
    refine cx O ?_;refine jB ?_;refine aq J (fun g20=> ?_) (fun g20=> ?_)
    ·replace h:=ag g20 h;refine V ?_;refine ay ?_;refine V ?_;obtain ⟨x21,hx21,h⟩:=aa h;obtain ⟨lx21,ux21,hx21⟩:=aj hx21;refine gR (aB 0 J aJ J J hU dj lx21 ux21) ?_;refine gR (aW (u:=iV x21) 0 J aJ J hx21 cM (fun _ _ _ h=>by rw [show _=_ from h];rfl)) ?_;refine V ?_;obtain ⟨q22,h⟩:=am h;refine gE (lL J J q22.1 q22.2) ?_;obtain ⟨x23,hx23,h⟩:=aa h;obtain ⟨lx23,ux23,hx23⟩:=aj hx23;refine gR (aB 0 J aJ J J hU dj lx23 ux23) ?_;refine gR (aW (u:=iV x23) 0 J aJ J hx23 cM (fun _ _ _ h=>by rw [show _=_ from h];rfl)) ?_;obtain ⟨x24,hx24,h⟩:=aa h;obtain ⟨lx24,ux24,hx24⟩:=aj hx24;refine gR (aB 0 J aJ J J hU dj lx24 ux24) ?_;refine gO (va (us:=[iV x23]) (z:=x23) 0 J J J J dj J (bB lx24 ux24) J (fun S w vs xk hk hr ho=>by obtain rfl:=Option.some.inj (hk.symm.trans hx24);rw [show _=_ from hr];rfl)) ?_;rintro _ _ rfl;refine V ?_;obtain ⟨q25,h⟩:=am h;refine gE (lL J J q25.1 q25.2) ?_;refine V ?_;obtain ⟨x26,hx26,h⟩:=aa h;obtain ⟨lx26,ux26,hx26⟩:=aj hx26;refine gR (aB 0 J aJ J J hU dj lx26 ux26) ?_;refine gO (va (us:=[iV x21]) (z:=x21) 0 J J J J dj J (bB lx26 ux26) J (fun S w vs xk hk hr ho=>by obtain rfl:=Option.some.inj (hk.symm.trans hx26);rw [show _=_ from hr];rfl)) ?_;rintro _ _ rfl;refine bX ?_;refine V ?_;obtain ⟨q27,h⟩:=am h;refine gE (lL J J q27.1 q27.2) ?_;refine V ?_
     exact ⟨m13,_,_,GD _,⟨List.set (List.set p14 p15.toNat x23) ((p15 - 1).toNat) x21,p15 - 1,A14,n14,c14,h,J,J⟩,sA,cS [0] 1⟩
    replace h:=ah g20 h;refine V ?_;exact ⟨_,_,⟨p14,A14,n14,c14,h,J,J⟩,sA,cS [0] 1⟩
   rintro _ _ ⟨p12,A12,n12,c12,h,rfl,rfl⟩;refine V ?_;obtain ⟨q28,h⟩:=am h;refine gE (aT J J q28.1 q28.2) ?_;refine V ?_;exact ⟨m7,_,_,GD _,⟨p12,p9+1,A12,n12,c12,h,J,J⟩,sA,cS [0] 1⟩
  replace h:=ah g10 h;refine V ?_;exact ⟨_,_,⟨p8,A8,n8,c8,h,J,J⟩,sA,cS [0] 1⟩
 rintro _ _ ⟨p6,A6,n6,c6,h,rfl,rfl⟩;refine V ?_;obtain rfl:=ao h;exact aL J J (cS [0] 1) ⟨_,_,_,J,J⟩
theorem sm {r:(List Int)}: ∀v post,((fun (u:Value) (post:List Chunk)=> ∃A0 n0 c0,u=I A0 n0 c0∧post=[cc A0 n0 c0 r])) v post→ ∀c∈post,bR c:=by
 rintro _ _ ⟨_,_,_,rfl,rfl⟩;exact hJ bm (ai)
def fu (N:Nat)(a0:Gx)(a1:(List Gu)):Option (List Int):=
 (f5 N a0 a1).bind fun y5=>(iv N y5).bind fun y7=>some y7
theorem rN {N:Nat}{a0:Gx}{a1:(List Gu)}{r:(List Int)}(h:fu N a0 a1=some r):Okc Tryz.prog 38 [.agg #[I A1 n1 c1,I A2 n2 c2],I A3 n3 c3] ([br A1 n1 c1 a0.Young,br A2 n2 c2 a0.Old,aS A3 n3 c3 a1]) (fun u post=> ∃A0 n0 c0,u=I A0 n0 c0∧post=[cc A0 n0 c0 r]):=by
 refine bx Tryz.func38 J J ?_;simp only [aU];refine V ?_;refine gD (aX J J) ?_;rintro _ _ ⟨B4,rfl,rfl⟩;refine V ?_;refine gR (aC (us:=[I A1 n1 c1,I A2 n2 c2]) 0 J J cu J) ?_;refine V ?_;obtain ⟨y5,hy5,h⟩:=aa h;refine gD (ak (vU hy5) EK J (hJ (ap (i:=1) J J) (hJ (ap (i:=2) J J) (hJ (ap (i:=3) J J) ai))) tp) ?_;rintro _ _ ⟨_,⟨A6,n6,c6,rfl,rfl⟩,rfl⟩;obtain ⟨y7,hy7,h⟩:=aa h;refine gD (ak (um hy7) DU J (hJ (be (i:=0) J) ai) sm) ?_;rintro _ _ ⟨_,⟨A8,n8,c8,rfl,rfl⟩,rfl⟩;refine V ?_;obtain rfl:=ao h;exact aL J J (cS [0] 6) ⟨_,_,_,J,J⟩
theorem pa {r:(List Int)}: ∀v post,((fun (u:Value) (post:List Chunk)=> ∃A0 n0 c0,u=I A0 n0 c0∧post=[cc A0 n0 c0 r])) v post→ ∀c∈post,bR c:=by
 rintro _ _ ⟨_,_,_,rfl,rfl⟩;exact hJ bm (ai)
def kA (N:Nat)(p9:(List Int))(p32:(List Int)):Option ((List Int)×(List Int)):=
 some (p9,p32)
def eX (N:Nat)(p9:(List Int)):Nat→(List Int)→Int→Option ((List Int)×(List Int))
 |0,_,_=>none
 |m33+1,p34,p35=>bif decide (p35<(p9.length:Int)) then (bD (in64 (2*p35)) (bD (in64 ((2*p35)+2)) (bD (bN (p34.length+([(2*p35)+2]:List Int).length)) (bD (in64 (p35+1)) ((eX N p9 m33) (p34++([(2*p35)+2]:List Int)) (p35+1)))))) else (kA N p9 p34)
def ji (N:Nat)(p9:(List Int)):Option ((List Int)×(List Int)):=
 eX N p9 N ([]:List Int) 0
def kB (N:Nat)(kb10:(List Int)→Int→Option ((List Int)×(List Int)))(p12:Int)(y5:((List Int)))(p15:(List Int)):Option ((List Int)×(List Int)):=
 bD (in64 (p12+1)) (kb10 p15 (p12+1))
def iq (N:Nat)(kb10:(List Int)→Int→Option ((List Int)×(List Int)))(kb16:(List Int)→Int→Option ((List Int)×(List Int)))(p12:Int)(p18:Int)(y5:((List Int)))(p21:(List Int)):Option ((List Int)×(List Int)):=
 bD (in64 (p18+1)) (kb16 p21 (p18+1))
def dc (N:Nat)(kb10:(List Int)→Int→Option ((List Int)×(List Int)))(p12:Int)(y5:((List Int))):Nat→(List Int)→Int→Option ((List Int)×(List Int))
 |0,_,_=>none
 |m16+1,p17,p18=>bif decide (p18<(y5.length:Int)) then ((aH y5 p18).bind fun x22=>bif decide (x22.tmod 2=p12) then ((aH y5 p18).bind fun x24=>bD (bN (p17.length+([x24]:List Int).length)) (iq N kb10 (dc N kb10 p12 y5 m16) p12 p18 y5 (p17++([x24]:List Int)))) else (iq N kb10 (dc N kb10 p12 y5 m16) p12 p18 y5 p17)) else (kB N kb10 p12 y5 p17)
def eg (N:Nat)(y5:((List Int))):Nat→(List Int)→Int→Option ((List Int)×(List Int))
 |0,_,_=>none
 |m10+1,p11,p12=>bif decide (p12<2) then (dc N (eg N y5 m10) p12 y5 N p11 0) else (ji N p11)
def ir (N:Nat)(a0:Gx)(a1:(List Gu)):Option ((List Int)×(List Int)):=
 (fu N a0 a1).bind fun y5=>eg N y5 N ([]:List Int) 0
set_option maxHeartbeats 4000000 in
theorem o5 {N:Nat}{a0:Gx}{a1:(List Gu)}{r:((List Int)×(List Int))}(h:ir N a0 a1=some r):Okc Tryz.prog 47 [.agg #[I A1 n1 c1,I A2 n2 c2],I A3 n3 c3] ([br A1 n1 c1 a0.Young,br A2 n2 c2 a0.Old,aS A3 n3 c3 a1]) (fun u post=> ∃A0 n0 c0 A1 n1 c1,u=.tuple #[I A0 n0 c0,I A1 n1 c1]∧post=[cc A0 n0 c0 r.1,cc A1 n1 c1 r.2]):=by
 refine bx Tryz.func47 J J ?_;simp only [aU];refine V ?_;refine gD (aX J J) ?_;rintro _ _ ⟨B4,rfl,rfl⟩;refine V ?_;refine gR (aC (us:=[I A1 n1 c1,I A2 n2 c2]) 0 J J cu J) ?_;refine V ?_;obtain ⟨y5,hy5,h⟩:=aa h;refine gD (ak (rN hy5) Ck J (hJ (ap (i:=1) J J) (hJ (ap (i:=2) J J) (hJ (ap (i:=3) J J) ai))) pa) ?_;rintro _ _ ⟨_,⟨A6,n6,c6,rfl,rfl⟩,rfl⟩;refine V ?_;refine gD (aN (R:=(dn .i64)) (vss:=[]) (xs:=[]) J (qO) J J (fun _ _ hr=>All2.nil)) ?_;rintro _ _ ⟨A7,n7,c7,rfl,rfl⟩;refine V ?_;refine aP (fun s L=> ∃p9 A9 n9 c9,ji N p9=some r∧s=[(4,I none 0 0),(5,I none 0 0),(7,I A9 n9 c9)]∧L=[cc A9 n9 c9 p9]) ?_ ?_
 ·refine V ?_;refine aZ (fun m s L=> ∃p11 p12 A11 n11 c11,eg N y5 m p11 p12=some r∧s=[(4,I none 0 0),(5,I none 0 0),(6,I A6 n6 c6),(7,I A11 n11 c11),(8,iV p12)]∧L=[cc A6 n6 c6 y5,cc A11 n11 c11 p11]) N _ _ ⟨([]:List Int),0,A7,n7,c7,h,J,J⟩ sA (cS [1,0] 6) ?_;rintro (_|m10) _ _ ⟨p11,p12,A11,n11,c11,h,rfl,rfl⟩
  ·exact az h
  rw [eg.eq_2] at h;refine ay ?_;refine V ?_;refine aq J (fun g13=> ?_) (fun g13=> ?_)
  ·replace h:=ag g13 h;refine V ?_;refine aP (fun s L=> ∃p15 A15 n15 c15,kB N (eg N y5 m10) p12 y5 p15=some r∧s=[(4,I none 0 0),(5,I none 0 0),(6,I A6 n6 c6),(7,I A15 n15 c15),(8,iV p12)]∧L=[cc A6 n6 c6 y5,cc A15 n15 c15 p15]) ?_ ?_
   ·refine V ?_;refine aZ (fun m s L=> ∃p17 p18 A17 n17 c17,dc N (eg N y5 m10) p12 y5 m p17 p18=some r∧s=[(4,I none 0 0),(5,I none 0 0),(6,I A6 n6 c6),(7,I A17 n17 c17),(8,iV p12),(9,iV p18)]∧L=[cc A6 n6 c6 y5,cc A17 n17 c17 p17]) N _ _ ⟨p11,0,A11,n11,c11,h,J,J⟩ sA (cS [0,1] 2) ?_;rintro (_|m16) _ _ ⟨p17,p18,A17,n17,c17,h,rfl,rfl⟩
    ·exact az h
    rw [dc.eq_2] at h;refine ay ?_;refine V ?_;refine gR (aG 0 J aJ J hU) ?_;refine V ?_;refine aq J (fun g19=> ?_) (fun g19=> ?_)
    ·replace h:=ag g19 h;refine V ?_;refine aP (fun s L=> ∃p21 A21 n21 c21,iq N (eg N y5 m10) (dc N (eg N y5 m10) p12 y5 m16) p12 p18 y5 p21=some r∧s=[(4,I none 0 0),(5,I none 0 0),(6,I A6 n6 c6),(7,I A21 n21 c21),(8,iV p12),(9,iV p18)]∧L=[cc A6 n6 c6 y5,cc A21 n21 c21 p21]) ?_ ?_
     ·refine V ?_;obtain ⟨x22,hx22,h⟩:=aa h;obtain ⟨lx22,ux22,hx22⟩:=aj hx22;refine gR (aB 0 J aJ J J hU dj lx22 ux22) ?_;refine gR (aW (u:=iV x22) 0 J aJ J hx22 cM (fun _ _ _ h=>by rw [show _=_ from h];rfl)) ?_;refine gE (lM J J (by decide)) ?_;refine V ?_;refine aq J (fun g23=> ?_) (fun g23=> ?_)
      ·replace h:=ag g23 h;refine V ?_;obtain ⟨x24,hx24,h⟩:=aa h;obtain ⟨lx24,ux24,hx24⟩:=aj hx24;refine gR (aB 0 J aJ J J hU dj lx24 ux24) ?_;refine gR (aW (u:=iV x24) 0 J aJ J hx24 cM (fun _ _ _ h=>by rw [show _=_ from h];rfl)) ?_;refine gD (aN (R:=(dn .i64)) (vss:=[[iV x24]]) (xs:=[x24]) J (dO _) J J (fun _ _ hr=> .cons J All2.nil)) ?_;rintro _ _ ⟨A25,n25,c25,rfl,rfl⟩;obtain ⟨q26,h⟩:=am h;refine gD (ba 2 0 J J aJ J J hU uE J J q26) ?_;rintro _ _ ⟨A27,n27,c27,rfl,rfl⟩;refine V ?_;exact ⟨_,_,⟨p17++([x24]:List Int),A27,n27,c27,h,J,J⟩,sA,cS [1,2] 3⟩
      replace h:=ah g23 h;refine V ?_;exact ⟨_,_,⟨p17,A17,n17,c17,h,J,J⟩,sA,cS [0,1] 2⟩
     rintro _ _ ⟨p21,A21,n21,c21,h,rfl,rfl⟩;refine V ?_;obtain ⟨q28,h⟩:=am h;refine gE (aT J J q28.1 q28.2) ?_;refine V ?_;exact ⟨m16,_,_,GD _,⟨p21,p18+1,A21,n21,c21,h,J,J⟩,sA,cS [0,1] 2⟩
    replace h:=ah g19 h;refine V ?_;exact ⟨_,_,⟨p17,A17,n17,c17,h,J,J⟩,sA,cS [0,1] 2⟩
   rintro _ _ ⟨p15,A15,n15,c15,h,rfl,rfl⟩;refine V ?_;obtain ⟨q29,h⟩:=am h;refine gE (aT J J q29.1 q29.2) ?_;refine V ?_;exact ⟨m10,_,_,GD _,⟨p15,p12+1,A15,n15,c15,h,J,J⟩,sA,cS [0,1] 2⟩
  replace h:=ah g13 h;refine V ?_;exact ⟨_,_,⟨p11,A11,n11,c11,h,J,J⟩,sA,cS [1] 2⟩
 rintro _ _ ⟨p9,A9,n9,c9,h,rfl,rfl⟩;refine V ?_;refine gD (aN (R:=(dn .i64)) (vss:=[]) (xs:=[]) J (qO) J J (fun _ _ hr=>All2.nil)) ?_;rintro _ _ ⟨A30,n30,c30,rfl,rfl⟩;refine V ?_;refine aP (fun s L=> ∃p32 A32 n32 c32,kA N p9 p32=some r∧s=[(4,I none 0 0),(5,I none 0 0),(7,I A9 n9 c9),(10,I A32 n32 c32)]∧L=[cc A9 n9 c9 p9,cc A32 n32 c32 p32]) ?_ ?_
 ·refine V ?_;refine aZ (fun m s L=> ∃p34 p35 A34 n34 c34,eX N p9 m p34 p35=some r∧s=[(4,I none 0 0),(5,I none 0 0),(7,I A9 n9 c9),(10,I A34 n34 c34),(11,iV p35)]∧L=[cc A9 n9 c9 p9,cc A34 n34 c34 p34]) N _ _ ⟨([]:List Int),0,A30,n30,c30,h,J,J⟩ sA (cS [1,0] 2) ?_;rintro (_|m33) _ _ ⟨p34,p35,A34,n34,c34,h,rfl,rfl⟩
  ·exact az h
  rw [eX.eq_2] at h;refine ay ?_;refine V ?_;refine gR (aG 0 J aJ J hU) ?_;refine V ?_;refine aq J (fun g36=> ?_) (fun g36=> ?_)
  ·replace h:=ag g36 h;refine V ?_;refine ay ?_;refine V ?_;obtain ⟨q37,h⟩:=am h;refine gE (tW J J q37.1 q37.2) ?_;obtain ⟨q38,h⟩:=am h;refine gE (aT J J q38.1 q38.2) ?_;refine gD (aN (R:=(dn .i64)) (vss:=[[iV ((2*p35)+2)]]) (xs:=[(2*p35)+2]) J (dO _) J J (fun _ _ hr=> .cons J All2.nil)) ?_;rintro _ _ ⟨A39,n39,c39,rfl,rfl⟩;obtain ⟨q40,h⟩:=am h;refine gD (ba 2 0 J J aJ J J hU uE J J q40) ?_;rintro _ _ ⟨A41,n41,c41,rfl,rfl⟩;refine V ?_;obtain ⟨q42,h⟩:=am h;refine gE (aT J J q42.1 q42.2) ?_;refine V ?_;exact ⟨m33,_,_,GD _,⟨p34++([(2*p35)+2]:List Int),p35+1,A41,n41,c41,h,J,J⟩,sA,cS [1,2] 3⟩
  replace h:=ah g36 h;refine V ?_;exact ⟨_,_,⟨p34,A34,n34,c34,h,J,J⟩,sA,cS [0,1] 2⟩
 rintro _ _ ⟨p32,A32,n32,c32,h,rfl,rfl⟩;refine V ?_;obtain rfl:=ao h;exact Ea J J J (cS [0,1] 2) ⟨_,_,_,_,_,_,J,J⟩
theorem na {r:((List Int)×(List Int))}: ∀v post,((fun (u:Value) (post:List Chunk)=> ∃A0 n0 c0 A1 n1 c1,u=.tuple #[I A0 n0 c0,I A1 n1 c1]∧post=[cc A0 n0 c0 r.1,cc A1 n1 c1 r.2])) v post→ ∀c∈post,bR c:=by
 rintro _ _ ⟨_,_,_,_,_,_,rfl,rfl⟩;exact hJ bm (hJ bm (ai))
def ka (N:Nat)(a0:Gw):Option Gw:=
 bD (bN (([]:List Gu).length+a0.Slots.length)) (bD (bN (([]:List Gu).length+a0.More.length)) (some (⟨a0.Kind,a0.Shape,a0.Flags,a0.Age,([]:List Gu)++a0.Slots,([]:List Gu)++a0.More⟩:Gw)))
theorem uq {N:Nat}{a0:Gw}{r:Gw}(h:ka N a0=some r):Okc Tryz.prog 241 [.agg #[iV a0.Kind,iV a0.Shape,iV a0.Flags,iV a0.Age,I A1 n1 c1,I A2 n2 c2]] ([aS A1 n1 c1 a0.Slots,aS A2 n2 c2 a0.More]) (fun u post=> ∃A0 n0 c0 A1 n1 c1,u=.agg #[iV r.Kind,iV r.Shape,iV r.Flags,iV r.Age,I A0 n0 c0,I A1 n1 c1]∧post=[cB A0 n0 c0 r.Slots,cB A1 n1 c1 r.More]):=by
 refine bx Tryz.func241 J J ?_;simp only [aU];refine V ?_;refine gD (aX J J) ?_;rintro _ _ ⟨B3,rfl,rfl⟩;refine gD (aM dD J) ?_;rintro _ _ ⟨B4,rfl,rfl⟩;refine V ?_;refine gE (bJ J (ob _ _ _ _)) ?_;refine gD (aM dD J) ?_;rintro _ _ ⟨B5,rfl,rfl⟩;refine gO (au (us:=[iV a0.Kind,iV a0.Shape,iV a0.Flags,iV a0.Age,I none 0 0,I none 0 0]) (cs':=[iV a0.Kind,iV a0.Shape,iV a0.Flags,iV a0.Age,I none 0 0,I none 0 0]) 0 J J J J bu J J J) ?_;rintro _ _ rfl;refine El ?_;refine Bk ?_;refine kT (bL aF 52 _) ?_;obtain ⟨q7,h⟩:=am h;refine gD (ba 0 4 J J ae J J hO nn J J q7) ?_;rintro _ _ ⟨A8,n8,c8,rfl,rfl⟩;refine V ?_;refine gO (au (us:=[I A8 n8 c8]) (cs':=[iV a0.Kind,iV a0.Shape,iV a0.Flags,iV a0.Age,I A8 n8 c8,I none 0 0]) 1 J J J J eJ J J J) ?_;rintro _ _ rfl;refine bX ?_;refine El ?_;refine Bk ?_;refine kT (bL aF 52 _) ?_;obtain ⟨q10,h⟩:=am h;refine gD (ba 0 6 J J ae J J hO nn J J q10) ?_;rintro _ _ ⟨A11,n11,c11,rfl,rfl⟩;refine V ?_;refine gO (au (us:=[I A11 n11 c11]) (cs':=[iV a0.Kind,iV a0.Shape,iV a0.Flags,iV a0.Age,I A8 n8 c8,I A11 n11 c11]) 2 J J J J eJ J J J) ?_;rintro _ _ rfl;refine V ?_;refine gR (aC (us:=[iV a0.Kind,iV a0.Shape,iV a0.Flags,iV a0.Age,I A8 n8 c8,I A11 n11 c11]) 2 J J bo J) ?_
 refine gO (au (us:=[iV a0.Kind,iV a0.Shape,iV a0.Flags,iV a0.Age,I A8 n8 c8,I A11 n11 c11]) (cs':=[iV a0.Kind,iV a0.Shape,iV a0.Flags,iV a0.Age,I A8 n8 c8,I A11 n11 c11]) 3 J J J J bu J J J) ?_;rintro _ _ rfl;refine bX ?_;refine V ?_;obtain rfl:=ao h;exact dl (rs:=[.cell 2 47]) (vs:=[.agg #[iV a0.Kind,iV a0.Shape,iV a0.Flags,iV a0.Age,I A8 n8 c8,I A11 n11 c11]]) J (.cons (bY 3 J J bo) .nil) J (cS [1,0] 7) ⟨_,_,_,_,_,_,J,J⟩
theorem sn {r:Gw}: ∀v post,((fun (u:Value) (post:List Chunk)=> ∃A0 n0 c0 A1 n1 c1,u=.agg #[iV r.Kind,iV r.Shape,iV r.Flags,iV r.Age,I A0 n0 c0,I A1 n1 c1]∧post=[cB A0 n0 c0 r.Slots,cB A1 n1 c1 r.More])) v post→ ∀c∈post,bR c:=by
 rintro _ _ ⟨_,_,_,_,_,_,rfl,rfl⟩;exact hJ bm (hJ bm (ai))
def jK (N:Nat)(y6:(Gw))(p11:(List Gu)):Option Gw:=
 some (⟨y6.Kind,y6.Shape,y6.Flags,y6.Age,y6.Slots,p11⟩:Gw)
def gQ (N:Nat)(kb12:Int→(List Gu)→Option Gw)(p13:Int)(a1:(List Bool))(a0:Gw)(y6:(Gw))(p18:(List Gu)):Option Gw:=
 bD (in64 (p13+1)) (kb12 (p13+1) p18)
def dH (N:Nat)(a1:(List Bool))(a0:Gw)(y6:(Gw)):Nat→Int→(List Gu)→Option Gw
 |0,_,_=>none
 |m12+1,p13,p14=>bif decide (p13<(a1.length:Int)) then ((aH a1 p13).bind fun x19=>bif x19 then (bD (in64 (2*p13)) ((aH a0.More (2*p13)).bind fun x22=>bD (in64 (2*p13)) (bD (in64 ((2*p13)+1)) ((aH a0.More ((2*p13)+1)).bind fun x25=>bD (bN (p14.length+([x22,x25]:List Gu).length)) (gQ N (dH N a1 a0 y6 m12) p13 a1 a0 y6 (p14++([x22,x25]:List Gu))))))) else (gQ N (dH N a1 a0 y6 m12) p13 a1 a0 y6 p14)) else (jK N y6 p14)
def lE (N:Nat)(a0:Gw)(a1:(List Bool)):Option Gw:=
 (ka N a0).bind fun y6=>dH N a1 a0 y6 N 0 []
set_option maxHeartbeats 4000000 in
theorem tq {N:Nat}{a0:Gw}{a1:(List Bool)}{r:Gw}(h:lE N a0 a1=some r):Okc Tryz.prog 195 [.agg #[iV a0.Kind,iV a0.Shape,iV a0.Flags,iV a0.Age,I A1 n1 c1,I A2 n2 c2],I A3 n3 c3] ([aS A1 n1 c1 a0.Slots,aS A2 n2 c2 a0.More,iS rH (I A3 n3 c3) a1]) (fun u post=> ∃A0 n0 c0 A1 n1 c1,u=.agg #[iV r.Kind,iV r.Shape,iV r.Flags,iV r.Age,I A0 n0 c0,I A1 n1 c1]∧post=[cB A0 n0 c0 r.Slots,cB A1 n1 c1 r.More]):=by
 refine bx Tryz.func195 J J ?_;simp only [aU];refine V ?_;refine gD (aX J J) ?_;rintro _ _ ⟨B4,rfl,rfl⟩;refine gD (aM dD J) ?_;rintro _ _ ⟨B5,rfl,rfl⟩;refine V ?_;refine gR (aC (us:=[iV a0.Kind,iV a0.Shape,iV a0.Flags,iV a0.Age,I A1 n1 c1,I A2 n2 c2]) 1 J J bo J) ?_;obtain ⟨y6,hy6,h⟩:=aa h;refine gD (ak (uq hy6) Dm J (hJ (ap (i:=2) J J) (hJ (ap (i:=3) J J) ai)) sn) ?_;rintro _ _ ⟨_,⟨A7,n7,c7,A8,n8,c8,rfl,rfl⟩,rfl⟩;refine gD (aM dD J) ?_;rintro _ _ ⟨B9,rfl,rfl⟩;refine gO (au (us:=[iV y6.Kind,iV y6.Shape,iV y6.Flags,iV y6.Age,I A7 n7 c7,I A8 n8 c8]) (cs':=[iV y6.Kind,iV y6.Shape,iV y6.Flags,iV y6.Age,I A7 n7 c7,I A8 n8 c8]) 0 J J J J bu J J J) ?_;rintro _ _ rfl;refine V ?_;refine gO (au (us:=[I none 0 0]) (cs':=[iV y6.Kind,iV y6.Shape,iV y6.Flags,iV y6.Age,I A7 n7 c7,I none 0 0]) 0 J J J J eJ J J J) ?_;rintro _ _ rfl;refine V ?_;refine aP (fun s L=> ∃p11 A11 n11 c11,jK N y6 p11=some r∧s=[(4,pV B5 0),(5,pV B9 0)]∧L=[aw B5 47 [iV 0,iV 0,iV 0,iV 0,I none 0 0,I none 0 0],cB A7 n7 c7 y6.Slots,cB A11 n11 c11 p11,aw B9 47 [iV y6.Kind,iV y6.Shape,iV y6.Flags,iV y6.Age,I A7 n7 c7,I A11 n11 c11]]) ?_ ?_
 ·refine V ?_;refine aZ (fun m s L=> ∃p13 p14 A14 n14 c14,dH N a1 a0 y6 m p13 p14=some r∧s=[(1,I A3 n3 c3),(2,pV B4 0),(4,pV B5 0),(5,pV B9 0),(6,iV p13)]∧L=[iS rH (I A3 n3 c3) a1,aS A1 n1 c1 a0.Slots,aS A2 n2 c2 a0.More,aw B4 47 [iV a0.Kind,iV a0.Shape,iV a0.Flags,iV a0.Age,I A1 n1 c1,I A2 n2 c2],aw B5 47 [iV 0,iV 0,iV 0,iV 0,I none 0 0,I none 0 0],cB A7 n7 c7 y6.Slots,cB A14 n14 c14 p14,aw B9 47 [iV y6.Kind,iV y6.Shape,iV y6.Flags,iV y6.Age,I A7 n7 c7,I A14 n14 c14]]) N _ _ ⟨0,[],none,0,0,h,J,J⟩ sA ((bL aF 52 _).trans (cS [8,6,7,5,4,2,0,1] 9)) ?_;rintro (_|m12) _ _ ⟨p13,p14,A14,n14,c14,h,rfl,rfl⟩
  ·exact az h
  rw [dH.eq_2] at h;refine ay ?_;refine V ?_;refine gR (aG 0 J ae J Gq) ?_;refine V ?_;refine aq J (fun g16=> ?_) (fun g16=> ?_)
  ·replace h:=ag g16 h;refine V ?_;refine aP (fun s L=> ∃p18 A18 n18 c18,gQ N (dH N a1 a0 y6 m12) p13 a1 a0 y6 p18=some r∧s=[(1,I A3 n3 c3),(2,pV B4 0),(4,pV B5 0),(5,pV B9 0),(6,iV p13)]∧L=[iS rH (I A3 n3 c3) a1,aS A1 n1 c1 a0.Slots,aS A2 n2 c2 a0.More,aw B4 47 [iV a0.Kind,iV a0.Shape,iV a0.Flags,iV a0.Age,I A1 n1 c1,I A2 n2 c2],aw B5 47 [iV 0,iV 0,iV 0,iV 0,I none 0 0,I none 0 0],cB A7 n7 c7 y6.Slots,cB A18 n18 c18 p18,aw B9 47 [iV y6.Kind,iV y6.Shape,iV y6.Flags,iV y6.Age,I A7 n7 c7,I A18 n18 c18]]) ?_ ?_
   ·refine V ?_;obtain ⟨x19,hx19,h⟩:=aa h;obtain ⟨lx19,ux19,hx19⟩:=aj hx19;refine gR (aB 0 J ae J J Gq rC lx19 ux19) ?_;refine gR (aW (u:=.bool x19) 0 J ae J hx19 xp (fun _ _ _ h=>by rw [show _=_ from h];rfl)) ?_;refine V ?_;refine aq J (fun g20=> ?_) (fun g20=> ?_)
    ·replace h:=ag g20 h;obtain ⟨q21,h⟩:=am h;obtain ⟨x22,hx22,h⟩:=aa h;obtain ⟨lx22,ux22,hx22⟩:=aj hx22;obtain ⟨q23,h⟩:=am h;obtain ⟨q24,h⟩:=am h;obtain ⟨x25,hx25,h⟩:=aa h;obtain ⟨lx25,ux25,hx25⟩:=aj hx25;refine dP (t:=[(1,I A3 n3 c3),(2,pV B4 0),(4,pV B5 0),(5,pV B9 0),(6,iV p13)]) ?_ gA (ab _)
     refine eR O 16 [] [1,15] [20,21,22,23,24,25,26,27,28,29,30,31,32,33,34,35] [[],[0],[],[2],[],[4],[3,5],[6],[],[8],[],[10],[11],[9,12],[13],[7,14]] [aV (pV B9 5),
 aV (I A14 n14 c14),
 aV (pV B4 5),
 aV (I A2 n2 c2),
 aV (iV p13),
 aV (iV (2*p13)),
 aV (bO (I A2 n2 c2) ((2*p13).toNat) 3 0),
 aV ((bd x22)),
 aV (pV B4 5),
 aV (I A2 n2 c2),
 aV (iV p13),
 aV (iV (2*p13)),
 aV (iV ((2*p13)+1)),
 aV (bO (I A2 n2 c2) (((2*p13)+1).toNat) 3 0),
 aV ((bd x25)),
 aX3 (fun (A27:Option Addr) (n27 c27:Nat)=> I A27 n27 c27) (fun A27 n27 c27=> [cB A27 n27 c27 ([x22,x25]:List Gu)])] [] (ab _) (gu) O rfl rfl ?_ ?_ ?_
     ·exact gt
     ·refine ac J ?_ ?_
      ·refine fx (aN (R:=aF) (vss:=[(ar x22),(ar x25)]) (xs:=[x22,x25]) J (xR _ _ _ _ _ _) J J (fun _ _ hr=> .cons J (.cons J All2.nil))) J ?_;rintro _ _ ⟨A26,n26,c26,rfl,rfl⟩;exact iT A26 n26 c26 (ab _)
      refine ac J ?_ ?_
      ·exact bT (aQ (us:=ar x25) 2 J ae J hx25 bn (fun _ _ _ h=>by rw [show _=_ from h];rfl)) J (aA J (ab _))
      refine ac J ?_ ?_
      ·exact bT (aB 2 J ae J J hO aI lx25 ux25) J (aA J (ab _))
      refine ac J ?_ ?_
      ·exact bh (aT J J q24.1 q24.2) J (aA J (ab _))
      refine ac J ?_ ?_
      ·exact bh (tW J J q23.1 q23.2) J (aA J (ab _))
      refine ac J ?_ ?_
      ·exact bh (ax J) J (aA J (ab _))
      refine ac J ?_ ?_
      ·exact bT (aR 3 J J cz J) J (aA J (ab _))
      refine ac J ?_ ?_
      ·exact bh (bQ J ce) J (aA J (ab _))
      refine ac J ?_ ?_
      ·exact bT (aQ (us:=ar x22) 2 J ae J hx22 bn (fun _ _ _ h=>by rw [show _=_ from h];rfl)) J (aA J (ab _))
      refine ac J ?_ ?_
      ·exact bT (aB 2 J ae J J hO aI lx22 ux22) J (aA J (ab _))
      refine ac J ?_ ?_
      ·exact bh (tW J J q21.1 q21.2) J (aA J (ab _))
      refine ac J ?_ ?_
      ·exact bh (ax J) J (aA J (ab _))
      refine ac J ?_ ?_
      ·exact bT (aR 3 J J cz J) J (aA J (ab _))
      refine ac J ?_ ?_
      ·exact bh (bQ J ce) J (aA J (ab _))
      refine ac J ?_ ?_
      ·exact bT (aR 7 J J cz J) J (aA J (ab _))
      refine ac J ?_ ?_
      ·exact bh (bQ J ce) J (aA J (ab _))
      exact dh
     intro A27 n27 c27;refine gP (t:=[(21,I A14 n14 c14),(35,I A27 n27 c27),(1,I A3 n3 c3),(2,pV B4 0),(4,pV B5 0),(5,pV B9 0),(6,iV p13)]) (L':=[cB A27 n27 c27 ([x22,x25]:List Gu),iS rH (I A3 n3 c3) a1,aS A1 n1 c1 a0.Slots,aS A2 n2 c2 a0.More,aw B4 47 [iV a0.Kind,iV a0.Shape,iV a0.Flags,iV a0.Age,I A1 n1 c1,I A2 n2 c2],aw B5 47 [iV 0,iV 0,iV 0,iV 0,I none 0 0,I none 0 0],cB A7 n7 c7 y6.Slots,cB A14 n14 c14 p14,aw B9 47 [iV y6.Kind,iV y6.Shape,iV y6.Flags,iV y6.Age,I A7 n7 c7,I A14 n14 c14]]) ?_ gA (ab _);obtain ⟨q28,h⟩:=am h;refine kR 16 J O (ba 7 0 J J aJ J J hO nn J J q28) J J J ?_;rintro _ _ ⟨A29,n29,c29,rfl,rfl⟩;refine qu ?_;refine pS 17 J O (bQ J ce) J J J ?_;refine nh 18 J O (au (us:=[I A29 n29 c29]) (cs':=[iV y6.Kind,iV y6.Shape,iV y6.Flags,iV y6.Age,I A7 n7 c7,I A29 n29 c29]) 8 J J J J eJ J J J) J J ?_;rintro _ _ rfl;refine gx O ?_;refine V ?_;exact ⟨_,_,⟨p14++([x22,x25]:List Gu),A29,n29,c29,h,J,J⟩,sA,cS [1,2,3,4,5,6,7,8] 9⟩
    replace h:=ah g20 h;refine V ?_;exact ⟨_,_,⟨p14,A14,n14,c14,h,J,J⟩,sA,cS [0,1,2,3,4,5,6,7] 8⟩
   rintro _ _ ⟨p18,A18,n18,c18,h,rfl,rfl⟩;refine V ?_;obtain ⟨q30,h⟩:=am h;refine gE (aT J J q30.1 q30.2) ?_;refine V ?_;exact ⟨m12,_,_,GD _,⟨p13+1,p18,A18,n18,c18,h,J,J⟩,sA,cS [0,1,2,3,4,5,6,7] 8⟩
  replace h:=ah g16 h;refine V ?_;exact ⟨_,_,⟨p14,A14,n14,c14,h,J,J⟩,sA,cS [4,5,6,7] 8⟩
 rintro _ _ ⟨p11,A11,n11,c11,h,rfl,rfl⟩;refine V ?_;refine gR (aC (us:=[iV y6.Kind,iV y6.Shape,iV y6.Flags,iV y6.Age,I A7 n7 c7,I A11 n11 c11]) 3 J J bo J) ?_;refine gO (au (us:=[iV y6.Kind,iV y6.Shape,iV y6.Flags,iV y6.Age,I A7 n7 c7,I A11 n11 c11]) (cs':=[iV y6.Kind,iV y6.Shape,iV y6.Flags,iV y6.Age,I A7 n7 c7,I A11 n11 c11]) 0 J J J J bu J J J) ?_;rintro _ _ rfl;refine V ?_;obtain rfl:=ao h;exact dl (rs:=[.cell 4 47]) (vs:=[.agg #[iV y6.Kind,iV y6.Shape,iV y6.Flags,iV y6.Age,I A7 n7 c7,I A11 n11 c11]]) J (.cons (bY 0 J J bo) .nil) J (cS [1,2] 4) ⟨_,_,_,_,_,_,J,J⟩
theorem ra {r:Gw}: ∀v post,((fun (u:Value) (post:List Chunk)=> ∃A0 n0 c0 A1 n1 c1,u=.agg #[iV r.Kind,iV r.Shape,iV r.Flags,iV r.Age,I A0 n0 c0,I A1 n1 c1]∧post=[cB A0 n0 c0 r.Slots,cB A1 n1 c1 r.More])) v post→ ∀c∈post,bR c:=by
 rintro _ _ ⟨_,_,_,_,_,_,rfl,rfl⟩;exact hJ bm (hJ bm (ai))
def jq (N:Nat)(a0:Gw)(p11:(List Bool)):Option Gw:=
 (lE N a0 p11).bind fun y23=>some y23
def gH (N:Nat)(a1:(List Int))(a0:Gw):Nat→(List Bool)→Int→Option Gw
 |0,_,_=>none
 |m12+1,p13,p14=>bif decide (p14<(a0.More.length:Int)) then ((aH a0.More p14).bind fun x17=>(nM N x17.N a1).bind fun y18=>bD (bN (p13.length+([y18]:List Bool).length)) (bD (in64 (p14+2)) ((gH N a1 a0 m12) (p13++([y18]:List Bool)) (p14+2)))) else (jq N a0 p13)
def jx (N:Nat)(a0:Gw)(a1:(List Int)):Option Gw:=
 (nL N a0).bind fun y6=>bif !y6 then (some (⟨0,0,0,0,[],[]⟩:Gw)) else (gH N a1 a0 N [] 0)
set_option maxHeartbeats 4000000 in
theorem vY {N:Nat}{a0:Gw}{a1:(List Int)}{r:Gw}(h:jx N a0 a1=some r):Okc Tryz.prog 122 [.agg #[iV a0.Kind,iV a0.Shape,iV a0.Flags,iV a0.Age,I A1 n1 c1,I A2 n2 c2],I A3 n3 c3] ([aS A1 n1 c1 a0.Slots,aS A2 n2 c2 a0.More,eM A3 n3 c3 a1]) (fun u post=> ∃A0 n0 c0 A1 n1 c1,u=.agg #[iV r.Kind,iV r.Shape,iV r.Flags,iV r.Age,I A0 n0 c0,I A1 n1 c1]∧post=[cB A0 n0 c0 r.Slots,cB A1 n1 c1 r.More]):=by
 refine bx Tryz.func122 J J ?_;simp only [aU];refine V ?_;refine gD (aX J J) ?_;rintro _ _ ⟨B4,rfl,rfl⟩;refine gD (aM dD J) ?_;rintro _ _ ⟨B5,rfl,rfl⟩;refine V ?_;refine ay ?_;refine V ?_;refine gR (aC (us:=[iV a0.Kind,iV a0.Shape,iV a0.Flags,iV a0.Age,I A1 n1 c1,I A2 n2 c2]) 1 J J bo J) ?_;obtain ⟨y6,hy6,h⟩:=aa h;refine gD (ak (uR hy6) zP J (hJ (ap (i:=2) J J) (hJ (ap (i:=3) J J) ai)) rP) ?_;rintro _ _ ⟨_,⟨rfl,rfl⟩,rfl⟩;refine V ?_;refine aq J (fun g7=> ?_) (fun g7=> ?_)
 ·replace h:=ag g7 h;refine V ?_;refine gE (bJ J (oL)) ?_;refine gO (au (us:=[iV 0,iV 0,iV 0,iV 0,I none 0 0,I none 0 0]) (cs':=[iV 0,iV 0,iV 0,iV 0,I none 0 0,I none 0 0]) 0 J J J J bu J J J) ?_;rintro _ _ rfl;refine V ?_;obtain rfl:=ao h;exact dl (rs:=[.cell 4 47]) (vs:=[.agg #[iV 0,iV 0,iV 0,iV 0,I none 0 0,I none 0 0]]) J (.cons (bY 0 J J bo) .nil) J ((bL aF 52 _).trans ((bL aF 52 _).trans (cS [1,0] 7))) ⟨_,_,_,_,_,_,J,J⟩
 replace h:=ah g7 h;refine V ?_;refine aP (fun s L=> ∃p11 A11 n11 c11,jq N a0 p11=some r∧s=[(2,pV B4 0),(4,pV B5 0),(5,I A11 n11 c11)]∧L=[dQ rH 4 (I A11 n11 c11) p11,aS A1 n1 c1 a0.Slots,aS A2 n2 c2 a0.More,aw B4 47 [iV a0.Kind,iV a0.Shape,iV a0.Flags,iV a0.Age,I A1 n1 c1,I A2 n2 c2],aw B5 47 [iV 0,iV 0,iV 0,iV 0,I none 0 0,I none 0 0]]) ?_ ?_
 ·refine V ?_;refine aZ (fun m s L=> ∃p13 p14 A13 n13 c13,gH N a1 a0 m p13 p14=some r∧s=[(1,I A3 n3 c3),(2,pV B4 0),(4,pV B5 0),(5,I A13 n13 c13),(6,iV p14)]∧L=[eM A3 n3 c3 a1,dQ rH 4 (I A13 n13 c13) p13,aS A1 n1 c1 a0.Slots,aS A2 n2 c2 a0.More,aw B4 47 [iV a0.Kind,iV a0.Shape,iV a0.Flags,iV a0.Age,I A1 n1 c1,I A2 n2 c2],aw B5 47 [iV 0,iV 0,iV 0,iV 0,I none 0 0,I none 0 0]]) N _ _ ⟨[],0,none,0,0,h,J,J⟩ sA ((bL rH 4 _).trans (cS [5,0,3,4,2,1] 6)) ?_;rintro (_|m12) _ _ ⟨p13,p14,A13,n13,c13,h,rfl,rfl⟩
  ·exact az h
  rw [gH.eq_2] at h;refine ay ?_;refine V ?_;refine gR (aG 3 J ae J hO) ?_;refine V ?_;refine aq J (fun g16=> ?_) (fun g16=> ?_)
  ·replace h:=ag g16 h;refine V ?_;refine ay ?_;refine V ?_;obtain ⟨x17,hx17,h⟩:=aa h;obtain ⟨lx17,ux17,hx17⟩:=aj hx17;refine gR (aB 3 J ae J J hO aI lx17 ux17) ?_;refine gR (lc 3 J ae J (bB lx17 ux17) iL) ?_;refine gR (aW (u:=iV x17.N) 3 J ae J hx17 cM (fun _ _ _ h=>by rw [show _=_ from h];rfl)) ?_;refine V ?_;obtain ⟨y18,hy18,h⟩:=aa h;refine gD (ak (uS hy18) Cg J (hJ (ap (i:=0) J J) ai) rQ) ?_;rintro _ _ ⟨_,⟨rfl,rfl⟩,rfl⟩;refine gD (aN (R:=rH) (vss:=[[.bool y18]]) (xs:=[y18]) J (AR _) J J (fun _ _ hr=> .cons J All2.nil)) ?_;rintro _ _ ⟨A19,n19,c19,rfl,rfl⟩;obtain ⟨q20,h⟩:=am h;refine gD (ba 2 0 J J aJ J J Gq FY J J q20) ?_;rintro _ _ ⟨A21,n21,c21,rfl,rfl⟩;refine V ?_;obtain ⟨q22,h⟩:=am h;refine gE (aT J J q22.1 q22.2) ?_;refine V ?_;exact ⟨m12,_,_,GD _,⟨p13++([y18]:List Bool),p14+2,A21,n21,c21,h,J,J⟩,sA,cS [1,2,3,4,5,6] 7⟩
  replace h:=ah g16 h;refine V ?_;exact ⟨_,_,⟨p13,A13,n13,c13,h,J,J⟩,sA,cS [1,2,3,4,5] 6⟩
 rintro _ _ ⟨p11,A11,n11,c11,h,rfl,rfl⟩;refine V ?_;refine gR (aC (us:=[iV a0.Kind,iV a0.Shape,iV a0.Flags,iV a0.Age,I A1 n1 c1,I A2 n2 c2]) 3 J J bo J) ?_;refine V ?_;obtain ⟨y23,hy23,h⟩:=aa h;refine gD (ak (tq hy23) Dw J (hJ (ap (i:=1) J J) (hJ (ap (i:=2) J J) (hJ (be (i:=0) J) ai))) ra) ?_;rintro _ _ ⟨_,⟨A24,n24,c24,A25,n25,c25,rfl,rfl⟩,rfl⟩;refine gO (au (us:=[iV y23.Kind,iV y23.Shape,iV y23.Flags,iV y23.Age,I A24 n24 c24,I A25 n25 c25]) (cs':=[iV y23.Kind,iV y23.Shape,iV y23.Flags,iV y23.Age,I A24 n24 c24,I A25 n25 c25]) 6 J J J J bu J J J) ?_;rintro _ _ rfl;refine bX ?_;refine V ?_;obtain rfl:=ao h;exact dl (rs:=[.cell 4 47]) (vs:=[.agg #[iV y23.Kind,iV y23.Shape,iV y23.Flags,iV y23.Age,I A24 n24 c24,I A25 n25 c25]]) J (.cons (bY 6 J J bo) .nil) J (cS [0,1] 7) ⟨_,_,_,_,_,_,J,J⟩
theorem ts {r:Gw}: ∀v post,((fun (u:Value) (post:List Chunk)=> ∃A0 n0 c0 A1 n1 c1,u=.agg #[iV r.Kind,iV r.Shape,iV r.Flags,iV r.Age,I A0 n0 c0,I A1 n1 c1]∧post=[cB A0 n0 c0 r.Slots,cB A1 n1 c1 r.More])) v post→ ∀c∈post,bR c:=by
 rintro _ _ ⟨_,_,_,_,_,_,rfl,rfl⟩;exact hJ bm (hJ bm (ai))
end Go.Proofs.YtmimkglhbmcokaaGreat