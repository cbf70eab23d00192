/- Merged texts: part 9. No conditions of their own. -/
import Derived.Test.YtanojiedimeegaaGreatDoorG8
import Derived.Test.YtanojiedimeegaaGreatDoorG2
import Derived.Test.YtanojiedimeegaaGreatDoorG1
namespace Go.Proofs.YtanojiedimeegaaGreatDoor
section
theorem MJ:type_of% Tryz.underlying84:=Tryz.underlying84
theorem MI:type_of% Tryz.underlying42:=Tryz.underlying42
theorem MH:type_of% Tryz.underlying30:=Tryz.underlying30
theorem MG:type_of% Tryz.underlying24:=Tryz.underlying24
theorem MF:type_of% Tryz.func9:=Tryz.func9
variable {A1 A10 A12 A13 A14 A15 A2 A3 A4 A5 A6:Option Addr} {B1 B2 B7 B9 M11 M8 c1 c10 c12 c13 c14 c15 c2 c3 c4 c5 c6 n1 n10 n12 n13 n14 n15 n2 n3 n4 n5 n6:Nat}
open Go.RowKit Asn
set_option maxRecDepth 20000
def ul (N:Nat)(a0:MT)(a1:MQ)(a2:MQ):Option (Bool×MT):=
 (dE N a0 a1).bind fun y17=>(bif !y17.2 then (some true) else (some (decide (ai .i64 y17.1.Flags 1=0)))).bind fun b21=>(bif b21 then (some true) else (some (!decide (ai .i64 y17.1.Flags 32=0)))).bind fun b22=>(bif b22 then (some true) else (some (decide (4096≤(y17.1.More.length:Int))))).bind fun b23=>bif b23 then (some (false,a0)) else (dq (gQ (y17.1.More.length+([a2]:List MQ).length)) ((bH N a0 a1 (⟨y17.1.Kind,y17.1.Shape,y17.1.Flags,y17.1.Age,y17.1.Slots,y17.1.More++([a2]:List MQ)⟩:MY)).bind fun y28=>some (true,y28)))
set_option maxHeartbeats 4000000 in
theorem yF {N:Nat}{a0:MT}{a1:MQ}{a2:MQ}{r:(Bool×MT)}(h:ul N a0 a1 a2=some r):Okc Tryz.prog 33 [pV B1 0,(bz a1),(bz a2)] ([bm A12 n12 c12 a0.symbols_,cH A13 n13 c13 a0.events_,bm A14 n14 c14 a0.out_,ac B1 151 (dm a0 B2 B9 A12 n12 c12 A13 n13 c13 A14 n14 c14),ac B2 199 [I A3 n3 c3,I A4 n4 c4,I A5 n5 c5,I A6 n6 c6,pV B7 0],bw A3 n3 c3 a0.heap_.m_.Young,bw A4 n4 c4 a0.heap_.m_.Old,aX A5 n5 c5 a0.heap_.roots_,aX A6 n6 c6 a0.heap_.pending_,ac B7 247 [.map (some M8)],aG cz cC M8 a0.heap_.set_.at_,ac B9 205 [I A10 n10 c10,.map (some M11)],cL A10 n10 c10 a0.shapes_.shapes_,aG aD cy M11 a0.shapes_.next_]) (fun u post=> ∃A0 n0 c0 A1 n1 c1 A2 n2 c2 A3 n3 c3 M4 A5 n5 c5 M6 A7 n7 c7 A8 n8 c8 A9 n9 c9,u=.bool r.1∧post=[ac B1 151 (dm r.2 B2 B9 A7 n7 c7 A8 n8 c8 A9 n9 c9),ac B2 199 [I A0 n0 c0,I A1 n1 c1,I A2 n2 c2,I A3 n3 c3,pV B7 0],bw A0 n0 c0 r.2.heap_.m_.Young,bw A1 n1 c1 r.2.heap_.m_.Old,aX A2 n2 c2 r.2.heap_.roots_,aX A3 n3 c3 r.2.heap_.pending_,ac B7 247 [.map (some M4)],aG cz cC M4 r.2.heap_.set_.at_,ac B9 205 [I A5 n5 c5,.map (some M6)],cL A5 n5 c5 r.2.shapes_.shapes_,aG aD cy M6 r.2.shapes_.next_,bm A7 n7 c7 r.2.symbols_,cH A8 n8 c8 r.2.events_,bm A9 n9 c9 r.2.out_]):=by
 refine bD Tryz.func33 J J ?_;simp only [aW];refine U ?_
 refine gB (aO J J) fun B15=> ?_
 refine gB (aO J J) fun B16=> ?_
 refine U ?_;refine gR (ah (us:=au a1) 1 J J aH J) ?_;obtain ⟨y17,k,h⟩:=aa h;refine gD (ap (eI k) oK J (hD (ax (i:=5) J) (hD (ax (i:=6) J) (hD (ao (i:=7) J) (hD (ao (i:=8) J) (hD (ao (i:=9) J) (hD (ao (i:=10) J) (hD (ax (i:=11) J) (hD (aU (i:=12) J) (hD (ax (i:=13) J) (hD (ao (i:=14) J) (hD (aU (i:=15) J) (hD (al (i:=2) J J) (hD (al (i:=3) J J) (hD (al (i:=4) J J) aj)))))))))))))) dF) ?_;rintro _ _ ⟨_,⟨A18,n18,c18,A19,n19,c19,rfl,rfl⟩,rfl⟩;refine U ?_
 refine gB (aM gx J) fun B20=> ?_
 refine gW (ar (us:=[iV y17.1.Kind,iV y17.1.Shape,iV y17.1.Flags,iV y17.1.Age,I A18 n18 c18,I A19 n19 c19]) (cs':=[iV y17.1.Kind,iV y17.1.Shape,iV y17.1.Flags,iV y17.1.Age,I A18 n18 c18,I A19 n19 c19]) 0 J J J J du J J J) ?_;refine U ?_;refine aB ?_;refine U ?_;obtain ⟨b21,hb21,h⟩:=aa h;refine aK 5 22 b21 ?_ ?_
 ·clear h;refine aI 17 J (fun g21=> ?_) (fun g21=> ?_)
  ·have h:=aE g21 hb21;refine U ?_;obtain rfl:=am h;exact ad sA (cS [0,1,2,3,4,5,6,7,8,9,10,11,12,13,14,15,16,17,18] 19)
  have h:=aF g21 hb21;refine U ?_;refine fb (bE J J) J (cX g21 J) J ?_;refine U ?_;obtain rfl:=am h;exact ad sA (cS [0,1,2,3,4,5,6,7,8,9,10,11,12,13,14,15,16,17,18] 19)
 refine U ?_;obtain ⟨b22,hb22,h⟩:=aa h;refine aK 5 28 b22 ?_ ?_
 ·clear h;refine aI 23 J (fun g22=> ?_) (fun g22=> ?_)
  ·have h:=aE g22 hb22;refine U ?_;obtain rfl:=am h;exact ad sA (cS [0,1,2,3,4,5,6,7,8,9,10,11,12,13,14,15,16,17,18] 19)
  have h:=aF g22 hb22;refine U ?_;refine fb (bE J J) J (cX g22 J) J ?_;refine U ?_;obtain rfl:=am h;exact ad sA (cS [0,1,2,3,4,5,6,7,8,9,10,11,12,13,14,15,16,17,18] 19)
 refine U ?_;obtain ⟨b23,hb23,h⟩:=aa h;refine aK 5 34 b23 ?_ ?_
 ·clear h;refine aI 29 J (fun g23=> ?_) (fun g23=> ?_)
  ·have h:=aE g23 hb23;refine U ?_;obtain rfl:=am h;exact ad sA (cS [0,1,2,3,4,5,6,7,8,9,10,11,12,13,14,15,16,17,18] 19)
  have h:=aF g23 hb23;refine U ?_;refine cp (bL 2 J aC J hE) J (cX g23 J) J ?_;refine U ?_;obtain rfl:=am h;exact ad sA (cS [0,1,2,3,4,5,6,7,8,9,10,11,12,13,14,15,16,17,18] 19)
 refine U ?_;refine gH J h (fun h=> ?_) (fun h=> ?_)
 ·refine U ?_;obtain rfl:=am h;exact aL J J (cS [8,9,10,11,12,13,14,15,16,17,18,5,6,7] 19) ⟨_,_,_,_,_,_,_,_,_,_,_,_,_,_,_,_,_,_,_,_,_,_,_,_,_,_,J,J⟩
 refine U ?_;refine gR (ah (us:=au a2) 3 J J aH J) ?_;refine gD (cx (R:=cc) (vss:=[(au a2)]) (xs:=[a2]) J (jF _ _ _) J J (fun _ _ hr=> .cons J All2.nil)) ?_;rintro _ _ ⟨A25,n25,c25,rfl,rfl⟩;obtain ⟨q26,h⟩:=ay h;refine gD (ed 3 0 J J aC J J hE yi J J q26) ?_;rintro _ _ ⟨A27,n27,c27,rfl,rfl⟩;refine U ?_;refine gW (ar (us:=[I A27 n27 c27]) (cs':=[iV y17.1.Kind,iV y17.1.Shape,iV y17.1.Flags,iV y17.1.Age,I A18 n18 c18,I A27 n27 c27]) 1 J J J J nv J J J) ?_;refine bM ?_;refine U ?_;refine gR (ah (us:=au a1) 5 J J aH J) ?_;refine gR (ah (us:=[iV y17.1.Kind,iV y17.1.Shape,iV y17.1.Flags,iV y17.1.Age,I A18 n18 c18,I A27 n27 c27]) 1 J J cq J) ?_;refine lq (dC 2 J) ?_;refine lq (dC 3 J) ?_;obtain ⟨y28,k,h⟩:=aa h;refine gD (aA (dZ k) mS J (az [6,7,8,2,3] [9,10,11,12,13,14,15,16,17,18,19] [0,1,2,3,4,5,6,7,8] 20 J)) ?_;rintro _ _ ⟨_,⟨A29,n29,c29,A30,n30,c30,A31,n31,c31,A32,n32,c32,M33,A34,n34,c34,M35,A36,n36,c36,A37,n37,c37,A38,n38,c38,rfl,rfl⟩,rfl⟩;refine bM ?_;refine U ?_;obtain rfl:=am h;exact aL J J (cS [0,1,2,3,4,5,6,7,8,9,10,11,12,13] 23) ⟨_,_,_,_,_,_,_,_,_,_,_,_,_,_,_,_,_,_,_,_,_,_,_,_,_,_,J,J⟩
def jR (N:Nat)(a0:MX):Option Bool:=
 some (!decide (ai .i64 a0.Attrs 4=0))
theorem qf {N:Nat}{a0:MX}{r:Bool}(h:jR N a0=some r):Okc Tryz.prog 130 [(bJ a0)] ([]) (fun u post=>u=.bool r∧post=[]):=by
 refine bD Tryz.func130 J J ?_;simp only [aW];refine U ?_
 refine gB (aO J J) fun B1=> ?_
 refine U ?_;refine gE (bE J J) ?_;refine U ?_;obtain rfl:=am h;exact aL J J (cS [] 1) ⟨J,J⟩
theorem pt {r:Bool}:∀(u:Value)(p:List Chunk),u=.bool r∧p=[]→∀c∈p,cM c:=by
 rintro _ _ ⟨rfl,rfl⟩;exact aj
def jS (N:Nat)(a0:MX):Option Bool:=
 some (!decide (ai .i64 a0.Attrs 5=0))
theorem qi {N:Nat}{a0:MX}{r:Bool}(h:jS N a0=some r):Okc Tryz.prog 131 [(bJ a0)] ([]) (fun u post=>u=.bool r∧post=[]):=by
 refine bD Tryz.func131 J J ?_;simp only [aW];refine U ?_
 refine gB (aO J J) fun B1=> ?_
 refine U ?_;refine gE (bE J J) ?_;refine U ?_;obtain rfl:=am h;exact aL J J (cS [] 1) ⟨J,J⟩
theorem pu {r:Bool}:∀(u:Value)(p:List Chunk),u=.bool r∧p=[]→∀c∈p,cM c:=by
 rintro _ _ ⟨rfl,rfl⟩;exact aj
def jX (N:Nat)(a0:MT):Option Bool:=
 some true
def dR (N:Nat)(y21:((List MM)))(a0:MT)(a1:MQ):Nat→Int→Option Bool
 |0,_=>none
 |m23+1,p24=>bif decide (p24<(y21.length:Int)) then ((bR y21 p24).bind fun x26=>(bZ N a0 a1 x26).bind fun y28=>(jR N y28.1).bind fun y30=>bif y30 then (some false) else (dq (bQ (p24+1)) ((dR N y21 a0 a1 m23) (p24+1)))) else (jX N a0)
def io (N:Nat)(a0:MT)(a1:MQ):Option Bool:=
 (ga N a0 a1).bind fun y16=>(bif !y16 then (some true) else ((kG N a0 a1).bind fun y18=>some y18)).bind fun b17=>bif b17 then (some false) else ((dw N a0 a1).bind fun y21=>dR N y21 a0 a1 N 0)
set_option maxHeartbeats 4000000 in
theorem oC {N:Nat}{a0:MT}{a1:MQ}{r:Bool}(h:io N a0 a1=some r):Okc Tryz.prog 129 [pV B1 0,(bz a1),.func (.func 130) #[] #[]] ([bm A12 n12 c12 a0.symbols_,cH A13 n13 c13 a0.events_,bm A14 n14 c14 a0.out_,aT 0 30 [iV 8,iV 0,.string (⟨#[]⟩:ByteArray)],ac B1 151 (dm a0 B2 B9 A12 n12 c12 A13 n13 c13 A14 n14 c14),ac B2 199 [I A3 n3 c3,I A4 n4 c4,I A5 n5 c5,I A6 n6 c6,pV B7 0],bw A3 n3 c3 a0.heap_.m_.Young,bw A4 n4 c4 a0.heap_.m_.Old,aX A5 n5 c5 a0.heap_.roots_,aX A6 n6 c6 a0.heap_.pending_,ac B7 247 [.map (some M8)],aG cz cC M8 a0.heap_.set_.at_,ac B9 205 [I A10 n10 c10,.map (some M11)],cL A10 n10 c10 a0.shapes_.shapes_,aG aD cy M11 a0.shapes_.next_]) (fun u post=>u=.bool r∧post=[ac B1 151 (dm a0 B2 B9 A12 n12 c12 A13 n13 c13 A14 n14 c14),ac B2 199 [I A3 n3 c3,I A4 n4 c4,I A5 n5 c5,I A6 n6 c6,pV B7 0],bw A3 n3 c3 a0.heap_.m_.Young,bw A4 n4 c4 a0.heap_.m_.Old,aX A5 n5 c5 a0.heap_.roots_,aX A6 n6 c6 a0.heap_.pending_,ac B7 247 [.map (some M8)],aG cz cC M8 a0.heap_.set_.at_,ac B9 205 [I A10 n10 c10,.map (some M11)],cL A10 n10 c10 a0.shapes_.shapes_,aG aD cy M11 a0.shapes_.next_]):=by
 refine bD Tryz.func129 J J ?_;simp only [aW];refine U ?_
 refine gB (aO J J) fun B15=> ?_
 refine U ?_;refine aB ?_;refine U ?_;refine gR (ah (us:=au a1) 0 J J aH J) ?_;obtain ⟨y16,k,h⟩:=aa h;refine gV (aA (lv k) wt J (az [1,2,3] [5,6,7,8,9,10,11,12,13,14,15] [0,1,2,3,4] 16 J)) ?_;refine U ?_;obtain ⟨b17,hb17,h⟩:=aa h;refine aK 4 19 b17 ?_ ?_
 ·clear h;refine aI 15 J (fun g17=> ?_) (fun g17=> ?_)
  ·have h:=aE g17 hb17;refine U ?_;obtain rfl:=am h;exact ad sA (cS [0,1,2,3,4,5,6,7,8,9,10,11,12,13,14,15] 16)
  have h:=aF g17 hb17;refine U ?_;refine cp (ah (us:=au a1) 11 J J aH J) J (cX g17 J) J ?_;obtain ⟨y18,k,h⟩:=aa h;refine gU (aA (po k) CU J (az [12,13,14] [0,1,2,3,4,5,6,7,8,9,10] [11,12,13,14,15] 16 J)) (cX g17 J) ?_;refine U ?_;obtain rfl:=am h;exact ad sA (cS [0,1,2,3,4,5,6,7,8,9,10,11,12,13,14,15] 16)
 refine U ?_;refine gH J h (fun h=> ?_) (fun h=> ?_)
 ·refine U ?_;obtain rfl:=am h;exact aL J J (cS [0,1,2,3,4,5,6,7,8,9,10] 16) ⟨J,J⟩
 refine U ?_;refine ba (fun s L=>jX N a0=some r∧s=[(6,.bool false)]∧L=[aT 0 30 [iV 8,iV 0,.string (⟨#[]⟩:ByteArray)],bm A12 n12 c12 a0.symbols_,cH A13 n13 c13 a0.events_,bm A14 n14 c14 a0.out_,ac B1 151 (dm a0 B2 B9 A12 n12 c12 A13 n13 c13 A14 n14 c14),bw A3 n3 c3 a0.heap_.m_.Young,bw A4 n4 c4 a0.heap_.m_.Old,aX A5 n5 c5 a0.heap_.roots_,aX A6 n6 c6 a0.heap_.pending_,ac B2 199 [I A3 n3 c3,I A4 n4 c4,I A5 n5 c5,I A6 n6 c6,pV B7 0],cL A10 n10 c10 a0.shapes_.shapes_,aG aD cy M11 a0.shapes_.next_,ac B9 205 [I A10 n10 c10,.map (some M11)],aG cz cC M8 a0.heap_.set_.at_,ac B7 247 [.map (some M8)]]) ?_ ?_
 ·refine U ?_;refine gR (ah (us:=au a1) 11 J J aH J) ?_;obtain ⟨y21,k,h⟩:=aa h;refine gD (aA (kr k) xW J (az [12,13,14,15] [0,1,2,3,4,5,6,7,8,9,10] [11,12,13,14,15] 16 J)) ?_;rintro _ _ ⟨_,⟨A22,n22,c22,rfl,rfl⟩,rfl⟩;refine bM ?_;refine gR (bL 0 J aC J MD) ?_;refine U ?_;refine cn (fun m s L=> ∃p24,dR N y21 a0 a1 m p24=some r∧s=[(0,pV B1 0),(2,.func (.func 130) #[] #[]),(4,pV B15 0),(6,.bool false),(22,I A22 n22 c22),(23,iV (y21.length:Int)),(24,iV p24)]∧L=[ju A22 n22 c22 y21,bm A12 n12 c12 a0.symbols_,cH A13 n13 c13 a0.events_,bm A14 n14 c14 a0.out_,ac B1 151 (dm a0 B2 B9 A12 n12 c12 A13 n13 c13 A14 n14 c14),ac B15 30 (au a1),aT 0 30 [iV 8,iV 0,.string (⟨#[]⟩:ByteArray)],bw A3 n3 c3 a0.heap_.m_.Young,bw A4 n4 c4 a0.heap_.m_.Old,aX A5 n5 c5 a0.heap_.roots_,aX A6 n6 c6 a0.heap_.pending_,ac B2 199 [I A3 n3 c3,I A4 n4 c4,I A5 n5 c5,I A6 n6 c6,pV B7 0],cL A10 n10 c10 a0.shapes_.shapes_,aG aD cy M11 a0.shapes_.next_,ac B9 205 [I A10 n10 c10,.map (some M11)],aG cz cC M8 a0.heap_.set_.at_,ac B7 247 [.map (some M8)]]) N _ _ ⟨0,h,J,J⟩ sA (cS [0,13,14,15,1,12,16,3,4,5,6,2,10,11,9,8,7] 17) ?_;rintro (_|m23) _ _ ⟨p24,h,rfl,rfl⟩
  ·exact bu h
  rw [dR.eq_2] at h;refine U ?_;refine aB ?_;refine gH J h (fun h=> ?_) (fun h=> ?_)
  ·refine U ?_;refine aB ?_;refine U ?_;obtain ⟨x26,hx26,h⟩:=aa h;obtain ⟨lx26,ux26,hx26⟩:=aJ hx26;refine gR (bx 0 J aC J J MD cO lx26 ux26) ?_;refine gR (bA (us:=[iV x26.Kind,iV x26.N,.string x26.S]) 0 J aC J hx26 bF (fun _ _ _ h=>by rw [show _=_ from h];rfl)) ?_
   refine gB (aM qP J) fun B27=> ?_
   refine gW (ar (us:=[iV x26.Kind,iV x26.N,.string x26.S]) (cs':=[iV x26.Kind,iV x26.N,.string x26.S]) 0 J J J J cO J J J) ?_;refine U ?_;refine gR (ah (us:=au a1) 6 J J aH J) ?_;refine gR (ah (us:=[iV x26.Kind,iV x26.N,.string x26.S]) 0 J J bF J) ?_;obtain ⟨y28,k,h⟩:=aa h;refine gV (aA (gF k) rG J (az [2,3,4,7] [5,12,8,9,10,11,17,16,15,13,14] [0,1,2,3,4,6,7] 18 J)) ?_;refine U ?_
   refine gB (aM dB J) fun B29=> ?_
   refine gW (ar (us:=aR y28.1) (cs':=aR y28.1) 0 J J J J cm J J J) ?_;refine bM ?_;refine U ?_;refine gR (ah (us:=aR y28.1) 0 J J dA J) ?_;obtain ⟨y30,k,h⟩:=aa h;refine gV (fM (qf k) IM J J J (aj) pt) ?_;refine U ?_;refine gH J h (fun h=> ?_) (fun h=> ?_)
   ·refine U ?_;obtain rfl:=am h;exact aL J J (cS [1,2,3,4,5,6,7,8,9,10,11] 19) ⟨J,J⟩
   refine U ?_;obtain ⟨q32,h⟩:=ay h;refine gE (bI J J q32.1 q32.2) ?_;refine U ?_;exact ⟨m23,_,_,Nh _,⟨p24+1,h,J,J⟩,sA,cS [13,14,15,16,1,17,18,3,4,5,6,2,10,11,9,8,7] 19⟩
  refine U ?_;exact ⟨_,_,⟨h,J,J⟩,sA,cS [6,1,2,3,4,7,8,9,10,11,12,13,14,15,16] 17⟩
 rintro _ _ ⟨h,rfl,rfl⟩;refine U ?_;obtain rfl:=am h;exact aL J J (cS [4,9,5,6,7,8,14,13,12,10,11] 15) ⟨J,J⟩
def jY (N:Nat)(a0:MT):Option Bool:=
 some true
def dS (N:Nat)(y21:((List MM)))(a0:MT)(a1:MQ):Nat→Int→Option Bool
 |0,_=>none
 |m23+1,p24=>bif decide (p24<(y21.length:Int)) then ((bR y21 p24).bind fun x26=>(bZ N a0 a1 x26).bind fun y28=>(jS N y28.1).bind fun y30=>bif y30 then (some false) else (dq (bQ (p24+1)) ((dS N y21 a0 a1 m23) (p24+1)))) else (jY N a0)
def ip (N:Nat)(a0:MT)(a1:MQ):Option Bool:=
 (ga N a0 a1).bind fun y16=>(bif !y16 then (some true) else ((kG N a0 a1).bind fun y18=>some y18)).bind fun b17=>bif b17 then (some false) else ((dw N a0 a1).bind fun y21=>dS N y21 a0 a1 N 0)
set_option maxHeartbeats 4000000 in
theorem oD {N:Nat}{a0:MT}{a1:MQ}{r:Bool}(h:ip N a0 a1=some r):Okc Tryz.prog 129 [pV B1 0,(bz a1),.func (.func 131) #[] #[]] ([bm A12 n12 c12 a0.symbols_,cH A13 n13 c13 a0.events_,bm A14 n14 c14 a0.out_,aT 0 30 [iV 8,iV 0,.string (⟨#[]⟩:ByteArray)],ac B1 151 (dm a0 B2 B9 A12 n12 c12 A13 n13 c13 A14 n14 c14),ac B2 199 [I A3 n3 c3,I A4 n4 c4,I A5 n5 c5,I A6 n6 c6,pV B7 0],bw A3 n3 c3 a0.heap_.m_.Young,bw A4 n4 c4 a0.heap_.m_.Old,aX A5 n5 c5 a0.heap_.roots_,aX A6 n6 c6 a0.heap_.pending_,ac B7 247 [.map (some M8)],aG cz cC M8 a0.heap_.set_.at_,ac B9 205 [I A10 n10 c10,.map (some M11)],cL A10 n10 c10 a0.shapes_.shapes_,aG aD cy M11 a0.shapes_.next_]) (fun u post=>u=.bool r∧post=[ac B1 151 (dm a0 B2 B9 A12 n12 c12 A13 n13 c13 A14 n14 c14),ac B2 199 [I A3 n3 c3,I A4 n4 c4,I A5 n5 c5,I A6 n6 c6,pV B7 0],bw A3 n3 c3 a0.heap_.m_.Young,bw A4 n4 c4 a0.heap_.m_.Old,aX A5 n5 c5 a0.heap_.roots_,aX A6 n6 c6 a0.heap_.pending_,ac B7 247 [.map (some M8)],aG cz cC M8 a0.heap_.set_.at_,ac B9 205 [I A10 n10 c10,.map (some M11)],cL A10 n10 c10 a0.shapes_.shapes_,aG aD cy M11 a0.shapes_.next_]):=by
 refine bD Tryz.func129 J J ?_;simp only [aW];refine U ?_
 refine gB (aO J J) fun B15=> ?_
 refine U ?_;refine aB ?_;refine U ?_;refine gR (ah (us:=au a1) 0 J J aH J) ?_;obtain ⟨y16,k,h⟩:=aa h;refine gV (aA (lv k) wt J (az [1,2,3] [5,6,7,8,9,10,11,12,13,14,15] [0,1,2,3,4] 16 J)) ?_;refine U ?_;obtain ⟨b17,hb17,h⟩:=aa h;refine aK 4 19 b17 ?_ ?_
 ·clear h;refine aI 15 J (fun g17=> ?_) (fun g17=> ?_)
  ·have h:=aE g17 hb17;refine U ?_;obtain rfl:=am h;exact ad sA (cS [0,1,2,3,4,5,6,7,8,9,10,11,12,13,14,15] 16)
  have h:=aF g17 hb17;refine U ?_;refine cp (ah (us:=au a1) 11 J J aH J) J (cX g17 J) J ?_;obtain ⟨y18,k,h⟩:=aa h;refine gU (aA (po k) CU J (az [12,13,14] [0,1,2,3,4,5,6,7,8,9,10] [11,12,13,14,15] 16 J)) (cX g17 J) ?_;refine U ?_;obtain rfl:=am h;exact ad sA (cS [0,1,2,3,4,5,6,7,8,9,10,11,12,13,14,15] 16)
 refine U ?_;refine gH J h (fun h=> ?_) (fun h=> ?_)
 ·refine U ?_;obtain rfl:=am h;exact aL J J (cS [0,1,2,3,4,5,6,7,8,9,10] 16) ⟨J,J⟩
 refine U ?_;refine ba (fun s L=>jY N a0=some r∧s=[(6,.bool false)]∧L=[aT 0 30 [iV 8,iV 0,.string (⟨#[]⟩:ByteArray)],bm A12 n12 c12 a0.symbols_,cH A13 n13 c13 a0.events_,bm A14 n14 c14 a0.out_,ac B1 151 (dm a0 B2 B9 A12 n12 c12 A13 n13 c13 A14 n14 c14),bw A3 n3 c3 a0.heap_.m_.Young,bw A4 n4 c4 a0.heap_.m_.Old,aX A5 n5 c5 a0.heap_.roots_,aX A6 n6 c6 a0.heap_.pending_,ac B2 199 [I A3 n3 c3,I A4 n4 c4,I A5 n5 c5,I A6 n6 c6,pV B7 0],cL A10 n10 c10 a0.shapes_.shapes_,aG aD cy M11 a0.shapes_.next_,ac B9 205 [I A10 n10 c10,.map (some M11)],aG cz cC M8 a0.heap_.set_.at_,ac B7 247 [.map (some M8)]]) ?_ ?_
 ·refine U ?_;refine gR (ah (us:=au a1) 11 J J aH J) ?_;obtain ⟨y21,k,h⟩:=aa h;refine gD (aA (kr k) xW J (az [12,13,14,15] [0,1,2,3,4,5,6,7,8,9,10] [11,12,13,14,15] 16 J)) ?_;rintro _ _ ⟨_,⟨A22,n22,c22,rfl,rfl⟩,rfl⟩;refine bM ?_;refine gR (bL 0 J aC J MD) ?_;refine U ?_;refine cn (fun m s L=> ∃p24,dS N y21 a0 a1 m p24=some r∧s=[(0,pV B1 0),(2,.func (.func 131) #[] #[]),(4,pV B15 0),(6,.bool false),(22,I A22 n22 c22),(23,iV (y21.length:Int)),(24,iV p24)]∧L=[ju A22 n22 c22 y21,bm A12 n12 c12 a0.symbols_,cH A13 n13 c13 a0.events_,bm A14 n14 c14 a0.out_,ac B1 151 (dm a0 B2 B9 A12 n12 c12 A13 n13 c13 A14 n14 c14),ac B15 30 (au a1),aT 0 30 [iV 8,iV 0,.string (⟨#[]⟩:ByteArray)],bw A3 n3 c3 a0.heap_.m_.Young,bw A4 n4 c4 a0.heap_.m_.Old,aX A5 n5 c5 a0.heap_.roots_,aX A6 n6 c6 a0.heap_.pending_,ac B2 199 [I A3 n3 c3,I A4 n4 c4,I A5 n5 c5,I A6 n6 c6,pV B7 0],cL A10 n10 c10 a0.shapes_.shapes_,aG aD cy M11 a0.shapes_.next_,ac B9 205 [I A10 n10 c10,.map (some M11)],aG cz cC M8 a0.heap_.set_.at_,ac B7 247 [.map (some M8)]]) N _ _ ⟨0,h,J,J⟩ sA (cS [0,13,14,15,1,12,16,3,4,5,6,2,10,11,9,8,7] 17) ?_;rintro (_|m23) _ _ ⟨p24,h,rfl,rfl⟩
  ·exact bu h
  rw [dS.eq_2] at h;refine U ?_;refine aB ?_;refine gH J h (fun h=> ?_) (fun h=> ?_)
  ·refine U ?_;refine aB ?_;refine U ?_;obtain ⟨x26,hx26,h⟩:=aa h;obtain ⟨lx26,ux26,hx26⟩:=aJ hx26;refine gR (bx 0 J aC J J MD cO lx26 ux26) ?_;refine gR (bA (us:=[iV x26.Kind,iV x26.N,.string x26.S]) 0 J aC J hx26 bF (fun _ _ _ h=>by rw [show _=_ from h];rfl)) ?_
   refine gB (aM qP J) fun B27=> ?_
   refine gW (ar (us:=[iV x26.Kind,iV x26.N,.string x26.S]) (cs':=[iV x26.Kind,iV x26.N,.string x26.S]) 0 J J J J cO J J J) ?_;refine U ?_;refine gR (ah (us:=au a1) 6 J J aH J) ?_;refine gR (ah (us:=[iV x26.Kind,iV x26.N,.string x26.S]) 0 J J bF J) ?_;obtain ⟨y28,k,h⟩:=aa h;refine gV (aA (gF k) rG J (az [2,3,4,7] [5,12,8,9,10,11,17,16,15,13,14] [0,1,2,3,4,6,7] 18 J)) ?_;refine U ?_
   refine gB (aM dB J) fun B29=> ?_
   refine gW (ar (us:=aR y28.1) (cs':=aR y28.1) 0 J J J J cm J J J) ?_;refine bM ?_;refine U ?_;refine gR (ah (us:=aR y28.1) 0 J J dA J) ?_;obtain ⟨y30,k,h⟩:=aa h;refine gV (fM (qi k) IL J J J (aj) pu) ?_;refine U ?_;refine gH J h (fun h=> ?_) (fun h=> ?_)
   ·refine U ?_;obtain rfl:=am h;exact aL J J (cS [1,2,3,4,5,6,7,8,9,10,11] 19) ⟨J,J⟩
   refine U ?_;obtain ⟨q32,h⟩:=ay h;refine gE (bI J J q32.1 q32.2) ?_;refine U ?_;exact ⟨m23,_,_,Nh _,⟨p24+1,h,J,J⟩,sA,cS [13,14,15,16,1,17,18,3,4,5,6,2,10,11,9,8,7] 19⟩
  refine U ?_;exact ⟨_,_,⟨h,J,J⟩,sA,cS [6,1,2,3,4,7,8,9,10,11,12,13,14,15,16] 17⟩
 rintro _ _ ⟨h,rfl,rfl⟩;refine U ?_;obtain rfl:=am h;exact aL J J (cS [4,9,5,6,7,8,14,13,12,10,11] 15) ⟨J,J⟩
def fN (N:Nat)(a0:MT)(a1:MQ):Option Bool:=
 (ip N a0 a1).bind fun y16=>some y16
theorem nL {N:Nat}{a0:MT}{a1:MQ}{r:Bool}(h:fN N a0 a1=some r):Okc Tryz.prog 47 [pV B1 0,(bz a1)] ([bm A12 n12 c12 a0.symbols_,cH A13 n13 c13 a0.events_,bm A14 n14 c14 a0.out_,aT 0 30 [iV 8,iV 0,.string (⟨#[]⟩:ByteArray)],ac B1 151 (dm a0 B2 B9 A12 n12 c12 A13 n13 c13 A14 n14 c14),ac B2 199 [I A3 n3 c3,I A4 n4 c4,I A5 n5 c5,I A6 n6 c6,pV B7 0],bw A3 n3 c3 a0.heap_.m_.Young,bw A4 n4 c4 a0.heap_.m_.Old,aX A5 n5 c5 a0.heap_.roots_,aX A6 n6 c6 a0.heap_.pending_,ac B7 247 [.map (some M8)],aG cz cC M8 a0.heap_.set_.at_,ac B9 205 [I A10 n10 c10,.map (some M11)],cL A10 n10 c10 a0.shapes_.shapes_,aG aD cy M11 a0.shapes_.next_]) (fun u post=>u=.bool r∧post=[ac B1 151 (dm a0 B2 B9 A12 n12 c12 A13 n13 c13 A14 n14 c14),ac B2 199 [I A3 n3 c3,I A4 n4 c4,I A5 n5 c5,I A6 n6 c6,pV B7 0],bw A3 n3 c3 a0.heap_.m_.Young,bw A4 n4 c4 a0.heap_.m_.Old,aX A5 n5 c5 a0.heap_.roots_,aX A6 n6 c6 a0.heap_.pending_,ac B7 247 [.map (some M8)],aG cz cC M8 a0.heap_.set_.at_,ac B9 205 [I A10 n10 c10,.map (some M11)],cL A10 n10 c10 a0.shapes_.shapes_,aG aD cy M11 a0.shapes_.next_]):=by
 refine bD Tryz.func47 J J ?_;simp only [aW];refine U ?_
 refine gB (aO J J) fun B15=> ?_
 refine U ?_;refine gR (ah (us:=au a1) 0 J J aH J) ?_;obtain ⟨y16,k,h⟩:=aa h;refine gV (aA (oD k) DV J (az [1,2,3,4] [5,6,7,8,9,10,11,12,13,14,15] [0,1,2,3,4] 16 J)) ?_;refine U ?_;obtain rfl:=am h;exact aL J J (cS [0,1,2,3,4,5,6,7,8,9,10] 16) ⟨J,J⟩
def mU (N:Nat):Option Bool:=
 (jJ N).bind fun y1=>(jI N 1).bind fun y16=>(jI N 2).bind fun y17=>(np N y1 ([y16,y17]:List MQ)).bind fun y19=>(fO N y19.2.2 y19.1).bind fun y31=>(bZ N y31.2 y19.1 (⟨0,1,⟨#[]⟩⟩:MM)).bind fun y42=>(bif y19.2.1 then (some y31.1) else (some false)).bind fun b44=>(bif b44 then (some y42.2) else (some false)).bind fun b45=>(bif b45 then (some (decide (y42.1.Attrs=2))) else (some false)).bind fun b46=>(bif b46 then ((jI N 2).bind fun y48=>some (decide (y42.1.Value=y48))) else (some false)).bind fun b47=>bif b47 then ((jI N 3).bind fun y50=>(ul N y31.2 y19.1 y50).bind fun y51=>(bif !y51.1 then ((nq N y51.2 y19.1).bind fun y63=>some (decide (y63=2))) else (some false)).bind fun b62=>(bif b62 then ((fN N y51.2 y19.1).bind fun y65=>some y65) else (some false)).bind fun b64=>some b64) else (some false)
set_option maxHeartbeats 4000000 in
theorem ts {N:Nat}{r:Bool}(h:mU N=some r):Okc Tryz.prog 48 [] ([aT 0 30 [iV 8,iV 0,.string (⟨#[]⟩:ByteArray)]]) (fun u post=>u=.bool r∧post=[]):=by
 refine bD Tryz.func48 J J ?_;simp only [aW];refine U ?_;obtain ⟨y1,k,h⟩:=aa h;refine gD (aA (qR k) GG J (az [] [] [0] 1 J)) ?_;rintro _ _ ⟨_,⟨B2,B3,A4,n4,c4,A5,n5,c5,A6,n6,c6,A7,n7,c7,B8,M9,B10,A11,n11,c11,M12,A13,n13,c13,A14,n14,c14,A15,n15,c15,rfl,rfl⟩,rfl⟩;refine U ?_;refine aB ?_;refine U ?_;refine gE (fQ J Ex) ?_;refine U ?_;refine ia J ?_;refine U ?_;obtain ⟨y16,k,h⟩:=aa h;refine gV (ap (ly k) th J (aj) jl) ?_;obtain ⟨y17,k,h⟩:=aa h;refine gV (ap (ly k) th J (aj) jl) ?_;refine gD (cx (R:=cc) (vss:=[[iV y16.Kind,iV y16.N,.string y16.S],[iV y17.Kind,iV y17.N,.string y17.S]]) (xs:=[y16,y17]) J (xZ _ _ _ _ _ _) J J (fun _ _ hr=> .cons J (.cons J All2.nil))) ?_;rintro _ _ ⟨A18,n18,c18,rfl,rfl⟩;refine lq (dC 0 J) ?_;obtain ⟨y19,k,h⟩:=aa h;refine gD (aA (um k) GC J (az [12,13,14,0] [1,2,3,4,5,6,7,8,9,10,11] [0,12,13,14,15] 16 J)) ?_;rintro _ _ ⟨_,⟨A20,n20,c20,A21,n21,c21,A22,n22,c22,A23,n23,c23,M24,A25,n25,c25,M26,A27,n27,c27,A28,n28,c28,A29,n29,c29,rfl,rfl⟩,rfl⟩;refine bM ?_;refine U ?_
 refine gB (aM gw J) fun B30=> ?_
 refine gW (ar (us:=[iV y19.1.Kind,iV y19.1.N,.string y19.1.S]) (cs':=[iV y19.1.Kind,iV y19.1.N,.string y19.1.S]) 0 J J J J bv J J J) ?_;refine U ?_;refine gR (ah (us:=[iV y19.1.Kind,iV y19.1.N,.string y19.1.S]) 0 J J aH J) ?_;obtain ⟨y31,k,h⟩:=aa h;refine gD (aA (kX k) CR J (az [12,13,14,19] [1,2,3,4,5,6,7,8,9,10,11] [0,12,13,14,15,16,17,18,19] 20 J)) ?_;rintro _ _ ⟨_,⟨A32,n32,c32,A33,n33,c33,A34,n34,c34,A35,n35,c35,M36,A37,n37,c37,M38,A39,n39,c39,A40,n40,c40,A41,n41,c41,rfl,rfl⟩,rfl⟩;refine U ?_;refine gR (ah (us:=[iV y19.1.Kind,iV y19.1.N,.string y19.1.S]) 14 J J aH J) ?_;refine gE (bd J (GN _)) ?_;obtain ⟨y42,k,h⟩:=aa h;refine gV (aA (gF k) rG J (az [11,12,13,22] [0,1,2,3,4,5,6,7,8,9,10] [11,12,13,14,15,16,17,18,19,20,21,22] 23 J)) ?_;refine bM ?_;refine U ?_
 refine gB (aM dB J) fun B43=> ?_
 refine gW (ar (us:=aR y42.1) (cs':=aR y42.1) 0 J J J J cm J J J) ?_;refine U ?_;refine aB ?_;refine bK V ([ac B43 42 (aR y42.1),bm A39 n39 c39 y31.2.symbols_,cH A40 n40 c40 y31.2.events_,bm A41 n41 c41 y31.2.out_,ac B30 30 [iV y19.1.Kind,iV y19.1.N,.string y19.1.S],bm A27 n27 c27 y19.2.2.symbols_,cH A28 n28 c28 y19.2.2.events_,bm A29 n29 c29 y19.2.2.out_,dV A18 n18 c18 ([y16,y17]:List MQ),bm A13 n13 c13 y1.symbols_,cH A14 n14 c14 y1.events_,bm A15 n15 c15 y1.out_,aT 0 30 [iV 8,iV 0,.string (⟨#[]⟩:ByteArray)]]) (cS [0,12,13,14,15,16,17,18,19,20,21,22,23] 24) ?_;refine zE 0 J (aq J) ?_;refine zE 1 J (aq J) ?_;obtain ⟨b44,hb44,h⟩:=aa h;refine gZ (fun l=>((l.setIfInBounds 2 true).setIfInBounds 3 true)) 33 31 b44 (fun rest=> ?_) ?_
 ·clear h;refine i3 29 J (fun g44=> ?_) (fun g44=> ?_)
  ·have h:=aE g44 hb44;refine dG 2 J V (aq J) (bp g44 J) J ?_;refine zE 3 J (d3 g44 J J) ?_;obtain rfl:=am h;exact eQ rest (cN J (av (av bU J) J)) (ae _) (cS [0,12,13,14,15,16,17,18,19,20,21,22,23] 24)
  have h:=aF g44 hb44;refine cv 2 J V (fk g44 J) J ?_;refine zE 3 J (d4 g44 J J) ?_;obtain rfl:=am h;exact eQ rest (cN J (av (av bU J) J)) (ae _) (cS [0,12,13,14,15,16,17,18,19,20,21,22,23] 24)
 refine zE 4 J (aq J) ?_;obtain ⟨b45,hb45,h⟩:=aa h;refine gZ (fun l=>((l.setIfInBounds 5 true).setIfInBounds 6 true)) 30 34 b45 (fun rest=> ?_) ?_
 ·clear h;refine i3 32 J (fun g45=> ?_) (fun g45=> ?_)
  ·have h:=aE g45 hb45;refine dG 5 J V (aq J) (bp g45 J) J ?_;refine zE 6 J (d3 g45 J J) ?_;obtain rfl:=am h;exact eQ rest (cN J (av (av bU J) J)) (ae _) (cS [0,12,13,14,15,16,17,18,19,20,21,22,23] 24)
  have h:=aF g45 hb45;refine cv 5 J V (fk g45 J) J ?_;refine zE 6 J (d4 g45 J J) ?_;obtain rfl:=am h;exact eQ rest (cN J (av (av bU J) J)) (ae _) (cS [0,12,13,14,15,16,17,18,19,20,21,22,23] 24)
 refine zE 7 J (aq J) ?_;obtain ⟨b46,hb46,h⟩:=aa h;refine gZ (fun l=>((((l.setIfInBounds 8 true).setIfInBounds 9 true).setIfInBounds 10 true).setIfInBounds 11 true)) 25 39 b46 (fun rest=> ?_) ?_
 ·clear h;refine i3 35 J (fun g46=> ?_) (fun g46=> ?_)
  ·have h:=aE g46 hb46;refine dG 8 J V (ci J tX) (bp g46 J) J ?_;refine kB 9 J V (aY 0 J J dH J) (bp g46 J) J ?_;refine dG 10 J V (vB J J) (bp g46 J) J ?_;refine zE 11 J (d3 g46 J J) ?_;obtain rfl:=am h;exact eQ rest (cN J (av (av (av (av bU J) J) J) J)) (ae _) (cS [0,12,13,14,15,16,17,18,19,20,21,22,23] 24)
  have h:=aF g46 hb46;refine cv 8 J V (fk g46 J) J ?_;refine cv 9 J V (fk g46 J) J ?_;refine cv 10 J V (fk g46 J) J ?_;refine zE 11 J (d4 g46 J J) ?_;obtain rfl:=am h;exact eQ rest (cN J (av (av (av (av bU J) J) J) J)) (ae _) (cS [0,12,13,14,15,16,17,18,19,20,21,22,23] 24)
 refine zE 12 J (aq J) ?_;obtain ⟨b47,hb47,h⟩:=aa h;refine gZ (fun l=>(((((l.setIfInBounds 13 true).setIfInBounds 14 true).setIfInBounds 15 true).setIfInBounds 16 true).setIfInBounds 17 true)) 19 45 b47 (fun rest=> ?_) ?_
 ·clear h;refine i3 40 J (fun g47=> ?_) (fun g47=> ?_)
  ·have h:=aE g47 hb47;refine dG 13 J V (ci J Ah) (bp g47 J) J ?_;refine kB 14 J V (ah (us:=au y42.1.Value) 0 J J aH J) (bp g47 J) J ?_;obtain ⟨y48,k,h⟩:=aa h;refine mK 15 J V (ap (ly k) th J (aj) jl) J (bp g47 J) J ?_;rintro _ _ ⟨_,⟨rfl,rfl⟩,rfl⟩;refine eg (cS [0,12,13,14,15,16,17,18,19,20,21,22,23] 24) ?_;refine dG 16 J V (mi (x:=y42.1.Value) (y:=y48) J J) (bp g47 J) J ?_;refine zE 17 J (d3 g47 J J) ?_;obtain rfl:=am h;exact eQ rest (cN J (av (av (av (av (av bU J) J) J) J) J)) (ae _) (cS [0,12,13,14,15,16,17,18,19,20,21,22,23] 24)
  have h:=aF g47 hb47;refine cv 13 J V (fk g47 J) J ?_;refine cv 14 J V (fk g47 J) J ?_;refine cv 15 J V (fk g47 J) J ?_;refine cv 16 J V (fk g47 J) J ?_;refine zE 17 J (d4 g47 J J) ?_;obtain rfl:=am h;exact eQ rest (cN J (av (av (av (av (av bU J) J) J) J) J)) (ae _) (cS [0,12,13,14,15,16,17,18,19,20,21,22,23] 24)
 refine zE 18 J (aq J) ?_;refine i3 46 J (fun g49=> ?_) (fun g49=> ?_)
 ·replace h:=aE g49 h;refine dG 19 J V (aq J) (bp g49 J) J ?_;refine kB 20 J V (ah (us:=[iV y19.1.Kind,iV y19.1.N,.string y19.1.S]) 4 J J aH J) (bp g49 J) J ?_;obtain ⟨y50,k,h⟩:=aa h;refine mK 21 J V (ap (ly k) th J (aj) jl) J (bp g49 J) J ?_;rintro _ _ ⟨_,⟨rfl,rfl⟩,rfl⟩;refine eg (cS [0,12,13,14,15,16,17,18,19,20,21,22,23] 24) ?_;obtain ⟨y51,k,h⟩:=aa h;refine mK 22 J V (aA (yF k) Ks J (az [12,13,14] [1,2,3,4,5,6,7,8,9,10,11] [0,12,13,14,15,16,17,18,19,20,21,22,23] 24 J)) J (bp g49 J) J ?_;rintro _ _ ⟨_,⟨A52,n52,c52,A53,n53,c53,A54,n54,c54,A55,n55,c55,M56,A57,n57,c57,M58,A59,n59,c59,A60,n60,c60,A61,n61,c61,rfl,rfl⟩,rfl⟩;refine ⟨_,cS [11,12,13,14,15,16,17,18,19,20,21,22,23,24,25,26] 27,(cv_tl).trans ((cv_tl).trans (cv_tl)),?_⟩;refine dt ?_;refine dG 23 J V (xC J) (bp g49 J) J ?_;refine zE 24 J (d3 g49 J J) ?_;refine zE 25 J (aq J) ?_;obtain ⟨b62,hb62,h⟩:=aa h;refine gZ (fun l=>(((((l.setIfInBounds 26 true).setIfInBounds 27 true).setIfInBounds 28 true).setIfInBounds 29 true).setIfInBounds 30 true)) 6 58 b62 (fun rest=> ?_) ?_
  ·clear h;refine i3 53 J (fun g62=> ?_) (fun g62=> ?_)
   ·have h:=aE g62 hb62;refine dG 26 J V (aq J) (bp g62 J) J ?_;refine kB 27 J V (ah (us:=[iV y19.1.Kind,iV y19.1.N,.string y19.1.S]) 7 J J aH J) (bp g62 J) J ?_;obtain ⟨y63,k,h⟩:=aa h;refine mK 28 J V (ap (uo k) GH J (hD (ax (i:=0) J) (hD (ax (i:=1) J) (hD (ao (i:=2) J) (hD (ao (i:=3) J) (hD (ao (i:=4) J) (hD (ao (i:=5) J) (hD (ax (i:=6) J) (hD (aU (i:=7) J) (hD (ax (i:=8) J) (hD (ao (i:=9) J) (hD (aU (i:=10) J) (hD (al (i:=11) J J) (hD (al (i:=12) J J) (hD (al (i:=13) J J) aj)))))))))))))) rM) J (bp g62 J) J ?_;rintro _ _ ⟨_,⟨rfl,rfl⟩,rfl⟩;refine eg (cS [11,12,13,14,15,16,17,18,19,20,21,22,23,24,25,26] 27) ?_;refine dG 29 J V (vB J J) (bp g62 J) J ?_;refine zE 30 J (d3 g62 J J) ?_;obtain rfl:=am h;exact eQ rest (cN J (av (av (av (av (av bU J) J) J) J) J)) (ae _) (cS [11,12,13,14,15,16,17,18,19,20,21,22,23,24,25,26] 27)
   have h:=aF g62 hb62;refine cv 26 J V (fk g62 J) J ?_;refine cv 27 J V (fk g62 J) J ?_;refine cv 28 J V (fk g62 J) J ?_;refine cv 29 J V (fk g62 J) J ?_;refine zE 30 J (d4 g62 J J) ?_;obtain rfl:=am h;exact eQ rest (cN J (av (av (av (av (av bU J) J) J) J) J)) (ae _) (cS [11,12,13,14,15,16,17,18,19,20,21,22,23,24,25,26] 27)
  refine zE 31 J (aq J) ?_;obtain ⟨b64,hb64,h⟩:=aa h;refine gZ (fun l=>((((l.setIfInBounds 32 true).setIfInBounds 33 true).setIfInBounds 34 true).setIfInBounds 35 true)) 1 63 b64 (fun rest=> ?_) ?_
  ·clear h;refine i3 59 J (fun g64=> ?_) (fun g64=> ?_)
   ·have h:=aE g64 hb64;refine dG 32 J V (aq J) (bp g64 J) J ?_;refine kB 33 J V (ah (us:=[iV y19.1.Kind,iV y19.1.N,.string y19.1.S]) 7 J J aH J) (bp g64 J) J ?_;obtain ⟨y65,k,h⟩:=aa h;refine mK 34 J V (aA (nL k) GF J (az [11,12,13,26] [0,1,2,3,4,5,6,7,8,9,10] [11,12,13,14,15,16,17,18,19,20,21,22,23,24,25,26] 27 J)) J (bp g64 J) J ?_;rintro _ _ ⟨_,⟨rfl,rfl⟩,rfl⟩;refine eg (cS [11,12,13,14,15,16,17,18,19,20,21,22,23,24,25,26] 27) ?_;refine dt ?_;refine zE 35 J (d3 g64 J J) ?_;obtain rfl:=am h;exact eQ rest (cN J (av (av (av (av bU J) J) J) J)) (ae _) (cS [11,12,13,14,15,16,17,18,19,20,21,22,23,24,25,26] 27)
   have h:=aF g64 hb64;refine cv 32 J V (fk g64 J) J ?_;refine cv 33 J V (fk g64 J) J ?_;refine cv 34 J V (fk g64 J) J ?_;refine zE 35 J (d4 g64 J J) ?_;obtain rfl:=am h;exact eQ rest (cN J (av (av (av (av bU J) J) J) J)) (ae _) (cS [11,12,13,14,15,16,17,18,19,20,21,22,23,24,25,26] 27)
  refine zE 36 J (bj J) ?_;refine bC V ?_;refine U ?_;obtain rfl:=am h;exact aL J J (cS [] 27) ⟨J,J⟩
 replace h:=aF g49 h;refine cv 19 J V (fk g49 J) J ?_;refine cv 20 J V (fk g49 J) J ?_;refine cv 21 J V (fk g49 J) J ?_;refine cv 22 J V (fk g49 J) J ?_;refine cv 23 J V (fk g49 J) J ?_;refine zE 24 J (d4 g49 J J) ?_;refine zE 25 J (aq J) ?_;refine zU 26 J ?_;refine zU 27 J ?_;refine zU 28 J ?_;refine zU 29 J ?_;refine zE 30 J (pN J J) ?_;refine zE 31 J (aq J) ?_;refine zU 32 J ?_;refine zU 33 J ?_;refine zU 34 J ?_;refine zE 35 J (pN J J) ?_;refine zE 36 J (bj J) ?_;refine bC V ?_;refine U ?_;obtain rfl:=am h;exact aL J J (cS [] 24) ⟨J,J⟩
theorem qS {r:Bool}:∀(u:Value)(p:List Chunk),u=.bool r∧p=[]→∀c∈p,cM c:=by
 rintro _ _ ⟨rfl,rfl⟩;exact aj
def oA (N:Nat)(a0:Int)(p9:Bool):Option ((List MQ)×Bool):=
 bif p9 then (some (([(⟨3,0,⟨#[]⟩⟩:MQ),(⟨0,0,⟨#[]⟩⟩:MQ)]:List MQ),true)) else (bif decide (a0=7) then (some (([(⟨0,0,⟨#[]⟩⟩:MQ),(⟨0,0,⟨#[]⟩⟩:MQ),(⟨3,0,⟨#[]⟩⟩:MQ),(⟨3,0,⟨#[]⟩⟩:MQ)]:List MQ),true)) else (some ([],false)))
def lX (N:Nat)(a0:Int)(p3:Bool):Option ((List MQ)×Bool):=
 bif p3 then (some ([],true)) else (bif decide (a0=6) then (oA N a0 (decide (a0=6))) else (oA N a0 (decide (a0=9))))
def sH (N:Nat)(a0:Int):Option ((List MQ)×Bool):=
 bif decide (a0=1) then (lX N a0 (decide (a0=1))) else (bif decide (a0=2) then (lX N a0 (decide (a0=2))) else (lX N a0 (decide (a0=8))))
set_option maxHeartbeats 4000000 in
theorem xi {N:Nat}{a0:Int}{r:((List MQ)×Bool)}(h:sH N a0=some r):Okc Tryz.prog 108 [iV a0] ([]) (fun u post=> ∃A0 n0 c0,u=.tuple #[I A0 n0 c0,.bool r.2]∧post=[aX A0 n0 c0 r.1]):=by
 refine bD Tryz.func108 J J ?_;simp only [aW];refine U ?_;refine gE (bd J (ug _)) ?_
 refine gB (aM gw J) fun B1=> ?_
 refine gW (ar (us:=[iV 3,iV 0,.string (⟨#[]⟩)]) (cs':=[iV 3,iV 0,.string (⟨#[]⟩)]) 0 J J J J bv J J J) ?_;refine U ?_;refine aB ?_;refine U ?_;refine ba (fun s L=> ∃p3,lX N a0 p3=some r∧s=[(2,I none 0 0),(3,.bool false),(4,pV B1 0),(6,iV a0),(7,.bool p3)]∧L=[ac B1 30 [iV 3,iV 0,.string (⟨#[]⟩)]]) ?_ ?_
 ·refine U ?_;refine gH J h (fun h=> ?_) (fun h=> ?_)
  ·refine U ?_;exact ⟨_,_,⟨decide (a0=1),h,J,J⟩,sA,cS [0] 1⟩
  refine U ?_;refine gH J h (fun h=> ?_) (fun h=> ?_)
  ·refine U ?_;exact ⟨_,_,⟨decide (a0=2),h,J,J⟩,sA,cS [0] 1⟩
  refine U ?_;exact ⟨_,_,⟨decide (a0=8),h,J,J⟩,sA,cS [0] 1⟩
 rintro _ _ ⟨p3,h,rfl,rfl⟩;refine gH J h (fun h=> ?_) (fun h=> ?_)
 ·refine U ?_;obtain rfl:=am h;exact dc J J J ((gA cc 30 _).trans (cS [0] 2)) ⟨_,_,_,J,J⟩
 refine ba (fun s L=> ∃p9,oA N a0 p9=some r∧s=[(2,I none 0 0),(3,.bool false),(4,pV B1 0),(6,iV a0),(11,.bool p9)]∧L=[ac B1 30 [iV 3,iV 0,.string (⟨#[]⟩)]]) ?_ ?_
 ·refine U ?_;refine gH J h (fun h=> ?_) (fun h=> ?_)
  ·refine U ?_;exact ⟨_,_,⟨decide (a0=6),h,J,J⟩,sA,cS [0] 1⟩
  refine U ?_;exact ⟨_,_,⟨decide (a0=9),h,J,J⟩,sA,cS [0] 1⟩
 rintro _ _ ⟨p9,h,rfl,rfl⟩;refine gH J h (fun h=> ?_) (fun h=> ?_)
 ·refine U ?_;refine gR (ah (us:=[iV 3,iV 0,.string (⟨#[]⟩)]) 0 J J aH J) ?_;refine gE (bd J (gC)) ?_;refine gD (cx (R:=cc) (vss:=[[iV 3,iV 0,.string (⟨#[]⟩)],[iV 0,iV 0,.string (⟨#[]⟩)]]) (xs:=[(⟨3,0,⟨#[]⟩⟩:MQ),(⟨0,0,⟨#[]⟩⟩:MQ)]) J (xZ _ _ _ _ _ _) J J (fun _ _ hr=> .cons J (.cons J All2.nil))) ?_;rintro _ _ ⟨A12,n12,c12,rfl,rfl⟩;refine U ?_;obtain rfl:=am h;exact dc J J J (cS [0] 2) ⟨_,_,_,J,J⟩
 refine U ?_;refine gH J h (fun h=> ?_) (fun h=> ?_)
 ·refine U ?_;refine gE (bd J (gC)) ?_;refine gE (bd J (gC)) ?_;refine gR (ah (us:=[iV 3,iV 0,.string (⟨#[]⟩)]) 0 J J aH J) ?_;refine gR (ah (us:=[iV 3,iV 0,.string (⟨#[]⟩)]) 0 J J aH J) ?_;refine gD (cx (R:=cc) (vss:=[[iV 0,iV 0,.string (⟨#[]⟩)],[iV 0,iV 0,.string (⟨#[]⟩)],[iV 3,iV 0,.string (⟨#[]⟩)],[iV 3,iV 0,.string (⟨#[]⟩)]]) (xs:=[(⟨0,0,⟨#[]⟩⟩:MQ),(⟨0,0,⟨#[]⟩⟩:MQ),(⟨3,0,⟨#[]⟩⟩:MQ),(⟨3,0,⟨#[]⟩⟩:MQ)]) J (GK _ _ _ _ _ _ _ _ _ _ _ _) J J (fun _ _ hr=> .cons J (.cons J (.cons J (.cons J All2.nil))))) ?_;rintro _ _ ⟨A14,n14,c14,rfl,rfl⟩;refine U ?_;obtain rfl:=am h;exact dc J J J (cS [0] 2) ⟨_,_,_,J,J⟩
 refine U ?_;obtain rfl:=am h;exact dc J J J ((gA cc 30 _).trans (cS [0] 2)) ⟨_,_,_,J,J⟩
theorem uK {r:((List MQ)×Bool)}:∀(u:Value)(p:List Chunk),(∃A0 n0 c0,u=.tuple #[I A0 n0 c0,.bool r.2]∧p=[aX A0 n0 c0 r.1])→∀c∈p,cM c:=by
 rintro _ _ ⟨_,_,_,rfl,rfl⟩;exact hD gb (aj)
def tL (N:Nat)(a0:MT)(a1:MQ):Option Bool:=
 bif decide (a1.Kind=1) then (some true) else ((dv N a0 a1).bind fun y17=>AV y17 (fun y17_0=>some false) (fun y17_1=>some true))
theorem yr {N:Nat}{a0:MT}{a1:MQ}{r:Bool}(h:tL N a0 a1=some r):Okc Tryz.prog 109 [pV B1 0,(bz a1)] ([bm A12 n12 c12 a0.symbols_,cH A13 n13 c13 a0.events_,bm A14 n14 c14 a0.out_,ac B1 151 (dm a0 B2 B9 A12 n12 c12 A13 n13 c13 A14 n14 c14),ac B2 199 [I A3 n3 c3,I A4 n4 c4,I A5 n5 c5,I A6 n6 c6,pV B7 0],bw A3 n3 c3 a0.heap_.m_.Young,bw A4 n4 c4 a0.heap_.m_.Old,aX A5 n5 c5 a0.heap_.roots_,aX A6 n6 c6 a0.heap_.pending_,ac B7 247 [.map (some M8)],aG cz cC M8 a0.heap_.set_.at_,ac B9 205 [I A10 n10 c10,.map (some M11)],cL A10 n10 c10 a0.shapes_.shapes_,aG aD cy M11 a0.shapes_.next_]) (fun u post=>u=.bool r∧post=[ac B1 151 (dm a0 B2 B9 A12 n12 c12 A13 n13 c13 A14 n14 c14),ac B2 199 [I A3 n3 c3,I A4 n4 c4,I A5 n5 c5,I A6 n6 c6,pV B7 0],bw A3 n3 c3 a0.heap_.m_.Young,bw A4 n4 c4 a0.heap_.m_.Old,aX A5 n5 c5 a0.heap_.roots_,aX A6 n6 c6 a0.heap_.pending_,ac B7 247 [.map (some M8)],aG cz cC M8 a0.heap_.set_.at_,ac B9 205 [I A10 n10 c10,.map (some M11)],cL A10 n10 c10 a0.shapes_.shapes_,aG aD cy M11 a0.shapes_.next_]):=by
 refine bD Tryz.func109 J J ?_;simp only [aW];refine U ?_
 refine gB (aO J J) fun B15=> ?_
 refine U ?_;refine aB ?_;refine U ?_;refine gH J h (fun h=> ?_) (fun h=> ?_)
 ·refine U ?_;refine gE (od J Ex) ?_;refine U ?_;obtain rfl:=am h;exact aL J J (cS [4,5,6,7,8,9,10,11,12,13,14] 15) ⟨J,J⟩
 refine U ?_;refine gR (ah (us:=au a1) 0 J J aH J) ?_;obtain ⟨y17,hy17,h⟩:=aa h;rcases y17 with y17_0|y17_1
 ·replace h:=Cn h;refine gV (aA (bP hy17) ir J (az [1,2,3] [4,5,6,7,8,9,10,11,12,13,14] [0,1,2,3] 15 J)) ?_;refine U ?_;obtain rfl:=am h;exact aL J J (cS [0,1,2,3,4,5,6,7,8,9,10] 15) ⟨J,J⟩
 replace h:=Cm h;refine gD (aA (bP hy17) ir J (az [1,2,3] [4,5,6,7,8,9,10,11,12,13,14] [0,1,2,3] 15 J)) ?_;rintro _ _ ⟨_,⟨B18,A19,n19,c19,A20,n20,c20,rfl,rfl⟩,rfl⟩;refine U ?_;obtain rfl:=am h;exact aL J J (cS [3,4,5,6,7,8,9,10,11,12,13] 18) ⟨J,J⟩
def sI (N:Nat)(a0:MT)(a1:MQ):Option MT:=
 (dv N a0 a1).bind fun y16=>AV y16 (fun y16_0=>some a0) (fun y16_1=>bif decide (ai .i64 y16_1.Cell.Flags 16=0) then ((fu N a0 a1 (⟨y16_1.Cell.Kind,y16_1.Cell.Shape,bf .i64 y16_1.Cell.Flags 16,y16_1.Cell.Age,y16_1.Cell.Slots,y16_1.Cell.More⟩:MY)).bind fun y35=>some y35) else (some a0))
theorem xj {N:Nat}{a0:MT}{a1:MQ}{r:MT}(h:sI N a0 a1=some r):Okc Tryz.prog 111 [pV B1 0,(bz a1)] ([bm A12 n12 c12 a0.symbols_,cH A13 n13 c13 a0.events_,bm A14 n14 c14 a0.out_,ac B1 151 (dm a0 B2 B9 A12 n12 c12 A13 n13 c13 A14 n14 c14),ac B2 199 [I A3 n3 c3,I A4 n4 c4,I A5 n5 c5,I A6 n6 c6,pV B7 0],bw A3 n3 c3 a0.heap_.m_.Young,bw A4 n4 c4 a0.heap_.m_.Old,aX A5 n5 c5 a0.heap_.roots_,aX A6 n6 c6 a0.heap_.pending_,ac B7 247 [.map (some M8)],aG cz cC M8 a0.heap_.set_.at_,ac B9 205 [I A10 n10 c10,.map (some M11)],cL A10 n10 c10 a0.shapes_.shapes_,aG aD cy M11 a0.shapes_.next_]) (fun u post=> ∃A0 n0 c0 A1 n1 c1 A2 n2 c2 A3 n3 c3 M4 A5 n5 c5 M6 A7 n7 c7 A8 n8 c8 A9 n9 c9,u=.tuple #[]∧post=[ac B1 151 (dm r B2 B9 A7 n7 c7 A8 n8 c8 A9 n9 c9),ac B2 199 [I A0 n0 c0,I A1 n1 c1,I A2 n2 c2,I A3 n3 c3,pV B7 0],bw A0 n0 c0 r.heap_.m_.Young,bw A1 n1 c1 r.heap_.m_.Old,aX A2 n2 c2 r.heap_.roots_,aX A3 n3 c3 r.heap_.pending_,ac B7 247 [.map (some M4)],aG cz cC M4 r.heap_.set_.at_,ac B9 205 [I A5 n5 c5,.map (some M6)],cL A5 n5 c5 r.shapes_.shapes_,aG aD cy M6 r.shapes_.next_,bm A7 n7 c7 r.symbols_,cH A8 n8 c8 r.events_,bm A9 n9 c9 r.out_]):=by
 refine bD Tryz.func111 J J ?_;simp only [aW];refine U ?_
 refine gB (aO J J) fun B15=> ?_
 refine U ?_;refine gR (ah (us:=au a1) 0 J J aH J) ?_;obtain ⟨y16,hy16,h⟩:=aa h;rcases y16 with y16_0|y16_1
 ·replace h:=Cn h;refine gV (aA (bP hy16) ir J (az [1,2,3] [4,5,6,7,8,9,10,11,12,13,14] [0,1,2,3] 15 J)) ?_;refine U ?_;refine ia J ?_;refine oP ?_;obtain rfl:=am h;exact fR J (cS [0,1,2,3,4,5,6,7,8,9,10,12,13,14] 15) ⟨_,_,_,_,_,_,_,_,_,_,_,_,_,_,_,_,_,_,_,_,_,_,_,_,_,_,J,J⟩
 replace h:=Cm h;refine gD (aA (bP hy16) ir J (az [1,2,3] [4,5,6,7,8,9,10,11,12,13,14] [0,1,2,3] 15 J)) ?_;rintro _ _ ⟨_,⟨B17,A18,n18,c18,A19,n19,c19,rfl,rfl⟩,rfl⟩;refine U ?_;refine gE (bE J J) ?_;refine U ?_;refine gH J h (fun h=> ?_) (fun h=> ?_)
 ·refine U ?_;refine gE (kP J J) ?_;refine U ?_;refine gW (ar (us:=[iV (bf .i64 y16_1.Cell.Flags 16)]) (cs':=[iV y16_1.Cell.Kind,iV y16_1.Cell.Shape,iV (bf .i64 y16_1.Cell.Flags 16),iV y16_1.Cell.Age,I A18 n18 c18,I A19 n19 c19,pV B1 0,iV y16_1.at_.Kind,iV y16_1.at_.N,.string y16_1.at_.S]) 0 J J J J iM J J J) ?_;refine bM ?_;refine U ?_;refine bK V ([ac B17 140 [iV y16_1.Cell.Kind,iV y16_1.Cell.Shape,iV (bf .i64 y16_1.Cell.Flags 16),iV y16_1.Cell.Age,I A18 n18 c18,I A19 n19 c19,pV B1 0,iV y16_1.at_.Kind,iV y16_1.at_.N,.string y16_1.at_.S],aX A18 n18 c18 y16_1.Cell.Slots,aX A19 n19 c19 y16_1.Cell.More,ac B15 30 (au a1),bm A12 n12 c12 a0.symbols_,cH A13 n13 c13 a0.events_,bm A14 n14 c14 a0.out_]) (cS [0,1,2,14,15,16,17] 18) ?_;refine zE 0 J (aq J) ?_;refine zR 1 J (ah (us:=au a1) 3 J J aH J) ?_;refine zE 2 J (aq J) ?_;refine zE 3 J (bc J) ?_;refine zE 4 J (ef J gc) ?_;refine zR 5 J (ah (us:=[iV y16_1.Cell.Kind,iV y16_1.Cell.Shape,iV (bf .i64 y16_1.Cell.Flags 16),iV y16_1.Cell.Age,I A18 n18 c18,I A19 n19 c19]) 0 J J cq J) ?_;obtain ⟨y35,k,h⟩:=aa h;refine zD 6 J (aA (ng k) mS J (az [15,16,17] [3,4,5,6,7,8,9,10,11,12,13,1,2] [0,14,15,16,17] 18 J)) ?_;rintro _ _ ⟨_,⟨A36,n36,c36,A37,n37,c37,A38,n38,c38,A39,n39,c39,M40,A41,n41,c41,M42,A43,n43,c43,A44,n44,c44,A45,n45,c45,rfl,rfl⟩,rfl⟩;refine ⟨_,cS [11,12,13,16,14,15,17,18,19,20] 21,(cv_tl).trans ((cv_tl).trans (cv_tl)),?_⟩
  refine dt ?_;refine bC V ?_;obtain rfl:=am h;exact fR J (cS [0,1,2,3,4,5,6,7,8,9,10,11,12,13] 21) ⟨_,_,_,_,_,_,_,_,_,_,_,_,_,_,_,_,_,_,_,_,_,_,_,_,_,_,J,J⟩
 refine oP ?_;obtain rfl:=am h;exact fR J (cS [3,4,5,6,7,8,9,10,11,12,13,15,16,17] 18) ⟨_,_,_,_,_,_,_,_,_,_,_,_,_,_,_,_,_,_,_,_,_,_,_,_,_,_,J,J⟩
def nQ (N:Nat)(a0:MT)(a1:MQ)(a2:Int):Option (MQ×Bool×MT):=
 (sH N a2).bind fun y17=>bif !y17.2 then (some ((⟨0,0,⟨#[]⟩⟩:MQ),false,a0)) else ((tL N a0 a1).bind fun y20=>bif !y20 then (some ((⟨0,0,⟨#[]⟩⟩:MQ),false,a0)) else ((jr N a0 (⟨a2,0,1,0,([a1]:List MQ),y17.1⟩:MY)).bind fun y23=>bif !y23.2.1 then (some ((⟨0,0,⟨#[]⟩⟩:MQ),false,y23.2.2)) else ((sI N y23.2.2 a1).bind fun y36=>some (y23.1,true,y36))))
set_option maxHeartbeats 4000000 in
theorem yu {N:Nat}{a0:MT}{a1:MQ}{a2:Int}{r:(MQ×Bool×MT)}(h:nQ N a0 a1 a2=some r):Okc Tryz.prog 35 [pV B1 0,(bz a1),iV a2] ([bm A12 n12 c12 a0.symbols_,cH A13 n13 c13 a0.events_,bm A14 n14 c14 a0.out_,ac B1 151 (dm a0 B2 B9 A12 n12 c12 A13 n13 c13 A14 n14 c14),ac B2 199 [I A3 n3 c3,I A4 n4 c4,I A5 n5 c5,I A6 n6 c6,pV B7 0],bw A3 n3 c3 a0.heap_.m_.Young,bw A4 n4 c4 a0.heap_.m_.Old,aX A5 n5 c5 a0.heap_.roots_,aX A6 n6 c6 a0.heap_.pending_,ac B7 247 [.map (some M8)],aG cz cC M8 a0.heap_.set_.at_,ac B9 205 [I A10 n10 c10,.map (some M11)],cL A10 n10 c10 a0.shapes_.shapes_,aG aD cy M11 a0.shapes_.next_]) (fun u post=> ∃A0 n0 c0 A1 n1 c1 A2 n2 c2 A3 n3 c3 M4 A5 n5 c5 M6 A7 n7 c7 A8 n8 c8 A9 n9 c9,u=.tuple #[.agg #[iV r.1.Kind,iV r.1.N,.string r.1.S],.bool r.2.1]∧post=[ac B1 151 (dm r.2.2 B2 B9 A7 n7 c7 A8 n8 c8 A9 n9 c9),ac B2 199 [I A0 n0 c0,I A1 n1 c1,I A2 n2 c2,I A3 n3 c3,pV B7 0],bw A0 n0 c0 r.2.2.heap_.m_.Young,bw A1 n1 c1 r.2.2.heap_.m_.Old,aX A2 n2 c2 r.2.2.heap_.roots_,aX A3 n3 c3 r.2.2.heap_.pending_,ac B7 247 [.map (some M4)],aG cz cC M4 r.2.2.heap_.set_.at_,ac B9 205 [I A5 n5 c5,.map (some M6)],cL A5 n5 c5 r.2.2.shapes_.shapes_,aG aD cy M6 r.2.2.shapes_.next_,bm A7 n7 c7 r.2.2.symbols_,cH A8 n8 c8 r.2.2.events_,bm A9 n9 c9 r.2.2.out_]):=by
 refine bD Tryz.func35 J J ?_;simp only [aW];refine U ?_
 refine gB (aO J J) fun B15=> ?_
 refine gB (aM gw J) fun B16=> ?_
 refine U ?_;obtain ⟨y17,k,h⟩:=aa h;refine gD (ap (xi k) IU J (aj) uK) ?_;rintro _ _ ⟨_,⟨A18,n18,c18,rfl,rfl⟩,rfl⟩;refine U ?_;refine aB ?_;refine U ?_;refine aI 18 J (fun g19=> ?_) (fun g19=> ?_)
 ·replace h:=aE g19 h;refine U ?_;refine kC J ?_;refine U ?_;refine gE (bd J (gC)) ?_;refine gW (ar (us:=[iV 0,iV 0,.string (⟨#[]⟩)]) (cs':=[iV 0,iV 0,.string (⟨#[]⟩)]) 1 J J J J bv J J J) ?_;refine U ?_;obtain rfl:=am h;exact cD (rs:=[.cell 6 30,.tmp 7]) (vs:=[.agg #[iV 0,iV 0,.string (⟨#[]⟩)],.bool false]) J (.cons (bG 1 J J aH) (.cons (ep J) .nil)) J (cS [6,7,8,9,10,11,12,13,14,15,16,3,4,5] 17) ⟨_,_,_,_,_,_,_,_,_,_,_,_,_,_,_,_,_,_,_,_,_,_,_,_,_,_,J,J⟩
 replace h:=aF g19 h;refine U ?_;refine cp (ah (us:=au a1) 2 J J aH J) J (cX g19 J) J ?_;obtain ⟨y20,k,h⟩:=aa h;refine gU (aA (yr k) IT J (az [3,4,5] [6,7,8,9,10,11,12,13,14,15,16] [0,1,2,3,4,5] 17 J)) (cX g19 J) ?_;refine U ?_;refine gH J h (fun h=> ?_) (fun h=> ?_)
 ·refine U ?_;refine gE (bd J (gC)) ?_;refine gW (ar (us:=[iV 0,iV 0,.string (⟨#[]⟩)]) (cs':=[iV 0,iV 0,.string (⟨#[]⟩)]) 12 J J J J bv J J J) ?_;refine bM ?_;refine U ?_;obtain rfl:=am h;exact cD (rs:=[.cell 6 30,.tmp 7]) (vs:=[.agg #[iV 0,iV 0,.string (⟨#[]⟩)],.bool false]) J (.cons (bG 12 J J aH) (.cons (ep J) .nil)) J (cS [0,1,2,3,4,5,6,7,8,9,10,14,15,16] 17) ⟨_,_,_,_,_,_,_,_,_,_,_,_,_,_,_,_,_,_,_,_,_,_,_,_,_,_,J,J⟩
 refine U ?_;refine gR (ah (us:=au a1) 13 J J aH J) ?_;refine gD (cx (R:=cc) (vss:=[(au a1)]) (xs:=[a1]) J (jF _ _ _) J J (fun _ _ hr=> .cons J All2.nil)) ?_;rintro _ _ ⟨A22,n22,c22,rfl,rfl⟩;refine U ?_;refine gE (bd J (qG _ _ _ _ _ _ _ _)) ?_;refine lq (dC 0 J) ?_;refine lq (dC 12 J) ?_;obtain ⟨y23,k,h⟩:=aa h;refine gD (aA (nI k) D1 J (az [15,16,17,0,12] [1,2,3,4,5,6,7,8,9,10,11] [0,12,13,14,15,16,17] 18 J)) ?_;rintro _ _ ⟨_,⟨A24,n24,c24,A25,n25,c25,A26,n26,c26,A27,n27,c27,M28,A29,n29,c29,M30,A31,n31,c31,A32,n32,c32,A33,n33,c33,rfl,rfl⟩,rfl⟩;refine bM ?_;refine U ?_
 refine gB (aM gw J) fun B34=> ?_
 refine gW (ar (us:=[iV y23.1.Kind,iV y23.1.N,.string y23.1.S]) (cs':=[iV y23.1.Kind,iV y23.1.N,.string y23.1.S]) 0 J J J J bv J J J) ?_;refine U ?_;refine aB ?_;refine U ?_;refine gH J h (fun h=> ?_) (fun h=> ?_)
 ·refine U ?_;refine gE (bd J (gC)) ?_;refine gW (ar (us:=[iV 0,iV 0,.string (⟨#[]⟩)]) (cs':=[iV 0,iV 0,.string (⟨#[]⟩)]) 17 J J J J bv J J J) ?_;refine U ?_;obtain rfl:=am h;exact cD (rs:=[.cell 6 30,.tmp 7]) (vs:=[.agg #[iV 0,iV 0,.string (⟨#[]⟩)],.bool false]) J (.cons (bG 17 J J aH) (.cons (ep J) .nil)) J (cS [1,2,3,4,5,6,7,8,9,10,11,12,13,14] 22) ⟨_,_,_,_,_,_,_,_,_,_,_,_,_,_,_,_,_,_,_,_,_,_,_,_,_,_,J,J⟩
 refine U ?_;refine gR (ah (us:=au a1) 18 J J aH J) ?_;obtain ⟨y36,k,h⟩:=aa h;refine gD (aA (xj k) IS J (az [12,13,14] [1,2,3,4,5,6,7,8,9,10,11] [0,12,13,14,15,16,17,18,19,20,21] 22 J)) ?_;rintro _ _ ⟨_,⟨A37,n37,c37,A38,n38,c38,A39,n39,c39,A40,n40,c40,M41,A42,n42,c42,M43,A44,n44,c44,A45,n45,c45,A46,n46,c46,rfl,rfl⟩,rfl⟩;refine bM ?_;refine U ?_;refine gR (ah (us:=[iV y23.1.Kind,iV y23.1.N,.string y23.1.S]) 14 J J aH J) ?_;refine gW (ar (us:=[iV y23.1.Kind,iV y23.1.N,.string y23.1.S]) (cs':=[iV y23.1.Kind,iV y23.1.N,.string y23.1.S]) 20 J J J J bv J J J) ?_;refine U ?_;obtain rfl:=am h;exact cD (rs:=[.cell 6 30,.tmp 7]) (vs:=[.agg #[iV y23.1.Kind,iV y23.1.N,.string y23.1.S],.bool true]) J (.cons (bG 20 J J aH) (.cons (ep J) .nil)) J (cS [0,1,2,3,4,5,6,7,8,9,10,11,12,13] 25) ⟨_,_,_,_,_,_,_,_,_,_,_,_,_,_,_,_,_,_,_,_,_,_,_,_,_,_,J,J⟩
def tC (N:Nat)(a0:MX):Option Na:=
 (lM N a0.Attrs 8).bind fun y3=>bif y3 then (dq (bQ (a0.Attrs - 8)) (some (⟨60,a0.Attrs - 8,(⟨0,0,⟨#[]⟩⟩:MQ),a0.Get,a0.Set⟩:Na))) else (some (⟨51,a0.Attrs,a0.Value,(⟨0,0,⟨#[]⟩⟩:MQ),(⟨0,0,⟨#[]⟩⟩:MQ)⟩:Na))
theorem El {N:Nat}{a0:MX}{r:Na}(h:tC N a0=some r):Okc Tryz.prog 133 [(bJ a0)] ([]) (fun u post=>u=(fm r)∧post=[]):=by
 refine bD Tryz.func133 J J ?_;simp only [aW];refine U ?_
 refine gB (aO J J) fun B1=> ?_
 refine gB (aM uu J) fun B2=> ?_
 refine U ?_;refine aB ?_;refine U ?_;obtain ⟨y3,k,h⟩:=aa h;refine gV (ap (sV k) AN J (aj) pZ) ?_;refine U ?_;refine gH J h (fun h=> ?_) (fun h=> ?_)
 ·refine U ?_;obtain ⟨q5,h⟩:=ay h;refine gE (dI J J q5.1 q5.2) ?_;refine U ?_;refine gR (ah (us:=au a0.Get) 1 J J aH J) ?_;refine U ?_;refine gR (ah (us:=au a0.Set) 1 J J aH J) ?_;refine gE (bd J (rJ _ _ _ _ _ _ _ _)) ?_;refine gW (ar (us:=[iV 60,iV (a0.Attrs - 8),iV 0,iV 0,.string (⟨#[]⟩),iV a0.Get.Kind,iV a0.Get.N,.string a0.Get.S,iV a0.Set.Kind,iV a0.Set.N,.string a0.Set.S]) (cs':=[iV 60,iV (a0.Attrs - 8),iV 0,iV 0,.string (⟨#[]⟩),iV a0.Get.Kind,iV a0.Get.N,.string a0.Get.S,iV a0.Set.Kind,iV a0.Set.N,.string a0.Set.S]) 0 J J J J qW J J J) ?_;refine U ?_;obtain rfl:=am h;exact cD (rs:=[.cell 2 32]) (vs:=[.agg #[iV 60,iV (a0.Attrs - 8),iV 0,iV 0,.string (⟨#[]⟩),iV a0.Get.Kind,iV a0.Get.N,.string a0.Get.S,iV a0.Set.Kind,iV a0.Set.N,.string a0.Set.S]]) J (.cons (bG 0 J J dT) .nil) J (cS [] 2) ⟨J,J⟩
 refine U ?_;refine gR (ah (us:=au a0.Value) 1 J J aH J) ?_;refine gE (bd J (uf _ _ _ _ _)) ?_;refine gW (ar (us:=[iV 51,iV a0.Attrs,iV a0.Value.Kind,iV a0.Value.N,.string a0.Value.S,iV 0,iV 0,.string (⟨#[]⟩),iV 0,iV 0,.string (⟨#[]⟩)]) (cs':=[iV 51,iV a0.Attrs,iV a0.Value.Kind,iV a0.Value.N,.string a0.Value.S,iV 0,iV 0,.string (⟨#[]⟩),iV 0,iV 0,.string (⟨#[]⟩)]) 0 J J J J qW J J J) ?_;refine U ?_;obtain rfl:=am h;exact cD (rs:=[.cell 2 32]) (vs:=[.agg #[iV 51,iV a0.Attrs,iV a0.Value.Kind,iV a0.Value.N,.string a0.Value.S,iV 0,iV 0,.string (⟨#[]⟩),iV 0,iV 0,.string (⟨#[]⟩)]]) J (.cons (bG 0 J J dT) .nil) J (cS [] 2) ⟨J,J⟩
theorem Bk {r:Na}:∀(u:Value)(p:List Chunk),u=(fm r)∧p=[]→∀c∈p,cM c:=by
 rintro _ _ ⟨rfl,rfl⟩;exact aj
end
section
variable {A1 A10 A12 A13 A14 A15 A2 A3 A4 A5 A6:Option Addr} {B1 B2 B7 B9 M11 M8 c1 c10 c12 c13 c14 c15 c2 c3 c4 c5 c6 n1 n10 n12 n13 n14 n15 n2 n3 n4 n5 n6:Nat}
open Go.RowKit Asn
set_option maxRecDepth 20000
def nP (N:Nat)(p48:Int)(p49:Int)(p50:ByteArray)(p149:Int)(p150:Int)(p151:Int)(p152:Int)(p153:Int)(p154:Int)(p155:Int)(p156:Int)(p157:Int)(p158:Int)(p159:(List ByteArray))(p160:Int)(p161:Int)(p162:Int)(p163:(List MV))(p164:(List ByteArray))(p165:(List MY))(p166:(List MY))(p167:(List MQ))(p168:(List MQ))(p169:(List MZ))(p170:(List (MN×Int)))(p171:(List (Int×Bool))):Option (MQ×Bool×MT):=
 some ((⟨p48,p49,p50⟩:MQ),true,(⟨(⟨p149,p150,p151⟩:MR),(⟨p152,p153,p154,p155,p156,p157,p158⟩:MO),(),(⟨(⟨p165,p166⟩:MK),p167,p168,(⟨p171⟩:MW)⟩:Nb),(⟨p169,p170⟩:MU),p159,p160,p161,p162,p163,p164⟩:MT))
def qT (N:Nat)(a1:ML)(p48:Int)(p49:Int)(p50:ByteArray)(p84:Int)(p85:Int)(p86:Int)(p87:Int)(p88:Int)(p89:Int)(p90:Int)(p91:Int)(p92:Int)(p93:Int)(p94:(List ByteArray))(p95:Int)(p96:Int)(p97:Int)(p98:(List MV))(p99:(List ByteArray))(p100:(List MY))(p101:(List MY))(p102:(List MQ))(p103:(List MQ))(p104:(List MZ))(p105:(List (MN×Int)))(p106:(List (Int×Bool))):Option (MQ×Bool×MT):=
 bif a1.Shut then ((ee N (⟨(⟨p84,p85,p86⟩:MR),(⟨p87,p88,p89,p90,p91,p92,p93⟩:MO),(),(⟨(⟨p100,p101⟩:MK),p102,p103,(⟨p106⟩:MW)⟩:Nb),(⟨p104,p105⟩:MU),p94,p95,p96,p97,p98,p99⟩:MT) (⟨p48,p49,p50⟩:MQ)).bind fun y173=>nP N p48 p49 p50 y173.spent_.steps_ y173.spent_.made_ y173.spent_.calls_ y173.config_.Way y173.config_.Steps y173.config_.Calls y173.config_.Made y173.config_.Young y173.config_.Full y173.config_.Sites y173.symbols_ y173.epoch_ y173.serial_ y173.sleepers_ y173.events_ y173.out_ y173.heap_.m_.Young y173.heap_.m_.Old y173.heap_.roots_ y173.heap_.pending_ y173.shapes_.shapes_ y173.shapes_.next_ y173.heap_.set_.at_) else (nP N p48 p49 p50 p84 p85 p86 p87 p88 p89 p90 p91 p92 p93 p94 p95 p96 p97 p98 p99 p100 p101 p102 p103 p104 p105 p106)
def nO (N:Nat)(a1:ML)(p48:Int)(p49:Int)(p50:ByteArray):Nat→Int→Int→Int→Int→Int→Int→Int→Int→Int→Int→Int→(List ByteArray)→Int→Int→Int→(List MV)→(List ByteArray)→(List MY)→(List MY)→(List MQ)→(List MQ)→(List MZ)→(List (MN×Int))→(List (Int×Bool))→Option (MQ×Bool×MT)
 |0,_,_,_,_,_,_,_,_,_,_,_,_,_,_,_,_,_,_,_,_,_,_,_,_=>none
 |m107+1,p108,p109,p110,p111,p112,p113,p114,p115,p116,p117,p118,p119,p120,p121,p122,p123,p124,p125,p126,p127,p128,p129,p130,p131=>bif decide (p108<(a1.Props.length:Int)) then ((bR a1.Props p108).bind fun x133=>(bR a1.Props p108).bind fun x134=>(tC N x134).bind fun y135=>(cB N (⟨(⟨p109,p110,p111⟩:MR),(⟨p112,p113,p114,p115,p116,p117,p118⟩:MO),(),(⟨(⟨p125,p126⟩:MK),p127,p128,(⟨p131⟩:MW)⟩:Nb),(⟨p129,p130⟩:MU),p119,p120,p121,p122,p123,p124⟩:MT) (⟨p48,p49,p50⟩:MQ) x133.Key y135).bind fun y136=>dq (bQ (p108+1)) ((nO N a1 p48 p49 p50 m107) (p108+1) y136.2.2.spent_.steps_ y136.2.2.spent_.made_ y136.2.2.spent_.calls_ y136.2.2.config_.Way y136.2.2.config_.Steps y136.2.2.config_.Calls y136.2.2.config_.Made y136.2.2.config_.Young y136.2.2.config_.Full y136.2.2.config_.Sites y136.2.2.symbols_ y136.2.2.epoch_ y136.2.2.serial_ y136.2.2.sleepers_ y136.2.2.events_ y136.2.2.out_ y136.2.2.heap_.m_.Young y136.2.2.heap_.m_.Old y136.2.2.heap_.roots_ y136.2.2.heap_.pending_ y136.2.2.shapes_.shapes_ y136.2.2.shapes_.next_ y136.2.2.heap_.set_.at_)) else (qT N a1 p48 p49 p50 p109 p110 p111 p112 p113 p114 p115 p116 p117 p118 p119 p120 p121 p122 p123 p124 p125 p126 p127 p128 p129 p130 p131)
def mV (N:Nat)(a1:ML)(p31:Bool)(p32:Int)(p33:Int)(p34:Int)(p35:Int)(p36:Int)(p37:Int)(p38:Int)(p39:Int)(p40:Int)(p41:Int)(p42:(List ByteArray))(p43:Int)(p44:Int)(p45:Int)(p46:(List MV))(p47:(List ByteArray))(p48:Int)(p49:Int)(p50:ByteArray)(p51:(List MY))(p52:(List MY))(p53:(List MQ))(p54:(List MQ))(p55:(List MZ))(p56:(List (MN×Int)))(p57:(List (Int×Bool))):Option (MQ×Bool×MT):=
 bif !p31 then (some ((⟨p48,p49,p50⟩:MQ),false,(⟨(⟨p32,p33,p34⟩:MR),(⟨p35,p36,p37,p38,p39,p40,p41⟩:MO),(),(⟨(⟨p51,p52⟩:MK),p53,p54,(⟨p57⟩:MW)⟩:Nb),(⟨p55,p56⟩:MU),p42,p43,p44,p45,p46,p47⟩:MT))) else (nO N a1 p48 p49 p50 N 0 p32 p33 p34 p35 p36 p37 p38 p39 p40 p41 p42 p43 p44 p45 p46 p47 p51 p52 p53 p54 p55 p56 p57)
def qU (N:Nat)(y18:(MQ×Bool×MT))(a1:ML)(p60:(List MQ)):Option (MQ×Bool×MT):=
 (np N y18.2.2 p60).bind fun y71=>mV N a1 y71.2.1 y71.2.2.spent_.steps_ y71.2.2.spent_.made_ y71.2.2.spent_.calls_ y71.2.2.config_.Way y71.2.2.config_.Steps y71.2.2.config_.Calls y71.2.2.config_.Made y71.2.2.config_.Young y71.2.2.config_.Full y71.2.2.config_.Sites y71.2.2.symbols_ y71.2.2.epoch_ y71.2.2.serial_ y71.2.2.sleepers_ y71.2.2.events_ y71.2.2.out_ y71.1.Kind y71.1.N y71.1.S y71.2.2.heap_.m_.Young y71.2.2.heap_.m_.Old y71.2.2.heap_.roots_ y71.2.2.heap_.pending_ y71.2.2.shapes_.shapes_ y71.2.2.shapes_.next_ y71.2.2.heap_.set_.at_
def oR (N:Nat)(y18:(MQ×Bool×MT))(a1:ML):Nat→(List MQ)→Int→Option (MQ×Bool×MT)
 |0,_,_=>none
 |m61+1,p62,p63=>bif decide (p63<ai .i64 a1.Elements 15) then ((jI N p63).bind fun y66=>dq (gQ (p62.length+([y66]:List MQ).length)) (dq (bQ (p63+1)) ((oR N y18 a1 m61) (p62++([y66]:List MQ)) (p63+1)))) else (qU N y18 a1 p62)
def rS (N:Nat)(a0:MT)(a1:ML):Option (MQ×Bool×MT):=
 (nQ N a0 (⟨1,0,⟨#[]⟩⟩:MQ) 1).bind fun y18=>bif a1.Array then (oR N y18 a1 N [] 0) else (mV N a1 y18.2.1 y18.2.2.spent_.steps_ y18.2.2.spent_.made_ y18.2.2.spent_.calls_ y18.2.2.config_.Way y18.2.2.config_.Steps y18.2.2.config_.Calls y18.2.2.config_.Made y18.2.2.config_.Young y18.2.2.config_.Full y18.2.2.config_.Sites y18.2.2.symbols_ y18.2.2.epoch_ y18.2.2.serial_ y18.2.2.sleepers_ y18.2.2.events_ y18.2.2.out_ y18.1.Kind y18.1.N y18.1.S y18.2.2.heap_.m_.Young y18.2.2.heap_.m_.Old y18.2.2.heap_.roots_ y18.2.2.heap_.pending_ y18.2.2.shapes_.shapes_ y18.2.2.shapes_.next_ y18.2.2.heap_.set_.at_)
set_option maxHeartbeats 4000000 in
theorem Cj {N:Nat}{a0:MT}{a1:ML}{r:(MQ×Bool×MT)}(h:rS N a0 a1=some r):Okc Tryz.prog 50 [pV B1 0,.agg #[.bool a1.Array,iV a1.Elements,I A15 n15 c15,.bool a1.Shut]] ([bm A12 n12 c12 a0.symbols_,cH A13 n13 c13 a0.events_,bm A14 n14 c14 a0.out_,lB dx (I A15 n15 c15) a1.Props,aT 0 30 [iV 8,iV 0,.string (⟨#[]⟩:ByteArray)],ac B1 151 (dm a0 B2 B9 A12 n12 c12 A13 n13 c13 A14 n14 c14),ac B2 199 [I A3 n3 c3,I A4 n4 c4,I A5 n5 c5,I A6 n6 c6,pV B7 0],bw A3 n3 c3 a0.heap_.m_.Young,bw A4 n4 c4 a0.heap_.m_.Old,aX A5 n5 c5 a0.heap_.roots_,aX A6 n6 c6 a0.heap_.pending_,ac B7 247 [.map (some M8)],aG cz cC M8 a0.heap_.set_.at_,ac B9 205 [I A10 n10 c10,.map (some M11)],cL A10 n10 c10 a0.shapes_.shapes_,aG aD cy M11 a0.shapes_.next_]) (fun u post=> ∃A0 n0 c0 A1 n1 c1 A2 n2 c2 A3 n3 c3 M4 A5 n5 c5 M6 A7 n7 c7 A8 n8 c8 A9 n9 c9,u=.tuple #[.agg #[iV r.1.Kind,iV r.1.N,.string r.1.S],.bool r.2.1]∧post=[ac B1 151 (dm r.2.2 B2 B9 A7 n7 c7 A8 n8 c8 A9 n9 c9),ac B2 199 [I A0 n0 c0,I A1 n1 c1,I A2 n2 c2,I A3 n3 c3,pV B7 0],bw A0 n0 c0 r.2.2.heap_.m_.Young,bw A1 n1 c1 r.2.2.heap_.m_.Old,aX A2 n2 c2 r.2.2.heap_.roots_,aX A3 n3 c3 r.2.2.heap_.pending_,ac B7 247 [.map (some M4)],aG cz cC M4 r.2.2.heap_.set_.at_,ac B9 205 [I A5 n5 c5,.map (some M6)],cL A5 n5 c5 r.2.2.shapes_.shapes_,aG aD cy M6 r.2.2.shapes_.next_,bm A7 n7 c7 r.2.2.symbols_,cH A8 n8 c8 r.2.2.events_,bm A9 n9 c9 r.2.2.out_]):=by
 refine bD Tryz.func50 J J ?_;simp only [aW];refine U ?_
 refine gB (aO J J) fun B16=> ?_
 refine gB (aM gw J) fun B17=> ?_
 refine U ?_;refine gE (bd J (ug _)) ?_;obtain ⟨y18,k,h⟩:=aa h;refine gD (aA (yu k) Kr J (az [2,3,4] [7,8,9,10,11,12,13,14,15,16,17] [0,1,2,3,4,5,6] 18 J)) ?_;rintro _ _ ⟨_,⟨A19,n19,c19,A20,n20,c20,A21,n21,c21,A22,n22,c22,M23,A24,n24,c24,M25,A26,n26,c26,A27,n27,c27,A28,n28,c28,rfl,rfl⟩,rfl⟩;refine U ?_
 refine gB (aM gw J) fun B29=> ?_
 refine gW (ar (us:=[iV y18.1.Kind,iV y18.1.N,.string y18.1.S]) (cs':=[iV y18.1.Kind,iV y18.1.N,.string y18.1.S]) 0 J J J J bv J J J) ?_;refine U ?_;refine ba (fun s L=> ∃p31 p32 p33 p34 p35 p36 p37 p38 p39 p40 p41 p42 p43 p44 p45 p46 p47 p48 p49 p50 p51 p52 p53 p54 p55 p56 p57 A42 n42 c42 A46 n46 c46 A47 n47 c47 A51 n51 c51 A52 n52 c52 A53 n53 c53 A54 n54 c54 A55 n55 c55 M56 M57,mV N a1 p31 p32 p33 p34 p35 p36 p37 p38 p39 p40 p41 p42 p43 p44 p45 p46 p47 p48 p49 p50 p51 p52 p53 p54 p55 p56 p57=some r∧s=[(0,pV B1 0),(3,pV B16 0),(4,pV B17 0),(5,.bool false),(6,pV B29 0),(7,.bool p31)]∧L=[bm A42 n42 c42 p42,cH A46 n46 c46 p46,bm A47 n47 c47 p47,ac B1 151 [iV p32,iV p33,iV p34,iV p35,iV p36,iV p37,iV p38,iV p39,iV p40,iV p41,.nilIface,pV B2 0,pV B9 0,I A42 n42 c42,iV p43,iV p44,iV p45,I A46 n46 c46,I A47 n47 c47],lB dx (I A15 n15 c15) a1.Props,ac B16 84 [.bool a1.Array,iV a1.Elements,I A15 n15 c15,.bool a1.Shut],ac B17 30 [iV 0,iV 0,.string (⟨#[]⟩)],ac B29 30 [iV p48,iV p49,.string p50],aT 0 30 [iV 8,iV 0,.string (⟨#[]⟩:ByteArray)],bw A51 n51 c51 p51,bw A52 n52 c52 p52,aX A53 n53 c53 p53,aX A54 n54 c54 p54,ac B2 199 [I A51 n51 c51,I A52 n52 c52,I A53 n53 c53,I A54 n54 c54,pV B7 0],cL A55 n55 c55 p55,aG aD cy M56 p56,ac B9 205 [I A55 n55 c55,.map (some M56)],aG cz cC M57 p57,ac B7 247 [.map (some M57)]]) ?_ ?_
 ·refine U ?_;refine gR (aY 16 J J Bq J) ?_;refine U ?_;refine gH J h (fun h=> ?_) (fun h=> ?_)
  ·refine U ?_;refine ba (fun s L=> ∃p60 A60 n60 c60,qU N y18 a1 p60=some r∧s=[(0,pV B1 0),(3,pV B16 0),(4,pV B17 0),(5,.bool false),(6,pV B29 0),(7,.bool y18.2.1),(8,I A60 n60 c60)]∧L=[aX A60 n60 c60 p60,bm A26 n26 c26 y18.2.2.symbols_,cH A27 n27 c27 y18.2.2.events_,bm A28 n28 c28 y18.2.2.out_,ac B1 151 (dm y18.2.2 B2 B9 A26 n26 c26 A27 n27 c27 A28 n28 c28),lB dx (I A15 n15 c15) a1.Props,ac B16 84 [.bool a1.Array,iV a1.Elements,I A15 n15 c15,.bool a1.Shut],ac B17 30 [iV 0,iV 0,.string (⟨#[]⟩)],ac B29 30 [iV y18.1.Kind,iV y18.1.N,.string y18.1.S],aT 0 30 [iV 8,iV 0,.string (⟨#[]⟩:ByteArray)],bw A19 n19 c19 y18.2.2.heap_.m_.Young,bw A20 n20 c20 y18.2.2.heap_.m_.Old,aX A21 n21 c21 y18.2.2.heap_.roots_,aX A22 n22 c22 y18.2.2.heap_.pending_,ac B2 199 [I A19 n19 c19,I A20 n20 c20,I A21 n21 c21,I A22 n22 c22,pV B7 0],cL A24 n24 c24 y18.2.2.shapes_.shapes_,aG aD cy M25 y18.2.2.shapes_.next_,ac B9 205 [I A24 n24 c24,.map (some M25)],aG cz cC M23 y18.2.2.heap_.set_.at_,ac B7 247 [.map (some M23)]]) ?_ ?_
   ·refine U ?_;refine cn (fun m s L=> ∃p62 p63 A62 n62 c62,oR N y18 a1 m p62 p63=some r∧s=[(0,pV B1 0),(3,pV B16 0),(4,pV B17 0),(5,.bool false),(6,pV B29 0),(7,.bool y18.2.1),(8,I A62 n62 c62),(9,iV p63)]∧L=[aX A62 n62 c62 p62,bm A26 n26 c26 y18.2.2.symbols_,cH A27 n27 c27 y18.2.2.events_,bm A28 n28 c28 y18.2.2.out_,ac B1 151 (dm y18.2.2 B2 B9 A26 n26 c26 A27 n27 c27 A28 n28 c28),lB dx (I A15 n15 c15) a1.Props,ac B16 84 [.bool a1.Array,iV a1.Elements,I A15 n15 c15,.bool a1.Shut],ac B17 30 [iV 0,iV 0,.string (⟨#[]⟩)],ac B29 30 [iV y18.1.Kind,iV y18.1.N,.string y18.1.S],aT 0 30 [iV 8,iV 0,.string (⟨#[]⟩:ByteArray)],bw A19 n19 c19 y18.2.2.heap_.m_.Young,bw A20 n20 c20 y18.2.2.heap_.m_.Old,aX A21 n21 c21 y18.2.2.heap_.roots_,aX A22 n22 c22 y18.2.2.heap_.pending_,ac B2 199 [I A19 n19 c19,I A20 n20 c20,I A21 n21 c21,I A22 n22 c22,pV B7 0],cL A24 n24 c24 y18.2.2.shapes_.shapes_,aG aD cy M25 y18.2.2.shapes_.next_,ac B9 205 [I A24 n24 c24,.map (some M25)],aG cz cC M23 y18.2.2.heap_.set_.at_,ac B7 247 [.map (some M23)]]) N _ _ ⟨[],0,none,0,0,h,J,J⟩ sA ((gA cc 30 _).trans (cS [0,13,14,15,2,21,17,16,1,22,4,5,6,7,3,11,12,10,9,8] 23)) ?_;rintro (_|m61) _ _ ⟨p62,p63,A62,n62,c62,h,rfl,rfl⟩
    ·exact bu h
    rw [oR.eq_2] at h;refine aB ?_;refine U ?_;refine gE (bE J J) ?_;refine U ?_;refine gH J h (fun h=> ?_) (fun h=> ?_)
    ·refine U ?_;refine aB ?_;refine U ?_;obtain ⟨y66,k,h⟩:=aa h;refine gV (ap (ly k) th J (aj) jl) ?_;refine gD (cx (R:=cc) (vss:=[[iV y66.Kind,iV y66.N,.string y66.S]]) (xs:=[y66]) J (jF _ _ _) J J (fun _ _ hr=> .cons J All2.nil)) ?_;rintro _ _ ⟨A67,n67,c67,rfl,rfl⟩;obtain ⟨q68,h⟩:=ay h;refine gD (ed 1 0 J J aC J J hE yi J J q68) ?_;rintro _ _ ⟨A69,n69,c69,rfl,rfl⟩;refine bM ?_;refine U ?_;obtain ⟨q70,h⟩:=ay h;refine gE (bI J J q70.1 q70.2) ?_;refine U ?_;exact ⟨m61,_,_,Nh _,⟨p62++([y66]:List MQ),p63+1,A69,n69,c69,h,J,J⟩,sA,cS [1,2,3,4,5,6,7,8,9,10,11,12,13,14,15,16,17,18,19,20] 21⟩
    refine U ?_;exact ⟨_,_,⟨p62,A62,n62,c62,h,J,J⟩,sA,cS [0,1,2,3,4,5,6,7,8,9,10,11,12,13,14,15,16,17,18,19] 20⟩
   rintro _ _ ⟨p60,A60,n60,c60,h,rfl,rfl⟩;refine gj ?_;refine K2 ?_;refine lq (dC 0 J) ?_;obtain ⟨y71,k,h⟩:=aa h;refine gD (aA (um k) GC J (az [1,2,3,0] [4,14,10,11,12,13,19,18,17,15,16] [0,1,2,3,5,6,7,8,9] 20 J)) ?_;rintro _ _ ⟨_,⟨A72,n72,c72,A73,n73,c73,A74,n74,c74,A75,n75,c75,M76,A77,n77,c77,M78,A79,n79,c79,A80,n80,c80,A81,n81,c81,rfl,rfl⟩,rfl⟩;refine U ?_;refine gW (ar (us:=[iV y71.1.Kind,iV y71.1.N,.string y71.1.S]) (cs':=[iV y71.1.Kind,iV y71.1.N,.string y71.1.S]) 21 J J J J bv J J J) ?_;refine bM ?_;refine U ?_;exact ⟨_,_,⟨y71.2.1,y71.2.2.spent_.steps_,y71.2.2.spent_.made_,y71.2.2.spent_.calls_,y71.2.2.config_.Way,y71.2.2.config_.Steps,y71.2.2.config_.Calls,y71.2.2.config_.Made,y71.2.2.config_.Young,y71.2.2.config_.Full,y71.2.2.config_.Sites,y71.2.2.symbols_,y71.2.2.epoch_,y71.2.2.serial_,y71.2.2.sleepers_,y71.2.2.events_,y71.2.2.out_,y71.1.Kind,y71.1.N,y71.1.S,y71.2.2.heap_.m_.Young,y71.2.2.heap_.m_.Old,y71.2.2.heap_.roots_,y71.2.2.heap_.pending_,y71.2.2.shapes_.shapes_,y71.2.2.shapes_.next_,y71.2.2.heap_.set_.at_,A79,n79,c79,A80,n80,c80,A81,n81,c81,A72,n72,c72,A73,n73,c73,A74,n74,c74,A75,n75,c75,A77,n77,c77,M78,M76,h,J,J⟩,sA,cS [11,12,13,0,18,19,20,21,22,2,3,4,5,1,9,10,8,7,6] 23⟩
  refine U ?_;exact ⟨_,_,⟨y18.2.1,y18.2.2.spent_.steps_,y18.2.2.spent_.made_,y18.2.2.spent_.calls_,y18.2.2.config_.Way,y18.2.2.config_.Steps,y18.2.2.config_.Calls,y18.2.2.config_.Made,y18.2.2.config_.Young,y18.2.2.config_.Full,y18.2.2.config_.Sites,y18.2.2.symbols_,y18.2.2.epoch_,y18.2.2.serial_,y18.2.2.sleepers_,y18.2.2.events_,y18.2.2.out_,y18.1.Kind,y18.1.N,y18.1.S,y18.2.2.heap_.m_.Young,y18.2.2.heap_.m_.Old,y18.2.2.heap_.roots_,y18.2.2.heap_.pending_,y18.2.2.shapes_.shapes_,y18.2.2.shapes_.next_,y18.2.2.heap_.set_.at_,A26,n26,c26,A27,n27,c27,A28,n28,c28,A19,n19,c19,A20,n20,c20,A21,n21,c21,A22,n22,c22,A24,n24,c24,M25,M23,h,J,J⟩,sA,cS [12,13,14,1,20,16,15,0,21,3,4,5,6,2,10,11,9,8,7] 22⟩
 rintro _ _ ⟨p31,p32,p33,p34,p35,p36,p37,p38,p39,p40,p41,p42,p43,p44,p45,p46,p47,p48,p49,p50,p51,p52,p53,p54,p55,p56,p57,A42,n42,c42,A46,n46,c46,A47,n47,c47,A51,n51,c51,A52,n52,c52,A53,n53,c53,A54,n54,c54,A55,n55,c55,M56,M57,h,rfl,rfl⟩;refine aB ?_;refine U ?_;refine gH J h (fun h=> ?_) (fun h=> ?_)
 ·refine U ?_;refine gR (ah (us:=[iV p48,iV p49,.string p50]) 7 J J aH J) ?_;refine gW (ar (us:=[iV p48,iV p49,.string p50]) (cs':=[iV p48,iV p49,.string p50]) 6 J J J J bv J J J) ?_;refine U ?_;obtain rfl:=am h;exact cD (rs:=[.cell 4 30,.tmp 5]) (vs:=[.agg #[iV p48,iV p49,.string p50],.bool false]) J (.cons (bG 6 J J aH) (.cons (ep J) .nil)) J (cS [3,13,9,10,11,12,18,17,16,14,15,0,1,2] 19) ⟨_,_,_,_,_,_,_,_,_,_,_,_,_,_,_,_,_,_,_,_,_,_,_,_,_,_,J,J⟩
 refine U ?_;refine ba (fun s L=> ∃p84 p85 p86 p87 p88 p89 p90 p91 p92 p93 p94 p95 p96 p97 p98 p99 p100 p101 p102 p103 p104 p105 p106 A94 n94 c94 A98 n98 c98 A99 n99 c99 A100 n100 c100 A101 n101 c101 A102 n102 c102 A103 n103 c103 A104 n104 c104 M105 M106,qT N a1 p48 p49 p50 p84 p85 p86 p87 p88 p89 p90 p91 p92 p93 p94 p95 p96 p97 p98 p99 p100 p101 p102 p103 p104 p105 p106=some r∧s=[(0,pV B1 0),(3,pV B16 0),(4,pV B17 0),(5,.bool false),(6,pV B29 0)]∧L=[bm A94 n94 c94 p94,cH A98 n98 c98 p98,bm A99 n99 c99 p99,ac B1 151 [iV p84,iV p85,iV p86,iV p87,iV p88,iV p89,iV p90,iV p91,iV p92,iV p93,.nilIface,pV B2 0,pV B9 0,I A94 n94 c94,iV p95,iV p96,iV p97,I A98 n98 c98,I A99 n99 c99],lB dx (I A15 n15 c15) a1.Props,ac B16 84 [.bool a1.Array,iV a1.Elements,I A15 n15 c15,.bool a1.Shut],ac B17 30 [iV 0,iV 0,.string (⟨#[]⟩)],ac B29 30 [iV p48,iV p49,.string p50],aT 0 30 [iV 8,iV 0,.string (⟨#[]⟩:ByteArray)],bw A100 n100 c100 p100,bw A101 n101 c101 p101,aX A102 n102 c102 p102,aX A103 n103 c103 p103,ac B2 199 [I A100 n100 c100,I A101 n101 c101,I A102 n102 c102,I A103 n103 c103,pV B7 0],cL A104 n104 c104 p104,aG aD cy M105 p105,ac B9 205 [I A104 n104 c104,.map (some M105)],aG cz cC M106 p106,ac B7 247 [.map (some M106)]]) ?_ ?_
 ·refine U ?_
  refine cn (fun m s L=> ∃p108 p109 p110 p111 p112 p113 p114 p115 p116 p117 p118 p119 p120 p121 p122 p123 p124 p125 p126 p127 p128 p129 p130 p131 A119 n119 c119 A123 n123 c123 A124 n124 c124 A125 n125 c125 A126 n126 c126 A127 n127 c127 A128 n128 c128 A129 n129 c129 M130 M131,nO N a1 p48 p49 p50 m p108 p109 p110 p111 p112 p113 p114 p115 p116 p117 p118 p119 p120 p121 p122 p123 p124 p125 p126 p127 p128 p129 p130 p131=some r∧s=[(0,pV B1 0),(3,pV B16 0),(4,pV B17 0),(5,.bool false),(6,pV B29 0),(10,iV p108)]∧L=[bm A119 n119 c119 p119,cH A123 n123 c123 p123,bm A124 n124 c124 p124,ac B1 151 [iV p109,iV p110,iV p111,iV p112,iV p113,iV p114,iV p115,iV p116,iV p117,iV p118,.nilIface,pV B2 0,pV B9 0,I A119 n119 c119,iV p120,iV p121,iV p122,I A123 n123 c123,I A124 n124 c124],lB dx (I A15 n15 c15) a1.Props,ac B16 84 [.bool a1.Array,iV a1.Elements,I A15 n15 c15,.bool a1.Shut],ac B17 30 [iV 0,iV 0,.string (⟨#[]⟩)],ac B29 30 [iV p48,iV p49,.string p50],aT 0 30 [iV 8,iV 0,.string (⟨#[]⟩:ByteArray)],bw A125 n125 c125 p125,bw A126 n126 c126 p126,aX A127 n127 c127 p127,aX A128 n128 c128 p128,ac B2 199 [I A125 n125 c125,I A126 n126 c126,I A127 n127 c127,I A128 n128 c128,pV B7 0],cL A129 n129 c129 p129,aG aD cy M130 p130,ac B9 205 [I A129 n129 c129,.map (some M130)],aG cz cC M131 p131,ac B7 247 [.map (some M131)]]) N _ _ ⟨0,p32,p33,p34,p35,p36,p37,p38,p39,p40,p41,p42,p43,p44,p45,p46,p47,p51,p52,p53,p54,p55,p56,p57,A42,n42,c42,A46,n46,c46,A47,n47,c47,A51,n51,c51,A52,n52,c52,A53,n53,c53,A54,n54,c54,A55,n55,c55,M56,M57,h,J,J⟩ sA (cS [0,1,2,3,4,5,6,7,8,9,10,11,12,13,14,15,16,17,18] 19) ?_
  rintro (_|m107) _ _ ⟨p108,p109,p110,p111,p112,p113,p114,p115,p116,p117,p118,p119,p120,p121,p122,p123,p124,p125,p126,p127,p128,p129,p130,p131,A119,n119,c119,A123,n123,c123,A124,n124,c124,A125,n125,c125,A126,n126,c126,A127,n127,c127,A128,n128,c128,A129,n129,c129,M130,M131,h,rfl,rfl⟩
  ·exact bu h
  rw [nO.eq_2] at h;refine aB ?_;refine U ?_;refine gR (bL 4 J aS J EM) ?_;refine U ?_;refine gH J h (fun h=> ?_) (fun h=> ?_)
  ·refine U ?_;refine aB ?_;refine eZ ?_;refine bK V ([bm A119 n119 c119 p119,cH A123 n123 c123 p123,bm A124 n124 c124 p124,lB dx (I A15 n15 c15) a1.Props,ac B16 84 [.bool a1.Array,iV a1.Elements,I A15 n15 c15,.bool a1.Shut],ac B17 30 [iV 0,iV 0,.string (⟨#[]⟩)],ac B29 30 [iV p48,iV p49,.string p50],aT 0 30 [iV 8,iV 0,.string (⟨#[]⟩:ByteArray)]]) (cS [0,1,2,4,5,6,7,8] 19) ?_;refine zE 0 J (aq J) ?_;refine zR 1 J (ah (us:=[iV p48,iV p49,.string p50]) 6 J J aH J) ?_;refine zE 2 J (ci J Ag) ?_;refine zR 3 J (aY 4 J J FH J) ?_;refine zE 4 J (aq J) ?_;obtain ⟨x133,hx133,h⟩:=aa h;obtain ⟨lx133,ux133,hx133⟩:=aJ hx133;refine zR 5 J (bx 3 J aS J J EM cm lx133 ux133) ?_;refine zR 6 J (pn 3 J aS J (toNat_lt lx133 ux133) wm) ?_;refine zR 7 J (bA (us:=bS x133.Key) 3 J aS J hx133 bF (fun _ _ _ h=>by rw [show _=_ from h];rfl)) ?_;refine zE 8 J (ci J Ag) ?_;refine zR 9 J (aY 4 J J FH J) ?_;refine zE 10 J (aq J) ?_;obtain ⟨x134,hx134,h⟩:=aa h;obtain ⟨lx134,ux134,hx134⟩:=aJ hx134;refine zR 11 J (bx 3 J aS J J EM cm lx134 ux134) ?_;refine zR 12 J (bA (us:=aR x134) 3 J aS J hx134 dA (fun _ _ _ h=>by rw [show _=_ from h];rfl)) ?_;obtain ⟨y135,k,h⟩:=aa h;refine zD 13 J (ap (El k) IJ J (aj) Bk) ?_;rintro _ _ ⟨_,⟨rfl,rfl⟩,rfl⟩;refine eg (cS [0,1,2,4,5,6,7,8] 19) ?_;obtain ⟨y136,k,h⟩:=aa h
   refine zD 14 J (aA (kJ k) AG J (az [0,1,2,8] [3,13,9,10,11,12,18,17,16,14,15] [0,1,2,4,5,6,7,8] 19 J)) ?_;rintro _ _ ⟨_,⟨A137,n137,c137,A138,n138,c138,A139,n139,c139,A140,n140,c140,M141,A142,n142,c142,M143,A144,n144,c144,A145,n145,c145,A146,n146,c146,rfl,rfl⟩,rfl⟩;refine ⟨_,cS [11,12,13,14,15,16,17,18,19,20,21] 22,(cv_tl).trans ((cv_tl).trans (cv_tl)),?_⟩;refine dt ?_;refine bC V ?_;refine U ?_;obtain ⟨q147,h⟩:=ay h;refine gE (bI J J q147.1 q147.2) ?_;refine U ?_;exact ⟨m107,_,_,Nh _,⟨p108+1,y136.2.2.spent_.steps_,y136.2.2.spent_.made_,y136.2.2.spent_.calls_,y136.2.2.config_.Way,y136.2.2.config_.Steps,y136.2.2.config_.Calls,y136.2.2.config_.Made,y136.2.2.config_.Young,y136.2.2.config_.Full,y136.2.2.config_.Sites,y136.2.2.symbols_,y136.2.2.epoch_,y136.2.2.serial_,y136.2.2.sleepers_,y136.2.2.events_,y136.2.2.out_,y136.2.2.heap_.m_.Young,y136.2.2.heap_.m_.Old,y136.2.2.heap_.roots_,y136.2.2.heap_.pending_,y136.2.2.shapes_.shapes_,y136.2.2.shapes_.next_,y136.2.2.heap_.set_.at_,A144,n144,c144,A145,n145,c145,A146,n146,c146,A137,n137,c137,A138,n138,c138,A139,n139,c139,A140,n140,c140,A142,n142,c142,M143,M141,h,J,J⟩,sA,cS [11,12,13,0,17,18,19,20,21,2,3,4,5,1,9,10,8,7,6] 22⟩
  refine U ?_;exact ⟨_,_,⟨p109,p110,p111,p112,p113,p114,p115,p116,p117,p118,p119,p120,p121,p122,p123,p124,p125,p126,p127,p128,p129,p130,p131,A119,n119,c119,A123,n123,c123,A124,n124,c124,A125,n125,c125,A126,n126,c126,A127,n127,c127,A128,n128,c128,A129,n129,c129,M130,M131,h,J,J⟩,sA,cS [0,1,2,3,4,5,6,7,8,9,10,11,12,13,14,15,16,17,18] 19⟩
 rintro _ _ ⟨p84,p85,p86,p87,p88,p89,p90,p91,p92,p93,p94,p95,p96,p97,p98,p99,p100,p101,p102,p103,p104,p105,p106,A94,n94,c94,A98,n98,c98,A99,n99,c99,A100,n100,c100,A101,n101,c101,A102,n102,c102,A103,n103,c103,A104,n104,c104,M105,M106,h,rfl,rfl⟩;refine ba (fun s L=> ∃p149 p150 p151 p152 p153 p154 p155 p156 p157 p158 p159 p160 p161 p162 p163 p164 p165 p166 p167 p168 p169 p170 p171 A159 n159 c159 A163 n163 c163 A164 n164 c164 A165 n165 c165 A166 n166 c166 A167 n167 c167 A168 n168 c168 A169 n169 c169 M170 M171,nP N p48 p49 p50 p149 p150 p151 p152 p153 p154 p155 p156 p157 p158 p159 p160 p161 p162 p163 p164 p165 p166 p167 p168 p169 p170 p171=some r∧s=[(4,pV B17 0),(5,.bool false),(6,pV B29 0)]∧L=[ac B17 30 [iV 0,iV 0,.string (⟨#[]⟩)],ac B29 30 [iV p48,iV p49,.string p50],bm A159 n159 c159 p159,cH A163 n163 c163 p163,bm A164 n164 c164 p164,ac B1 151 [iV p149,iV p150,iV p151,iV p152,iV p153,iV p154,iV p155,iV p156,iV p157,iV p158,.nilIface,pV B2 0,pV B9 0,I A159 n159 c159,iV p160,iV p161,iV p162,I A163 n163 c163,I A164 n164 c164],aT 0 30 [iV 8,iV 0,.string (⟨#[]⟩:ByteArray)],bw A165 n165 c165 p165,bw A166 n166 c166 p166,aX A167 n167 c167 p167,aX A168 n168 c168 p168,ac B2 199 [I A165 n165 c165,I A166 n166 c166,I A167 n167 c167,I A168 n168 c168,pV B7 0],cL A169 n169 c169 p169,aG aD cy M170 p170,ac B9 205 [I A169 n169 c169,.map (some M170)],aG cz cC M171 p171,ac B7 247 [.map (some M171)]]) ?_ ?_
 ·refine U ?_;refine gH J h (fun h=> ?_) (fun h=> ?_)
  ·refine U ?_;refine gR (ah (us:=[iV p48,iV p49,.string p50]) 7 J J aH J) ?_;obtain ⟨y173,k,h⟩:=aa h;refine gD (aA (mc k) CS J (az [0,1,2] [3,13,9,10,11,12,18,17,16,14,15] [0,1,2,4,5,6,7,8] 19 J)) ?_;rintro _ _ ⟨_,⟨A174,n174,c174,A175,n175,c175,A176,n176,c176,A177,n177,c177,M178,A179,n179,c179,M180,A181,n181,c181,A182,n182,c182,A183,n183,c183,rfl,rfl⟩,rfl⟩;refine U ?_;exact ⟨_,_,⟨y173.spent_.steps_,y173.spent_.made_,y173.spent_.calls_,y173.config_.Way,y173.config_.Steps,y173.config_.Calls,y173.config_.Made,y173.config_.Young,y173.config_.Full,y173.config_.Sites,y173.symbols_,y173.epoch_,y173.serial_,y173.sleepers_,y173.events_,y173.out_,y173.heap_.m_.Young,y173.heap_.m_.Old,y173.heap_.roots_,y173.heap_.pending_,y173.shapes_.shapes_,y173.shapes_.next_,y173.heap_.set_.at_,A181,n181,c181,A182,n182,c182,A183,n183,c183,A174,n174,c174,A175,n175,c175,A176,n176,c176,A177,n177,c177,A179,n179,c179,M180,M178,h,J,J⟩,sA,cS [19,20,11,12,13,0,21,2,3,4,5,1,9,10,8,7,6] 22⟩
  refine U ?_;exact ⟨_,_,⟨p84,p85,p86,p87,p88,p89,p90,p91,p92,p93,p94,p95,p96,p97,p98,p99,p100,p101,p102,p103,p104,p105,p106,A94,n94,c94,A98,n98,c98,A99,n99,c99,A100,n100,c100,A101,n101,c101,A102,n102,c102,A103,n103,c103,A104,n104,c104,M105,M106,h,J,J⟩,sA,cS [6,7,0,1,2,3,8,9,10,11,12,13,14,15,16,17,18] 19⟩
 rintro _ _ ⟨p149,p150,p151,p152,p153,p154,p155,p156,p157,p158,p159,p160,p161,p162,p163,p164,p165,p166,p167,p168,p169,p170,p171,A159,n159,c159,A163,n163,c163,A164,n164,c164,A165,n165,c165,A166,n166,c166,A167,n167,c167,A168,n168,c168,A169,n169,c169,M170,M171,h,rfl,rfl⟩;refine U ?_;refine gR (ah (us:=[iV p48,iV p49,.string p50]) 1 J J aH J) ?_;refine gW (ar (us:=[iV p48,iV p49,.string p50]) (cs':=[iV p48,iV p49,.string p50]) 0 J J J J bv J J J) ?_;refine bM ?_;refine U ?_;obtain rfl:=am h;exact cD (rs:=[.cell 4 30,.tmp 5]) (vs:=[.agg #[iV p48,iV p49,.string p50],.bool true]) J (.cons (bG 0 J J aH) (.cons (ep J) .nil)) J (cS [5,11,7,8,9,10,16,15,14,12,13,2,3,4] 17) ⟨_,_,_,_,_,_,_,_,_,_,_,_,_,_,_,_,_,_,_,_,_,_,_,_,_,_,J,J⟩
def sx (N:Nat)(a0:MT)(p19:(List MX)):Option (List MX):=
 some p19
def mL (N:Nat)(y16:((List MM)))(a0:MT)(a1:MQ):Nat→(List MX)→Int→Option (List MX)
 |0,_,_=>none
 |m20+1,p21,p22=>bif decide (p22<(y16.length:Int)) then ((bR y16 p22).bind fun x25=>(bZ N a0 a1 x25).bind fun y26=>dq ((p21.length+([y26.1]:List MX).length)≤549755813888) (dq (bQ (p22+1)) ((mL N y16 a0 a1 m20) (p21++([y26.1]:List MX)) (p22+1)))) else (sx N a0 p21)
def jh (N:Nat)(a0:MT)(a1:MQ):Option (List MX):=
 (dw N a0 a1).bind fun y16=>mL N y16 a0 a1 N [] 0
set_option maxHeartbeats 4000000 in
theorem tr {N:Nat}{a0:MT}{a1:MQ}{r:(List MX)}(h:jh N a0 a1=some r):Okc Tryz.prog 51 [pV B1 0,(bz a1)] ([bm A12 n12 c12 a0.symbols_,cH A13 n13 c13 a0.events_,bm A14 n14 c14 a0.out_,aT 0 30 [iV 8,iV 0,.string (⟨#[]⟩:ByteArray)],ac B1 151 (dm a0 B2 B9 A12 n12 c12 A13 n13 c13 A14 n14 c14),ac B2 199 [I A3 n3 c3,I A4 n4 c4,I A5 n5 c5,I A6 n6 c6,pV B7 0],bw A3 n3 c3 a0.heap_.m_.Young,bw A4 n4 c4 a0.heap_.m_.Old,aX A5 n5 c5 a0.heap_.roots_,aX A6 n6 c6 a0.heap_.pending_,ac B7 247 [.map (some M8)],aG cz cC M8 a0.heap_.set_.at_,ac B9 205 [I A10 n10 c10,.map (some M11)],cL A10 n10 c10 a0.shapes_.shapes_,aG aD cy M11 a0.shapes_.next_]) (fun u post=> ∃A500 n500 c500,u=I A500 n500 c500∧post=[dr dx 42 (I A500 n500 c500) r,ac B1 151 (dm a0 B2 B9 A12 n12 c12 A13 n13 c13 A14 n14 c14),ac B2 199 [I A3 n3 c3,I A4 n4 c4,I A5 n5 c5,I A6 n6 c6,pV B7 0],bw A3 n3 c3 a0.heap_.m_.Young,bw A4 n4 c4 a0.heap_.m_.Old,aX A5 n5 c5 a0.heap_.roots_,aX A6 n6 c6 a0.heap_.pending_,ac B7 247 [.map (some M8)],aG cz cC M8 a0.heap_.set_.at_,ac B9 205 [I A10 n10 c10,.map (some M11)],cL A10 n10 c10 a0.shapes_.shapes_,aG aD cy M11 a0.shapes_.next_]):=by
 refine bD Tryz.func51 J J ?_;simp only [aW];refine U ?_
 refine gB (aO J J) fun B15=> ?_
 refine U ?_;refine gR (ah (us:=au a1) 0 J J aH J) ?_;obtain ⟨y16,k,h⟩:=aa h;refine gD (aA (kr k) xW J (az [1,2,3,4] [5,6,7,8,9,10,11,12,13,14,15] [0,1,2,3,4] 16 J)) ?_;rintro _ _ ⟨_,⟨A17,n17,c17,rfl,rfl⟩,rfl⟩;refine U ?_;refine ba (fun s L=> ∃p19 A19 n19 c19,sx N a0 p19=some r∧s=[(4,I none 0 0),(5,I A19 n19 c19)]∧L=[dr dx 42 (I A19 n19 c19) p19,aT 0 30 [iV 8,iV 0,.string (⟨#[]⟩:ByteArray)],bm A12 n12 c12 a0.symbols_,cH A13 n13 c13 a0.events_,bm A14 n14 c14 a0.out_,ac B1 151 (dm a0 B2 B9 A12 n12 c12 A13 n13 c13 A14 n14 c14),bw A3 n3 c3 a0.heap_.m_.Young,bw A4 n4 c4 a0.heap_.m_.Old,aX A5 n5 c5 a0.heap_.roots_,aX A6 n6 c6 a0.heap_.pending_,ac B2 199 [I A3 n3 c3,I A4 n4 c4,I A5 n5 c5,I A6 n6 c6,pV B7 0],cL A10 n10 c10 a0.shapes_.shapes_,aG aD cy M11 a0.shapes_.next_,ac B9 205 [I A10 n10 c10,.map (some M11)],aG cz cC M8 a0.heap_.set_.at_,ac B7 247 [.map (some M8)]]) ?_ ?_
 ·refine U ?_;refine cn (fun m s L=> ∃p21 p22 A21 n21 c21,mL N y16 a0 a1 m p21 p22=some r∧s=[(0,pV B1 0),(3,pV B15 0),(4,I none 0 0),(5,I A21 n21 c21),(6,I A17 n17 c17),(7,iV p22)]∧L=[dr dx 42 (I A21 n21 c21) p21,ju A17 n17 c17 y16,bm A12 n12 c12 a0.symbols_,cH A13 n13 c13 a0.events_,bm A14 n14 c14 a0.out_,ac B1 151 (dm a0 B2 B9 A12 n12 c12 A13 n13 c13 A14 n14 c14),ac B15 30 (au a1),aT 0 30 [iV 8,iV 0,.string (⟨#[]⟩:ByteArray)],bw A3 n3 c3 a0.heap_.m_.Young,bw A4 n4 c4 a0.heap_.m_.Old,aX A5 n5 c5 a0.heap_.roots_,aX A6 n6 c6 a0.heap_.pending_,ac B2 199 [I A3 n3 c3,I A4 n4 c4,I A5 n5 c5,I A6 n6 c6,pV B7 0],cL A10 n10 c10 a0.shapes_.shapes_,aG aD cy M11 a0.shapes_.next_,ac B9 205 [I A10 n10 c10,.map (some M11)],aG cz cC M8 a0.heap_.set_.at_,ac B7 247 [.map (some M8)]]) N _ _ ⟨[],0,none,0,0,h,J,J⟩ sA ((gA dx 42 _).trans (cS [0,1,14,15,16,2,13,17,4,5,6,7,3,11,12,10,9,8] 18)) ?_;rintro (_|m20) _ _ ⟨p21,p22,A21,n21,c21,h,rfl,rfl⟩
  ·exact bu h
  rw [mL.eq_2] at h;refine aB ?_;refine U ?_;refine gR (bL 1 J aC J MD) ?_;refine U ?_;refine gH J h (fun h=> ?_) (fun h=> ?_)
  ·refine U ?_;refine aB ?_;refine eZ ?_;refine aB ?_;obtain ⟨x25,hx25,h⟩:=aa h;obtain ⟨lx25,ux25,hx25⟩:=aJ hx25;obtain ⟨y26,hy26,h⟩:=aa h;refine iQ (t:=[(0,pV B1 0),(3,pV B15 0),(4,I none 0 0),(5,I A21 n21 c21),(6,I A17 n17 c17),(7,iV p22)]) ?_ ki (ae _)
   refine ik V 11 [9] [8,9,10] [20,21,22,23,24,25,26,19,27,28,8] [[],[],[],[],[2,3],[4],[0,1,5],[6],[7],[7],[]] [aV (pV B1 0),
 aV ((bz a1)),
 aV (I A17 n17 c17),
 aV (iV p22),
 aV (fo (I A17 n17 c17) p22.toNat 3 0),
 aV (.agg #[iV x25.Kind,iV x25.N,.string x25.S]),
 aV (.tuple #[(bJ y26.1),.bool y26.2]),
 aV (.tuple #[(bJ y26.1),.bool y26.2]),
 aV ((bJ y26.1)),
 aV (.bool y26.2),
 aX1 (fun (B28:Nat)=>pV B28 0) (fun B28=> [ac B28 42 [iV 0,iV 0,.string (⟨#[]⟩),iV 0,iV 0,iV 0,.string (⟨#[]⟩),iV 0,iV 0,.string (⟨#[]⟩),iV 0,iV 0,.string (⟨#[]⟩)]])] [] (ae _) (eX rfl jP) V rfl rfl ?_ ?_ ?_
   ·refine eW J ?_ ?_
    ·exact kh (bq J J) J (bg J (ae _))
    exact jO
   ·refine ak J ?_ ?_
    ·refine lH (aM dB J) J ?_;rintro _ _ ⟨B27,rfl,rfl⟩;exact Aq B27 (ae _)
    refine ak J ?_ ?_
    ·exact cb (bq J J) J (bg J (ae _))
    refine ak J ?_ ?_
    ·exact cb (bq J J) J (bg J (ae _))
    refine ak J ?_ ?_
    ·exact cb (aq J) J (bg J (ae _))
    refine ak J ?_ ?_
    ·refine lH (aA (gF hy26) rG J (az [2,3,4,7] [5,12,8,9,10,11,17,16,15,13,14] [0,1,2,3,4,6,7] 18 J)) J ?_;rintro _ _ ⟨_,⟨rfl,rfl⟩,rfl⟩;exact bg J (cS [11,12,13,14,15,0,16,17,2,3,4,5,1,9,10,8,7,6] 18)
    refine ak J ?_ ?_
    ·exact gi (bA (us:=[iV x25.Kind,iV x25.N,.string x25.S]) 1 J aC J hx25 bF (fun _ _ _ h=>by rw [show _=_ from h];rfl)) J (bg J (ae _))
    refine ak J ?_ ?_
    ·exact gi (bx 1 J aC J J MD cO lx25 ux25) J (bg J (ae _))
    refine ak J ?_ ?_
    ·exact cb (aq J) J (bg J (ae _))
    refine ak J ?_ ?_
    ·exact cb (aq J) J (bg J (ae _))
    refine ak J ?_ ?_
    ·exact gi (ah (us:=au a1) 6 J J aH J) J (bg J (ae _))
    refine ak J ?_ ?_
    ·exact cb (aq J) J (bg J (ae _))
    exact eC
   intro B28;refine mq (t:=[(27,(bJ y26.1)),(28,.bool y26.2),(8,pV B28 0),(0,pV B1 0),(3,pV B15 0),(4,I none 0 0),(5,I A21 n21 c21),(6,I A17 n17 c17),(7,iV p22)]) (L':=[ac B28 42 [iV 0,iV 0,.string (⟨#[]⟩),iV 0,iV 0,iV 0,.string (⟨#[]⟩),iV 0,iV 0,.string (⟨#[]⟩),iV 0,iV 0,.string (⟨#[]⟩)],dr dx 42 (I A21 n21 c21) p21,ju A17 n17 c17 y16,bm A12 n12 c12 a0.symbols_,cH A13 n13 c13 a0.events_,bm A14 n14 c14 a0.out_,ac B1 151 (dm a0 B2 B9 A12 n12 c12 A13 n13 c13 A14 n14 c14),ac B15 30 (au a1),aT 0 30 [iV 8,iV 0,.string (⟨#[]⟩:ByteArray)],bw A3 n3 c3 a0.heap_.m_.Young,bw A4 n4 c4 a0.heap_.m_.Old,aX A5 n5 c5 a0.heap_.roots_,aX A6 n6 c6 a0.heap_.pending_,ac B2 199 [I A3 n3 c3,I A4 n4 c4,I A5 n5 c5,I A6 n6 c6,pV B7 0],cL A10 n10 c10 a0.shapes_.shapes_,aG aD cy M11 a0.shapes_.next_,ac B9 205 [I A10 n10 c10,.map (some M11)],aG cz cC M8 a0.heap_.set_.at_,ac B7 247 [.map (some M8)]]) ?_ ki (ae _);refine lO 11 J V (ar (us:=aR y26.1) (cs':=aR y26.1) 0 J J J J cm J J J) J J ?_;rintro _ _ rfl;refine tk 12 J V (bj J) J J J ?_;refine jT V ?_;refine U ?_;refine gR (ah (us:=aR y26.1) 0 J J dA J) ?_;refine gD (cx (R:=dx) (vss:=[(aR y26.1)]) (xs:=[y26.1]) J (BV _ _ _ _ _ _ _ _ _ _ _ _ _) J J (fun _ _ hr=> .cons J All2.nil)) ?_;rintro _ _ ⟨A29,n29,c29,rfl,rfl⟩;obtain ⟨q30,h⟩:=ay h;refine gD (sZ 2 0 J J aC J J EM KV J J J q30) ?_
   rintro _ _ ⟨A31,n31,c31,rfl,rfl⟩;refine bM ?_;refine U ?_;obtain ⟨q32,h⟩:=ay h;refine gE (bI J J q32.1 q32.2) ?_;refine U ?_;exact ⟨m20,_,_,Nh _,⟨p21++([y26.1]:List MX),p22+1,A31,n31,c31,h,J,J⟩,sA,cS [2,3,4,5,6,7,8,9,10,11,12,13,14,15,16,17,18,19] 20⟩
  refine U ?_;exact ⟨_,_,⟨p21,A21,n21,c21,h,J,J⟩,sA,cS [0,7,2,3,4,5,8,9,10,11,12,13,14,15,16,17] 18⟩
 rintro _ _ ⟨p19,A19,n19,c19,h,rfl,rfl⟩;refine U ?_;obtain rfl:=am h;exact aL J J (cS [0,5,10,6,7,8,9,15,14,13,11,12] 16) ⟨_,_,_,J,J⟩
def oO (N:Nat)(a0:MT)(a1:MQ)(a2:MM):Option (Bool×MT):=
 (dE N a0 a1).bind fun y17=>bif !y17.2 then (some (false,a0)) else ((bY N a0 a1 a2).bind fun y22=>bif !y22.2 then (some (true,a0)) else (bif decide (ai .i64 y22.1.Attrs 4=0) then (some (false,a0)) else ((bif decide (a2.Kind=0) then ((jM N y17.1 a2.N).bind fun y27=>some y27) else (some false)).bind fun b26=>bif b26 then ((bR y17.1.More a2.N).bind fun x29=>(bH N a0 a1 (⟨y17.1.Kind,y17.1.Shape,y17.1.Flags,y17.1.Age,y17.1.Slots,List.set y17.1.More a2.N.toNat (⟨8,0,(⟨#[]⟩:ByteArray)⟩:MQ)⟩:MY)).bind fun y30=>some (true,y30)) else ((gq N a0 a1 a2).bind fun y41=>some (y41.1,y41.2)))))
set_option maxHeartbeats 4000000 in
theorem vV {N:Nat}{a0:MT}{a1:MQ}{a2:MM}{r:(Bool×MT)}(h:oO N a0 a1 a2=some r):Okc Tryz.prog 31 [pV B1 0,(bz a1),(fT a2)] ([bm A12 n12 c12 a0.symbols_,cH A13 n13 c13 a0.events_,bm A14 n14 c14 a0.out_,aT 0 30 [iV 8,iV 0,.string (⟨#[]⟩:ByteArray)],ac B1 151 (dm a0 B2 B9 A12 n12 c12 A13 n13 c13 A14 n14 c14),ac B2 199 [I A3 n3 c3,I A4 n4 c4,I A5 n5 c5,I A6 n6 c6,pV B7 0],bw A3 n3 c3 a0.heap_.m_.Young,bw A4 n4 c4 a0.heap_.m_.Old,aX A5 n5 c5 a0.heap_.roots_,aX A6 n6 c6 a0.heap_.pending_,ac B7 247 [.map (some M8)],aG cz cC M8 a0.heap_.set_.at_,ac B9 205 [I A10 n10 c10,.map (some M11)],cL A10 n10 c10 a0.shapes_.shapes_,aG aD cy M11 a0.shapes_.next_]) (fun u post=> ∃A0 n0 c0 A1 n1 c1 A2 n2 c2 A3 n3 c3 M4 A5 n5 c5 M6 A7 n7 c7 A8 n8 c8 A9 n9 c9,u=.bool r.1∧post=[ac B1 151 (dm r.2 B2 B9 A7 n7 c7 A8 n8 c8 A9 n9 c9),ac B2 199 [I A0 n0 c0,I A1 n1 c1,I A2 n2 c2,I A3 n3 c3,pV B7 0],bw A0 n0 c0 r.2.heap_.m_.Young,bw A1 n1 c1 r.2.heap_.m_.Old,aX A2 n2 c2 r.2.heap_.roots_,aX A3 n3 c3 r.2.heap_.pending_,ac B7 247 [.map (some M4)],aG cz cC M4 r.2.heap_.set_.at_,ac B9 205 [I A5 n5 c5,.map (some M6)],cL A5 n5 c5 r.2.shapes_.shapes_,aG aD cy M6 r.2.shapes_.next_,bm A7 n7 c7 r.2.symbols_,cH A8 n8 c8 r.2.events_,bm A9 n9 c9 r.2.out_]):=by
 refine bD Tryz.func31 J J ?_;simp only [aW];refine U ?_
 refine gB (aO J J) fun B15=> ?_
 refine gB (aO J J) fun B16=> ?_
 refine U ?_;refine gR (ah (us:=au a1) 1 J J aH J) ?_;obtain ⟨y17,k,h⟩:=aa h;refine gD (ap (eI k) oK J (hD (ax (i:=6) J) (hD (ax (i:=7) J) (hD (ao (i:=8) J) (hD (ao (i:=9) J) (hD (ao (i:=10) J) (hD (ao (i:=11) J) (hD (ax (i:=12) J) (hD (aU (i:=13) J) (hD (ax (i:=14) J) (hD (ao (i:=15) J) (hD (aU (i:=16) J) (hD (al (i:=2) J J) (hD (al (i:=3) J J) (hD (al (i:=4) J J) aj)))))))))))))) dF) ?_;rintro _ _ ⟨_,⟨A18,n18,c18,A19,n19,c19,rfl,rfl⟩,rfl⟩;refine U ?_
 refine gB (aM gx J) fun B20=> ?_
 refine gW (ar (us:=[iV y17.1.Kind,iV y17.1.Shape,iV y17.1.Flags,iV y17.1.Age,I A18 n18 c18,I A19 n19 c19]) (cs':=[iV y17.1.Kind,iV y17.1.Shape,iV y17.1.Flags,iV y17.1.Age,I A18 n18 c18,I A19 n19 c19]) 0 J J J J du J J J) ?_;refine U ?_;refine aB ?_;refine U ?_;refine gH J h (fun h=> ?_) (fun h=> ?_)
 ·refine U ?_;obtain rfl:=am h;exact aL J J (cS [9,10,11,12,13,14,15,16,17,18,19,5,6,7] 20) ⟨_,_,_,_,_,_,_,_,_,_,_,_,_,_,_,_,_,_,_,_,_,_,_,_,_,_,J,J⟩
 refine U ?_;refine gR (ah (us:=au a1) 4 J J aH J) ?_;refine gR (ah (us:=bS a2) 3 J J bF J) ?_;obtain ⟨y22,k,h⟩:=aa h;refine gV (aA (mo k) xY J (az [5,6,7,8] [9,10,11,12,13,14,15,16,17,18,19] [0,1,2,3,4,5,6,7,8] 20 J)) ?_;refine U ?_
 refine gB (aM dB J) fun B23=> ?_
 refine gW (ar (us:=aR y22.1) (cs':=aR y22.1) 0 J J J J cm J J J) ?_;refine bM ?_;refine U ?_;refine aB ?_;refine U ?_;refine gH J h (fun h=> ?_) (fun h=> ?_)
 ·refine U ?_;obtain rfl:=am h;exact aL J J (cS [1,2,3,4,5,6,7,8,9,10,11,17,18,19] 21) ⟨_,_,_,_,_,_,_,_,_,_,_,_,_,_,_,_,_,_,_,_,_,_,_,_,_,_,J,J⟩
 refine U ?_;refine gE (bE J J) ?_;refine U ?_;refine gH J h (fun h=> ?_) (fun h=> ?_)
 ·refine U ?_;obtain rfl:=am h;exact aL J J (cS [1,2,3,4,5,6,7,8,9,10,11,17,18,19] 21) ⟨_,_,_,_,_,_,_,_,_,_,_,_,_,_,_,_,_,_,_,_,_,_,_,_,_,_,J,J⟩
 refine U ?_;refine gR (aY 15 J J dH J) ?_;refine U ?_;obtain ⟨b26,hb26,h⟩:=aa h;refine aK 5 43 b26 ?_ ?_
 ·clear h;refine aI 38 J (fun g26=> ?_) (fun g26=> ?_)
  ·have h:=aE g26 hb26;refine cp (ah (us:=[iV y17.1.Kind,iV y17.1.Shape,iV y17.1.Flags,iV y17.1.Age,I A18 n18 c18,I A19 n19 c19]) 12 J J cq J) J (bp g26 J) J ?_;refine U ?_;refine cp (aY 15 J J dH J) J (bp g26 J) J ?_;obtain ⟨y27,k,h⟩:=aa h;refine gU (ap (rK k) D3 J (hD (ao (i:=13) J) (hD (ao (i:=14) J) (hD (al (i:=20) J J) aj))) pR) (bp g26 J) ?_;refine U ?_;obtain rfl:=am h;exact ad sA (cS [0,1,2,3,4,5,6,7,8,9,10,11,12,13,14,15,16,17,18,19,20] 21)
  have h:=aF g26 hb26;refine U ?_;obtain rfl:=am h;exact ad sA (cS [0,1,2,3,4,5,6,7,8,9,10,11,12,13,14,15,16,17,18,19,20] 21)
 refine U ?_;refine gH J h (fun h=> ?_) (fun h=> ?_)
 ·refine U ?_;refine gR (aY 12 J J iO J) ?_;refine U ?_;refine gR (aY 15 J J dH J) ?_;refine gR (lR (us:=[iV 8,iV 0,.string (⟨#[]⟩:ByteArray)]) 20 J J aH J) ?_;obtain ⟨x29,hx29,h⟩:=aa h;obtain ⟨lx29,ux29,hx29⟩:=aJ hx29;refine gR (bx 14 J aC J J hE bv lx29 ux29) ?_;refine gW (cZ (us:=[iV 8,iV 0,.string (⟨#[]⟩:ByteArray)]) (z:=(⟨8,0,(⟨#[]⟩:ByteArray)⟩:MQ)) 14 J J J J bv J (toNat_lt lx29 ux29) J (fun S w vs xk hk hr ho=>by obtain rfl:=Option.some.inj (hk.symm.trans hx29);rw [show _=_ from hr];rfl)) ?_;refine U ?_;refine gR (ah (us:=au a1) 16 J J aH J) ?_;refine gR (ah (us:=[iV y17.1.Kind,iV y17.1.Shape,iV y17.1.Flags,iV y17.1.Age,I A18 n18 c18,I A19 n19 c19]) 12 J J cq J) ?_;refine lq (dC 13 J) ?_;refine lq (dC 14 J) ?_;refine bM ?_;obtain ⟨y30,k,h⟩:=aa h;refine gD (aA (dZ k) mS J (az [17,18,19,13,14] [1,2,3,4,5,6,7,8,9,10,11] [0,12,13,14,15,16,17,18,19,20] 21 J)) ?_;rintro _ _ ⟨_,⟨A31,n31,c31,A32,n32,c32,A33,n33,c33,A34,n34,c34,M35,A36,n36,c36,M37,A38,n38,c38,A39,n39,c39,A40,n40,c40,rfl,rfl⟩,rfl⟩;refine U ?_;obtain rfl:=am h;exact aL J J (cS [0,1,2,3,4,5,6,7,8,9,10,11,12,13] 24) ⟨_,_,_,_,_,_,_,_,_,_,_,_,_,_,_,_,_,_,_,_,_,_,_,_,_,_,J,J⟩
 refine U ?_;refine gR (ah (us:=au a1) 16 J J aH J) ?_;refine gR (ah (us:=bS a2) 15 J J bF J) ?_;obtain ⟨y41,k,h⟩:=aa h;refine gD (aA (kH k) Az J (az [17,18,19] [1,2,3,4,5,6,7,8,9,10,11] [0,12,13,14,15,16,17,18,19,20] 21 J)) ?_;rintro _ _ ⟨_,⟨A42,n42,c42,A43,n43,c43,A44,n44,c44,A45,n45,c45,M46,A47,n47,c47,M48,A49,n49,c49,A50,n50,c50,A51,n51,c51,rfl,rfl⟩,rfl⟩;refine U ?_;obtain rfl:=am h;exact aL J J (cS [0,1,2,3,4,5,6,7,8,9,10,11,12,13] 24) ⟨_,_,_,_,_,_,_,_,_,_,_,_,_,_,_,_,_,_,_,_,_,_,_,_,_,_,J,J⟩
def lu (N:Nat)(a0:MT)(a1:MQ)(a2:MM):Option (Bool×MT):=
 bif !decide (a1.Kind=7) then (some (true,a0)) else ((kA N a0 a1).bind fun y18=>bif y18 then ((oO N a0 a1 a2).bind fun y20=>some (y20.1,y20.2)) else ((gq N a0 a1 a2).bind fun y31=>some (y31.1,y31.2)))
theorem uL {N:Nat}{a0:MT}{a1:MQ}{a2:MM}{r:(Bool×MT)}(h:lu N a0 a1 a2=some r):Okc Tryz.prog 20 [pV B1 0,(bz a1),(fT a2)] ([bm A12 n12 c12 a0.symbols_,cH A13 n13 c13 a0.events_,bm A14 n14 c14 a0.out_,aT 0 30 [iV 8,iV 0,.string (⟨#[]⟩:ByteArray)],ac B1 151 (dm a0 B2 B9 A12 n12 c12 A13 n13 c13 A14 n14 c14),ac B2 199 [I A3 n3 c3,I A4 n4 c4,I A5 n5 c5,I A6 n6 c6,pV B7 0],bw A3 n3 c3 a0.heap_.m_.Young,bw A4 n4 c4 a0.heap_.m_.Old,aX A5 n5 c5 a0.heap_.roots_,aX A6 n6 c6 a0.heap_.pending_,ac B7 247 [.map (some M8)],aG cz cC M8 a0.heap_.set_.at_,ac B9 205 [I A10 n10 c10,.map (some M11)],cL A10 n10 c10 a0.shapes_.shapes_,aG aD cy M11 a0.shapes_.next_]) (fun u post=> ∃A0 n0 c0 A1 n1 c1 A2 n2 c2 A3 n3 c3 M4 A5 n5 c5 M6 A7 n7 c7 A8 n8 c8 A9 n9 c9,u=.bool r.1∧post=[ac B1 151 (dm r.2 B2 B9 A7 n7 c7 A8 n8 c8 A9 n9 c9),ac B2 199 [I A0 n0 c0,I A1 n1 c1,I A2 n2 c2,I A3 n3 c3,pV B7 0],bw A0 n0 c0 r.2.heap_.m_.Young,bw A1 n1 c1 r.2.heap_.m_.Old,aX A2 n2 c2 r.2.heap_.roots_,aX A3 n3 c3 r.2.heap_.pending_,ac B7 247 [.map (some M4)],aG cz cC M4 r.2.heap_.set_.at_,ac B9 205 [I A5 n5 c5,.map (some M6)],cL A5 n5 c5 r.2.shapes_.shapes_,aG aD cy M6 r.2.shapes_.next_,bm A7 n7 c7 r.2.symbols_,cH A8 n8 c8 r.2.events_,bm A9 n9 c9 r.2.out_]):=by
 refine bD Tryz.func20 J J ?_;simp only [aW];refine U ?_
 refine gB (aO J J) fun B15=> ?_
 refine gB (aO J J) fun B16=> ?_
 refine U ?_;refine aB ?_;refine U ?_;refine gH J h (fun h=> ?_) (fun h=> ?_)
 ·refine U ?_;obtain rfl:=am h;exact aL J J (cS [6,7,8,9,10,11,12,13,14,15,16,2,3,4] 17) ⟨_,_,_,_,_,_,_,_,_,_,_,_,_,_,_,_,_,_,_,_,_,_,_,_,_,_,J,J⟩
 refine U ?_;refine gR (ah (us:=au a1) 1 J J aH J) ?_;obtain ⟨y18,k,h⟩:=aa h;refine gV (ap (nr k) xX J (hD (ax (i:=6) J) (hD (ax (i:=7) J) (hD (ao (i:=8) J) (hD (ao (i:=9) J) (hD (ao (i:=10) J) (hD (ao (i:=11) J) (hD (ax (i:=12) J) (hD (aU (i:=13) J) (hD (ax (i:=14) J) (hD (ao (i:=15) J) (hD (aU (i:=16) J) (hD (al (i:=2) J J) (hD (al (i:=3) J J) (hD (al (i:=4) J J) aj)))))))))))))) lp) ?_;refine U ?_;refine gH J h (fun h=> ?_) (fun h=> ?_)
 ·refine U ?_;refine gR (ah (us:=au a1) 1 J J aH J) ?_;refine gR (ah (us:=bS a2) 0 J J bF J) ?_;obtain ⟨y20,k,h⟩:=aa h;refine gD (aA (vV k) Ku J (az [2,3,4,5] [6,7,8,9,10,11,12,13,14,15,16] [0,1,2,3,4,5] 17 J)) ?_;rintro _ _ ⟨_,⟨A21,n21,c21,A22,n22,c22,A23,n23,c23,A24,n24,c24,M25,A26,n26,c26,M27,A28,n28,c28,A29,n29,c29,A30,n30,c30,rfl,rfl⟩,rfl⟩;refine U ?_;obtain rfl:=am h;exact aL J J (cS [0,1,2,3,4,5,6,7,8,9,10,11,12,13] 20) ⟨_,_,_,_,_,_,_,_,_,_,_,_,_,_,_,_,_,_,_,_,_,_,_,_,_,_,J,J⟩
 refine U ?_;refine gR (ah (us:=au a1) 1 J J aH J) ?_;refine gR (ah (us:=bS a2) 0 J J bF J) ?_;obtain ⟨y31,k,h⟩:=aa h;refine gD (aA (kH k) Az J (az [2,3,4] [6,7,8,9,10,11,12,13,14,15,16] [0,1,2,3,4,5] 17 J)) ?_;rintro _ _ ⟨_,⟨A32,n32,c32,A33,n33,c33,A34,n34,c34,A35,n35,c35,M36,A37,n37,c37,M38,A39,n39,c39,A40,n40,c40,A41,n41,c41,rfl,rfl⟩,rfl⟩;refine U ?_;obtain rfl:=am h;exact aL J J (cS [0,1,2,3,4,5,6,7,8,9,10,11,12,13] 20) ⟨_,_,_,_,_,_,_,_,_,_,_,_,_,_,_,_,_,_,_,_,_,_,_,_,_,_,J,J⟩
def kN (N:Nat)(a0:MT)(a1:MQ):Option (Bool×MT):=
 (i9 N a0 a1).bind fun y16=>some (y16.1,y16.2)
theorem tU {N:Nat}{a0:MT}{a1:MQ}{r:(Bool×MT)}(h:kN N a0 a1=some r):Okc Tryz.prog 44 [pV B1 0,(bz a1)] ([bm A12 n12 c12 a0.symbols_,cH A13 n13 c13 a0.events_,bm A14 n14 c14 a0.out_,aT 0 30 [iV 8,iV 0,.string (⟨#[]⟩:ByteArray)],ac B1 151 (dm a0 B2 B9 A12 n12 c12 A13 n13 c13 A14 n14 c14),ac B2 199 [I A3 n3 c3,I A4 n4 c4,I A5 n5 c5,I A6 n6 c6,pV B7 0],bw A3 n3 c3 a0.heap_.m_.Young,bw A4 n4 c4 a0.heap_.m_.Old,aX A5 n5 c5 a0.heap_.roots_,aX A6 n6 c6 a0.heap_.pending_,ac B7 247 [.map (some M8)],aG cz cC M8 a0.heap_.set_.at_,ac B9 205 [I A10 n10 c10,.map (some M11)],cL A10 n10 c10 a0.shapes_.shapes_,aG aD cy M11 a0.shapes_.next_]) (fun u post=> ∃A0 n0 c0 A1 n1 c1 A2 n2 c2 A3 n3 c3 M4 A5 n5 c5 M6 A7 n7 c7 A8 n8 c8 A9 n9 c9,u=.bool r.1∧post=[ac B1 151 (dm r.2 B2 B9 A7 n7 c7 A8 n8 c8 A9 n9 c9),ac B2 199 [I A0 n0 c0,I A1 n1 c1,I A2 n2 c2,I A3 n3 c3,pV B7 0],bw A0 n0 c0 r.2.heap_.m_.Young,bw A1 n1 c1 r.2.heap_.m_.Old,aX A2 n2 c2 r.2.heap_.roots_,aX A3 n3 c3 r.2.heap_.pending_,ac B7 247 [.map (some M4)],aG cz cC M4 r.2.heap_.set_.at_,ac B9 205 [I A5 n5 c5,.map (some M6)],cL A5 n5 c5 r.2.shapes_.shapes_,aG aD cy M6 r.2.shapes_.next_,bm A7 n7 c7 r.2.symbols_,cH A8 n8 c8 r.2.events_,bm A9 n9 c9 r.2.out_]):=by
 refine bD Tryz.func44 J J ?_;simp only [aW];refine U ?_
 refine gB (aO J J) fun B15=> ?_
 refine U ?_;refine gR (ah (us:=au a1) 0 J J aH J) ?_;obtain ⟨y16,k,h⟩:=aa h;refine gD (aA (pq k) DX J (az [1,2,3,4] [5,6,7,8,9,10,11,12,13,14,15] [0,1,2,3,4] 16 J)) ?_;rintro _ _ ⟨_,⟨A17,n17,c17,A18,n18,c18,A19,n19,c19,A20,n20,c20,M21,A22,n22,c22,M23,A24,n24,c24,A25,n25,c25,A26,n26,c26,rfl,rfl⟩,rfl⟩;refine U ?_;obtain rfl:=am h;exact aL J J (cS [0,1,2,3,4,5,6,7,8,9,10,11,12,13] 19) ⟨_,_,_,_,_,_,_,_,_,_,_,_,_,_,_,_,_,_,_,_,_,_,_,_,_,_,J,J⟩
def gP (N:Nat)(a0:MT)(a1:MQ):Option Bool:=
 (io N a0 a1).bind fun y16=>some y16
theorem sr {N:Nat}{a0:MT}{a1:MQ}{r:Bool}(h:gP N a0 a1=some r):Okc Tryz.prog 46 [pV B1 0,(bz a1)] ([bm A12 n12 c12 a0.symbols_,cH A13 n13 c13 a0.events_,bm A14 n14 c14 a0.out_,aT 0 30 [iV 8,iV 0,.string (⟨#[]⟩:ByteArray)],ac B1 151 (dm a0 B2 B9 A12 n12 c12 A13 n13 c13 A14 n14 c14),ac B2 199 [I A3 n3 c3,I A4 n4 c4,I A5 n5 c5,I A6 n6 c6,pV B7 0],bw A3 n3 c3 a0.heap_.m_.Young,bw A4 n4 c4 a0.heap_.m_.Old,aX A5 n5 c5 a0.heap_.roots_,aX A6 n6 c6 a0.heap_.pending_,ac B7 247 [.map (some M8)],aG cz cC M8 a0.heap_.set_.at_,ac B9 205 [I A10 n10 c10,.map (some M11)],cL A10 n10 c10 a0.shapes_.shapes_,aG aD cy M11 a0.shapes_.next_]) (fun u post=>u=.bool r∧post=[ac B1 151 (dm a0 B2 B9 A12 n12 c12 A13 n13 c13 A14 n14 c14),ac B2 199 [I A3 n3 c3,I A4 n4 c4,I A5 n5 c5,I A6 n6 c6,pV B7 0],bw A3 n3 c3 a0.heap_.m_.Young,bw A4 n4 c4 a0.heap_.m_.Old,aX A5 n5 c5 a0.heap_.roots_,aX A6 n6 c6 a0.heap_.pending_,ac B7 247 [.map (some M8)],aG cz cC M8 a0.heap_.set_.at_,ac B9 205 [I A10 n10 c10,.map (some M11)],cL A10 n10 c10 a0.shapes_.shapes_,aG aD cy M11 a0.shapes_.next_]):=by
 refine bD Tryz.func46 J J ?_;simp only [aW];refine U ?_
 refine gB (aO J J) fun B15=> ?_
 refine U ?_;refine gR (ah (us:=au a1) 0 J J aH J) ?_;obtain ⟨y16,k,h⟩:=aa h;refine gV (aA (oC k) DV J (az [1,2,3,4] [5,6,7,8,9,10,11,12,13,14,15] [0,1,2,3,4] 16 J)) ?_;refine U ?_;obtain rfl:=am h;exact aL J J (cS [0,1,2,3,4,5,6,7,8,9,10] 16) ⟨J,J⟩
def vm (N:Nat):Option Bool:=
 some true
def oV (N:Nat)(a0:(List MX))(a1:(List MX)):Nat→Int→Option Bool
 |0,_=>none
 |m5+1,p6=>bif decide (p6<(a0.length:Int)) then ((bR a0 p6).bind fun x8=>(bR a1 p6).bind fun x9=>bif !decide (x8=x9) then (some false) else (dq (bQ (p6+1)) ((oV N a0 a1 m5) (p6+1)))) else (vm N)
def pY (N:Nat)(a0:(List MX))(a1:(List MX)):Option Bool:=
 bif !decide ((a0.length:Int)=(a1.length:Int)) then (some false) else (oV N a0 a1 N 0)
theorem Bj {N:Nat}{a0:(List MX)}{a1:(List MX)}{r:Bool}(h:pY N a0 a1=some r):Okc Tryz.prog 52 [I A1 n1 c1,I A2 n2 c2] ([lB dx (I A1 n1 c1) a0,lB dx (I A2 n2 c2) a1]) (fun u post=>u=.bool r∧post=[]):=by
 refine bD Tryz.func52 J J ?_;simp only [aW];refine U ?_;refine aB ?_;refine U ?_;refine gR (bL 0 J aS J EM) ?_;refine U ?_;refine gR (bL 1 J aS J EM) ?_;refine U ?_;refine gH J h (fun h=> ?_) (fun h=> ?_)
 ·refine U ?_;obtain rfl:=am h;exact aL J J (cS [] 2) ⟨J,J⟩
 refine U ?_;refine ba (fun s L=>vm N=some r∧s=[(4,.bool false)]∧L=[]) ?_ ?_
 ·refine U ?_;refine cn (fun m s L=> ∃p6,oV N a0 a1 m p6=some r∧s=[(0,I A1 n1 c1),(1,I A2 n2 c2),(4,.bool false),(5,iV p6)]∧L=[lB dx (I A1 n1 c1) a0,lB dx (I A2 n2 c2) a1]) N _ _ ⟨0,h,J,J⟩ sA (cS [0,1] 2) ?_;rintro (_|m5) _ _ ⟨p6,h,rfl,rfl⟩
  ·exact bu h
  rw [oV.eq_2] at h;refine aB ?_;refine U ?_;refine gR (bL 0 J aS J EM) ?_;refine U ?_;refine gH J h (fun h=> ?_) (fun h=> ?_)
  ·refine U ?_;refine aB ?_;refine eZ ?_;refine aB ?_;refine bK V _ (ae _) ?_;refine zE 0 J (aq J) ?_;refine zE 1 J (aq J) ?_;obtain ⟨x8,hx8,h⟩:=aa h;obtain ⟨lx8,ux8,hx8⟩:=aJ hx8;refine zR 2 J (bx 0 J aS J J EM cm lx8 ux8) ?_;refine zR 3 J (bA (us:=aR x8) 0 J aS J hx8 dA (fun _ _ _ h=>by rw [show _=_ from h];rfl)) ?_;refine zE 4 J (aq J) ?_;refine zE 5 J (aq J) ?_;obtain ⟨x9,hx9,h⟩:=aa h;obtain ⟨lx9,ux9,hx9⟩:=aJ hx9;refine zR 6 J (bx 1 J aS J J EM cm lx9 ux9) ?_;refine zR 7 J (bA (us:=aR x9) 1 J aS J hx9 dA (fun _ _ _ h=>by rw [show _=_ from h];rfl)) ?_;refine zE 8 J (EX (x:=x8) (y:=x9) J J) ?_;refine bC V ?_;refine fa ?_;refine gH J h (fun h=> ?_) (fun h=> ?_)
   ·refine U ?_;obtain rfl:=am h;exact aL J J (cS [] 2) ⟨J,J⟩
   refine U ?_;obtain ⟨q11,h⟩:=ay h;refine gE (bI J J q11.1 q11.2) ?_;refine U ?_;exact ⟨m5,_,_,Nh _,⟨p6+1,h,J,J⟩,sA,cS [0,1] 2⟩
  refine U ?_;exact ⟨_,_,⟨h,J,J⟩,sA,cS [] 2⟩
 rintro _ _ ⟨h,rfl,rfl⟩;refine U ?_;obtain rfl:=am h;exact aL J J (cS [] 0) ⟨J,J⟩
theorem ym {r:Bool}:∀(u:Value)(p:List Chunk),u=.bool r∧p=[]→∀c∈p,cM c:=by
 rintro _ _ ⟨rfl,rfl⟩;exact aj
def iv (N:Nat)(a0:ML)(a1:MM)(a2:Int):Option Bool:=
 (jJ N).bind fun y4=>(mT N a0).bind fun y19=>(bif !y19 then (some true) else (some false)).bind fun b20=>(bif b20 then (some true) else ((nh N a1).bind fun y22=>some (!y22))).bind fun b21=>bif b21 then ((mU N).bind fun y24=>some y24) else ((rS N y4 a0).bind fun y25=>bif !y25.2.1 then (some false) else ((fO N y25.2.2 y25.1).bind fun y38=>bif !y38.1 then (some false) else ((jh N y38.2 y25.1).bind fun y50=>(bZ N y38.2 y25.1 a1).bind fun y52=>(lu N y38.2 y25.1 a1).bind fun y54=>bif y54.1==y52.2 then (some false) else ((jI N (ai .i64 a2 65535)).bind fun y66=>(cB N y54.2 y25.1 a1 (⟨1,0,y66,(⟨0,0,⟨#[]⟩⟩:MQ),(⟨0,0,⟨#[]⟩⟩:MQ)⟩:Na)).bind fun y67=>(bif y67.1 then ((bif !y52.2 then (some true) else ((jI N (ai .i64 a2 65535)).bind fun y80=>some (!decide (y52.1.Value=y80)))).bind fun b79=>some b79) else (some false)).bind fun b78=>bif b78 then (some false) else ((fO N y67.2.2 y25.1).bind fun y82=>bif y82.1 then ((kN N y82.2 y25.1).bind fun y94=>(bif y94.1 then ((fN N y94.2 y25.1).bind fun y106=>some y106) else (some false)).bind fun b105=>(bif b105 then ((gP N y94.2 y25.1).bind fun y108=>some y108) else (some false)).bind fun b107=>(bif b107 then ((jh N y94.2 y25.1).bind fun y110=>(pY N y110 y50).bind fun y112=>some y112) else (some false)).bind fun b109=>(bif b109 then ((mU N).bind fun y114=>some y114) else (some false)).bind fun b113=>some b113) else (some false))))))
set_option maxHeartbeats 40000000 in
theorem qJ {N:Nat}{a0:ML}{a1:MM}{a2:Int}{r:Bool}(h:iv N a0 a1 a2=some r):Okc Tryz.prog 9 [.agg #[.bool a0.Array,iV a0.Elements,I A1 n1 c1,.bool a0.Shut],(fT a1),iV a2] ([lB dx (I A1 n1 c1) a0.Props,aT 0 30 [iV 8,iV 0,.string (⟨#[]⟩:ByteArray)]]) (fun u post=>u=.bool r∧post=[]):=by
 refine bD MF J J ?_;simp only [aW];refine U ?_
 refine gB (aO J J) fun B2=> ?_
 refine gB (aO J J) fun B3=> ?_
 refine U ?_;obtain ⟨y4,k,h⟩:=aa h;refine gD (aA (qR k) GG J (az [] [] [0,1,2,3] 4 J)) ?_;rintro _ _ ⟨_,⟨B5,B6,A7,n7,c7,A8,n8,c8,A9,n9,c9,A10,n10,c10,B11,M12,B13,A14,n14,c14,M15,A16,n16,c16,A17,n17,c17,A18,n18,c18,rfl,rfl⟩,rfl⟩;refine U ?_;refine aB ?_;refine U ?_;refine gR (ah (us:=[.bool a0.Array,iV a0.Elements,I A1 n1 c1,.bool a0.Shut]) 15 J J Jq J) ?_;obtain ⟨y19,k,h⟩:=aa h;refine gV (ap (zy k) Kn J (hD (al (i:=16) J J) aj) wC) ?_;refine U ?_;obtain ⟨b20,hb20,h⟩:=aa h;refine aK 3 22 b20 ?_ ?_
 ·clear h;refine aI 19 J (fun g20=> ?_) (fun g20=> ?_)
  ·have h:=aE g20 hb20;refine U ?_;obtain rfl:=am h;exact ad sA (cS [0,1,2,3,4,5,6,7,8,9,10,11,12,13,14,15,16,17] 18)
  have h:=aF g20 hb20;refine U ?_;refine fb (fQ J Ex) J (cX g20 J) J ?_;refine U ?_;obtain rfl:=am h;exact ad sA (cS [0,1,2,3,4,5,6,7,8,9,10,11,12,13,14,15,16,17] 18)
 refine U ?_;obtain ⟨b21,hb21,h⟩:=aa h;refine aK 4 27 b21 ?_ ?_
 ·clear h;refine aI 23 J (fun g21=> ?_) (fun g21=> ?_)
  ·have h:=aE g21 hb21;refine U ?_;obtain rfl:=am h;exact ad sA (cS [0,1,2,3,4,5,6,7,8,9,10,11,12,13,14,15,16,17] 18)
  have h:=aF g21 hb21;refine cp (ah (us:=bS a1) 14 J J bF J) J (cX g21 J) J ?_;obtain ⟨y22,k,h⟩:=aa h;refine gU (ap (tD k) GJ J (aj) rj) (cX g21 J) ?_;refine U ?_;obtain rfl:=am h;exact ad sA (cS [0,1,2,3,4,5,6,7,8,9,10,11,12,13,14,15,16,17] 18)
 refine U ?_;refine gH J h (fun h=> ?_) (fun h=> ?_)
 ·refine U ?_;obtain ⟨y24,k,h⟩:=aa h;refine gV (ap (ts k) GE J (hD (al (i:=17) J J) aj) qS) ?_;refine U ?_;obtain rfl:=am h;exact aL J J (cS [] 18) ⟨J,J⟩
 refine U ?_;refine gR (ah (us:=[.bool a0.Array,iV a0.Elements,I A1 n1 c1,.bool a0.Shut]) 15 J J Jq J) ?_;obtain ⟨y25,k,h⟩:=aa h;refine gD (aA (Cj k) Km J (az [11,12,13,16,17] [0,1,2,3,4,5,6,7,8,9,10] [11,12,13,14,15,16,17] 18 J)) ?_;rintro _ _ ⟨_,⟨A26,n26,c26,A27,n27,c27,A28,n28,c28,A29,n29,c29,M30,A31,n31,c31,M32,A33,n33,c33,A34,n34,c34,A35,n35,c35,rfl,rfl⟩,rfl⟩;refine U ?_
 refine gB (aM gw J) fun B36=> ?_
 refine gW (ar (us:=[iV y25.1.Kind,iV y25.1.N,.string y25.1.S]) (cs':=[iV y25.1.Kind,iV y25.1.N,.string y25.1.S]) 0 J J J J bv J J J) ?_;refine bM ?_;refine U ?_;refine aB ?_;refine U ?_;refine aI 37 J (fun g37=> ?_) (fun g37=> ?_)
 ·replace h:=aE g37 h;refine U ?_;refine kC J ?_;refine U ?_;obtain rfl:=am h;exact aL J J (cS [] 22) ⟨J,J⟩
 replace h:=aF g37 h;refine U ?_;refine cp (ah (us:=[iV y25.1.Kind,iV y25.1.N,.string y25.1.S]) 0 J J aH J) J (cX g37 J) J ?_;obtain ⟨y38,k,h⟩:=aa h;refine ur (aA (kX k) CR J (az [12,13,14,21] [1,2,3,4,5,6,7,8,9,10,11] [0,12,13,14,15,16,17,18,19,20,21] 22 J)) J (cX g37 J) J ?_;rintro _ _ ⟨_,⟨A39,n39,c39,A40,n40,c40,A41,n41,c41,A42,n42,c42,M43,A44,n44,c44,M45,A46,n46,c46,A47,n47,c47,A48,n48,c48,rfl,rfl⟩,rfl⟩;refine U ?_;refine gH J h (fun h=> ?_) (fun h=> ?_)
 ·refine U ?_;obtain rfl:=am h;exact aL J J (cS [] 25) ⟨J,J⟩
 refine U ?_;refine gR (ah (us:=[iV y25.1.Kind,iV y25.1.N,.string y25.1.S]) 14 J J aH J) ?_;obtain ⟨y50,k,h⟩:=aa h;refine gD (aA (tr k) GD J (az [11,12,13,24] [0,1,2,3,4,5,6,7,8,9,10] [11,12,13,14,15,16,17,18,19,20,21,22,23,24] 25 J)) ?_;rintro _ _ ⟨_,⟨A51,n51,c51,rfl,rfl⟩,rfl⟩;refine U ?_;refine gR (ah (us:=[iV y25.1.Kind,iV y25.1.N,.string y25.1.S]) 15 J J aH J) ?_;refine gR (ah (us:=bS a1) 22 J J bF J) ?_;obtain ⟨y52,k,h⟩:=aa h;refine gV (aA (gF k) rG J (az [12,13,14,25] [1,2,3,4,5,6,7,8,9,10,11] [0,12,13,14,15,16,17,18,19,20,21,22,23,24,25] 26 J)) ?_;refine bM ?_;refine U ?_
 refine gB (aM dB J) fun B53=> ?_
 refine gW (ar (us:=aR y52.1) (cs':=aR y52.1) 0 J J J J cm J J J) ?_;refine U ?_;refine aB ?_;refine U ?_;refine gR (ah (us:=[iV y25.1.Kind,iV y25.1.N,.string y25.1.S]) 16 J J aH J) ?_;refine gR (ah (us:=bS a1) 23 J J bF J) ?_;obtain ⟨y54,k,h⟩:=aa h;refine gD (aA (uL k) Ky J (az [13,14,15,26] [1,2,3,4,5,6,7,8,9,10,11] [0,12,13,14,15,16,17,18,19,20,21,22,23,24,25,26] 27 J)) ?_;rintro _ _ ⟨_,⟨A55,n55,c55,A56,n56,c56,A57,n57,c57,A58,n58,c58,M59,A60,n60,c60,M61,A62,n62,c62,A63,n63,c63,A64,n64,c64,rfl,rfl⟩,rfl⟩;refine U ?_;refine gE (Gf J J Mz) ?_;refine U ?_;refine gH J h (fun h=> ?_) (fun h=> ?_)
 ·refine U ?_;obtain rfl:=am h;exact aL J J (cS [] 30) ⟨J,J⟩
 refine U ?_;refine gE (bE J J) ?_;refine U ?_;refine aB ?_;refine bK V ([bm A62 n62 c62 y54.2.symbols_,cH A63 n63 c63 y54.2.events_,bm A64 n64 c64 y54.2.out_,ac B53 42 (aR y52.1),dr dx 42 (I A51 n51 c51) y50,bm A46 n46 c46 y38.2.symbols_,cH A47 n47 c47 y38.2.events_,bm A48 n48 c48 y38.2.out_,ac B36 30 [iV y25.1.Kind,iV y25.1.N,.string y25.1.S],bm A33 n33 c33 y25.2.2.symbols_,cH A34 n34 c34 y25.2.2.events_,bm A35 n35 c35 y25.2.2.out_,bm A16 n16 c16 y4.symbols_,cH A17 n17 c17 y4.events_,bm A18 n18 c18 y4.out_,ac B3 24 (bS a1),ac B2 84 [.bool a0.Array,iV a0.Elements,I A1 n1 c1,.bool a0.Shut],lB dx (I A1 n1 c1) a0.Props,aT 0 30 [iV 8,iV 0,.string (⟨#[]⟩:ByteArray)]]) (cS [11,12,13,14,15,16,17,18,19,20,21,22,23,24,25,26,27,28,29] 30) ?_;refine zE 0 J (aq J) ?_;refine zR 1 J (ah (us:=[iV y25.1.Kind,iV y25.1.N,.string y25.1.S]) 8 J J aH J) ?_;refine zR 2 J (ah (us:=bS a1) 15 J J bF J) ?_;refine zE 3 J (aq J) ?_;obtain ⟨y66,k,h⟩:=aa h;refine zD 4 J (ap (ly k) th J (aj) jl) ?_;rintro _ _ ⟨_,⟨rfl,rfl⟩,rfl⟩;refine eg (cS [11,12,13,14,15,16,17,18,19,20,21,22,23,24,25,26,27,28,29] 30) ?_;refine zE 5 J (bd J (CW _ _ _ _)) ?_;obtain ⟨y67,k,h⟩:=aa h;refine zD 6 J (aA (kJ k) AG J (az [11,12,13,29] [0,1,2,3,4,5,6,7,8,9,10] [11,12,13,14,15,16,17,18,19,20,21,22,23,24,25,26,27,28,29] 30 J)) ?_
 rintro _ _ ⟨_,⟨A68,n68,c68,A69,n69,c69,A70,n70,c70,A71,n71,c71,M72,A73,n73,c73,M74,A75,n75,c75,A76,n76,c76,A77,n77,c77,rfl,rfl⟩,rfl⟩;refine ⟨_,cS [11,12,13,14,15,16,17,18,19,20,21,22,23,24,25,26,27,28,29,30,31,32] 33,(cv_tl).trans ((cv_tl).trans (cv_tl)),?_⟩;refine dt ?_;refine zE 7 J (aq J) ?_;refine zE 8 J (bq J J) ?_;refine zE 9 J (bq J J) ?_;refine zE 10 J (bj J) ?_;refine zE 11 J (bj J) ?_;refine bC V ?_;refine fa ?_;refine aB ?_;refine aB ?_;refine bK V _ (ae _) ?_;refine zE 0 J (aq J) ?_;refine zE 1 J (aq J) ?_;obtain ⟨b78,hb78,h⟩:=aa h;refine gZ (fun l=>((((((((((l.setIfInBounds 2 true).setIfInBounds 3 true).setIfInBounds 4 true).setIfInBounds 5 true).setIfInBounds 6 true).setIfInBounds 7 true).setIfInBounds 8 true).setIfInBounds 9 true).setIfInBounds 10 true).setIfInBounds 11 true)) 0 82 b78 (fun rest=> ?_) ?_
 ·clear h;refine i3 72 J (fun g78=> ?_) (fun g78=> ?_)
  ·have h:=aE g78 hb78;refine dG 2 J V (aq J) (bp g78 J) J ?_;refine dG 3 J V (xC J) (bp g78 J) J ?_;refine dG 4 J V (aq J) (bp g78 J) J ?_;obtain ⟨b79,hb79,h⟩:=aa h;refine gZ (fun l=>((((((l.setIfInBounds 5 true).setIfInBounds 6 true).setIfInBounds 7 true).setIfInBounds 8 true).setIfInBounds 9 true).setIfInBounds 10 true)) 1 81 b79 (fun rest=> ?_) ?_
   ·clear h;refine i3 75 J (fun g79=> ?_) (fun g79=> ?_)
    ·have h:=aE g79 hb79;refine cv 5 J V (ss g79 J) J ?_;refine cv 6 J V (ss g79 J) J ?_;refine cv 7 J V (ss g79 J) J ?_;refine cv 8 J V (ss g79 J) J ?_;refine cv 9 J V (ss g79 J) J ?_;refine dG 10 J V (d3 g79 J J) (bp g78 J) J ?_;obtain rfl:=am h;exact eQ rest (cN J (av (av (av (av (av (av bU J) J) J) J) J) J)) (ae _) (ae _)
    have h:=aF g79 hb79;refine dG 5 J V (ci J Ah) (cX g79 J) J ?_;refine kB 6 J V (ah (us:=au y52.1.Value) 17 J J aH J) (cX g79 J) J ?_;refine dG 7 J V (aq J) (cX g79 J) J ?_;obtain ⟨y80,k,h⟩:=aa h;refine mK 8 J V (ap (ly k) th J (aj) jl) J (cX g79 J) J ?_;rintro _ _ ⟨_,⟨rfl,rfl⟩,rfl⟩;refine ⟨_,ae _,ae _,?_⟩;refine dG 9 J V (sb (x:=y52.1.Value) (y:=y80) J J) (cX g79 J) J ?_;refine dG 10 J V (d4 g79 J J) (bp g78 J) J ?_;obtain rfl:=am h;exact eQ rest (cN J (av (av (av (av (av (av bU J) J) J) J) J) J)) (ae _) (ae _)
   refine zE 11 J (d3 g78 J J) ?_;obtain rfl:=am h;exact eQ rest (cN J (av (av (av (av (av bU J) J) J) J) J)) (ae _) (ae _)
  have h:=aF g78 hb78;refine cv 2 J V (fk g78 J) J ?_;refine cv 3 J V (fk g78 J) J ?_;refine cv 4 J V (fk g78 J) J ?_;refine zU 5 J ?_;refine zU 6 J ?_;refine zU 7 J ?_;refine zU 8 J ?_;refine zU 9 J ?_;refine cv 10 J V (fk g78 J) J ?_;refine zE 11 J (d4 g78 J J) ?_;obtain rfl:=am h;exact eQ rest (cN J (av (av (av (av (av (av (av (av (av (av bU J) J) J) J) J) J) J) J) J) J)) (ae _) (ae _)
 refine bC V ?_;refine fa ?_;refine gH J h (fun h=> ?_) (fun h=> ?_)
 ·refine U ?_;obtain rfl:=am h;exact aL J J (cS [] 33) ⟨J,J⟩
 refine U ?_;refine gR (ah (us:=[iV y25.1.Kind,iV y25.1.N,.string y25.1.S]) 22 J J aH J) ?_;obtain ⟨y82,k,h⟩:=aa h;refine gD (aA (kX k) CR J (az [11,12,13,32] [0,1,2,3,4,5,6,7,8,9,10] [11,12,13,14,15,16,17,18,19,20,21,22,23,24,25,26,27,28,29,30,31,32] 33 J)) ?_;rintro _ _ ⟨_,⟨A83,n83,c83,A84,n84,c84,A85,n85,c85,A86,n86,c86,M87,A88,n88,c88,M89,A90,n90,c90,A91,n91,c91,A92,n92,c92,rfl,rfl⟩,rfl⟩;refine bM ?_;refine U ?_;refine aI 86 J (fun g93=> ?_) (fun g93=> ?_)
 ·replace h:=aE g93 h;refine U ?_;refine cp (ah (us:=[iV y25.1.Kind,iV y25.1.N,.string y25.1.S]) 25 J J aH J) J (bp g93 J) J ?_;obtain ⟨y94,k,h⟩:=aa h;refine ur (aA (tU k) Kp J (az [11,12,13,35] [0,1,2,3,4,5,6,7,8,9,10] [11,12,13,14,15,16,17,18,19,20,21,22,23,24,25,26,27,28,29,30,31,32,33,34,35] 36 J)) J (bp g93 J) J ?_;rintro _ _ ⟨_,⟨A95,n95,c95,A96,n96,c96,A97,n97,c97,A98,n98,c98,M99,A100,n100,c100,M101,A102,n102,c102,A103,n103,c103,A104,n104,c104,rfl,rfl⟩,rfl⟩;refine U ?_;obtain ⟨b105,hb105,h⟩:=aa h;refine aK 4 95 b105 ?_ ?_
  ·clear h;refine aI 91 J (fun g105=> ?_) (fun g105=> ?_)
   ·have h:=aE g105 hb105;refine U ?_;refine cp (ah (us:=[iV y25.1.Kind,iV y25.1.N,.string y25.1.S]) 28 J J aH J) J (bp g105 J) J ?_;obtain ⟨y106,k,h⟩:=aa h;refine gU (aA (nL k) GF J (az [11,12,13,38] [0,1,2,3,4,5,6,7,8,9,10] [11,12,13,14,15,16,17,18,19,20,21,22,23,24,25,26,27,28,29,30,31,32,33,34,35,36,37,38] 39 J)) (bp g105 J) ?_;refine U ?_;obtain rfl:=am h;exact ad sA (cS [0,1,2,3,4,5,6,7,8,9,10,11,12,13,14,15,16,17,18,19,20,21,22,23,24,25,26,27,28,29,30,31,32,33,34,35,36,37,38] 39)
   have h:=aF g105 hb105;refine U ?_;obtain rfl:=am h;exact ad sA (cS [0,1,2,3,4,5,6,7,8,9,10,11,12,13,14,15,16,17,18,19,20,21,22,23,24,25,26,27,28,29,30,31,32,33,34,35,36,37,38] 39)
  refine U ?_;obtain ⟨b107,hb107,h⟩:=aa h;refine aK 4 100 b107 ?_ ?_
  ·clear h;refine aI 96 J (fun g107=> ?_) (fun g107=> ?_)
   ·have h:=aE g107 hb107;refine U ?_;refine cp (ah (us:=[iV y25.1.Kind,iV y25.1.N,.string y25.1.S]) 28 J J aH J) J (bp g107 J) J ?_;obtain ⟨y108,k,h⟩:=aa h;refine gU (aA (sr k) Ko J (az [11,12,13,38] [0,1,2,3,4,5,6,7,8,9,10] [11,12,13,14,15,16,17,18,19,20,21,22,23,24,25,26,27,28,29,30,31,32,33,34,35,36,37,38] 39 J)) (bp g107 J) ?_;refine bM ?_;refine U ?_;obtain rfl:=am h;exact ad sA (cS [0,1,2,3,4,5,6,7,8,9,10,11,12,13,14,15,16,17,18,19,20,21,22,23,24,25,26,27,28,29,30,31,32,33,34,35,36,37,38] 39)
   have h:=aF g107 hb107;refine U ?_;obtain rfl:=am h;exact ad sA (cS [0,1,2,3,4,5,6,7,8,9,10,11,12,13,14,15,16,17,18,19,20,21,22,23,24,25,26,27,28,29,30,31,32,33,34,35,36,37,38] 39)
  refine U ?_;obtain ⟨b109,hb109,h⟩:=aa h;refine aK 6 107 b109 ?_ ?_
  ·clear h;refine aI 101 J (fun g109=> ?_) (fun g109=> ?_)
   ·have h:=aE g109 hb109;refine U ?_;refine cp (ah (us:=[iV y25.1.Kind,iV y25.1.N,.string y25.1.S]) 28 J J aH J) J (bp g109 J) J ?_;obtain ⟨y110,k,h⟩:=aa h;refine ur (aA (tr k) GD J (az [11,12,13,38] [0,1,2,3,4,5,6,7,8,9,10] [11,12,13,14,15,16,17,18,19,20,21,22,23,24,25,26,27,28,29,30,31,32,33,34,35,36,37,38] 39 J)) J (bp g109 J) J ?_;rintro _ _ ⟨_,⟨A111,n111,c111,rfl,rfl⟩,rfl⟩;refine U ?_;obtain ⟨y112,k,h⟩:=aa h;refine gU (ap (Bj k) Kl J (hD (ao (i:=0) J) (hD (ao (i:=25) J) aj)) ym) (bp g109 J) ?_;refine U ?_;obtain rfl:=am h;exact ad sA (cS [1,2,3,4,5,6,7,8,9,10,11,12,13,14,15,16,17,18,19,20,21,22,23,24,25,26,27,28,29,30,31,32,33,34,35,36,37,38,39] 40)
   have h:=aF g109 hb109;refine U ?_;obtain rfl:=am h;exact ad sA (cS [0,1,2,3,4,5,6,7,8,9,10,11,12,13,14,15,16,17,18,19,20,21,22,23,24,25,26,27,28,29,30,31,32,33,34,35,36,37,38] 39)
  refine U ?_;obtain ⟨b113,hb113,h⟩:=aa h;refine aK 2 110 b113 ?_ ?_
  ·clear h;refine aI 108 J (fun g113=> ?_) (fun g113=> ?_)
   ·have h:=aE g113 hb113;obtain ⟨y114,k,h⟩:=aa h;refine gU (ap (ts k) GE J (hD (al (i:=38) J J) aj) qS) (bp g113 J) ?_;refine U ?_;obtain rfl:=am h;exact ad sA (cS [0,1,2,3,4,5,6,7,8,9,10,11,12,13,14,15,16,17,18,19,20,21,22,23,24,25,26,27,28,29,30,31,32,33,34,35,36,37,38] 39)
   have h:=aF g113 hb113;refine U ?_;obtain rfl:=am h;exact ad sA (cS [0,1,2,3,4,5,6,7,8,9,10,11,12,13,14,15,16,17,18,19,20,21,22,23,24,25,26,27,28,29,30,31,32,33,34,35,36,37,38] 39)
  refine U ?_;obtain rfl:=am h;exact aL J J (cS [] 39) ⟨J,J⟩
 replace h:=aF g93 h;refine U ?_;obtain rfl:=am h;exact aL J J (cS [] 36) ⟨J,J⟩
end
section
variable {A1 A10 A12 A13 A14 A15 A2 A3 A4 A5 A6:Option Addr} {B1 B2 B7 B9 M11 M8 c1 c10 c12 c13 c14 c15 c2 c3 c4 c5 c6 n1 n10 n12 n13 n14 n15 n2 n3 n4 n5 n6:Nat}
open Go.RowKit Go.ChangeShapes Go.WideShapes Go.Deep
def zx (x:MM):Prop:=(bQ x.Kind)∧(bQ x.N)∧(x.S.size≤reachBytes)
set_option maxRecDepth 100000 in
theorem yJ:Cd Tryz.prog 24 nJ zx:=fun {_ enc w iu spare held _ cs y} h hw=>by
 obtain ⟨xs,m, -,hy,hl,hx,hf⟩:=DataW.trod_struct MG h
 have hc:Tryz.prog.cellsOf 24=3:=by kernel_rfl
 rw [hc] at hl
 match cs,hl,hf with
 | [c0,c1,c2],_,hf=>
  have k0:DataW.trod enc Tryz.prog w iu spare held m 3 (List.take (Tryz.prog.cellsOf 3) (List.drop 0 [c0,c1,c2]))=xs[0]? :=hf 0 _ rfl
  have z0:Tryz.prog.cellsOf 3=1:=by kernel_rfl
  simp only [z0,List.drop_succ_cons,List.drop_zero,List.take_succ_cons,List.take_zero] at k0
  have l0:0<xs.length:=by rw [hx];decide
  obtain ⟨a0,r0,w0⟩:=(Rdr.w (rX hJ)) (k0.trans (List.getElem?_eq_getElem l0)) (fD MG hy hw (i:=0) rfl (List.getElem?_eq_getElem l0));have k1:DataW.trod enc Tryz.prog w iu spare held m 3 (List.take (Tryz.prog.cellsOf 3) (List.drop 1 [c0,c1,c2]))=xs[1]? :=hf 1 _ rfl
  have z1:Tryz.prog.cellsOf 3=1:=by kernel_rfl
  simp only [z1,List.drop_succ_cons,List.drop_zero,List.take_succ_cons,List.take_zero] at k1
  have l1:1<xs.length:=by rw [hx];decide
  obtain ⟨a1,r1,w1⟩:=(Rdr.w (rX hJ)) (k1.trans (List.getElem?_eq_getElem l1)) (fD MG hy hw (i:=1) rfl (List.getElem?_eq_getElem l1));have k2:DataW.trod enc Tryz.prog w iu spare held m 9 (List.take (Tryz.prog.cellsOf 9) (List.drop 2 [c0,c1,c2]))=xs[2]? :=hf 2 _ rfl
  have z2:Tryz.prog.cellsOf 9=1:=by kernel_rfl
  simp only [z2,List.drop_succ_cons,List.drop_zero,List.take_succ_cons,List.take_zero] at k2
  have l2:2<xs.length:=by rw [hx];decide
  obtain ⟨a2,r2,w2⟩:=(Bg hH) (k2.trans (List.getElem?_eq_getElem l2)) (fD MG hy hw (i:=2) rfl (List.getElem?_eq_getElem l2));obtain ⟨rfl, -⟩:=List.cons.inj (show [c0]=[_] from r0);obtain ⟨rfl, -⟩:=List.cons.inj (show [c1]=[_] from r1);obtain ⟨rfl, -⟩:=List.cons.inj (show [c2]=[_] from r2);exact ⟨⟨a0,a1,a2⟩,J,⟨w0,w1,w2⟩⟩
def rR (x:MQ):Prop:=(bQ x.Kind)∧(bQ x.N)∧(x.S.size≤reachBytes)
set_option maxRecDepth 100000 in
theorem rh:Cd Tryz.prog 30 cc rR:=fun {_ enc w iu spare held _ cs y} h hw=>by
 obtain ⟨xs,m, -,hy,hl,hx,hf⟩:=DataW.trod_struct MH h
 have hc:Tryz.prog.cellsOf 30=3:=by kernel_rfl
 rw [hc] at hl
 match cs,hl,hf with
 | [c0,c1,c2],_,hf=>
  have k0:DataW.trod enc Tryz.prog w iu spare held m 3 (List.take (Tryz.prog.cellsOf 3) (List.drop 0 [c0,c1,c2]))=xs[0]? :=hf 0 _ rfl
  have z0:Tryz.prog.cellsOf 3=1:=by kernel_rfl
  simp only [z0,List.drop_succ_cons,List.drop_zero,List.take_succ_cons,List.take_zero] at k0
  have l0:0<xs.length:=by rw [hx];decide
  obtain ⟨a0,r0,w0⟩:=(Rdr.w (rX hJ)) (k0.trans (List.getElem?_eq_getElem l0)) (fD MH hy hw (i:=0) rfl (List.getElem?_eq_getElem l0));have k1:DataW.trod enc Tryz.prog w iu spare held m 3 (List.take (Tryz.prog.cellsOf 3) (List.drop 1 [c0,c1,c2]))=xs[1]? :=hf 1 _ rfl
  have z1:Tryz.prog.cellsOf 3=1:=by kernel_rfl
  simp only [z1,List.drop_succ_cons,List.drop_zero,List.take_succ_cons,List.take_zero] at k1
  have l1:1<xs.length:=by rw [hx];decide
  obtain ⟨a1,r1,w1⟩:=(Rdr.w (rX hJ)) (k1.trans (List.getElem?_eq_getElem l1)) (fD MH hy hw (i:=1) rfl (List.getElem?_eq_getElem l1));have k2:DataW.trod enc Tryz.prog w iu spare held m 9 (List.take (Tryz.prog.cellsOf 9) (List.drop 2 [c0,c1,c2]))=xs[2]? :=hf 2 _ rfl
  have z2:Tryz.prog.cellsOf 9=1:=by kernel_rfl
  simp only [z2,List.drop_succ_cons,List.drop_zero,List.take_succ_cons,List.take_zero] at k2
  have l2:2<xs.length:=by rw [hx];decide
  obtain ⟨a2,r2,w2⟩:=(Bg hH) (k2.trans (List.getElem?_eq_getElem l2)) (fD MH hy hw (i:=2) rfl (List.getElem?_eq_getElem l2));obtain ⟨rfl, -⟩:=List.cons.inj (show [c0]=[_] from r0);obtain ⟨rfl, -⟩:=List.cons.inj (show [c1]=[_] from r1);obtain ⟨rfl, -⟩:=List.cons.inj (show [c2]=[_] from r2);exact ⟨⟨a0,a1,a2⟩,J,⟨w0,w1,w2⟩⟩
def wB (x:MX):Prop:=(zx x.Key)∧(bQ x.Attrs)∧(rR x.Value)∧(rR x.Get)∧(rR x.Set)
set_option maxRecDepth 100000 in
theorem Cw:Cd Tryz.prog 42 dx wB:=fun {_ enc w iu spare held _ cs y} h hw=>by
 obtain ⟨xs,m, -,hy,hl,hx,hf⟩:=DataW.trod_struct MI h
 have hc:Tryz.prog.cellsOf 42=13:=by kernel_rfl
 rw [hc] at hl
 match cs,hl,hf with
 | [c0,c1,c2,c3,c4,c5,c6,c7,c8,c9,c10,c11,c12],_,hf=>
  have k0:DataW.trod enc Tryz.prog w iu spare held m 24 (List.take (Tryz.prog.cellsOf 24) (List.drop 0 [c0,c1,c2,c3,c4,c5,c6,c7,c8,c9,c10,c11,c12]))=xs[0]? :=hf 0 _ rfl
  have z0:Tryz.prog.cellsOf 24=3:=by kernel_rfl
  simp only [z0,List.drop_succ_cons,List.drop_zero,List.take_succ_cons,List.take_zero] at k0
  have l0:0<xs.length:=by rw [hx];decide
  obtain ⟨a0,r0,w0⟩:=yJ (k0.trans (List.getElem?_eq_getElem l0)) (fD MI hy hw (i:=0) rfl (List.getElem?_eq_getElem l0));have k1:DataW.trod enc Tryz.prog w iu spare held m 3 (List.take (Tryz.prog.cellsOf 3) (List.drop 3 [c0,c1,c2,c3,c4,c5,c6,c7,c8,c9,c10,c11,c12]))=xs[1]? :=hf 1 _ rfl
  have z1:Tryz.prog.cellsOf 3=1:=by kernel_rfl
  simp only [z1,List.drop_succ_cons,List.drop_zero,List.take_succ_cons,List.take_zero] at k1
  have l1:1<xs.length:=by rw [hx];decide
  obtain ⟨a1,r1,w1⟩:=(Rdr.w (rX hJ)) (k1.trans (List.getElem?_eq_getElem l1)) (fD MI hy hw (i:=1) rfl (List.getElem?_eq_getElem l1));have k2:DataW.trod enc Tryz.prog w iu spare held m 30 (List.take (Tryz.prog.cellsOf 30) (List.drop 4 [c0,c1,c2,c3,c4,c5,c6,c7,c8,c9,c10,c11,c12]))=xs[2]? :=hf 2 _ rfl
  have z2:Tryz.prog.cellsOf 30=3:=by kernel_rfl
  simp only [z2,List.drop_succ_cons,List.drop_zero,List.take_succ_cons,List.take_zero] at k2
  have l2:2<xs.length:=by rw [hx];decide
  obtain ⟨a2,r2,w2⟩:=rh (k2.trans (List.getElem?_eq_getElem l2)) (fD MI hy hw (i:=2) rfl (List.getElem?_eq_getElem l2));have k3:DataW.trod enc Tryz.prog w iu spare held m 30 (List.take (Tryz.prog.cellsOf 30) (List.drop 7 [c0,c1,c2,c3,c4,c5,c6,c7,c8,c9,c10,c11,c12]))=xs[3]? :=hf 3 _ rfl
  have z3:Tryz.prog.cellsOf 30=3:=by kernel_rfl
  simp only [z3,List.drop_succ_cons,List.drop_zero,List.take_succ_cons,List.take_zero] at k3
  have l3:3<xs.length:=by rw [hx];decide
  obtain ⟨a3,r3,w3⟩:=rh (k3.trans (List.getElem?_eq_getElem l3)) (fD MI hy hw (i:=3) rfl (List.getElem?_eq_getElem l3));have k4:DataW.trod enc Tryz.prog w iu spare held m 30 (List.take (Tryz.prog.cellsOf 30) (List.drop 10 [c0,c1,c2,c3,c4,c5,c6,c7,c8,c9,c10,c11,c12]))=xs[4]? :=hf 4 _ rfl
  have z4:Tryz.prog.cellsOf 30=3:=by kernel_rfl
  simp only [z4,List.drop_succ_cons,List.drop_zero,List.take_succ_cons,List.take_zero] at k4
  have l4:4<xs.length:=by rw [hx];decide
  obtain ⟨a4,r4,w4⟩:=rh (k4.trans (List.getElem?_eq_getElem l4)) (fD MI hy hw (i:=4) rfl (List.getElem?_eq_getElem l4));have e0:[c0,c1,c2]=[.int .i64 a0.Kind,.int .i64 a0.N,.string a0.S]:=r0;simp only [List.cons.injEq,and_true] at e0;obtain ⟨rfl,rfl,rfl⟩:=e0;obtain ⟨rfl, -⟩:=List.cons.inj (show [c3]=[_] from r1);have e2:[c4,c5,c6]=[.int .i64 a2.Kind,.int .i64 a2.N,.string a2.S]:=r2;simp only [List.cons.injEq,and_true] at e2;obtain ⟨rfl,rfl,rfl⟩:=e2;have e3:[c7,c8,c9]=[.int .i64 a3.Kind,.int .i64 a3.N,.string a3.S]:=r3;simp only [List.cons.injEq,and_true] at e3;obtain ⟨rfl,rfl,rfl⟩:=e3;have e4:[c10,c11,c12]=[.int .i64 a4.Kind,.int .i64 a4.N,.string a4.S]:=r4;simp only [List.cons.injEq,and_true] at e4;obtain ⟨rfl,rfl,rfl⟩:=e4;exact ⟨⟨a0,a1,a2,a3,a4⟩,J,⟨w0,w1,w2,w3,w4⟩⟩
def uw (x:ML):Prop:=(True)∧(bQ x.Elements)∧(Ma (fun z82=>wB z82) x.Props)∧(True)
set_option maxRecDepth 100000 in
theorem Bh:Cd Tryz.prog 84 Hv uw:=fun {_ enc w iu spare held _ cs y} h hw=>by
 obtain ⟨xs,m, -,hy,hl,hx,hf⟩:=DataW.trod_struct MJ h
 have hc:Tryz.prog.cellsOf 84=4:=by kernel_rfl
 rw [hc] at hl
 match cs,hl,hf with
 | [c0,c1,c2,c3],_,hf=>
  have k0:DataW.trod enc Tryz.prog w iu spare held m 4 (List.take (Tryz.prog.cellsOf 4) (List.drop 0 [c0,c1,c2,c3]))=xs[0]? :=hf 0 _ rfl
  have z0:Tryz.prog.cellsOf 4=1:=by kernel_rfl
  simp only [z0,List.drop_succ_cons,List.drop_zero,List.take_succ_cons,List.take_zero] at k0
  have l0:0<xs.length:=by rw [hx];decide
  obtain ⟨a0,r0,w0⟩:=(Rdr.w (Bi Mz)) (k0.trans (List.getElem?_eq_getElem l0)) (fD MJ hy hw (i:=0) rfl (List.getElem?_eq_getElem l0));have k1:DataW.trod enc Tryz.prog w iu spare held m 3 (List.take (Tryz.prog.cellsOf 3) (List.drop 1 [c0,c1,c2,c3]))=xs[1]? :=hf 1 _ rfl
  have z1:Tryz.prog.cellsOf 3=1:=by kernel_rfl
  simp only [z1,List.drop_succ_cons,List.drop_zero,List.take_succ_cons,List.take_zero] at k1
  have l1:1<xs.length:=by rw [hx];decide
  obtain ⟨a1,r1,w1⟩:=(Rdr.w (rX hJ)) (k1.trans (List.getElem?_eq_getElem l1)) (fD MJ hy hw (i:=1) rfl (List.getElem?_eq_getElem l1));have k2:DataW.trod enc Tryz.prog w iu spare held m 82 (List.take (Tryz.prog.cellsOf 82) (List.drop 2 [c0,c1,c2,c3]))=xs[2]? :=hf 2 _ rfl
  have z2:Tryz.prog.cellsOf 82=1:=by kernel_rfl
  simp only [z2,List.drop_succ_cons,List.drop_zero,List.take_succ_cons,List.take_zero] at k2
  have l2:2<xs.length:=by rw [hx];decide
  obtain ⟨a2,r2,w2⟩:=(Hs EM V (by decide) (of_decide_eq_true V) Cw) (k2.trans (List.getElem?_eq_getElem l2)) (fD MJ hy hw (i:=2) rfl (List.getElem?_eq_getElem l2));have k3:DataW.trod enc Tryz.prog w iu spare held m 4 (List.take (Tryz.prog.cellsOf 4) (List.drop 3 [c0,c1,c2,c3]))=xs[3]? :=hf 3 _ rfl
  have z3:Tryz.prog.cellsOf 4=1:=by kernel_rfl
  simp only [z3,List.drop_succ_cons,List.drop_zero,List.take_succ_cons,List.take_zero] at k3
  have l3:3<xs.length:=by rw [hx];decide
  obtain ⟨a3,r3,w3⟩:=(Rdr.w (Bi Mz)) (k3.trans (List.getElem?_eq_getElem l3)) (fD MJ hy hw (i:=3) rfl (List.getElem?_eq_getElem l3));obtain ⟨rfl, -⟩:=List.cons.inj (show [c0]=[_] from r0);obtain ⟨rfl, -⟩:=List.cons.inj (show [c1]=[_] from r1);obtain ⟨v2,e2,b2⟩:=r2;obtain ⟨rfl, -⟩:=List.cons.inj e2;obtain ⟨A2,q2,rfl,d2⟩:=b2;have b2:SlR dx _ _ (.slice A2 a2.length q2) a2:=⟨_,_,rfl,d2⟩;obtain ⟨rfl, -⟩:=List.cons.inj (show [c3]=[_] from r3);exact ⟨⟨a0,a1,a2,a3⟩,⟨_,_,_,J,b2⟩,⟨w0,w1,w2,w3⟩⟩
set_option maxRecDepth 100000 in
theorem KD {H:Type}{enc:TypeId×Value→H}{W:World}{r:Reach}{b0:Nat}{iu:Nat}{spare:Nat→Bool}{held:Bool}{v:Value}{d:DataW H}{p:List MemPlace}
  (hv:Value.okWide Tryz.prog W r b0 84 v) (h:DataW.Trod enc Tryz.prog W iu spare held 84 v d p) (hz:Light Tryz.prog 84 d): ∃(m:ML) (Aq_0:Option Addr) (nq_0 cq_0:Nat),v=.agg #[.bool m.Array,.int .i64 m.Elements,I Aq_0 nq_0 cq_0,.bool m.Shut]∧(uw m)∧(lB dx (I Aq_0 nq_0 cq_0) m.Props).ok (fun _=>False) (fun q=>q<W.heap.size) W:=by
 obtain ⟨cs,rfl, -⟩:=okWide_struct MJ hv;obtain ⟨fuel,hf⟩:=h;obtain ⟨m,⟨Aq_0,nq_0,cq_0,e,hq_0⟩,hw⟩:=Bh hf hz;obtain ⟨l⟩:=cs;have hx:l=[.bool m.Array,.int .i64 m.Elements,I Aq_0 nq_0 cq_0,.bool m.Shut]:=e;exact ⟨m,Aq_0,nq_0,cq_0,by rw [hx],hw,hq_0⟩
set_option maxRecDepth 100000 in
theorem KE {H:Type}{enc:TypeId×Value→H}{W:World}{r:Reach}{b0:Nat}{iu:Nat}{spare:Nat→Bool}{held:Bool}{v:Value}{d:DataW H}{p:List MemPlace}
  (hv:Value.okWide Tryz.prog W r b0 24 v) (h:DataW.Trod enc Tryz.prog W iu spare held 24 v d p) (hz:Light Tryz.prog 24 d): ∃(m:MM),v=.agg #[.int .i64 m.Kind,.int .i64 m.N,.string m.S]∧(zx m):=by
 obtain ⟨cs,rfl, -⟩:=okWide_struct MG hv;obtain ⟨fuel,hf⟩:=h;obtain ⟨m,e,hw⟩:=yJ hf hz;obtain ⟨l⟩:=cs;have hx:l=[.int .i64 m.Kind,.int .i64 m.N,.string m.S]:=e;exact ⟨m,by rw [hx],hw⟩
end
section
variable {A1 A10 A12 A13 A14 A15 A2 A3 A4 A5 A6:Option Addr} {B1 B2 B7 B9 M11 M8 c1 c10 c12 c13 c14 c15 c2 c3 c4 c5 c6 n1 n10 n12 n13 n14 n15 n2 n3 n4 n5 n6:Nat}
open Go.RowKit
def Sat {ρ:Type}(m:Option ρ)(R:ρ→Prop):Prop:= ∃r,m=some r∧R r
theorem ab {ρ:Type}{x:ρ}{R:ρ→Prop}(h:R x):Sat (some x) R:=⟨x,rfl,h⟩
theorem Sat.eq {ρ:Type}{m:Option ρ}{x:ρ}(h:Sat m (· =x)):m=some x:=by obtain ⟨r,h1,rfl⟩:=h;exact h1
theorem Sat.mono {ρ:Type}{m:Option ρ}{R Q:ρ→Prop}(h:Sat m R)(k: ∀x,R x→Q x):Sat m Q:=by obtain ⟨r,h1,h2⟩:=h;exact ⟨r,h1,k _ h2⟩
theorem Sat.bind {ρ σ:Type}{m:Option σ}{f:σ→Option ρ}{P:σ→Prop}{R:ρ→Prop}(h:Sat m P)(k: ∀x,P x→Sat (f x) R):Sat (m.bind f) R:=by obtain ⟨x,rfl,h2⟩:=h;exact k x h2
theorem aP {ρ:Type}{b:Bool}{x y:Option ρ}{R:ρ→Prop}(h1:b=true→Sat x R)(h2:b=false→Sat y R):Sat (bif b then x else y) R:=by cases b with|true=>exact h1 rfl|false=>exact h2 rfl
theorem bh {ρ:Type}{p:Prop}[Decidable p]{x y:Option ρ}{R:ρ→Prop}(h1:p→Sat x R)(h2: ¬p→Sat y R):Sat (bif decide p then x else y) R:=by
 by_cases h:p
 ·rw [Nf h];exact h1 h
 rw [Ng h];exact h2 h
theorem eK {ρ:Type}{b:Bool}{x y:Option ρ}{R:ρ→Prop}(h1:b=false→Sat x R)(h2:b=true→Sat y R):Sat (bif !b then x else y) R:=by cases b with|true=>exact h2 rfl|false=>exact h1 rfl
theorem aQ {ρ:Type}{b:Prop}[Decidable b]{m:Option ρ}{R:ρ→Prop}(h:b)(k:Sat m R):Sat (dq b m) R:=by unfold dq;rw [if_pos h];exact k
theorem bO {α ρ:Type}{xs:List α}{i:Int}{f:α→Option ρ}{R:ρ→Prop}(h0:0≤i)(h1:i<xs.length)(k: ∀x,xs[i.toNat]? =some x→Sat (f x) R):Sat ((bR xs i).bind f) R:=by
 unfold bR;rw [if_neg O,List.getElem?_eq_getElem O];exact k _ (List.getElem?_eq_getElem O)
theorem bs {ρ σ:Type}{x:σ}{f:σ→Option ρ}:(some x).bind f=f x:=Eq.trans rfl rfl
theorem ct {ρ:Type}{x y:ρ}:(bif true then x else y)=x:=Eq.trans rfl rfl
theorem cf {ρ:Type}{x y:ρ}:(bif false then x else y)=y:=Eq.trans rfl rfl
theorem nt:(!true)=false:=Eq.trans rfl rfl
theorem nf:(!false)=true:=Eq.trans rfl rfl
theorem iN {ρ:Type}{b:Prop}[Decidable b]{m:Option ρ}(h:b):dq b m=m:=if_pos h
theorem HI {α:Type}{xs:List α}{i:Int}(h0:0≤i)(h1:i.toNat<xs.length):bR xs i=some xs[i.toNat]:=by
 unfold bR;rw [if_neg O,List.getElem?_eq_getElem h1]
theorem jv {α:Type}{xs:List α}{i:Nat}(h1:i<xs.length):bR xs (i:Int)=some xs[i]:=by
 unfold bR;rw [if_neg O,Int.toNat_natCast,List.getElem?_eq_getElem h1]
theorem qz {α:Type}: ∀{l:List α} {i:Nat} {a:α},l.Nodup→l[i]? =some a→ ∀x,x∈l.eraseIdx i↔x∈l∧x≠a
 | [],_,_,_,h,_=>by simp at h
 |y::l,0,a,hn,h,x=>by
  simp only [List.getElem?_cons_zero,Option.some.injEq] at h;subst h;rw [List.eraseIdx_cons_zero];obtain ⟨h1, -⟩:=List.nodup_cons.1 hn;constructor
  ·intro hx;exact ⟨by simp [hx],fun e=>h1 (e▸hx)⟩
  rintro ⟨hx,hne⟩;rcases List.mem_cons.1 hx with e|hx
  ·exact absurd e hne
  exact hx
 | y::l,i+1,a,hn,h,x=>by
  simp only [List.getElem?_cons_succ] at h;obtain ⟨h1,h2⟩:=List.nodup_cons.1 hn;rw [List.eraseIdx_cons_succ,List.mem_cons,List.mem_cons,qz h2 h x];have ha:a∈l:=List.mem_of_getElem? h;constructor
  ·rintro (rfl|⟨h3,h4⟩)
   ·exact ⟨.inl J,fun e=>h1 (e▸ha)⟩
   exact ⟨.inr h3,h4⟩
  rintro ⟨rfl|h3,h4⟩
  ·exact .inl J
  exact .inr ⟨h3,h4⟩
end
section
variable {A1 A10 A12 A13 A14 A15 A2 A3 A4 A5 A6:Option Addr} {B1 B2 B7 B9 M11 M8 c1 c10 c12 c13 c14 c15 c2 c3 c4 c5 c6 n1 n10 n12 n13 n14 n15 n2 n3 n4 n5 n6:Nat}
open Go.RowKit
theorem EB {α ρ:Type}(L:Nat→Int→Option ρ)(l:List α)(p:α→Bool)(bad k:Option ρ)
  (step: ∀m (i:Nat) (h:i<l.length),L (m+1) (i:Int)=bif p l[i] then L m ((i:Int)+1) else bad)
  (fin: ∀m,L (m+1) (l.length:Int)=k) (N:Nat) (hN:l.length<N):L N 0=bif l.all p then k else bad:=by
 have key: ∀m i:Nat,l.length<m+i→i≤l.length→L m (i:Int)=bif (l.drop i).all p then k else bad:=by
  intro m
  induction m with
  |zero=>intro i h1 h2;omega
  | succ m ih=>
   intro i h1 h2;by_cases hi:i<l.length
   ·rw [step m i hi,List.drop_eq_getElem_cons hi,List.all_cons];have h3:=ih (i+1) O hi;rw [show (((i+1:Nat)):Int)=(i:Int)+1 by omega] at h3;rw [h3];cases p l[i]<;>rfl
   have e:i=l.length:=by omega
   subst e;rw [fin,List.drop_length];rfl
 have:=key N 0 O O;simpa using this
theorem Bz {α:Type}(L:Nat→Int→Option Bool)(l:List α)(p:α→Bool)
  (step: ∀m (i:Nat) (h:i<l.length),L (m+1) (i:Int)=bif p l[i] then L m ((i:Int)+1) else some false)
  (fin: ∀m,L (m+1) (l.length:Int)=some true) (N:Nat) (hN:l.length<N):L N 0=some (l.all p):=by
 rw [EB L l p _ _ step fin N hN];cases l.all p<;>rfl
theorem FQ {α ρ:Type}[DecidableEq α](L:Nat→Int→Option ρ)(a b:List α)(bad k:Option ρ)(hl:a.length=b.length)
  (step: ∀m (i:Nat) (h:i<a.length) (h':i<b.length),L (m+1) (i:Int)=bif decide (a[i]=b[i]) then L m ((i:Int)+1) else bad)
  (fin: ∀m,L (m+1) (a.length:Int)=k) (N:Nat) (hN:a.length<N):L N 0=bif decide (a=b) then k else bad:=by
 have key: ∀m i:Nat,a.length<m+i→i≤a.length→L m (i:Int)=bif decide (a.drop i=b.drop i) then k else bad:=by
  intro m
  induction m with
  |zero=>intro i h1 h2;omega
  | succ m ih=>
   intro i h1 h2;by_cases hi:i<a.length
   ·have hi':i<b.length:=by omega
    rw [step m i hi hi',List.drop_eq_getElem_cons hi,List.drop_eq_getElem_cons hi'];have h3:=ih (i+1) O hi;rw [show (((i+1:Nat)):Int)=(i:Int)+1 by omega] at h3;rw [h3];by_cases e:a[i]=b[i]
    ·rw [Nf e,cond_true,e];by_cases e2:a.drop (i+1)=b.drop (i+1)
     ·rw [Nf e2,e2,Nf rfl]
     rw [Ng e2,Ng (fun h=>e2 (List.cons.inj h).2)]
    rw [Ng e,Ng (fun h=>e (List.cons.inj h).1)];rfl
   have e:i=a.length:=by omega
   subst e;rw [fin,List.drop_length,hl,List.drop_length,Nf rfl];rfl
 have:=key N 0 O O;simpa using this
def Hf {α β:Type}[DecidableEq α](a:α)(b:β):List (α×β)→List (α×β)
 | []=> [(a,b)]
 |p::l=>if p.1=a then (a,b)::l else p::Hf a b l
theorem Hg {α β:Type}[DecidableEq α](L:List (α×β))(a:α)(b:β):Ck L a b=Hf a b L:=by
 have key: ∀(L:List (α×β)) (j:Nat),(∃i c,fp a L j=some (i,c)∧j≤i∧L.set (i - j) (a,b)=Hf a b L)∨(fp a L j=none∧L++ [(a,b)]=Hf a b L):=by
  intro L
  induction L with
  |nil=>intro j;exact .inr ⟨J,J⟩
  | cons p l ih=>
   intro j;obtain ⟨x,y⟩:=p;by_cases e:a=x
   ·refine .inl ⟨j,y,by simp [fp,e],Nat.le_refl _,?_⟩;rw [Nat.sub_self];simp [Hf,e]
   have e': ¬x=a:=fun h=>e h.symm
   rcases ih (j+1) with ⟨i,c,h1,h2,h3⟩|⟨h1,h2⟩
   ·refine .inl ⟨i,c,by simp [fp,e,h1],by omega,?_⟩;rw [show i - j=(i - (j+1))+1 by omega,List.set_cons_succ,h3];simp [Hf,e']
   exact .inr ⟨by simp [fp,e,h1],by simp [Hf,e',h2]⟩
 unfold Ck;rcases key L 0 with ⟨i,c,h1, -,h3⟩|⟨h1,h2⟩
 ·rw [h1];exact h3
 rw [h1];exact h2
theorem tO {α β:Type}[DecidableEq α](p:α×β)(l:List (α×β))(x:α):lk (p::l) x=if p.1=x then some p.2 else lk l x:=by
 unfold lk;rw [List.find?_cons];by_cases e:p.1=x<;>simp [e]
theorem Lb {α β:Type}[DecidableEq α](L:List (α×β))(a:α)(b:β)(x:α):lk (Ck L a b) x=if a=x then some b else lk L x:=by
 rw [Hg]
 induction L with
 |nil=>rw [Hf,tO]
 | cons p l ih=>
  unfold Hf;by_cases e:p.1=a
  ·rw [if_pos e,tO,tO,e];by_cases e2:a=x<;>simp [e2]
  rw [if_neg e,tO,tO,ih];by_cases e2:p.1=x
  ·rw [if_pos e2,if_pos e2,if_neg (fun h=>e (by rw [e2,h]))]
  rw [if_neg e2,if_neg e2]
end
section
variable {A1 A10 A12 A13 A14 A15 A2 A3 A4 A5 A6:Option Addr} {B1 B2 B7 B9 M11 M8 c1 c10 c12 c13 c14 c15 c2 c3 c4 c5 c6 n1 n10 n12 n13 n14 n15 n2 n3 n4 n5 n6:Nat}
open Go.RowKit
theorem bB {ρ σ:Type}{b:Bool}{x y:Option σ}{f:σ→Option ρ}{P:σ→Prop}{R:ρ→Prop}(h1:b=true→Sat x P)(h2:b=false→Sat y P)(k: ∀z,P z→Sat (f z) R):Sat ((bif b then x else y).bind f) R:=Sat.bind (aP h1 h2) k
def J1 (k:MM):Prop:=k.Kind=0→0≤k.N∧k.N≤4294967294
def fV (a:Int):Prop:=0≤a∧a≤15∧ai .i64 a 9≠9
theorem JU (N:Nat)(a:Int):Sat (lI N a) fun b=>b=true→fV a:=by
 unfold lI
 refine Sat.bind (P:=fun b=>b=true→0≤a∧a≤15) (bh (fun h=>ab fun h1=>⟨h,of_decide_eq_true h1⟩) fun h=>ab fun h=>by cases h) fun b hb=> ?_
 refine bB (P:=fun c=>c=true→fV a) (fun e=>ab fun h=>⟨(hb e).1,(hb e).2,fun h1=> ?_⟩) (fun _=>ab fun h=>by cases h) fun c hc=>ab hc
 rw [Nf h1] at h;cases h
theorem r9 {b:ByteArray}{i:Int}(h0:0≤i)(h1:i<(b.size:Int)):Sat (uQ b i) fun x=>0≤x∧x≤255:=by
 have h2:i.toNat<b.size:=by omega
 unfold uQ;rw [if_pos h0,getElem?_pos b i.toNat h2];exact ⟨((b[i.toNat]).toNat:Int),J,by omega,by have:=(b[i.toNat]).toNat_lt;omega⟩
theorem KZ (x:Int):0≤IntKind.u8.wrap x∧IntKind.u8.wrap x≤255:=by
 have:IntKind.u8.wrap x=x%256:=by rfl
 omega
theorem xt (N:Nat)(s:ByteArray)(hs:s.size≤10): ∀(m i:Nat) (p:Int),s.size<m+i→i≤s.size→0≤p→p+29≤29*(10:Int) ^ i→Sat (nT N s m p (i:Int)) fun _=>True
 |0,i,p,h,h1,_,_=>by omega
 | m+1,i,p,h,h1,h2,h3=>by
  rw [nT.eq_2]
  have h10:(10:Int) ^ i≤10 ^ 10:=by
   have:(10:Nat) ^ i≤10 ^ 10:=Nat.pow_le_pow_right O O
   exact_mod_cast this
  rw [show (10:Int) ^ 10=10000000000 from rfl] at h10
  refine bh (fun h7=> ?_) fun h7=> ?_
  ·refine (r9 O h7).bind fun x hx=> ?_
   refine bB (P:=fun _=>True) (fun _=>ab trivial) (fun _=>(r9 O h7).bind fun y _=>ab trivial) fun c _=> ?_
   refine aP (fun _=>ab trivial) fun _=> ?_
   refine aQ (by constructor<;>omega) ((r9 O h7).bind fun y hy=> ?_);have h8:=KZ (y - 48);rw [show IntKind.i64.wrap (IntKind.u8.wrap (y - 48))=IntKind.u8.wrap (y - 48) from IntWalk.i64_in _ ⟨by omega,by omega⟩];generalize IntKind.u8.wrap (y - 48)=d at h8;refine aQ (by constructor<;>omega) (aQ (by constructor<;>omega) ?_);exact xt N s hs m (i+1) _ O O O (by rw [Int.pow_succ];omega)
  unfold qe
  exact bh (fun _=>ab trivial) fun _=>ab trivial
theorem FZ (N:Nat)(hN:5000≤N)(s:ByteArray):Sat (kw N s) fun _=>True:=by
 unfold kw;by_cases h10:s.size≤10
 ·cases e:(s.toList==(⟨#[]⟩:ByteArray).toList) with
  |true=>exact ab trivial
  | false=>
   have hs:0<s.size:=by
    rcases Nat.eq_zero_or_pos s.size with h|h
    ·exfalso
     have:s=⟨#[]⟩:=by
      obtain ⟨d⟩:=s;have:d= #[]:=Array.eq_empty_of_size_eq_zero h;rw [this]
     rw [this] at e;rw [beq_self_eq_true] at e;cases e
    exact h
   show Sat (Option.bind (some (decide (10<(s.size:Int)))) _) _;rw [bs,Ng O];show Sat (Option.bind ((uQ s 0).bind _) _) _
   refine Sat.bind (P:=fun _=>True) ((r9 O O).bind fun x _=>bB (P:=fun _=>True) (fun _=>ab trivial) (fun _=>ab trivial) fun _ _=>ab trivial) fun b _=> ?_
   exact aP (fun _=>ab trivial) fun _=>xt N s h10 N 0 0 O O O (by decide)
 have:(bif s.toList==(⟨#[]⟩:ByteArray).toList then (some true) else (some (decide (10<(s.size:Int)))))=some true:=by
  cases s.toList==(⟨#[]⟩:ByteArray).toList with
  |true=>rfl
  |false=>show some _=_;rw [Nf O]
 rw [this];exact ab trivial
theorem kK (N:Nat)(hN:5000≤N)(k:MM):Sat (co N k) fun b=>b=true→J1 k:=by
 unfold co
 refine bh (fun h=> ?_) fun h=> ?_
 ·refine bB (P:=fun b=>b=true→0≤k.N) (fun _=>ab fun h=>of_decide_eq_true h) (fun _=>ab fun h=>by cases h) fun b hb=> ?_
  refine bB (P:=fun c=>c=true→J1 k) (fun e=>ab fun h _=>⟨hb e,of_decide_eq_true h⟩) (fun _=>ab fun h=>by cases h) fun c hc=>ab hc
 refine Sat.mono (R:=fun _=>True) ?_ fun _ _ _ h'=>absurd h' h
 refine bh (fun _=> ?_) fun _=> ?_
 ·refine (FZ N hN k.S).bind fun y _=> ?_
  refine bB (P:=fun _=>True) (fun _=>ab trivial) (fun _=>ab trivial) fun b _=> ?_
  exact bB (P:=fun _=>True) (fun _=>ab trivial) (fun _=>ab trivial) fun b _=>ab trivial
 refine bh (fun _=> ?_) fun _=>ab trivial
 exact bB (P:=fun _=>True) (fun _=>ab trivial) (fun _=>ab trivial) fun b _=>ab trivial
theorem HD (N:Nat){a:Int}(h:fV a):lI N a=some true:=by
 unfold lI;rw [Nf h.1,ct,bs,Nf h.2.1,ct,Ng h.2.2];rfl
def keyR (N:Nat)(k:MM):Prop:=co N k=some true
theorem keyR.b {N:Nat}(hN:5000≤N){k:MM}(h:keyR N k):J1 k:=by
 obtain ⟨b,h1,h2⟩:=kK N hN k;rw [h] at h1;cases h1;exact h2 J
def JO (N:Nat)(x:MM×Int):Prop:=keyR N x.1∧fV x.2
def ka (s:MZ):MM×Int:=(s.Key,s.Attrs)
def Has (t:MU)(i:Int)(s:MZ):Prop:=0≤i∧t.shapes_[i.toNat]? =some s
theorem Has.lt {t:MU}{i:Int}{s:MZ}(h:Has t i s):0≤i∧i<t.shapes_.length:=by
 have:=(List.getElem?_eq_some_iff.1 h.2).1;exact ⟨h.1,by have:=h.1;omega⟩
theorem Has.get {t:MU}{i:Int}{s:MZ}(h:Has t i s):bR t.shapes_ i=some s:=by
 unfold bR;rw [if_neg (by have:=h.1;omega)];exact h.2
theorem Has.one {t:MU}{i:Int}{s s':MZ}(h:Has t i s)(h':Has t i s'):s=s':=Option.some.inj (h.2.symm.trans h'.2)
def Le (t t':MU):Prop:= ∀i s,Has t i s→Has t' i s
theorem Le.refl (t:MU):Le t t:=fun _ _ h=>h
structure TI (N:Nat) (t:MU):Prop where
 sh: ∀i s,Has t i s→0≤s.Len∧s.Len≤1024∧(0<s.Len→JO N (ka s)∧ ∃u,Has t s.Up u∧u.Len=s.Len - 1)
 nx: ∀k j,lk t.next_ k=some j→ ∃a b,Has t k.up_ a∧Has t j b∧b.Len=a.Len+1∧b.Up=k.up_∧b.Key=k.key_∧b.Attrs=k.attrs_
inductive Row (t:MU):Int→List (MM×Int)→Prop
 |nil {i:Int} {s:MZ}:Has t i s→s.Len=0→Row t i []
 |snoc {i:Int} {s:MZ} {l:List (MM×Int)}:Has t i s→0<s.Len→Row t s.Up l→Row t i (l++ [ka s])
theorem Row.mono {t t':MU}(h:Le t t'){i:Int}{l:List (MM×Int)}(r:Row t i l):Row t' i l:=by
 induction r with
 |nil h1 h2=>exact .nil (h _ _ h1) h2
 |snoc h1 h2 _ ih=>exact .snoc (h _ _ h1) h2 ih
theorem Row.has {N:Nat}{t:MU}(ti:TI N t){i:Int}{l:List (MM×Int)}(r:Row t i l): ∃s,Has t i s∧s.Len=l.length:=by
 induction r with
 |nil h1 h2=>exact ⟨_,h1,h2⟩
 |snoc h1 h2 _ ih=>
  obtain ⟨u,u1,u2⟩:=ih;obtain ⟨-, -,a3⟩:=ti.sh _ _ h1;obtain ⟨-,u',b1,b2⟩:=a3 h2;have:=u1.one b1;subst this;exact ⟨_,h1,by rw [List.length_append,List.length_singleton];omega⟩
theorem Row.le {N:Nat}{t:MU}(ti:TI N t){i:Int}{l:List (MM×Int)}(r:Row t i l):l.length≤1024:=by
 obtain ⟨s,s1,s2⟩:=r.has ti;have:=(ti.sh _ _ s1).2.1;omega
theorem Row.ok {N:Nat}{t:MU}(ti:TI N t){i:Int}{l:List (MM×Int)}(r:Row t i l): ∀x∈l,JO N x:=by
 induction r with
 |nil h1 h2=>simp
 |snoc h1 h2 _ ih=>
  intro x hx;rcases List.mem_append.1 hx with hx|hx
  ·exact ih x hx
  rw [List.mem_singleton] at hx;subst hx;exact ((ti.sh _ _ h1).2.2 h2).1
theorem J3 (N:Nat)(t:MU)(i:Int):fg N t i=some (decide (0≤i)&&decide (i<(t.shapes_.length:Int))):=by
 unfold fg;cases decide (0≤i)<;>rfl
theorem Has.has (N:Nat){t:MU}{i:Int}{s:MZ}(h:Has t i s):fg N t i=some true:=by
 rw [J3,Nf h.lt.1,Nf h.lt.2];rfl
theorem Lk (N:Nat){t:MU}{i:Int}{s:MZ}(h:Has t i s):kE N t i=some (s,true):=by
 unfold kE;rw [h.has N,bs,nt,cf,h.get,bs]
theorem zW (N:Nat){t:MU}{i:Int}{s:MZ}(h:Has t i s):ez N t i=some s.Len:=by
 unfold ez;rw [Lk N h,bs]
theorem Bf (N:Nat){t:MU}(ti:TI N t)(lf:List (MM×Int))(hL:lf.length≤1024): ∀(m:Nat) (p11:Int) (p12:List MZ) (l0 rest:List (MM×Int)),l0.length<m→lf=l0++rest→p12.length=lf.length→Row t p11 l0→
  (p12.drop l0.length).map ka=rest→Sat (iS N t m p11 p12 ((l0.length:Int) - 1)) fun l=>l.map ka=lf
 |0,_,_,l0,_,h,_,_,_,_=>by omega
 | m+1,p11,p12,l0,rest,h,h1,h2,h3,h4=>by
  rw [iS.eq_2]
  cases h3 with
  |nil h5 h6=>
   rw [Ng (by rw [List.length_nil];omega),cf];exact ab (by rw [h1, ←h4];rfl)
  | @snoc _ s l h5 h6 h7=>
   have e1:((((l++ [ka s]).length:Nat):Int) - 1)=(l.length:Int):=by rw [List.length_append,List.length_singleton];omega
   have e2:lf.length=l.length+1+rest.length:=by rw [h1,List.length_append,List.length_append,List.length_singleton]
   rw [e1,Nf O,ct,h5.get,bs]
   refine bO O O fun x16 _=> ?_
   refine bO O (by rw [List.length_set];omega) fun x17 h8=> ?_
   rw [Int.toNat_natCast,List.getElem?_set_self O] at h8;cases h8;refine aQ (by constructor<;>omega) ?_;refine Bf N ti lf hL m _ _ l (ka s::rest) (by rw [List.length_append,List.length_singleton] at h;omega) (by rw [h1,Ni];rfl) (by rw [List.length_set];exact h2) h7 ?_;rw [Int.toNat_natCast,List.drop_set,if_neg O,Nat.sub_self,List.drop_eq_getElem_cons (show l.length<p12.length by omega)];rw [List.length_append,List.length_singleton] at h4;rw [List.set_cons_zero,List.map_cons,h4]
theorem zF (N:Nat)(hN:5000≤N){t:MU}(ti:TI N t){i:Int}{l:List (MM×Int)}(h:Row t i l):Sat (fe N t i) fun r=>r.map ka=l:=by
 obtain ⟨s,s1,s2⟩:=h.has ti;have:=h.le ti;unfold fe;rw [zW N s1,bs,s2];refine aQ (by constructor<;>omega) (aQ (by rw [List.length_replicate];constructor<;>omega) ?_);rw [List.length_replicate,Int.toNat_natCast];refine Bf N ti l this N i _ l [] O (by simp) (by simp) h (by simp)
theorem yY (N:Nat)(y:List MZ)(hy:y.length≤1024): ∀(m i:Nat) (p:List MM),y.length<m+i→i≤y.length→p=(y.take i).map (·.Key)→Sat (iU N y m p (i:Int)) fun l=>l=y.map (·.Key)
 |0,i,p,h,h1,_=>by omega
 | m+1,i,p,h,h1,h2=>by
  rw [iU.eq_2]
  have hp:p.length≤i:=by rw [h2,List.length_map,List.length_take];omega
  refine bh (fun h7=> ?_) fun h7=> ?_
  ·refine bO O h7 fun x hx=> ?_
   refine aQ (by unfold gQ;rw [List.length_singleton];omega) (aQ (by constructor<;>omega) ?_);refine yY N y hy m (i+1) _ O O ?_;rw [Int.toNat_natCast] at hx;rw [h2,List.take_add_one,hx,List.map_append];rfl
  exact ab (by rw [h2,List.take_of_length_le O])
theorem Dn (N:Nat)(hN:5000≤N){t:MU}(ti:TI N t){i:Int}{l:List (MM×Int)}(h:Row t i l):eP N t i=some (l.map (·.1)):=by
 have:=h.le ti;refine Sat.eq ?_;unfold eP
 refine (zF N hN ti h).bind fun r hr=> ?_
 have e:r.length=l.length:=by rw [←hr,List.length_map]
 exact (yY N r O N 0 [] O O J).mono fun x hx=>by rw [hx, ←hr,List.map_map];rfl
theorem yd (N:Nat)(y:List MZ)(hy:y.length≤1024): ∀(m i:Nat) (p:List Int),y.length<m+i→i≤y.length→p=(y.take i).map (·.Attrs)→Sat (iD N y m p (i:Int)) fun l=>l=y.map (·.Attrs)
 |0,i,p,h,h1,_=>by omega
 | m+1,i,p,h,h1,h2=>by
  rw [iD.eq_2]
  have hp:p.length≤i:=by rw [h2,List.length_map,List.length_take];omega
  refine bh (fun h7=> ?_) fun h7=> ?_
  ·refine bO O h7 fun x hx=> ?_
   refine aQ (by unfold gQ;rw [List.length_singleton];omega) (aQ (by constructor<;>omega) ?_);refine yd N y hy m (i+1) _ O O ?_;rw [Int.toNat_natCast] at hx;rw [h2,List.take_add_one,hx,List.map_append];rfl
  exact ab (by rw [h2,List.take_of_length_le O])
theorem GP (N:Nat)(hN:5000≤N){t:MU}(ti:TI N t){i:Int}{l:List (MM×Int)}(h:Row t i l):gr N t i=some (l.map (·.2)):=by
 have:=h.le ti;refine Sat.eq ?_;unfold gr
 refine (zF N hN ti h).bind fun r hr=> ?_
 have e:r.length=l.length:=by rw [←hr,List.length_map]
 exact (yd N r O N 0 [] O O J).mono fun x hx=>by rw [hx, ←hr,List.map_map];rfl
def Jz (l:List (MM×Int))(k:MM)(r:Int×Int×Bool):Prop:=(r=(0,0,false)∧ ∀x∈l,x.1≠k)∨ ∃n:Nat,r.1=n∧r.2.2=true∧l[n]? =some (k,r.2.1)
theorem zc (N:Nat){t:MU}(ti:TI N t)(k:MM): ∀(m:Nat) (i:Int) (s:MZ) (l:List (MM×Int)),l.length<m→Has t i s→Row t i l→Sat (iB N t k m s.Up s.Key.Kind s.Key.N s.Key.S s.Attrs s.Len) (Jz l k)
 |0,i,s,l,h,h1,h2=>by omega
 | m+1,i,s,l,h,h1,h2=>by
  rw [iB.eq_2];have hle:=h2.le ti
  cases h2 with
  |nil h5 h6=>
   have:=h1.one h5;subst this;rw [Ng O,cf];exact ab (.inl ⟨J,by simp⟩)
  | @snoc _ s' l h5 h6 h7=>
   have:=h1.one h5;subst this;rw [List.length_append,List.length_singleton] at h hle;obtain ⟨u,u1,u2⟩:=h7.has ti;obtain ⟨a1,a2,a3⟩:=ti.sh _ _ h1;obtain ⟨b1,u',b2,b3⟩:=a3 h6;have:=u1.one b2;subst this;rw [Nf h6,ct]
   refine bh (fun e=>aQ (by constructor<;>omega) (ab (.inr ⟨l.length,by show s.Len - 1=_;omega,rfl,?_⟩))) fun e=> ?_
   ·rw [List.getElem?_append_right (Nat.le_refl _),Nat.sub_self];show some (ka s)=_;rw [show k=s.Key from e.symm];rfl
   rw [u1.get,bs]
   refine (zc N ti k m _ u l O u1 h7).mono fun r hr=> ?_
   rcases hr with ⟨r1,r2⟩|⟨n,r1,r2,r3⟩
   ·refine .inl ⟨r1,fun x hx=> ?_⟩;rcases List.mem_append.1 hx with hx|hx
    ·exact r2 x hx
    rw [List.mem_singleton] at hx;subst hx;exact e
   exact .inr ⟨n,r1,r2,by rw [List.getElem?_append_left (List.getElem?_eq_some_iff.1 r3).1];exact r3⟩
theorem sa (N:Nat)(hN:5000≤N){t:MU}(ti:TI N t){i:Int}{l:List (MM×Int)}(h:Row t i l)(k:MM):Sat (dY N t i k) (Jz l k):=by
 obtain ⟨s,s1,s2⟩:=h.has ti;have:=h.le ti;unfold dY;rw [s1.has N,bs,nt,cf,s1.get,bs];exact zc N ti k N i s l O s1 h
theorem vE (N:Nat){t:MU}(ti:TI N t)(n:Nat): ∀(m:Nat) (i:Int) (l:List (MM×Int)),l.length<m→Row t i l→n≤l.length→Sat (ib N (n:Int) t m i) fun r=>Row t r (l.take n)
 |0,i,l,h,h1,h2=>by omega
 | m+1,i,l,h,h1,h2=>by
  obtain ⟨s,s1,s2⟩:=h1.has ti;rw [ib.eq_2,s1.get,bs]
  refine bh (fun h7=> ?_) fun h7=>ab (by rw [List.take_of_length_le O];exact h1)
  rw [bs]
  cases h1 with
  |nil h5 h6=>rw [List.length_nil] at s2;omega
  | @snoc _ s' l h5 h6 h8=>
   have:=s1.one h5;subst this;rw [List.length_append,List.length_singleton] at h s2 h2;rw [List.take_append_of_le_length O];exact vE N ti n m _ l O h8 O
theorem zr (N:Nat)(hN:5000≤N){t:MU}(ti:TI N t){i:Int}{l:List (MM×Int)}(h:Row t i l)(n:Nat)(h2:n≤l.length):Sat (f6 N t i (n:Int)) fun r=>Row t r (l.take n):=by
 have:=h.le ti;unfold f6;exact vE N ti n N i l O h h2
structure Grow (N:Nat) (t t':MU) (n:Nat):Prop where
 ti:TI N t'
 le:Le t t'
 num:t'.shapes_.length≤t.shapes_.length+n
def Cg (N:Nat)(t:MU)(l:List (MM×Int))(n:Nat)(r:Int×Int×MU):Prop:=r.2.1=0∧Grow N t r.2.2 n∧Row r.2.2 r.1 l
theorem Has.app {t:MU}{i:Int}{s x:MZ}{n:List (MN×Int)}(h:Has t i s):Has ⟨t.shapes_++ [x],n⟩ i s:=
 ⟨h.1,by rw [List.getElem?_append_left (List.getElem?_eq_some_iff.1 h.2).1];exact h.2⟩
theorem Dl (N:Nat)(t:MU)(l:List MZ)(hl: ∀x∈l,JO N (ka x))(lf:List (MM×Int))(hT:lf.length≤1024)(hb:t.shapes_.length+l.length≤1073741824): ∀(m i:Nat) (p24:Int) (t':MU) (l0:List (MM×Int)),l.length<m+i→i≤l.length→TI N t'→Le t t'→t'.shapes_.length=t.shapes_.length+i→Row t' p24 l0→lf=l0++(l.drop i).map ka→Sat (iT N l m p24 (i:Int) t'.shapes_ t'.next_) (Cg N t lf l.length)
 |0,i,_,_,_,h,h1,_,_,_,_,_=>by omega
 | m+1,i,p24,t',l0,h,h1,ti,le,h2,h3,h4=>by
  rw [iT.eq_2]
  refine bh (fun h7=> ?_) fun h7=>ab ⟨J,⟨ti,le,by show t'.shapes_.length≤_;omega⟩,by rw [h4,List.drop_of_length_le O,List.map_nil,List.append_nil];exact h3⟩
  obtain ⟨a,h3a,h3b⟩:=h3.has ti;rw [jv (show i<l.length by omega),bs];rw [h3a.get,bs];obtain ⟨a1,a2,a3⟩:=ti.sh _ _ h3a;have hox:=hl l[i] (List.getElem_mem _);have e4:l.drop i=l[i]::l.drop (i+1):=List.drop_eq_getElem_cons _
  have e5:l0.length+1≤lf.length:=by rw [h4,e4,List.length_append,List.map_cons,List.length_cons];omega
  generalize l[i]=x at*
  have e1:(t'.shapes_++ [(⟨p24,x.Key,x.Attrs,a.Len+1⟩:MZ)]).length=t'.shapes_.length+1:=by rw [List.length_append,List.length_singleton]
  have e2:((((t'.shapes_++ [(⟨p24,x.Key,x.Attrs,a.Len+1⟩:MZ)]).length:Nat):Int) - 1)=(t'.shapes_.length:Int):=by omega
  refine aQ (by constructor<;>omega) (aQ (by unfold gQ;rw [List.length_singleton];omega) (aQ (by rw [e2];constructor<;>omega) (aQ (by constructor<;>omega) ?_)));rw [e2]
  have hnew:Has ⟨t'.shapes_++ [(⟨p24,x.Key,x.Attrs,a.Len+1⟩:MZ)],Ck t'.next_ ⟨p24,x.Key,x.Attrs⟩ (t'.shapes_.length:Int)⟩ (t'.shapes_.length:Int) ⟨p24,x.Key,x.Attrs,a.Len+1⟩:=
   ⟨by omega,by simp⟩
  refine Dl N t l hl lf hT hb m (i+1) _ ⟨_,Ck t'.next_ ⟨p24,x.Key,x.Attrs⟩ (t'.shapes_.length:Int)⟩ (l0++ [ka x]) O O ⟨?_,?_⟩ (fun j s hs=>(le j s hs).app) (by show (t'.shapes_++_).length=_;omega) (Row.snoc (s:=⟨p24,x.Key,x.Attrs,a.Len+1⟩) hnew (by show 0<a.Len+1;omega) (h3.mono fun j s hs=>hs.app)) (by rw [h4,e4,List.map_cons,Ni];rfl)
  ·intro j s hs;by_cases e:j.toNat<t'.shapes_.length
   ·have hs':Has t' j s:=⟨hs.1,by have:=hs.2;rwa [List.getElem?_append_left e] at this⟩;obtain ⟨b1,b2,b3⟩:=ti.sh _ _ hs';exact ⟨b1,b2,fun h=>let ⟨c1,u,c2,c3⟩:=b3 h;⟨c1,u,c2.app,c3⟩⟩
   have hlt:=hs.lt
   have e3:j=(t'.shapes_.length:Int):=by
    have:(j.toNat:Int)<(t'.shapes_++ [(⟨p24,x.Key,x.Attrs,a.Len+1⟩:MZ)]).length:=by have:=hlt.2;simp only at this;omega
    have:=hlt.1;omega
   subst e3;have:=hs.one hnew;subst this;exact ⟨by show 0≤a.Len+1;omega,by show a.Len+1≤1024;omega,fun _=>⟨hox,a,h3a.app,by show a.Len=a.Len+1 - 1;omega⟩⟩
  intro k j hk;change lk (Ck t'.next_ ⟨p24,x.Key,x.Attrs⟩ (t'.shapes_.length:Int)) k=some j at hk;rw [Lb] at hk;split at hk
  ·rename_i e
   cases hk;subst e;exact ⟨a,_,h3a.app,hnew,J,J,J,J⟩
  obtain ⟨c,d,c1,c2,c3⟩:=ti.nx k j hk;exact ⟨c,d,c1.app,c2.app,c3⟩
theorem J0 (N:Nat)(hN:5000≤N){t:MU}(ti:TI N t)(at_:Int)(l:List MZ)(hl: ∀x∈l,JO N (ka x))(l0:List (MM×Int))(hT:l0.length+l.length≤1024)(hb:t.shapes_.length+l.length≤1073741824)(h:Row t at_ l0):Sat (fJ N t at_ l) (Cg N t (l0++l.map ka) l.length):=by
 unfold fJ;refine aQ (by constructor<;>omega) (bh (fun h7=>by omega) fun h7=> ?_);exact Dl N t l hl _ (by rw [List.length_append,List.length_map];exact hT) hb N 0 at_ t l0 O O ti (Le.refl t) J h J
theorem BB (N:Nat)(hN:5000≤N){t:MU}(ti:TI N t)(n:Nat): ∀(m:Nat) (at_:Int) (l:List MZ) (l0:List (MM×Int)),l.length<m→l.length≤n→l0.length+l.length≤1024→t.shapes_.length+n≤1073741824→(∀x∈l,JO N (ka x))→Row t at_ l0→Sat (jn N t m at_ l) (Cg N t (l0++l.map ka) n)
 |0,_,_,_,h,_,_,_,_,_=>by omega
 | m +1,at_,l,l0,h,hn,h0,hb,hl,ha=>by
  rw [jn.eq_2]
  have h5:Sat (fJ N t at_ l) (Cg N t (l0++l.map ka) n):=(J0 N hN ti at_ l hl l0 h0 O ha).mono fun r hr=>⟨hr.1,⟨hr.2.1.ti,hr.2.1.le,by have:=hr.2.1.num;omega⟩,hr.2.2⟩
  refine bh (fun h7=> ?_) fun h7=>h5
  cases l with
  |nil=>rw [List.length_nil] at h7;omega
  | cons x l=>
   rw [show bR (x::l) 0=some x from rfl,bs,bs]
   cases e:lk t.next_ (⟨at_,x.Key,x.Attrs⟩:MN) with
   |none=>exact h5
   | some j=>
    show Sat (dq _ _) _;refine aQ ⟨by decide,by show 1≤l.length+1;omega,Nat.le_refl _⟩ ?_;obtain ⟨c,d,c1,c2,c3,c4,c5,c6⟩:=ti.nx _ _ e
    have e5:(((x::l).drop ((1:Int).toNat)).take ((x::l).length - (1:Int).toNat))=l:=by
     show (l.take (l.length+1 - 1))=l;exact List.take_of_length_le O
    rw [e5]
    have hd:0<d.Len:=by have:=(ti.sh _ _ c1).1;omega
    have hr:Row t j (l0++ [ka x]):=by
     have:=Row.snoc c2 hd (by rw [c4];exact ha)
     rwa [show ka d=ka x by unfold ka;rw [c5,c6]] at this
    rw [List.length_cons] at h hn h0;have:=BB N hN ti n m j l (l0++ [ka x]) O O (by rw [List.length_append,List.length_singleton];omega) hb (fun z hz=>hl z (List.mem_cons_of_mem _ hz)) hr
    rwa [Ni] at this
theorem CE (N:Nat)(hN:5000≤N){t:MU}(ti:TI N t)(at_:Int)(l:List MZ)(hl: ∀x∈l,JO N (ka x))(l0:List (MM×Int))(hT:l0.length+l.length≤1024)(hb:t.shapes_.length+1024≤1073741824)(ha:Row t at_ l0):Sat (iA N t at_ l) (Cg N t (l0++l.map ka) 1024):=
 BB N hN ti 1024 N at_ l l0 O O hT hb hl ha
theorem ye (N:Nat)(hN:5000≤N){t:MU}{i:Int}{s:MZ}(h:Has t i s)(k:MM)(a:Int):Sat (ft N t i k a) fun r=>(r=0∧keyR N k∧fV a)∨(r≠0∧ ¬(keyR N k∧fV a)):=by
 unfold ft;rw [h.has N,bs,nt,cf];obtain ⟨b,h1, -⟩:=kK N hN k;obtain ⟨c,h2,h3⟩:=JU N a;rw [h1,bs,h2]
 cases b with
 |false=>exact ab (.inr ⟨by decide,fun h=>by have:=h.1;unfold keyR at this;rw [h1] at this;cases this⟩)
 |true=>
  cases c with
  |false=>exact ab (.inr ⟨by decide,fun h=>by have:=HD N h.2;rw [h2] at this;cases this⟩)
  |true=>exact ab (.inl ⟨rfl,h1,h3 rfl⟩)
theorem Dh (N:Nat)(hN:5000≤N){t:MU}(ti:TI N t)(hb:t.shapes_.length+1024≤1073741824){i:Int}{l:List (MM×Int)}(h:Row t i l)(k:MM)(a:Int)(hk: ∀x∈l,x.1≠k)(hl:l.length<1024):Sat (jp N t i k a) fun r=>(keyR N k∧fV a∧Cg N t (l++ [(k,a)]) 1024 r)∨(¬(keyR N k∧fV a)∧r.2.1≠0∧r.2.2=t):=by
 obtain ⟨s,s1,s2⟩:=h.has ti;unfold jp
 refine (ye N hN s1 k a).bind fun y hy=> ?_
 rcases hy with ⟨rfl,h1,h2⟩|⟨h1,h2⟩
 ·show Sat (Option.bind _ _) _
  refine (sa N hN ti h k).bind fun z hz=> ?_
  rcases hz with ⟨rfl, -⟩|⟨n,z1,z2,z3⟩
  ·show Sat (Option.bind _ _) _;rw [zW N s1,bs]
   refine bh (fun _=>by omega) fun _=> ?_
   refine (CE N hN ti i [(⟨0,k,a,0⟩:MZ)] (fun x hx=>by rw [List.mem_singleton] at hx;subst hx;exact ⟨h1,h2⟩) l (by rw [List.length_singleton];omega) hb h).bind fun r hr=>ab (.inl ⟨h1,h2,hr⟩)
  exact absurd J (hk _ (List.mem_of_getElem? z3))
 rw [Ng h1,nf,ct];exact ab (.inr ⟨h2,h1,J⟩)
theorem zo (N:Nat)(hN:5000≤N){t:MU}(ti:TI N t)(hb:t.shapes_.length+1024≤1073741824){i:Int}{l:List (MM×Int)}(h:Row t i l)(hd:(l.map (·.1)).Nodup)(k:MM)(a:Int)(n:Nat)(a0:Int)(hn:l[n]? =some (k,a0)):Sat (iC N t i k a) fun r=>(fV a∧Cg N t (l.set n (k,a)) 1024 r)∨(¬fV a∧r.2.1≠0∧r.2.2=t):=by
 obtain ⟨s,s1,s2⟩:=h.has ti;have hle:=h.le ti;have hlt:=(List.getElem?_eq_some_iff.1 hn).1;unfold iC
 refine (ye N hN s1 k a).bind fun y hy=> ?_
 rcases hy with ⟨rfl,h1,h2⟩|⟨h1,h2⟩
 ·show Sat (Option.bind _ _) _
  refine (sa N hN ti h k).bind fun z hz=> ?_
  rcases hz with ⟨rfl,z1⟩|⟨n',z1,z2,z3⟩
  ·exact absurd J (z1 _ (List.mem_of_getElem? hn))
  have:n'=n:=by
   have g1:(l.map (·.1))[n']? =some k:=by rw [List.getElem?_map,z3];rfl
   have g2:(l.map (·.1))[n]? =some k:=by rw [List.getElem?_map,hn];rfl
   exact (List.getElem?_inj (by rw [List.length_map];exact (List.getElem?_eq_some_iff.1 z3).1) hd).1 (g1.trans g2.symm)
  subst this;rw [z2];show Sat (Option.bind _ _) _
  refine (zF N hN ti h).bind fun r hr=> ?_
  have e:r.length=l.length:=by rw [←hr,List.length_map]
  rw [z1,Int.toNat_natCast];refine aQ ⟨by omega,by omega⟩ ?_
  refine bO O (by rw [List.length_drop];omega) fun x hx=> ?_
  refine (zr N hN ti h n' O).bind fun b hbf=> ?_
  have hx2:ka x=(k,z.2.1):=by
   rw [show (0:Int).toNat=0 from rfl,List.getElem?_drop,Nat.add_zero] at hx
   have:(r.map ka)[n']? =some (ka x):=by rw [List.getElem?_map,hx];rfl
   rw [hr,z3] at this;exact (Option.some.inj this).symm
  have hxk:x.Key=k:=congrArg Prod.fst hx2
  have hm: ∀q∈List.set (List.drop n' r) ((0:Int).toNat) (⟨x.Up,(⟨x.Key.Kind,x.Key.N,x.Key.S⟩:MM),a,x.Len⟩:MZ),JO N (ka q):=fun q hq=>by
   rcases List.mem_or_eq_of_mem_set hq with hq|rfl
   ·exact h.ok ti _ (by rw [←hr];exact List.mem_map_of_mem (List.mem_of_mem_drop hq))
   exact ⟨by show keyR N x.Key;rw [hxk];exact h1,h2⟩
  have e6:(List.set (List.drop n' r) ((0:Int).toNat) (⟨x.Up,(⟨x.Key.Kind,x.Key.N,x.Key.S⟩:MM),a,x.Len⟩:MZ)).map ka=(l.drop n').set 0 (k,a):=by
   rw [show (0:Int).toNat=0 from rfl,List.map_set,List.map_drop,hr];show (l.drop n').set 0 (x.Key,a)=_;rw [hxk]
  refine (CE N hN ti b _ hm (l.take n') (by rw [List.length_set,List.length_drop,List.length_take];omega) hb hbf).bind fun q hq=>ab (.inl ⟨h2,?_⟩)
  rw [e6] at hq
  have e7:l.take n'++(l.drop n').set 0 (k,a)=l.set n' (k,a):=by
   rw [List.drop_eq_getElem_cons hlt,List.set_cons_zero,List.set_eq_take_append_cons_drop,if_pos hlt]
  rw [e7] at hq;exact hq
 rw [Ng h1,nf,ct];exact ab (.inr ⟨fun h3=>h2 ⟨(h.ok ti _ (List.mem_of_getElem? hn)).1,h3⟩,h1,J⟩)
theorem Ci (N:Nat)(hN:5000≤N){t:MU}(ti:TI N t)(hb:t.shapes_.length+1024≤1073741824){i:Int}{l:List (MM×Int)}(h:Row t i l)(hd:(l.map (·.1)).Nodup)(k:MM)(n:Nat)(a0:Int)(hn:l[n]? =some (k,a0)):Sat (fA N t i k) (Cg N t (l.eraseIdx n) 1024):=by
 obtain ⟨s,s1,s2⟩:=h.has ti;have hle:=h.le ti;have hlt:=(List.getElem?_eq_some_iff.1 hn).1;unfold fA
 refine (ye N hN s1 k 0).bind fun y hy=> ?_
 rcases hy with ⟨rfl,h1,h2⟩|⟨h1,h2⟩
 ·show Sat (Option.bind _ _) _
  refine (sa N hN ti h k).bind fun z hz=> ?_
  rcases hz with ⟨rfl,z1⟩|⟨n',z1,z2,z3⟩
  ·exact absurd J (z1 _ (List.mem_of_getElem? hn))
  have:n'=n:=by
   have g1:(l.map (·.1))[n']? =some k:=by rw [List.getElem?_map,z3];rfl
   have g2:(l.map (·.1))[n]? =some k:=by rw [List.getElem?_map,hn];rfl
   exact (List.getElem?_inj (by rw [List.length_map];exact (List.getElem?_eq_some_iff.1 z3).1) hd).1 (g1.trans g2.symm)
  subst this;rw [z2,z1];show Sat (Option.bind _ _) _
  refine (zr N hN ti h n' O).bind fun b hbf=> ?_
  refine (zF N hN ti h).bind fun r hr=> ?_
  have e:r.length=l.length:=by rw [←hr,List.length_map]
  have e8:((n':Int)+1).toNat=n'+1:=by omega
  refine aQ (by constructor<;>omega) (aQ ⟨by omega,by omega,Nat.le_refl _⟩ ?_);rw [e8];have e6:((r.drop (n'+1)).take (r.length - (n'+1)))=r.drop (n'+1):=List.take_of_length_le (by rw [List.length_drop];omega);rw [e6]
  refine (CE N hN ti b _ (fun q hq=>h.ok ti _ (by rw [←hr];exact List.mem_map_of_mem (List.mem_of_mem_drop hq))) (l.take n') (by rw [List.length_drop,List.length_take];omega) hb hbf).bind fun q hq=>ab ?_
  rw [List.map_drop,hr, ←List.eraseIdx_eq_take_drop_succ] at hq;exact hq
 exact absurd ⟨(h.ok ti _ (List.mem_of_getElem? hn)).1,by decide,by decide,by decide⟩ h2
end
section
variable {A1 A10 A12 A13 A14 A15 A2 A3 A4 A5 A6:Option Addr} {B1 B2 B7 B9 M11 M8 c1 c10 c12 c13 c14 c15 c2 c3 c4 c5 c6 n1 n10 n12 n13 n14 n15 n2 n3 n4 n5 n6:Nat}
open Go.RowKit
theorem Gu (N:Nat)(a b:Int):Sat (ln N a b) fun _=>True:=by
 unfold ln pc;rw [bs,bs,Nf rfl,Nf rfl];simp only [nt,cf]
 exact aP (fun _=>ab trivial) fun _=>aP (fun _=>ab trivial) fun _=>ab trivial
theorem tI (N:Nat)(a b:MM):Sat (ku N a b) fun _=>True:=by
 unfold ku
 refine bB (P:=fun _=>True) (fun _=>ab trivial) (fun _=>ab trivial) fun c _=> ?_
 exact aP (fun _=>(Gu N _ _).bind fun _ _=>ab trivial) fun _=>(Gu N _ _).bind fun _ _=>ab trivial
theorem nj {a b:Int}(h0:0≤a)(h1:a≤b)(h2:b≤100000):IntKind.i64.wrap ((IntKind.u64.wrap (a+b)).fdiv (2 ^ 1))=(a+b) / 2:=by
 rw [IntWalk.u64_in _ ⟨by omega,by omega⟩,Int.fdiv_eq_ediv_of_nonneg _ O,show (2:Int) ^ 1=2 from rfl,IntWalk.i64_in _ ⟨by omega,by omega⟩]
section
variable (N:Nat) (hN:20000≤N) (n:Nat) (hn:n≤6000)
include hN hn
section
variable (kb:List MM→Int→Int→Int→Option (List MM)) (a q b:Int) (h0:0≤a) (h1:a<q) (h2:q<b) (h3:b≤n)
variable (hk: ∀(l:List MM) (x y z:Int),a≤x→x<y→y<z→z≤b→z - x<b - a→l.length=n→Sat (kb l x y z) fun r=>r.length=n)
include h0 h1 h2 h3
end
end
end
end Go.Proofs.YtanojiedimeegaaGreatDoor